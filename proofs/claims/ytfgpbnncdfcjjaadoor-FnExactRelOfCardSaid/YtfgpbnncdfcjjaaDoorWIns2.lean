/-
  The walks of eqInstr, eqInstrS, eqInstrSS at equal data, markInstrS, markInstrSS; eqEvent, eqEventS, markEventS, heldEventS.
-/
import Derived.Test.YtfgpbnncdfcjjaaDoorWIns
import Derived.StillTailTactics
namespace Go.Proofs.YtfgpbnncdfcjjaaDoor
open Go.RowKit
set_option linter.unusedVariables false
set_option maxRecDepth 100000

set_option maxHeartbeats 400000 in
theorem eqIns_any (x : Ins) (w : World) : Calls Tryd.prog 76 #[.agg #[.int .i64 x.op, .int .i64 x.loc, .int .i64 x.reg, .int .i64 x.val], .agg #[.int .i64 x.op, .int .i64 x.loc, .int .i64 x.reg, .int .i64 x.val]] w (RetB w true) := by
  have hb2 : Below w.heap.size w ((w.alloc (.cells #[.int .i64 x.op, .int .i64 x.loc, .int .i64 x.reg, .int .i64 x.val] 89)).alloc (.cells #[.int .i64 x.op, .int .i64 x.loc, .int .i64 x.reg, .int .i64 x.val] 89)) := (((Below.refl _ _).alloc (Nat.le_refl _) _).alloc (by simp) _)
  have Hb2 := Lib.hid hb2
  clear hb2
  go_enter Tryd.func76, Tryd.ntmps76
  go_wp2_with fail
  go_ret
  exact ⟨rfl, Hb2.out⟩

set_option maxHeartbeats 1000000 in
theorem eqInsS_any (xs : List Ins) (w : World) (v u : Value) (hr : InsS w v xs) (hr' : InsS w u xs) : Calls Tryd.prog 40 #[v, u] w (RetB w true) := by
  obtain ⟨A, c, rfl, hm⟩ := hr.slice
  obtain ⟨A', c', rfl, hm'⟩ := hr'.slice
  go_enter Tryd.func40, Tryd.ntmps40
  go_wp2_with fail
  go_loopg [5] xs.length (fun g s5 wr => ∃ k : Nat, k ≤ xs.length ∧ g = xs.length - k ∧ s5 = .int .i64 k ∧ Below w.heap.size w wr)
  case atStart => exact ⟨0, Nat.zero_le _, rfl, rfl, Below.refl _ _⟩
  case round =>
    obtain ⟨k, hk, rfl, rfl, hb⟩ := hrel
    by_cases hlt : k < xs.length
    · obtain ⟨b, o, rfl, hbl, k0, k1, k2, k3⟩ := (InsS.le hr (Le.below hb)).get hlt
      obtain ⟨b', o', rfl, hbl', d0, d1, d2, d3⟩ := (InsS.le hr' (Le.below hb)).get hlt
      clear hr hr'
      go_wp2_with fail
      go_still_tail 8, (by kernel_rfl)
      go_wp2_with fail
      refine (eqIns_any xs[k] _).mono ?_
      rintro e' w' ⟨rfl, hb'⟩
      have hb'' := hb.drew.trans (hb'.mono hb.size)
      clear k0 k1 k2 k3 d0 d1 d2 d3 hbl hbl'
      go_wp2_with fail
      go_roundg (xs.length - (k + 1))
      case measure => omega
      case rel => exact ⟨k + 1, by omega, rfl, by go_num, hb''⟩
    · obtain rfl : k = xs.length := by omega
      go_wp2_with fail
      go_ret
      exact ⟨rfl, hb⟩

set_option maxHeartbeats 1000000 in
theorem eqInsSS_any (p : Prg) (w : World) (v u : Value) (hr : PrgS w v p) (hr' : PrgS w u p) : Calls Tryd.prog 15 #[v, u] w (RetB w true) := by
  obtain ⟨A, c, rfl, hm⟩ := hr.slice
  obtain ⟨A', c', rfl, hm'⟩ := hr'.slice
  go_enter Tryd.func15, Tryd.ntmps15
  go_wp2_with fail
  go_loopg [5] p.length (fun g s5 wr => ∃ k : Nat, k ≤ p.length ∧ g = p.length - k ∧ s5 = .int .i64 k ∧ Below w.heap.size w wr)
  case atStart => exact ⟨0, Nat.zero_le _, rfl, rfl, Below.refl _ _⟩
  case round =>
    obtain ⟨k, hk, rfl, rfl, hb⟩ := hrel
    by_cases hlt : k < p.length
    · obtain ⟨b, o, A1, c1, rfl, hbl, k0, _, hx⟩ := SlR.getSub (PrgS.le hr (Le.below hb)) hlt
      obtain ⟨b', o', A2, c2, rfl, hbl', d0, _, hy⟩ := SlR.getSub (PrgS.le hr' (Le.below hb)) hlt
      clear hr hr'
      go_wp2_with fail
      go_still_tail 8, (by kernel_rfl)
      go_wp2_with fail
      refine (eqInsS_any p[k] _ _ _ (InsS.le hx (Le.drew _)) (InsS.le hy (Le.drew _))).mono ?_
      rintro e' w' ⟨rfl, hb'⟩
      have hb'' := hb.drew.trans (hb'.mono hb.size)
      clear k0 d0 hbl hbl' hx hy
      go_wp2_with fail
      go_roundg (p.length - (k + 1))
      case measure => omega
      case rel => exact ⟨k + 1, by omega, rfl, by go_num, hb''⟩
    · obtain rfl : k = p.length := by omega
      go_wp2_with fail
      go_ret
      exact ⟨rfl, hb⟩

/-- The marked instruction. -/
def mkI (k : Nat) (_ : Ins) : Ins := ⟨k, (k : Int) + 1, (k : Int) + 1 + 1, (k : Int) + 1 + 1 + 1⟩
def RetMkI (w : World) (v : Value) (xs : List Ins) (F : List Nat) (k : Nat) (e : Ending) (w' : World) : Prop :=
  e = .returned (.int .i64 ((k + 4 * xs.length : Nat) : Int)) ∧ OwI w' v (mkG mkI (fun _ => 4) k xs) F ∧ MvO F w w'
theorem wSum4 {α : Type} (n : Nat) (xs : List α) : wSum (fun _ => n) xs = n * xs.length := by
  induction xs with
  | nil => simp [wSum]
  | cons x xs ih => rw [wSum, ih, List.length_cons, Nat.mul_add]; omega

set_option maxHeartbeats 1000000 in
theorem markInsS_any (xs : List Ins) (w : World) (v : Value) (F : List Nat) (k : Nat) (h : OwI w v xs F) (hnd : F.Nodup) (hk : k + 4 * xs.length < 10 ^ 18) : Calls Tryd.prog 42 #[v, .int .i64 k] w (RetMkI w v xs F k) := by
  obtain ⟨A, c, rfl, _, hlen⟩ := h.slice
  go_enter Tryd.func42, Tryd.ntmps42
  go_wp2_with fail
  go_loopg [1, 5] xs.length (fun g s1 s5 wr => ∃ i : Nat, i ≤ xs.length ∧ g = xs.length - i ∧ s5 = .int .i64 i ∧ s1 = .int .i64 ((k + 4 * i : Nat) : Int) ∧ OwI wr (.slice A xs.length c) (midG mkI (fun _ => 4) k xs i) F ∧ MvO F w wr)
  case atStart => exact ⟨0, Nat.zero_le _, rfl, rfl, rfl, by rw [midG_zero]; exact h, MvO.refl _ _⟩
  case round =>
    obtain ⟨i, hi, rfl, rfl, rfl, ho, m⟩ := hrel
    by_cases hlt : i < xs.length
    · have hml := midG_length mkI (fun _ => 4) k xs i hi
      obtain ⟨g, N, G, Fi, rfl, hn', hgl, hgF, hsub, hndi, hgi, hrow, hN, ⟨⟨q0, q1, q2, q3⟩, rfl⟩, hback⟩ := ho.elem pins_loc hnd (i := i) (by omega)
      obtain ⟨⟨c0, c1, c2, c3⟩, z0, z1, z2, z3⟩ := cells4 hrow (k := i) (by omega)
      have hset := midG_set mkI (fun _ => 4) k xs i hlt
      rw [wSum4, List.length_take, show min i xs.length = i by omega] at hset
      obtain ⟨q, hq⟩ : ∃ q : Nat, q = k + 4 * i := ⟨_, rfl⟩
      rw [← hq] at hset ⊢
      have hq1 : q + 4 < 10 ^ 18 := by omega
      have hnx : q + 4 = k + 4 * (i + 1) := by omega
      have hW := row_set4 hrow i (.int .i64 q) (.int .i64 ((q : Int) + 1)) (.int .i64 ((q : Int) + 1 + 1)) (.int .i64 ((q : Int) + 1 + 1 + 1))
      have hres := hback _ _ (mkI q xs[i]) hW (fun t j ht hj => up4_other _ _ _ _ _ ht hj) (fun b hb hne _ => (Below.heap_setCell _ _ _ _ hne).trans ((Below.heap_setCell _ _ _ _ hne).trans ((Below.heap_setCell _ _ _ _ hne).trans (Below.heap_setCell _ _ _ _ hne)))) ⟨up4_self _ _ _ _ _ _, rfl⟩
      rw [hset] at hres
      have Hres := Lib.hid hres
      have hm4 := (((m.set (p := ⟨g, i * 4, none⟩) hgF (.int .i64 q)).set (p := ⟨g, i * 4 + 1, none⟩) hgF (.int .i64 ((q : Int) + 1))).set (p := ⟨g, i * 4 + 2, none⟩) hgF (.int .i64 ((q : Int) + 1 + 1))).set (p := ⟨g, i * 4 + 3, none⟩) hgF (.int .i64 ((q : Int) + 1 + 1 + 1))
      have Hm4 := Lib.hid hm4
      have Nx := Lib.hid hnx
      clear hback hset hnx hn' hml hq ho h hrow hres hm4 hW q0 q1 q2 q3
      go_wp2_with fail
      go_roundg (xs.length - (i + 1))
      case measure => omega
      case rel => exact ⟨i + 1, by omega, rfl, by go_num, congrArg (Value.int .i64) (by have := Nx.out; omega), Hres.out, Hm4.out⟩
    · obtain rfl : i = xs.length := by omega
      go_wp2_with fail
      go_ret
      rw [midG_all] at ho
      exact ⟨rfl, ho, m⟩

def mkIs (k : Nat) (xs : List Ins) : List Ins := mkG mkI (fun _ => 4) k xs
theorem mkIs_length (k : Nat) (xs : List Ins) : (mkIs k xs).length = xs.length := mkG_length _ _ _ _
def wtIs (xs : List Ins) : Nat := 4 * xs.length
def RetMkPr (w : World) (v : Value) (p : Prg) (F : List Nat) (k : Nat) (e : Ending) (w' : World) : Prop :=
  e = .returned (.int .i64 ((k + wSum wtIs p : Nat) : Int)) ∧ OwPr w' v (mkG mkIs wtIs k p) F ∧ MvO F w w'

set_option maxHeartbeats 1000000 in
theorem markInsSS_any (p : Prg) (w : World) (v : Value) (F : List Nat) (k : Nat) (h : OwPr w v p F) (hnd : F.Nodup) (hk : k + wSum wtIs p < 10 ^ 18) : Calls Tryd.prog 17 #[v, .int .i64 k] w (RetMkPr w v p F k) := by
  obtain ⟨A, c, rfl, _, hlen⟩ := h.slice
  go_enter Tryd.func17, Tryd.ntmps17
  go_wp2_with fail
  go_loopg [1, 5] p.length (fun g s1 s5 wr => ∃ i : Nat, i ≤ p.length ∧ g = p.length - i ∧ s5 = .int .i64 i ∧ s1 = .int .i64 ((k + wSum wtIs (p.take i) : Nat) : Int) ∧ OwPr wr (.slice A p.length c) (midG mkIs wtIs k p i) F ∧ MvO F w wr)
  case atStart => exact ⟨0, Nat.zero_le _, rfl, rfl, by simp [wSum], by rw [midG_zero]; exact h, MvO.refl _ _⟩
  case round =>
    obtain ⟨i, hi, rfl, rfl, rfl, ho, m⟩ := hrel
    by_cases hlt : i < p.length
    · have hml := midG_length mkIs wtIs k p i hi
      obtain ⟨g, N, G, Fi, rfl, hn', hgl, hgF, hsub, hndi, hgi, hrow, hN, hPi, hback⟩ := ho.elem pinsS_loc hnd (i := i) (by omega)
      rw [midG_get mkIs wtIs k p i hlt] at hPi
      have hPi' : OwI wr (G (i * 1 + 0)) p[i] Fi := hPi
      rw [Nat.mul_one, Nat.add_zero] at hPi'
      obtain ⟨A1, c1, hv, _⟩ := hPi'.slice
      rw [hv] at hPi'
      have c0 := hrow.cell (i := i) (by omega)
      rw [hv] at c0
      have hset := midG_set mkIs wtIs k p i hlt
      have hct := wSum_take_succ wtIs p i hlt
      have hcl := wSum_take_le wtIs p (i + 1)
      have hwt : wtIs p[i] = 4 * p[i].length := rfl
      obtain ⟨q, hq⟩ : ∃ q : Nat, q = k + wSum wtIs (p.take i) := ⟨_, rfl⟩
      rw [← hq] at hset ⊢
      have hcall := markInsS_any p[i] wr _ Fi q hPi' hndi (by omega)
      have hnx : q + 4 * p[i].length = k + wSum wtIs (p.take (i + 1)) := by omega
      have Nx := Lib.hid hnx
      have Back := Lib.hid hback
      have Set := Lib.hid hset
      have Hrow := Lib.hid hrow
      have Hv := Lib.hid hv
      have Flt := Lib.hid (ho.lt pinsS_loc)
      clear hback hset hnx hn' hml hct hcl hq ho h hPi hPi' hrow hv hwt
      go_wp2_with fail
      refine hcall.mono ?_
      rintro e2 w2 ⟨rfl, ho2, m2⟩
      have hr2 := Hrow.out.of_block (m2.block g hgl hgi)
      have hres := Back.out w2 G (mkIs q p[i]) hr2 (fun t j _ _ => rfl) (fun b hb hne hni => m2.block b (Flt.out b hb) hni) (by show OwI w2 (G (i * 1 + 0)) _ Fi; rw [Nat.mul_one, Nat.add_zero, Hv.out]; exact ho2)
      rw [Set.out] at hres
      have Hres := Lib.hid hres
      have hm := m.trans (m2.mono hsub)
      clear hcall m2 ho2 hres hr2 m c0
      go_wp2_with fail
      go_roundg (p.length - (i + 1))
      case measure => omega
      case rel => exact ⟨i + 1, by omega, rfl, by go_num, congrArg (Value.int .i64) (by have := Nx.out; omega), Hres.out, hm⟩
    · obtain rfl : i = p.length := by omega
      go_wp2_with fail
      go_ret
      rw [midG_all] at ho
      rw [List.take_length]
      exact ⟨rfl, ho, m⟩

end Go.Proofs.YtfgpbnncdfcjjaaDoor
