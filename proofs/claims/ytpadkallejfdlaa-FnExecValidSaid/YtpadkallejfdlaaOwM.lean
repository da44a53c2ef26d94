/-
  A candidate of one's own. No walk. Candidates: the walks of eqExecS at equal data, markIntS, markIntSS, markExecS, heldIntS, heldIntSS, heldExecS.
-/
import Derived.Test.YtpadkallejfdlaaRwS
import Derived.Test.YtpadkallejfdlaaImEv

/-! A candidate of one's own. No walk. -/
namespace Go.Proofs.Ytpadkallejfdlaa
open Go.RowKit
set_option linter.unusedVariables false
set_option maxRecDepth 100000

/-- Ints of one's own; slices of them. -/
abbrev OwI1 (w : World) (v : Value) (xs : List Int) (F : List Nat) : Prop := OwRow 1 3 (flat QInt) w v xs F
def PI1 : OwP (List Int) := sub 1 3 (flat QInt)
theorem pi1_loc : OwLoc 1 PI1 := sub_loc (flat_loc qint_congr)
abbrev OwI2 (w : World) (v : Value) (xs : List (List Int)) (F : List Nat) : Prop := OwRow 1 44 PI1 w v xs F
def PX : OwP Ex := fun w cs x F => ∃ F1 F2, OwI1 w (cs 0) x.from_ F1 ∧ OwI2 w (cs 1) x.order F2 ∧ F = F1 ++ F2
theorem px_loc : OwLoc 2 PX :=
  ⟨fun {w w' cs x F} ⟨F1, F2, h1, h2, e⟩ hb => ⟨F1, F2, h1.move (flat_loc qint_congr) fun b hm => hb b (by rw [e]; exact List.mem_append_left _ hm), h2.move pi1_loc fun b hm => hb b (by rw [e]; exact List.mem_append_right _ hm), e⟩,
   fun {w cs x F} ⟨F1, F2, h1, h2, e⟩ b hb => by
    rw [e] at hb
    rcases List.mem_append.1 hb with hb | hb
    · exact h1.lt (flat_loc qint_congr) b hb
    · exact h2.lt pi1_loc b hb,
   fun {w cs cs' x F} hc ⟨F1, F2, h1, h2, e⟩ => ⟨F1, F2, by rw [← hc 0 (by omega)]; exact h1, by rw [← hc 1 (by omega)]; exact h2, e⟩⟩
theorem OwI1.ints {w : World} {B : Nat} {v : Value} {xs : List Int} {F : List Nat} (h : OwI1 w v xs F) (hF : ∀ b ∈ F, B ≤ b) : SlR 1 RInt (above B w) v xs := h.slR (fun cs x F' _ h => h.1) hF
theorem OwI2.intss {w : World} {B : Nat} {v : Value} {xs : List (List Int)} {F : List Nat} (h : OwI2 w v xs F) (hF : ∀ b ∈ F, B ≤ b) : SlR 1 RInts (above B w) v xs :=
  h.slR (fun cs x F' hF' h => by
    have h' := OwI1.ints h hF'
    obtain ⟨A, c, e, _⟩ := h'.slice
    exact ⟨A, c, e, by unfold Ints; rw [← e]; exact h'⟩) hF
theorem PX.rx {w : World} {B : Nat} {cs : Nat → Value} {x : Ex} {F : List Nat} (h : PX w cs x F) (hF : ∀ b ∈ F, B ≤ b) : RX (above B w) cs x := by
  obtain ⟨F1, F2, h1, h2, rfl⟩ := h
  have k1 := OwI1.ints h1 fun b hb => hF b (List.mem_append_left _ hb)
  have k2 := OwI2.intss h2 fun b hb => hF b (List.mem_append_right _ hb)
  obtain ⟨A, c, e1, _⟩ := k1.slice
  obtain ⟨A', c', e2, _⟩ := k2.slice
  exact ⟨A, c, A', c', e1, e2, by unfold Ints; rw [← e1]; exact k1, by unfold Intss; rw [← e2]; exact k2⟩
/-- Candidates of one's own. -/
abbrev OwXs (w : World) (v : Value) (xs : List Ex) (F : List Nat) : Prop := OwRow 2 50 PX w v xs F
theorem OwXs.exS {w : World} {B : Nat} {v : Value} {xs : List Ex} {F : List Nat} (h : OwXs w v xs F) (hF : ∀ b ∈ F, B ≤ b) : ExS (above B w) v xs := h.slR (fun cs x F' hF' h => h.rx hF') hF
theorem OwXs.exS0 {w : World} {v : Value} {xs : List Ex} {F : List Nat} (h : OwXs w v xs F) : ExS w v xs := (h.exS (B := 0) fun _ _ => Nat.zero_le _).le (Le.above _ _)

end Go.Proofs.Ytpadkallejfdlaa

/-! Candidates: the walks of eqExecS at equal data, markIntS, markIntSS, markExecS, heldIntS, heldIntSS, heldExecS. -/
namespace Go.Proofs.Ytpadkallejfdlaa
open Go.RowKit
set_option linter.unusedVariables false
set_option maxRecDepth 100000

set_option maxHeartbeats 1000000 in
theorem eqXS_any (xs : List Ex) (w : World) (v u : Value) (hr : ExS w v xs) (hr' : ExS w u xs) : Calls Try.prog 23 #[v, u] w (RetB w true) := by
  obtain ⟨A, c, rfl, hm⟩ := hr.slice
  obtain ⟨A', c', rfl, hm'⟩ := hr'.slice
  go_enter Try.func23, Try.ntmps23
  go_wp2_with fail
  go_loopg [5] xs.length (fun g s5 wr => ∃ k : Nat, k ≤ xs.length ∧ g = xs.length - k ∧ s5 = .int .i64 k ∧ Below w.heap.size w wr)
  case atStart => exact ⟨0, Nat.zero_le _, rfl, rfl, Below.refl _ _⟩
  case round =>
    obtain ⟨k, hk, rfl, rfl, hb⟩ := hrel
    by_cases hlt : k < xs.length
    · obtain ⟨b, o, A1, c1, B1, d1, rfl, hbl, k0, k1, hx⟩ := (ExS.le hr (Le.below hb)).get hlt
      obtain ⟨b', o', A2, c2, B2, d2, rfl, hbl', d0, d1', hy⟩ := (ExS.le hr' (Le.below hb)).get hlt
      have he : eqB xs[k] xs[k] = true := eqB_self _
      have hcall := fun W hl => eqX_any xs[k] xs[k] W A1 B1 A2 B2 c1 d1 c2 d2 (hx.le (w' := W) hl) (hy.le hl)
      rw [he] at hcall
      have Hcall := Lib.hid hcall
      clear hr hr' he hcall hx hy
      go_wp2_with fail
      go_still_tail 8, (by kernel_rfl)
      go_wp2_with fail
      refine (Hcall.out _ (Le.drew _)).mono ?_
      rintro e' w' ⟨rfl, hb'⟩
      have hb'' := hb.drew.trans (hb'.mono hb.size)
      clear k0 k1 d0 d1' hbl hbl' Hcall
      go_wp2_with fail
      go_roundg (xs.length - (k + 1))
      case measure => omega
      case rel => exact ⟨k + 1, by omega, rfl, by go_num, hb''⟩
    · obtain rfl : k = xs.length := by omega
      go_wp2_with fail
      go_ret
      exact ⟨rfl, hb⟩

/-- Marked ints, slices of them, candidates. -/
def mkN (k : Nat) (_ : Int) : Int := k
def mkNs (k : Nat) (xs : List Int) : List Int := mkG mkN (fun _ => 1) k xs
theorem mkNs_length (k : Nat) (xs : List Int) : (mkNs k xs).length = xs.length := mkG_length _ _ _ _
def mkNss (k : Nat) (xss : List (List Int)) : List (List Int) := mkG mkNs List.length k xss
theorem mkNss_length (k : Nat) (xss : List (List Int)) : (mkNss k xss).length = xss.length := mkG_length _ _ _ _
def mkX (k : Nat) (x : Ex) : Ex := ⟨mkNs k x.from_, mkNss (k + x.from_.length) x.order⟩
def wtX (x : Ex) : Nat := x.from_.length + wSum List.length x.order

set_option maxHeartbeats 1000000 in
theorem markInts_any (xs : List Int) (w : World) (v : Value) (F : List Nat) (k : Nat) (h : OwI1 w v xs F) (hnd : F.Nodup) (hk : k + xs.length < 10 ^ 18) :
    Calls Try.prog 49 #[v, .int .i64 k] w (fun e w' => e = .returned (.int .i64 ((k + xs.length : Nat) : Int)) ∧ OwI1 w' v (mkNs k xs) F ∧ MvO F w w') := by
  obtain ⟨A, c, rfl, _, hlen⟩ := h.slice
  go_enter Try.func49, Try.ntmps49
  go_wp2_with fail
  go_loopg [1, 5] xs.length (fun g s1 s5 wr => ∃ i : Nat, i ≤ xs.length ∧ g = xs.length - i ∧ s5 = .int .i64 i ∧ s1 = .int .i64 ((k + i : Nat) : Int) ∧ OwI1 wr (.slice A xs.length c) (midG mkN (fun _ => 1) k xs i) F ∧ MvO F w wr)
  case atStart => exact ⟨0, Nat.zero_le _, rfl, rfl, rfl, by rw [midG_zero]; exact h, MvO.refl _ _⟩
  case round =>
    obtain ⟨i, hi, rfl, rfl, rfl, ho, m⟩ := hrel
    by_cases hlt : i < xs.length
    · have hml := midG_length mkN (fun _ => 1) k xs i hi
      obtain ⟨g, N, G, Fi, rfl, hn', hgl, hgF, hsub, hndi, hgi, hrow, hN, ⟨q0, rfl⟩, hback⟩ := OwRow.elem ho (flat_loc qint_congr) hnd (i := i) (by omega)
      have c0 := hrow.cell (i := i) (by omega)
      have z0 := hrow.frozen i
      have hset := midG_set mkN (fun _ => 1) k xs i hlt
      rw [wSum4, List.length_take, show min i xs.length = i by omega, Nat.one_mul] at hset
      obtain ⟨q, hq⟩ : ∃ q : Nat, q = k + i := ⟨_, rfl⟩
      rw [← hq] at hset ⊢
      have hq1 : q + 1 < 10 ^ 18 := by omega
      have hnx : q + 1 = k + (i + 1) := by omega
      have hW := hrow.set i (.int .i64 q)
      have hres := hback _ _ (mkN q xs[i]) hW (fun t j ht hj => by
        obtain rfl : j = 0 := by omega
        simp only [Nat.mul_one, Nat.add_zero]
        exact if_neg ht) (fun b hb hne _ => Below.heap_setCell _ _ _ _ hne) ⟨if_pos (by omega), rfl⟩
      rw [hset] at hres
      have Hres := Lib.hid hres
      have hm4 := m.set (p := ⟨g, i, none⟩) hgF (.int .i64 q)
      have Hm4 := Lib.hid hm4
      have Nx := Lib.hid hnx
      clear hback hset hnx hn' hml hq ho h hrow hres hm4 hW q0
      go_wp2_with fail
      go_roundg (xs.length - (i + 1))
      case measure => omega
      case rel => exact ⟨i + 1, by omega, rfl, by go_num, congrArg (Value.int .i64) (by have := Nx.out; omega), Hres.out, Hm4.out⟩
    · obtain rfl : i = xs.length := by omega
      go_wp2_with fail
      go_ret
      rw [midG_all] at ho
      exact ⟨rfl, ho, m⟩

set_option maxHeartbeats 1000000 in
theorem markIntss_any (p : List (List Int)) (w : World) (v : Value) (F : List Nat) (k : Nat) (h : OwI2 w v p F) (hnd : F.Nodup) (hk : k + wSum List.length p < 10 ^ 18) :
    Calls Try.prog 50 #[v, .int .i64 k] w (fun e w' => e = .returned (.int .i64 ((k + wSum List.length p : Nat) : Int)) ∧ OwI2 w' v (mkNss k p) F ∧ MvO F w w') := by
  obtain ⟨A, c, rfl, _, hlen⟩ := h.slice
  go_enter Try.func50, Try.ntmps50
  go_wp2_with fail
  go_loopg [1, 5] p.length (fun g s1 s5 wr => ∃ i : Nat, i ≤ p.length ∧ g = p.length - i ∧ s5 = .int .i64 i ∧ s1 = .int .i64 ((k + wSum List.length (p.take i) : Nat) : Int) ∧ OwI2 wr (.slice A p.length c) (midG mkNs List.length k p i) F ∧ MvO F w wr)
  case atStart => exact ⟨0, Nat.zero_le _, rfl, rfl, by simp [wSum], by rw [midG_zero]; exact h, MvO.refl _ _⟩
  case round =>
    obtain ⟨i, hi, rfl, rfl, rfl, ho, m⟩ := hrel
    by_cases hlt : i < p.length
    · have hml := midG_length mkNs List.length k p i hi
      obtain ⟨g, N, G, Fi, rfl, hn', hgl, hgF, hsub, hndi, hgi, hrow, hN, hPi, hback⟩ := OwRow.elem ho pi1_loc hnd (i := i) (by omega)
      rw [midG_get mkNs List.length k p i hlt] at hPi
      have hPi' : OwI1 wr (G (i * 1 + 0)) p[i] Fi := hPi
      rw [Nat.mul_one, Nat.add_zero] at hPi'
      obtain ⟨A1, c1, hv, _⟩ := hPi'.slice
      rw [hv] at hPi'
      have c0 := hrow.cell (i := i) (by omega)
      rw [hv] at c0
      have hset := midG_set mkNs List.length k p i hlt
      have hct := wSum_take_succ List.length p i hlt
      have hcl := wSum_take_le List.length p (i + 1)
      obtain ⟨q, hq⟩ : ∃ q : Nat, q = k + wSum List.length (p.take i) := ⟨_, rfl⟩
      rw [← hq] at hset ⊢
      have hcall := markInts_any p[i] wr _ Fi q hPi' hndi (by omega)
      have hnx : q + p[i].length = k + wSum List.length (p.take (i + 1)) := by omega
      have Nx := Lib.hid hnx
      have Back := Lib.hid hback
      have Set := Lib.hid hset
      have Hrow := Lib.hid hrow
      have Hv := Lib.hid hv
      have Flt := Lib.hid (OwRow.lt pi1_loc ho)
      clear hback hset hnx hn' hml hct hcl hq ho h hPi hPi' hrow hv
      go_wp2_with fail
      refine hcall.mono ?_
      rintro e2 w2 ⟨rfl, ho2, m2⟩
      have hr2 := Hrow.out.of_block (m2.block g hgl hgi)
      have hres := Back.out w2 G (mkNs q p[i]) hr2 (fun t j _ _ => rfl) (fun b hb hne hni => m2.block b (Flt.out b hb) hni) (by show OwI1 w2 (G (i * 1 + 0)) _ Fi; rw [Nat.mul_one, Nat.add_zero, Hv.out]; exact ho2)
      rw [Set.out] at hres
      have Hres := Lib.hid hres
      have hm := m.trans (m2.mono hsub)
      clear hcall m2 ho2 hres hr2 m c0
      go_wp2_with fail
      go_roundg (p.length - (i + 1))
      case measure => omega
      case rel => exact ⟨i + 1, by omega, rfl, by go_num, congrArg (Value.int .i64) (by have := Nx.out; omega), Hres.out, hm⟩
    · obtain rfl : i = p.length := by omega
      go_wp2_with fail
      go_ret
      rw [midG_all] at ho
      rw [List.take_length]
      exact ⟨rfl, ho, m⟩

set_option maxHeartbeats 2000000 in
theorem markXS_any (xs : List Ex) (w : World) (v : Value) (F : List Nat) (k : Nat) (h : OwXs w v xs F) (hnd : F.Nodup) (hk : k + wSum wtX xs < 10 ^ 18) :
    Calls Try.prog 24 #[v, .int .i64 k] w (fun e w' => e = .returned (.int .i64 ((k + wSum wtX xs : Nat) : Int)) ∧ OwXs w' v (mkG mkX wtX k xs) F ∧ MvO F w w') := by
  obtain ⟨A, c, rfl, _, hlen⟩ := h.slice
  go_enter Try.func24, Try.ntmps24
  go_wp2_with fail
  go_loopg [1, 5] xs.length (fun g s1 s5 wr => ∃ i : Nat, i ≤ xs.length ∧ g = xs.length - i ∧ s5 = .int .i64 i ∧ s1 = .int .i64 ((k + wSum wtX (xs.take i) : Nat) : Int) ∧ OwXs wr (.slice A xs.length c) (midG mkX wtX k xs i) F ∧ MvO F w wr)
  case atStart => exact ⟨0, Nat.zero_le _, rfl, rfl, by simp [wSum], by rw [midG_zero]; exact h, MvO.refl _ _⟩
  case round =>
    obtain ⟨i, hi, rfl, rfl, rfl, ho, m⟩ := hrel
    by_cases hlt : i < xs.length
    · have hml := midG_length mkX wtX k xs i hi
      obtain ⟨g, N, G, Fi, rfl, hn', hgl, hgF, hsub, hndi, hgi, hrow, hN, hPi, hback⟩ := OwRow.elem ho px_loc hnd (i := i) (by omega)
      rw [midG_get mkX wtX k xs i hlt] at hPi
      obtain ⟨F1, F2, hf0, hoo0, rfl⟩ := hPi
      have hf : OwI1 wr (G (i * 2)) xs[i].from_ F1 := hf0
      have hoo : OwI2 wr (G (i * 2 + 1)) xs[i].order F2 := hoo0
      clear hf0 hoo0
      obtain ⟨A1, c1, hv, _⟩ := hf.slice
      rw [hv] at hf
      obtain ⟨A2, c2, hv2, _⟩ := hoo.slice
      rw [hv2] at hoo
      have c0 := hrow.cell (i := i * 2) (by omega)
      rw [hv] at c0
      have c1' := hrow.cell (i := i * 2 + 1) (by omega)
      rw [hv2] at c1'
      have hset := midG_set mkX wtX k xs i hlt
      have hct := wSum_take_succ wtX xs i hlt
      have hcl := wSum_take_le wtX xs (i + 1)
      have hwt : wtX xs[i] = xs[i].from_.length + wSum List.length xs[i].order := rfl
      obtain ⟨q, hq⟩ : ∃ q : Nat, q = k + wSum wtX (xs.take i) := ⟨_, rfl⟩
      rw [← hq] at hset ⊢
      rw [List.nodup_append] at hndi
      obtain ⟨hn1, hn2, hn12⟩ := hndi
      have hcall := markInts_any xs[i].from_ wr _ F1 q hf hn1 (by omega)
      have hg1 : g ∉ F1 := fun hm => hgi (List.mem_append_left _ hm)
      have hg2 : g ∉ F2 := fun hm => hgi (List.mem_append_right _ hm)
      have hnx : q + xs[i].from_.length + wSum List.length xs[i].order = k + wSum wtX (xs.take (i + 1)) := by omega
      have hq2 : q + xs[i].from_.length + wSum List.length xs[i].order < 10 ^ 18 := by omega
      have Nx := Lib.hid hnx
      have Back := Lib.hid hback
      have Set := Lib.hid hset
      have Hrow := Lib.hid hrow
      have Hv := Lib.hid hv
      have Hv2 := Lib.hid hv2
      have Hoo := Lib.hid hoo
      have Hlt2 := Lib.hid (OwRow.lt pi1_loc hoo)
      have Flt := Lib.hid (OwRow.lt px_loc ho)
      have Hn12 := Lib.hid hn12
      clear hback hset hnx hn' hml hct hcl hq ho h hf hoo hrow hv hv2 hwt hn12
      go_wp2_with fail
      refine hcall.mono ?_
      rintro e2 w2 ⟨rfl, ho2, m2⟩
      have hr2 := Hrow.out.of_block (m2.block g hgl hg1)
      have c2' := m2.cell c1' hg1
      have hoo2 : OwI2 w2 (.slice A2 xs[i].order.length c2) xs[i].order F2 := OwRow.move pi1_loc Hoo.out fun b hm => m2.block b (Hlt2.out b hm) fun h1 => Hn12.out b h1 b hm rfl
      have hcall2 := markIntss_any xs[i].order w2 _ F2 (q + xs[i].from_.length) hoo2 hn2 (by omega)
      have hgl2 : g < w2.heap.size := by have := m2.size; omega
      have Hr2 := Lib.hid hr2
      have hlt1 := OwRow.lt (flat_loc qint_congr) ho2
      have Hlt1 := Lib.hid hlt1
      clear hcall c0 c1' hoo2 hr2 hlt1
      go_wp2_with fail
      refine hcall2.mono ?_
      rintro e3 w3 ⟨rfl, ho3, m3⟩
      have hr3 := Hr2.out.of_block (m3.block g hgl2 hg2)
      have ho23 : OwI1 w3 (.slice A1 xs[i].from_.length c1) (mkNs q xs[i].from_) F1 := OwRow.move (flat_loc qint_congr) ho2 fun b hm => m3.block b (Hlt1.out b hm) fun h2 => Hn12.out b hm b h2 rfl
      have hres := Back.out w3 G (mkX q xs[i]) hr3 (fun t j _ _ => rfl) (fun b hb hne hni => by
          rw [m3.block b (by have := Flt.out b hb; have := m2.size; omega) (fun hm => hni (List.mem_append_right _ hm)), m2.block b (Flt.out b hb) (fun hm => hni (List.mem_append_left _ hm))])
        ⟨F1, F2, by show OwI1 w3 (G (i * 2)) _ F1; rw [Hv.out]; exact ho23, by show OwI2 w3 (G (i * 2 + 1)) _ F2; rw [Hv2.out]; exact ho3, rfl⟩
      rw [Set.out] at hres
      have Hres := Lib.hid hres
      have hm := (m.trans (m2.mono fun x hx => hsub x (List.mem_append_left _ hx))).trans (m3.mono fun x hx => hsub x (List.mem_append_right _ hx))
      clear hcall2 m2 m3 ho2 ho3 hres hr3 m c2' ho23
      go_wp2_with fail
      go_roundg (xs.length - (i + 1))
      case measure => omega
      case rel => exact ⟨i + 1, by omega, rfl, by go_num, congrArg (Value.int .i64) (by have := Nx.out; omega), Hres.out, hm⟩
    · obtain rfl : i = xs.length := by omega
      go_wp2_with fail
      go_ret
      rw [midG_all] at ho
      rw [List.take_length]
      exact ⟨rfl, ho, m⟩

set_option maxHeartbeats 1000000 in
theorem heldInts_any (xs : List Int) (w : World) (A : Option Addr) (c : Nat) (k : Nat) (h : Ints w A c (mkNs k xs)) (hk : k + xs.length < 10 ^ 18) :
    Calls Try.prog 51 #[.slice A xs.length c, .int .i64 k] w (RetHd w (k + xs.length)) := by
  have hlen := h.len
  rw [mkNs_length] at hlen
  go_enter Try.func51, Try.ntmps51
  go_wp2_with fail
  go_loopg [1, 5] xs.length (fun g s1 s5 wr => ∃ i : Nat, i ≤ xs.length ∧ g = xs.length - i ∧ s5 = .int .i64 i ∧ s1 = .int .i64 ((k + i : Nat) : Int) ∧ Below w.heap.size w wr)
  case atStart => exact ⟨0, Nat.zero_le _, rfl, rfl, rfl, Below.refl _ _⟩
  case round =>
    obtain ⟨i, hi, rfl, rfl, rfl, hb⟩ := hrel
    by_cases hlt : i < xs.length
    · obtain ⟨b, o, rfl, hbl, k0⟩ := (h.le (Le.below hb)).get (i := i) (by rw [mkNs_length]; exact hlt)
      simp only [mkNs, mkG_get mkN (fun _ => 1) xs k i hlt, wSum4, List.length_take, show min i xs.length = i by omega, Nat.one_mul] at k0
      obtain ⟨q, hq⟩ : ∃ q : Nat, q = k + i := ⟨_, rfl⟩
      rw [← hq] at k0 ⊢
      simp only [mkN] at k0
      have hq1 : q + 1 < 10 ^ 18 := by omega
      have hnx : q + 1 = k + (i + 1) := by omega
      have Nx := Lib.hid hnx
      clear hnx hq h
      go_wp2_with fail
      go_roundg (xs.length - (i + 1))
      case measure => omega
      case rel => exact ⟨i + 1, by omega, rfl, by go_num, congrArg (Value.int .i64) (by have := Nx.out; omega), hb⟩
    · obtain rfl : i = xs.length := by omega
      go_wp2_with fail
      go_ret
      exact ⟨rfl, hb⟩

set_option maxHeartbeats 1000000 in
theorem heldIntss_any (p : List (List Int)) (w : World) (A : Option Addr) (c : Nat) (k : Nat) (h : Intss w A c (mkNss k p)) (hk : k + wSum List.length p < 10 ^ 18) :
    Calls Try.prog 52 #[.slice A p.length c, .int .i64 k] w (RetHd w (k + wSum List.length p)) := by
  have hlen := h.len
  rw [mkNss_length] at hlen
  go_enter Try.func52, Try.ntmps52
  go_wp2_with fail
  go_loopg [1, 5] p.length (fun g s1 s5 wr => ∃ i : Nat, i ≤ p.length ∧ g = p.length - i ∧ s5 = .int .i64 i ∧ s1 = .int .i64 ((k + wSum List.length (p.take i) : Nat) : Int) ∧ Below w.heap.size w wr)
  case atStart => exact ⟨0, Nat.zero_le _, rfl, rfl, by simp [wSum], Below.refl _ _⟩
  case round =>
    obtain ⟨i, hi, rfl, rfl, rfl, hb⟩ := hrel
    by_cases hlt : i < p.length
    · obtain ⟨b, o, A1, c1, rfl, hbl, k0, hx⟩ := (h.le (Le.below hb)).get (i := i) (by rw [mkNss_length]; exact hlt)
      simp only [mkNss, mkG_get mkNs List.length p k i hlt] at k0 hx
      rw [mkNs_length] at k0
      have hct := wSum_take_succ List.length p i hlt
      have hcl := wSum_take_le List.length p (i + 1)
      obtain ⟨q, hq⟩ : ∃ q : Nat, q = k + wSum List.length (p.take i) := ⟨_, rfl⟩
      rw [← hq] at hx ⊢
      have hcall := heldInts_any p[i] wr A1 c1 q hx (by omega)
      have hq0 : ¬ ((q : Int) + (p[i].length : Int) < 0) := by omega
      have hnx : q + p[i].length = k + wSum List.length (p.take (i + 1)) := by omega
      have Nx := Lib.hid hnx
      obtain ⟨q', hq'⟩ : ∃ q' : Nat, q' = q + p[i].length := ⟨_, rfl⟩
      rw [← hq'] at hcall
      have Hq' := Lib.hid hq'
      have bq : decide ((q' : Int) < 0) = false := by rw [decide_eq_false_iff_not]; omega
      clear hnx hq h hct hcl hx hq' hq0
      go_wp2_with fail
      refine hcall.mono ?_
      rintro e2 w2 ⟨rfl, hb2⟩
      have hb3 := hb.trans (hb2.mono hb.size)
      clear hcall k0 hb2
      go_wp2_with fail
      go_roundg (p.length - (i + 1))
      case measure => omega
      case rel => exact ⟨i + 1, by omega, rfl, by go_num, congrArg (Value.int .i64) (by have := Nx.out; have := Hq'.out; omega), hb3⟩
    · obtain rfl : i = p.length := by omega
      go_wp2_with fail
      go_ret
      rw [List.take_length]
      exact ⟨rfl, hb⟩

set_option maxHeartbeats 2000000 in
theorem heldXS_any (xs : List Ex) (w : World) (v : Value) (k : Nat) (h : ExS w v (mkG mkX wtX k xs)) (hk : k + wSum wtX xs < 10 ^ 18) :
    Calls Try.prog 25 #[v, .int .i64 k] w (RetHd w (k + wSum wtX xs)) := by
  obtain ⟨A, c, rfl, hlen⟩ := h.slice
  rw [mkG_length] at hlen h ⊢
  go_enter Try.func25, Try.ntmps25
  go_wp2_with fail
  go_loopg [1, 5] xs.length (fun g s1 s5 wr => ∃ i : Nat, i ≤ xs.length ∧ g = xs.length - i ∧ s5 = .int .i64 i ∧ s1 = .int .i64 ((k + wSum wtX (xs.take i) : Nat) : Int) ∧ Below w.heap.size w wr)
  case atStart => exact ⟨0, Nat.zero_le _, rfl, rfl, by simp [wSum], Below.refl _ _⟩
  case round =>
    obtain ⟨i, hi, rfl, rfl, rfl, hb⟩ := hrel
    by_cases hlt : i < xs.length
    · obtain ⟨b, o, A1, c1, B1, d1, rfl, hbl, k0, k1, hx1, hx2⟩ := (ExS.le h (Le.below hb)).get (i := i) (by rw [mkG_length]; exact hlt)
      simp only [mkG_get mkX wtX xs k i hlt, mkX] at k0 k1 hx1 hx2
      rw [mkNs_length] at k0
      rw [mkNss_length] at k1
      have hct := wSum_take_succ wtX xs i hlt
      have hcl := wSum_take_le wtX xs (i + 1)
      have hwt : wtX xs[i] = xs[i].from_.length + wSum List.length xs[i].order := rfl
      obtain ⟨q, hq⟩ : ∃ q : Nat, q = k + wSum wtX (xs.take i) := ⟨_, rfl⟩
      rw [← hq] at hx1 hx2 ⊢
      have hcall := heldInts_any xs[i].from_ wr A1 c1 q hx1 (by omega)
      obtain ⟨q', hq'⟩ : ∃ q' : Nat, q' = q + xs[i].from_.length := ⟨_, rfl⟩
      rw [← hq'] at hcall hx2
      have hcall2 := fun W hl => heldIntss_any xs[i].order W B1 d1 q' (hx2.le (w' := W) hl) (by omega)
      obtain ⟨q2, hq2⟩ : ∃ q2 : Nat, q2 = q' + wSum List.length xs[i].order := ⟨_, rfl⟩
      rw [← hq2] at hcall2
      have hnx : q2 = k + wSum wtX (xs.take (i + 1)) := by omega
      have Nx := Lib.hid hnx
      have Hcall2 := Lib.hid hcall2
      have bq : decide ((q' : Int) < 0) = false := by rw [decide_eq_false_iff_not]; omega
      have bq2 : decide ((q2 : Int) < 0) = false := by rw [decide_eq_false_iff_not]; omega
      clear hnx hq h hct hcl hx1 hx2 hq' hq2 hwt hcall2
      go_wp2_with fail
      refine hcall.mono ?_
      rintro e2 w2 ⟨rfl, hb2⟩
      have hb3 := hb.trans (hb2.mono hb.size)
      have k2 := Le.below hb2 _ _ k1
      have hbl2 : b < w2.heap.size := by have := hb2.size; omega
      have Hl := Lib.hid (Le.below hb2)
      clear hcall k0 hb2 k1 hbl
      go_wp2_with fail
      refine (Hcall2.out _ Hl.out).mono ?_
      rintro e4 w4 ⟨rfl, hb4⟩
      have hb5 := hb3.trans (hb4.mono hb3.size)
      clear hb4 k2
      go_wp2_with fail
      go_roundg (xs.length - (i + 1))
      case measure => omega
      case rel => exact ⟨i + 1, by omega, rfl, by go_num, congrArg (Value.int .i64) (by have := Nx.out; omega), hb5⟩
    · obtain rfl : i = xs.length := by omega
      go_wp2_with fail
      go_ret
      rw [List.take_length]
      exact ⟨rfl, hb⟩

end Go.Proofs.Ytpadkallejfdlaa
