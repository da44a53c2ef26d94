/-
  The reference's source of choices: a pointer to a struct of a slice of bytes and a count. A call moves only the count, and makes new memory. The walks of l17Open, num, of, l7Draw, l7Some: what the reference draws is a valid expression of a small size. Slices that a call has made and appends to: what they hold. No program in sight. The walk of l7Mutate.
-/
import Derived.Test.YtapelogbceoojaaDoorLib
import Derived.Test.YtapelogbceoojaaDoorRE
import Derived.Test.YtapelogbceoojaaDoorVal
import Derived.Test.YtapelogbceoojaaDoorWSp
import Derived.Deep.AppendLies
import Derived.OwnWalk
import Derived.Deep.RegionWith

/-! The reference's source of choices: a pointer to a struct of a slice of bytes and a count. A call moves only the count, and makes new memory. -/
namespace Go.Proofs.YtapelogbceoojaaDoor
open Go.RowKit
set_option linter.unusedVariables false
set_option maxRecDepth 100000

/-- The source lies in block R: its bytes elsewhere, its count p. -/
def Rd (w : World) (R : Nat) (p : Nat) : Prop :=
  ∃ A n c, Own w R 100 #[.slice A n c, .int .i64 p] ∧ n ≤ 2000 ∧ ∀ i, i < n → ∃ b o v, A = some ⟨b, o, none⟩ ∧ b < R ∧ w.cell? ⟨b, o + i, none⟩ = some (.int .u8 v) ∧ 0 ≤ v ∧ v ≤ 255
theorem Rd.lt {w : World} {R p : Nat} (h : Rd w R p) : R < w.heap.size := by
  obtain ⟨A, n, c, h, _⟩ := h
  exact h.lt
theorem Rd.alloc {w : World} {R p : Nat} (h : Rd w R p) (o : Obj) : Rd (w.alloc o) R p := by
  obtain ⟨A, n, c, h, hn, hb⟩ := h
  refine ⟨A, n, c, h.alloc o, hn, fun i hi => ?_⟩
  obtain ⟨b, f, v, h1, h2, h3, h4⟩ := hb i hi
  exact ⟨b, f, v, h1, h2, Le.alloc _ _ _ _ h3, h4⟩
theorem Rd.below {w w' : World} {R p : Nat} (h : Rd w R p) (hb : Below w.heap.size w w') : Rd w' R p := by
  obtain ⟨A, n, c, h, hn, hc⟩ := h
  refine ⟨A, n, c, h.under hb, hn, fun i hi => ?_⟩
  obtain ⟨b, f, v, h1, h2, h3, h4⟩ := hc i hi
  exact ⟨b, f, v, h1, h2, Le.below hb _ _ h3, h4⟩
theorem Rd.drewN {w : World} {R p : Nat} (h : Rd w R p) (n : Nat) : Rd (w.drewN n) R p := h
theorem Rd.drew {w : World} {R p : Nat} (h : Rd w R p) : Rd w.drew R p := h
/-- A store into a block made later. -/
theorem Rd.setNew {w : World} {R p : Nat} (h : Rd w R p) {q : Addr} (hq : R < q.block) (v : Value) : Rd (w.setCell q v) R p := by
  obtain ⟨A, n, c, h, hn, hc⟩ := h
  refine ⟨A, n, c, h.far (by omega) v, hn, fun i hi => ?_⟩
  obtain ⟨b, f, u, h1, h2, h3, h4⟩ := hc i hi
  refine ⟨b, f, u, h1, h2, ?_, h4⟩
  rw [World.cell?_setCell_other _ _ _ _ (fun e => by subst e; simp at hq; omega)]
  exact h3
theorem bits_xor_i64_nat (a b : Nat) (ha : a < 9223372036854775808) (hb : b < 9223372036854775808) : bits .xor .i64 (a : Int) (b : Int) = ((a ^^^ b : Nat) : Int) := by
  have hx : a ^^^ b < 2 ^ 63 := Nat.xor_lt_two_pow (by omega) (by omega)
  have h1 : (BitVec.ofInt 64 (a : Int)).toNat = a := by
    rw [BitVec.ofInt_natCast, BitVec.toNat_ofNat]; exact Nat.mod_eq_of_lt (by omega)
  have h2 : (BitVec.ofInt 64 (b : Int)).toNat = b := by
    rw [BitVec.ofInt_natCast, BitVec.toNat_ofNat]; exact Nat.mod_eq_of_lt (by omega)
  show IntKind.i64.wrap ((BitVec.ofInt 64 (a : Int) ^^^ BitVec.ofInt 64 (b : Int)).toNat : Int) = _
  rw [BitVec.toNat_xor, h1, h2]
  rw [IntKind.wrap_i64]
  omega
theorem xor_mod (X n : Int) (h0 : 0 ≤ X) (h1 : X ≤ 1125899906842624) (hn : 1 ≤ n) : 0 ≤ (bits .xor .i64 X (X / 64)).tmod n ∧ (bits .xor .i64 X (X / 64)).tmod n < n := by
  obtain ⟨a, rfl⟩ : ∃ a : Nat, X = a := ⟨X.toNat, by omega⟩
  rw [show ((a : Int) / 64) = ((a / 64 : Nat) : Int) by omega, bits_xor_i64_nat _ _ (by omega) (by omega)]
  exact ⟨Int.tmod_nonneg _ (by omega), Int.tmod_lt_of_pos _ (by omega)⟩

def RetPick (w : World) (R : Nat) (p : Nat) (n : Int) (e : Ending) (w' : World) : Prop := ∃ v : Int, e = .returned (.int .i64 v) ∧ 0 ≤ v ∧ (0 < n → v < n) ∧ Mv R w w' ∧ Rd w' R (p + 1)

set_option maxHeartbeats 1000000 in
theorem pick_any (w : World) (R p : Nat) (n : Int) (hp : p ≤ 1099511627776) (hr : Rd w R p) :
    Calls Tryd.prog 51 #[.pointer (some ⟨R, 0, none⟩), .int .i64 n] w (RetPick w R p n) := by
  obtain ⟨A, len, c, own, hlen, hb⟩ := hr
  have q0 := own.cell (i := 0) rfl
  have q1 := own.cell (i := 1) rfl
  have q2 := own.frozen 1
  have d0 : (w.setCell ⟨R, 1, none⟩ (.int .i64 ((p : Int) + 1))).cell? ⟨R, 0, none⟩ = some (.slice A len c) := (own.set 1 _).cell rfl
  have hRd : Rd (w.setCell ⟨R, 1, none⟩ (.int .i64 ((p : Int) + 1))) R (p + 1) := by
    refine ⟨A, len, c, ?_, hlen, fun i hi => ?_⟩
    · have := own.set 1 (.int .i64 ((p : Int) + 1))
      exact this
    · obtain ⟨b, o, v, h1, h2, h3, h4⟩ := hb i hi
      exact ⟨b, o, v, h1, h2, by rw [World.cell?_setCell_other _ _ _ _ (fun e => by injection e with e; omega)]; exact h3, h4⟩
  have hm : Mv R w (w.setCell ⟨R, 1, none⟩ (.int .i64 ((p : Int) + 1))) := (Mv.refl _ _).setR _ _
  have HRd := Lib.hid hRd
  have Hm := Lib.hid hm
  clear hRd hm
  go_enter Tryd.func51, Tryd.ntmps51
  by_cases hn1 : n < 1
  · have b1 : decide (n < 1) = true := by rw [decide_eq_true_iff]; exact hn1
    go_wp2_with fail
    go_ret
    exact ⟨0, rfl, by omega, by omega, Hm.out, HRd.out⟩
  have b1 : decide (n < 1) = false := by rw [decide_eq_false_iff_not]; exact hn1
  by_cases hl : len = 0
  · subst hl
    go_wp2_with fail
    go_ret
    exact ⟨0, rfl, by omega, by omega, Hm.out, HRd.out⟩
  have hl0 : ((len : Int) == 0) = false := by simpa using hl
  by_cases hpl : p < len
  · obtain ⟨b, o, v, rfl, hbR, hc, hv0, hv1⟩ := hb p hpl
    have d1 : (w.setCell ⟨R, 1, none⟩ (.int .i64 ((p : Int) + 1))).cell? ⟨b, o + p, none⟩ = some (.int .u8 v) := by rw [World.cell?_setCell_other _ _ _ _ (fun e => by injection e with e; omega)]; exact hc
    have m0 := Int.emod_nonneg v (show n ≠ 0 by omega)
    have m1 := Int.emod_lt_of_pos v (show 0 < n by omega)
    go_wp2_with fail
    go_ret
    exact ⟨_, rfl, m0, fun _ => m1, Hm.out, HRd.out⟩
  · have hlp : 0 < len := by omega
    have h1lt : p % len < len := Nat.mod_lt _ hlp
    have h2lt : (p * 7 + 3) % len < len := Nat.mod_lt _ hlp
    obtain ⟨b, o, v, rfl, hbR, hc, hv0, hv1⟩ := hb _ h1lt
    obtain ⟨b', o', v', e0, _, hc', hv0', hv1'⟩ := hb _ h2lt
    simp only [Option.some.injEq, Addr.mk.injEq, and_true] at e0
    obtain ⟨rfl, rfl⟩ := e0
    have d1 : (w.setCell ⟨R, 1, none⟩ (.int .i64 ((p : Int) + 1))).cell? ⟨b, o + p % len, none⟩ = some (.int .u8 v) := by rw [World.cell?_setCell_other _ _ _ _ (fun e => by injection e with e; omega)]; exact hc
    have d2 : (w.setCell ⟨R, 1, none⟩ (.int .i64 ((p : Int) + 1))).cell? ⟨b, o + (p * 7 + 3) % len, none⟩ = some (.int .u8 v') := by rw [World.cell?_setCell_other _ _ _ _ (fun e => by injection e with e; omega)]; exact hc'
    have i1 : ((p : Int) % (len : Int)) < (len : Int) := Int.emod_lt_of_pos _ (by omega)
    have i2 : (((p : Int) * 7 + 3) % (len : Int)) < (len : Int) := Int.emod_lt_of_pos _ (by omega)
    have i3 : (0 : Int) ≤ (p : Int) % (len : Int) := Int.emod_nonneg _ (by omega)
    have i4 : (0 : Int) ≤ ((p : Int) * 7 + 3) % (len : Int) := Int.emod_nonneg _ (by omega)
    have i5 : (0 : Int) ≤ (p : Int) / (len : Int) := Int.ediv_nonneg (by omega) (by omega)
    have i6 : (p : Int) / (len : Int) ≤ p := Int.ediv_le_self _ (by omega)
    have t1 : ((p : Int) % (len : Int)).toNat = p % len := by rw [← Int.natCast_emod, Int.toNat_natCast]
    have t2 : (((p : Int) * 7 + 3) % (len : Int)).toNat = (p * 7 + 3) % len := by rw [show ((p : Int) * 7 + 3) = ((p * 7 + 3 : Nat) : Int) by omega, ← Int.natCast_emod, Int.toNat_natCast]
    clear hb hc hc' own h1lt h2lt
    go_wp2_with fail
    go_quiet (fail)
    obtain ⟨X, hX⟩ : ∃ X, X = v * 131 + v' * 1117 + (p : Int) * 29 + (p : Int) / (len : Int) * 53 := ⟨_, rfl⟩
    rw [← hX]
    have hX0 : 0 ≤ X := by omega
    have hX1 : X ≤ 1125899906842624 := by omega
    have hX2 : X / 64 ≤ X := Int.ediv_le_self _ hX0
    have hX3 : 0 ≤ X / 64 := Int.ediv_nonneg hX0 (by omega)
    clear hX i1 i2 i3 i4 i5 i6 t1 t2 d0 d1 d2
    go_wp2_with fail
    go_ret
    obtain ⟨m0, m1⟩ := xor_mod X n hX0 hX1 (by omega)
    exact ⟨_, rfl, m0, fun _ => m1, Hm.out.drewN _, HRd.out.drewN _⟩

end Go.Proofs.YtapelogbceoojaaDoor

/-! The walks of l17Open, num, of, l7Draw, l7Some: what the reference draws is a valid expression of a small size. -/
namespace Go.Proofs.YtapelogbceoojaaDoor
open Go.RowKit
set_option linter.unusedVariables false
set_option maxRecDepth 100000

/-- A slice of bytes as it was handed in. -/
def Bys (w : World) (A : Option Addr) (n : Nat) : Prop := n ≤ 9223372036854775807 ∧ ∀ i, i < n → ∃ b o v, A = some ⟨b, o, none⟩ ∧ w.cell? ⟨b, o + i, none⟩ = some (.int .u8 v) ∧ 0 ≤ v ∧ v ≤ 255
theorem Bys.le {w w' : World} {A : Option Addr} {n : Nat} (h : Bys w A n) (hl : Le w w') : Bys w' A n :=
  ⟨h.1, fun i hi => by
    obtain ⟨b, o, v, h1, h2, h3⟩ := h.2 i hi
    exact ⟨b, o, v, h1, hl _ _ h2, h3⟩⟩

def RetOpen (w : World) (e : Ending) (w' : World) : Prop := ∃ R : Nat, e = .returned (.pointer (some ⟨R, 0, none⟩)) ∧ w.heap.size ≤ R ∧ Rd w' R 0 ∧ Below w.heap.size w w'
set_option maxHeartbeats 400000 in
theorem open_any (w : World) (A : Option Addr) (n c : Nat) (h : Bys w A n) (hnc : n ≤ c) (hA : A = none → n = 0) : Calls Tryd.prog 49 #[.slice A n c] w (RetOpen w) := by
  have mk : ∀ m : Nat, m ≤ n → m ≤ 2000 → Rd (w.alloc (.cells #[.slice A m c, .int .i64 0] 100)) w.heap.size 0 := fun m hm h2 =>
    ⟨A, m, c, Own.new _ _ _, h2, fun i hi => by
      obtain ⟨b, o, v, h1, h3, h4⟩ := h.2 i (by omega)
      exact ⟨b, o, v, h1, World.block_lt_of_cell? _ _ h3, Le.alloc _ _ _ _ h3, h4⟩⟩
  have Mk := Lib.hid mk
  have hn := h.1
  clear mk h
  go_enter Tryd.func49, Tryd.ntmps49
  by_cases h2 : 2000 < n
  · have b2 : decide ((n : Int) > 2000) = true := by rw [decide_eq_true_iff]; omega
    go_wp2_with fail
    go_ret
    exact ⟨_, rfl, Nat.le_refl _, Mk.out 2000 (by omega) (by omega), (Below.refl _ _).alloc (Nat.le_refl _) _⟩
  · have b2 : decide ((n : Int) > 2000) = false := by rw [decide_eq_false_iff_not]; omega
    go_wp2_with fail
    go_ret
    exact ⟨_, rfl, Nat.le_refl _, Mk.out n (Nat.le_refl _) (by omega), (Below.refl _ _).alloc (Nat.le_refl _) _⟩

def RetNum (w : World) (R p : Nat) (xs : List Int) (e : Ending) (w' : World) : Prop := ∃ x : Int, e = .returned (.int .i64 x) ∧ x ∈ xs ∧ Mv R w w' ∧ Rd w' R (p + 1)
def RetOf (w : World) (R p : Nat) (xs : List ByteArray) (e : Ending) (w' : World) : Prop := ∃ x : ByteArray, e = .returned (.string x) ∧ x ∈ xs ∧ Mv R w w' ∧ Rd w' R (p + 1)

set_option maxHeartbeats 400000 in
theorem num_any (w : World) (R p : Nat) (A : Option Addr) (c : Nat) (xs : List Int) (hp : p ≤ 1099511627776) (hr : Rd w R p) (hx : Ints (above (R + 1) w) A c xs) (hne : 0 < xs.length) :
    Calls Tryd.prog 83 #[.pointer (some ⟨R, 0, none⟩), .slice A xs.length c] w (RetNum w R p xs) := by
  have hm := hx.len
  have hpk := pick_any w R p xs.length hp hr
  go_enter Tryd.func83, Tryd.ntmps83
  go_wp2_with fail
  refine hpk.mono ?_
  rintro e1 w1 ⟨v, rfl, h0, hlt, m, r1⟩
  obtain ⟨i, rfl⟩ : ∃ i : Nat, v = i := ⟨v.toNat, by omega⟩
  have hi : i < xs.length := by have := hlt (by omega); omega
  obtain ⟨b, o, rfl, hbl, hc⟩ := (hx.le m.above).get hi
  have hc' := (cell_above_lt hc).2
  have hii : (i : Int) < (xs.length : Int) := by omega
  clear hx hlt hpk hc hbl h0
  go_wp2_with fail
  go_ret
  exact ⟨_, rfl, List.getElem_mem hi, m, r1⟩

set_option maxHeartbeats 400000 in
theorem of_any (w : World) (R p : Nat) (A : Option Addr) (c : Nat) (xs : List ByteArray) (hp : p ≤ 1099511627776) (hr : Rd w R p) (hx : Strs (above (R + 1) w) A c xs) (hne : 0 < xs.length) :
    Calls Tryd.prog 84 #[.pointer (some ⟨R, 0, none⟩), .slice A xs.length c] w (RetOf w R p xs) := by
  have hm := hx.len
  have hpk := pick_any w R p xs.length hp hr
  go_enter Tryd.func84, Tryd.ntmps84
  go_wp2_with fail
  refine hpk.mono ?_
  rintro e1 w1 ⟨v, rfl, h0, hlt, m, r1⟩
  obtain ⟨i, rfl⟩ : ∃ i : Nat, v = i := ⟨v.toNat, by omega⟩
  have hi : i < xs.length := by have := hlt (by omega); omega
  obtain ⟨b, o, rfl, hbl, hc⟩ := (hx.le m.above).get hi
  have hc' := (cell_above_lt hc).2
  have hii : (i : Int) < (xs.length : Int) := by omega
  clear hx hlt hpk hc hbl h0
  go_wp2_with fail
  go_ret
  exact ⟨_, rfl, List.getElem_mem hi, m, r1⟩

/-- A literal slice of ints, just made. -/
theorem ints_lit {w : World} {R b n : Nat} {cs : Array Value} {t : TypeId} (xs : List Int) (h : Own w b t cs) (hb : R < b) (hl : xs.length = n) (hn : n ≤ 100) (hc : ∀ i (hi : i < xs.length), cs[i]? = some (.int .i64 xs[i])) : Ints (above (R + 1) w) (some ⟨b, 0, none⟩) n xs :=
  Ints.mk (by omega) fun i hi => cell_above_of (by show R + 1 ≤ b; omega) (by rw [Nat.zero_add]; exact h.cell (hc i hi))

theorem strs_lit {w : World} {R b n : Nat} {cs : Array Value} {t : TypeId} (xs : List ByteArray) (h : Own w b t cs) (hb : R < b) (hl : xs.length = n) (hn : n ≤ 100) (hc : ∀ i (hi : i < xs.length), cs[i]? = some (.string xs[i])) : Strs (above (R + 1) w) (some ⟨b, 0, none⟩) n xs :=
  Strs.mk (by omega) fun i hi => cell_above_of (by show R + 1 ≤ b; omega) (by rw [Nat.zero_add]; exact h.cell (hc i hi))

def RetDraw (w : World) (R p d : Nat) (e : Ending) (w' : World) : Prop :=
  ∃ (x : RE) (A : Option Addr) (c : Nat) (F : List Nat) (p' : Nat), e = .returned (.agg #[.int .i64 x.op, .string x.name, .slice A x.kids.length c]) ∧ OwE w' (.slice A x.kids.length c) x.kids F ∧ (∀ b ∈ F, w.heap.size ≤ b) ∧ Shp d x ∧ cntE x < 2 ^ d ∧ Mv R w w' ∧ Rd w' R p' ∧ p' + 3 ≤ p + 4 * 2 ^ d

theorem OwE.mv' {w w' : World} {v : Value} {es : List RE} {F : List Nat} {R : Nat} (h : OwE w v es F) (m : Mv R w w') (hR : ∀ b ∈ F, b ≠ R) : OwE w' v es F := h.of_blocks fun b hb => m.block (h.lt b hb) (hR b hb)
theorem Shp.leaf {d : Nat} {s : ByteArray} (hs : s ∈ nm) : Shp (d + 1) (.mk 1 s []) := ⟨⟨rfl, ⟨fun _ => hs, fun _ => rfl⟩, fun h => absurd rfl h⟩, fun k hk => by simp [RE.kids] at hk⟩

theorem Shp.node {d : Nat} {op : Int} {kids : List RE} (h2 : 2 ≤ op) (h7 : op ≤ 7) (hk : (kids.length : Int) = kidsI op) (h : ∀ k ∈ kids, Shp d k) : Shp (d + 1) (.mk op ⟨#[]⟩ kids) :=
  ⟨⟨hk, ⟨fun e => by simp only [RE.op] at e; omega, fun e => absurd rfl (nm_let e).1⟩, fun _ => rfl⟩, h⟩
theorem RetDraw.fin1 {w V : World} {R p d p' m : Nat} {op : Int} {x : RE} {A : Option Addr} {c : Nat} {F : List Nat} (ho : OwE V (.slice A x.kids.length c) x.kids F) (hF : ∀ b ∈ F, w.heap.size ≤ b) (hnm : x.name.size ≤ 300) (hm : V.heap.size = m) (hs : Shp d (.mk op ⟨#[]⟩ [x])) (hc : cntE x + 1 < 2 ^ d) (mv : Mv R w V) (r : Rd V R p') (hp : p' + 3 ≤ p + 4 * 2 ^ d) :
    RetDraw w R p d (.returned (.agg #[.int .i64 op, .string ⟨#[]⟩, .slice (some ⟨m, 0, none⟩) 1 1])) (V.alloc (.cells #[.int .i64 x.op, .string x.name, .slice A x.kids.length c] 29)) := by
  subst hm
  refine ⟨.mk op ⟨#[]⟩ [x], _, 1, _, p', rfl, ho.one (by omega), fun b hb => ?_, hs, by rw [cntE, cntL, cntL]; omega, mv.alloc _, r.alloc _, hp⟩
  rcases List.mem_cons.1 hb with rfl | hb
  · exact mv.size
  · exact hF b hb
theorem RetDraw.fin2 {w V : World} {R p d p' m : Nat} {op : Int} {x y : RE} {A A' : Option Addr} {c c' : Nat} {F F' : List Nat} (ho : OwE V (.slice A x.kids.length c) x.kids F) (ho' : OwE V (.slice A' y.kids.length c') y.kids F') (hF : ∀ b ∈ F, w.heap.size ≤ b) (hF' : ∀ b ∈ F', w.heap.size ≤ b) (hnm : x.name.size ≤ 300) (hnm' : y.name.size ≤ 300) (hm : V.heap.size = m)
    (hs : Shp d (.mk op ⟨#[]⟩ [x, y])) (hc : cntE x + cntE y + 1 < 2 ^ d) (mv : Mv R w V) (r : Rd V R p') (hp : p' + 3 ≤ p + 4 * 2 ^ d) :
    RetDraw w R p d (.returned (.agg #[.int .i64 op, .string ⟨#[]⟩, .slice (some ⟨m, 0, none⟩) 2 2])) (V.alloc (.cells #[.int .i64 x.op, .string x.name, .slice A x.kids.length c, .int .i64 y.op, .string y.name, .slice A' y.kids.length c'] 29)) := by
  subst hm
  refine ⟨.mk op ⟨#[]⟩ [x, y], _, 2, _, p', rfl, ho.two ho' (by omega) (by omega), fun b hb => ?_, hs, by rw [cntE, cntL, cntL, cntL]; omega, mv.alloc _, r.alloc _, hp⟩
  rcases List.mem_cons.1 hb with rfl | hb
  · exact mv.size
  · rcases List.mem_append.1 hb with hb | hb
    · exact hF b hb
    · exact hF' b hb
theorem Shp.name_le {d : Nat} {x : RE} (h : Shp d x) : x.name.size ≤ 300 := by
  cases d with
  | zero => exact h.elim
  | succ d =>
    by_cases h1 : x.op = 1
    · have := size_nm (h.1.2.1.1 h1)
      omega
    · rw [h.1.2.2 h1]; decide
theorem RetDraw.fin {w W : World} {R p d p' : Nat} {x : RE} {A : Option Addr} {c : Nat} {F : List Nat} {v0 v1 v2 : Value} (hR : R < w.heap.size) (ho : OwE W (.slice A x.kids.length c) x.kids F) (hF : ∀ b ∈ F, w.heap.size < b) (hs : Shp d x) (hc : cntE x < 2 ^ d) (m : Mv R w W) (r : Rd W R p') (hp : p' + 3 ≤ p + 4 * 2 ^ d) :
    RetDraw w R p d (.returned (.agg #[.int .i64 x.op, .string x.name, .slice A x.kids.length c])) (((W.setCell ⟨w.heap.size, 0, none⟩ v0).setCell ⟨w.heap.size, 1, none⟩ v1).setCell ⟨w.heap.size, 2, none⟩ v2) := by
  have hne : ∀ b ∈ F, b ≠ w.heap.size := fun b hb => by have := hF b hb; omega
  exact ⟨x, A, c, F, p', rfl, own_setN (own_setN (own_setN ho hne _ _) hne _ _) hne _ _, fun b hb => Nat.le_of_lt (hF b hb), hs, hc, ((m.setNew (Nat.le_refl _) _).setNew (Nat.le_refl _) _).setNew (Nat.le_refl _) _, ((r.setNew hR _).setNew hR _).setNew hR _, hp⟩

set_option maxHeartbeats 2000000 in
theorem draw_of (d : Nat) (hd1 : 1 ≤ d) (hd : d ≤ 20) (ih : 2 ≤ d → ∀ (w : World) (R p : Nat), p ≤ 1100000000 - 4 * 2 ^ (d - 1) → Rd w R p → Calls Tryd.prog 82 #[.pointer (some ⟨R, 0, none⟩), .int .i64 ((d : Int) - 1)] w (RetDraw w R p (d - 1)))
    (w : World) (R p : Nat) (hp : p ≤ 1100000000 - 4 * 2 ^ d) (hr : Rd w R p) : Calls Tryd.prog 82 #[.pointer (some ⟨R, 0, none⟩), .int .i64 d] w (RetDraw w R p d) := by
  have rb := Own.new w 29 #[.int .i64 0, .string ByteArray.empty, .slice none 0 0]
  have hR := hr.lt
  have hr0 := hr.alloc (.cells #[.int .i64 0, .string ByteArray.empty, .slice none 0 0] 29)
  have hpow : 2 ^ d = 2 * 2 ^ (d - 1) := by
    obtain ⟨k, rfl⟩ : ∃ k, d = k + 1 := ⟨d - 1, by omega⟩
    rw [Nat.pow_succ, Nat.add_sub_cancel]; omega
  have hpos : 0 < 2 ^ (d - 1) := Nat.pow_pos (by omega)
  have htop : 2 ^ (d - 1) ≤ 2 ^ 19 := Nat.pow_le_pow_right (by omega) (by omega)
  go_enter Tryd.func82, Tryd.ntmps82
  go_wp2_with fail
  refine (l6Names_any _).mono ?_
  rintro e1 w1 ⟨A, c, rfl, hnm, hb1⟩
  have hm1 : Mv R w w1 := ((Mv.refl _ _).alloc _).trans (Mv.of_below hb1)
  have hr1 := hr0.below hb1
  have rb1 := rb.under hb1
  have hnm1 : Strs (above (R + 1) w1) A c nm := hnm.le (Le.above_mono (by simp; omega) _)
  clear hnm hb1 rb hr0 hr
  by_cases hd2 : d < 2
  · obtain rfl : d = 1 := by omega
    have hpk := pick_any w1 R p nm.length (by omega) hr1
    go_wp2_with fail
    refine hpk.mono ?_
    rintro e9 w9 ⟨v, rfl, h0, hlt, m9, r9⟩
    obtain ⟨i, rfl⟩ : ∃ i : Nat, v = i := ⟨v.toNat, by omega⟩
    have hi : i < nm.length := by have := hlt (by rw [show nm.length = 10 from rfl]; omega); omega
    obtain ⟨b, o, rfl, hbl, hc⟩ := (hnm1.le m9.above).get hi
    have hc' := (cell_above_lt hc).2
    have hii : (i : Int) < (nm.length : Int) := by omega
    have hmem : nm[i] ∈ nm := List.getElem_mem hi
    obtain ⟨s, hs⟩ : ∃ s, s = nm[i] := ⟨_, rfl⟩
    rw [← hs] at hc' hmem
    have MM := Lib.hid (hm1.trans m9)
    obtain ⟨r0, r1, r2, g0, g1, g2, rl⟩ := (rb1.mv m9 (by omega)).res'
    clear hlt hpk hc hbl h0 hs
    go_wp2_with fail
    refine bodyPost_ret (v := .agg #[.int .i64 1, .string s, .slice none 0 0]) (by simp [results, Tryd.results82, go_sem, r0, r1, r2]) rfl ?_
    exact RetDraw.fin (x := .mk 1 s []) hR .nil (fun b hb => by cases hb) (Shp.leaf hmem) (by rw [cntE_mk]; omega) MM.out r9 (by omega)

  have bd : decide ((d : Int) < 2) = false := by rw [decide_eq_false_iff_not]; omega
  have hpk := pick_any w1 R p 3 (by omega) hr1
  go_wp2_with fail
  refine hpk.mono ?_
  rintro e2 w2 ⟨v2, rfl, _, _, m2, hr2⟩
  have hm2 := hm1.trans m2
  have rb2 := rb1.mv m2 (by omega)
  have hnm2 := hnm1.le m2.above
  clear hpk hr1 rb1 hnm1 hm1 m2
  by_cases hv2 : v2 = 0
  · subst hv2
    obtain ⟨d', rfl⟩ : ∃ d', d = d' + 1 := ⟨d - 1, by omega⟩
    have hpk := pick_any w2 R (p + 1) nm.length (by omega) hr2
    go_wp2_with fail
    refine hpk.mono ?_
    rintro e9 w9 ⟨v, rfl, h0, hlt, m9, r9⟩
    obtain ⟨i, rfl⟩ : ∃ i : Nat, v = i := ⟨v.toNat, by omega⟩
    have hi : i < nm.length := by have := hlt (by rw [show nm.length = 10 from rfl]; omega); omega
    obtain ⟨b, o, rfl, hbl, hc⟩ := (hnm2.le m9.above).get hi
    have hc' := (cell_above_lt hc).2
    have hii : (i : Int) < (nm.length : Int) := by omega
    have hmem : nm[i] ∈ nm := List.getElem_mem hi
    obtain ⟨s, hs⟩ : ∃ s, s = nm[i] := ⟨_, rfl⟩
    rw [← hs] at hc' hmem
    have MM := Lib.hid (hm2.trans m9)
    obtain ⟨r0, r1, r2, g0, g1, g2, rl⟩ := (rb2.mv m9 (by omega)).res'
    clear hlt hpk hc hbl h0 hs
    go_wp2_with fail
    refine bodyPost_ret (v := .agg #[.int .i64 1, .string s, .slice none 0 0]) (by simp [results, Tryd.results82, go_sem, r0, r1, r2]) rfl ?_
    exact RetDraw.fin (x := .mk 1 s []) hR .nil (fun b hb => by cases hb) (Shp.leaf hmem) (by rw [cntE_mk]; omega) MM.out r9 (by omega)

  have bv2 : (v2 == 0) = false := by rw [beq_eq_false_iff_ne]; exact hv2
  have hpk := pick_any w2 R (p + 1) 4 (by omega) hr2
  go_wp2_with fail
  refine hpk.mono ?_
  rintro e3 w3 ⟨v3, rfl, _, _, m3, hr3⟩
  have hm3 := hm2.trans m3
  have rb3 := rb2.mv m3 (by omega)
  clear hpk hr2 rb2 hnm2 hm2 m3
  have hs3 := hm3.size
  by_cases hv3 : v3 = 0
  · subst hv3
    have il := Own.new w3 3 #[.int .i64 6, .int .i64 7]
    have hil : Ints (above (R + 1) (w3.alloc (.cells #[.int .i64 6, .int .i64 7] 3))) (some ⟨w3.heap.size, 0, none⟩) 2 [6, 7] := ints_lit [6, 7] il (by omega) rfl (by omega) (fun i hi => by
      match i, hi with
      | 0, _ => rfl
      | 1, _ => rfl)
    have hnum := num_any (w3.alloc (.cells #[.int .i64 6, .int .i64 7] 3)) R (p + 1 + 1) _ 2 [6, 7] (by omega) (hr3.alloc _) hil (by simp)
    have hm4 := hm3.alloc (.cells #[.int .i64 6, .int .i64 7] 3)
    have rb4 := rb3.alloc (.cells #[.int .i64 6, .int .i64 7] 3)
    clear il hil hr3 rb3 hm3
    go_wp2_with fail
    refine hnum.mono ?_
    rintro e4 w4 ⟨op, rfl, hop, m4, hr4⟩
    have hm5 := hm4.trans m4
    have rb5 := rb4.mv m4 (by omega)
    have hs5 := hm5.size
    have hl5 := rb5.lt
    have hlit : op = 6 ∨ op = 7 := by simpa using hop
    clear hnum hm4 rb4 m4 hop
    go_wp2_with fail
    refine (ih (by omega) w4 R (p + 1 + 1 + 1) (by omega) hr4).mono ?_
    rintro e5 w5 ⟨x, A5, c5, F5, p5, rfl, ho, hF, hsh, hcn, m5, hr5, hp5⟩
    have hm6 := hm5.trans m5
    obtain ⟨r0, r1, r2, g0, g1, g2, rl⟩ := (rb5.mv m5 (by omega)).res'
    have hne : ∀ b ∈ F5, b ≠ w.heap.size := fun b hb => by have := hF b hb; omega
    have hF' : ∀ b ∈ F5, w.heap.size ≤ b := fun b hb => by have := hF b hb; omega
    have hnm := hsh.name_le
    have hsh' : Shp d (.mk op ⟨#[]⟩ [x]) := by
      obtain ⟨k, rfl⟩ : ∃ k, d = k + 1 := ⟨d - 1, by omega⟩
      exact Shp.node (by omega) (by omega) (by rcases hlit with rfl | rfl <;> rfl) (fun y hy => by simp at hy; subst hy; exact hsh)
    have Hsh := Lib.hid hsh'
    clear hsh hsh' hF m5 rb5 hm5 hr4 ih
    go_wp2_with fail
    refine bodyPost_ret (v := .agg #[.int .i64 op, .string ⟨#[]⟩, .slice (some ⟨w5.heap.size, 0, none⟩) 1 1]) (by simp [results, Tryd.results82, go_sem, r0, r1, r2, rl, World.cell?_alloc_lt]) rfl ?_
    exact RetDraw.fin1 (own_setN (own_setN (own_setN ho hne _ _) hne _ _) hne _ _) hF' hnm (by simp [World.setCell]) Hsh.out (by omega) (((hm6.setNew (Nat.le_refl _) _).setNew (Nat.le_refl _) _).setNew (Nat.le_refl _) _) (((hr5.setNew hR _).setNew hR _).setNew hR _) (by omega)
  have bv3 : (v3 == 0) = false := by rw [beq_eq_false_iff_ne]; exact hv3
  have il := Own.new w3 3 #[.int .i64 2, .int .i64 3, .int .i64 4, .int .i64 5]
  have hil : Ints (above (R + 1) (w3.alloc (.cells #[.int .i64 2, .int .i64 3, .int .i64 4, .int .i64 5] 3))) (some ⟨w3.heap.size, 0, none⟩) 4 [2, 3, 4, 5] := ints_lit [2, 3, 4, 5] il (by omega) rfl (by omega) (fun i hi => by
    match i, hi with
    | 0, _ => rfl
    | 1, _ => rfl
    | 2, _ => rfl
    | 3, _ => rfl)
  have hnum := num_any (w3.alloc (.cells #[.int .i64 2, .int .i64 3, .int .i64 4, .int .i64 5] 3)) R (p + 1 + 1) _ 4 [2, 3, 4, 5] (by omega) (hr3.alloc _) hil (by simp)
  have hm4 := hm3.alloc (.cells #[.int .i64 2, .int .i64 3, .int .i64 4, .int .i64 5] 3)
  have rb4 := rb3.alloc (.cells #[.int .i64 2, .int .i64 3, .int .i64 4, .int .i64 5] 3)
  clear il hil hr3 rb3 hm3
  go_wp2_with fail
  refine hnum.mono ?_
  rintro e4 w4 ⟨op, rfl, hop, m4, hr4⟩
  have hm5 := hm4.trans m4
  have rb5 := rb4.mv m4 (by omega)
  have hs5 := hm5.size
  have hl5 := rb5.lt
  have hlit : op = 2 ∨ op = 3 ∨ op = 4 ∨ op = 5 := by simpa using hop
  clear hnum hm4 rb4 m4 hop
  go_wp2_with fail
  refine (ih (by omega) w4 R (p + 1 + 1 + 1) (by omega) hr4).mono ?_
  rintro e5 w5 ⟨x, A5, c5, F5, p5, rfl, ho, hF, hsh, hcn, m5, hr5, hp5⟩
  have hm6 := hm5.trans m5
  have rb6 := rb5.mv m5 (by omega)
  have hs6 := m5.size
  clear rb5 hm5 hr4 m5
  go_wp2_with fail
  refine (ih (by omega) w5 R p5 (by omega) hr5).mono ?_
  rintro e6 w6 ⟨y, A6, c6, F6, p6, rfl, ho6, hF6, hsh6, hcn6, m6, hr6, hp6⟩
  have hm7 := hm6.trans m6
  have ho5 := ho.mv' m6 (fun b hb => by have := hF b hb; omega)
  obtain ⟨r0, r1, r2, g0, g1, g2, rl⟩ := (rb6.mv m6 (by omega)).res'
  have hne : ∀ b ∈ F5, b ≠ w.heap.size := fun b hb => by have := hF b hb; omega
  have hF' : ∀ b ∈ F5, w.heap.size ≤ b := fun b hb => by have := hF b hb; omega
  have hne6 : ∀ b ∈ F6, b ≠ w.heap.size := fun b hb => by have := hF6 b hb; omega
  have hF6' : ∀ b ∈ F6, w.heap.size ≤ b := fun b hb => by have := hF6 b hb; omega
  have hnm := hsh.name_le
  have hnm6 := hsh6.name_le
  have hsh' : Shp d (.mk op ⟨#[]⟩ [x, y]) := by
    obtain ⟨k, rfl⟩ : ∃ k, d = k + 1 := ⟨d - 1, by omega⟩
    exact Shp.node (by omega) (by omega) (by rcases hlit with rfl | rfl | rfl | rfl <;> rfl) (fun z hz => by
      simp at hz
      rcases hz with rfl | rfl
      · exact hsh
      · exact hsh6)
  have Hsh := Lib.hid hsh'
  clear hsh hsh6 hsh' hF hF6 m6 rb6 hm6 hr5 ih ho
  go_wp2_with fail
  refine bodyPost_ret (v := .agg #[.int .i64 op, .string ⟨#[]⟩, .slice (some ⟨w6.heap.size, 0, none⟩) 2 2]) (by simp [results, Tryd.results82, go_sem, r0, r1, r2, rl, World.cell?_alloc_lt]) rfl ?_
  exact RetDraw.fin2 (own_setN (own_setN (own_setN ho5 hne _ _) hne _ _) hne _ _) (own_setN (own_setN (own_setN ho6 hne6 _ _) hne6 _ _) hne6 _ _) hF' hF6' hnm hnm6 (by simp [World.setCell]) Hsh.out (by omega) (((hm7.setNew (Nat.le_refl _) _).setNew (Nat.le_refl _) _).setNew (Nat.le_refl _) _) (((hr6.setNew hR _).setNew hR _).setNew hR _) (by omega)

theorem draw_any (d : Nat) : ∀ (hd1 : 1 ≤ d) (hd : d ≤ 20) (w : World) (R p : Nat), p ≤ 1100000000 - 4 * 2 ^ d → Rd w R p → Calls Tryd.prog 82 #[.pointer (some ⟨R, 0, none⟩), .int .i64 d] w (RetDraw w R p d) := by
  induction d with
  | zero => intro h; omega
  | succ d ih =>
    intro hd1 hd w R p hp hr
    refine draw_of (d + 1) hd1 hd (fun h2 w R p hp hr => ?_) w R p hp hr
    have := ih (by omega) (by omega) w R p hp hr
    rw [show ((d + 1 : Nat) : Int) - 1 = d by omega]
    exact this

/-- What l7Some hands back: a valid expression of a small size. -/
def RetSome (w : World) (R p b : Nat) (e : Ending) (w' : World) : Prop :=
  ∃ (x : RE) (A : Option Addr) (c : Nat) (F : List Nat) (p' : Nat), e = .returned (.agg #[.int .i64 x.op, .string x.name, .slice A x.kids.length c]) ∧ OwE w' (.slice A x.kids.length c) x.kids F ∧ (∀ b ∈ F, w.heap.size ≤ b) ∧ Shp 4 x ∧ cntE x < 16 ∧ Mv R w w' ∧ Rd w' R p' ∧ p' ≤ p + b
theorem RetDraw.some4 {w : World} {R p d : Nat} {e : Ending} {w' : World} (hd : d = 3 ∨ d = 2 ∨ d = 4 ∨ d = 1) (h : RetDraw w R p d e w') : RetSome w R p 61 e w' := by
  obtain ⟨x, A, c, F, p', h1, h2, h3, h4, h5, h6, h7, h8⟩ := h
  refine ⟨x, A, c, F, p', h1, h2, h3, ?_, ?_, h6, h7, ?_⟩
  · rcases hd with rfl | rfl | rfl | rfl
    · exact h4.mono
    · exact h4.mono.mono
    · exact h4
    · exact h4.mono.mono.mono
  · rcases hd with rfl | rfl | rfl | rfl <;> omega
  · rcases hd with rfl | rfl | rfl | rfl <;> omega

set_option maxHeartbeats 400000 in
theorem some_any (w : World) (R p : Nat) (hp : p ≤ 1000000000) (hr : Rd w R p) : Calls Tryd.prog 50 #[.pointer (some ⟨R, 0, none⟩)] w (RetSome w R p 100) := by
  have rb := Own.new w 29 #[.int .i64 0, .string ByteArray.empty, .slice none 0 0]
  have hR := hr.lt
  obtain ⟨W, hW⟩ : ∃ W, W = w.alloc (.cells #[.int .i64 0, .string ⟨#[]⟩, .slice none 0 0] 29) := ⟨_, rfl⟩
  have hrW : Rd W R p := by rw [hW]; exact hr.alloc _
  have rbW : Own W w.heap.size 29 #[.int .i64 0, .string ByteArray.empty, .slice none 0 0] := by rw [hW]; exact rb
  have hsW : W.heap.size = w.heap.size + 1 := by rw [hW]; simp
  have hmW : Mv R w W := by rw [hW]; exact (Mv.refl _ _).alloc _
  have il := Own.new W 3 #[.int .i64 3, .int .i64 2, .int .i64 4, .int .i64 1]
  have hil : Ints (above (R + 1) (W.alloc (.cells #[.int .i64 3, .int .i64 2, .int .i64 4, .int .i64 1] 3))) (some ⟨W.heap.size, 0, none⟩) 4 [3, 2, 4, 1] := ints_lit [3, 2, 4, 1] il (by omega) rfl (by omega) (fun i hi => by
    match i, hi with
    | 0, _ => rfl
    | 1, _ => rfl
    | 2, _ => rfl
    | 3, _ => rfl)
  have hnum := num_any (W.alloc (.cells #[.int .i64 3, .int .i64 2, .int .i64 4, .int .i64 1] 3)) R p _ 4 [3, 2, 4, 1] (by omega) (hrW.alloc _) hil (by simp)
  have hm1 := hmW.alloc (.cells #[.int .i64 3, .int .i64 2, .int .i64 4, .int .i64 1] 3)
  have rb1 := rbW.alloc (.cells #[.int .i64 3, .int .i64 2, .int .i64 4, .int .i64 1] 3)
  rw [hsW] at hnum
  clear il hil rbW hmW rb hr
  go_enter Tryd.func50, Tryd.ntmps50
  go_wp2_with fail
  rw [← hW]
  refine hnum.mono ?_
  rintro e2 w2 ⟨d, rfl, hd, m2, hr2⟩
  have hlit : d = 3 ∨ d = 2 ∨ d = 4 ∨ d = 1 := by simpa using hd
  obtain ⟨dn, rfl⟩ : ∃ dn : Nat, d = dn := ⟨d.toNat, by omega⟩
  have hlit' : dn = 3 ∨ dn = 2 ∨ dn = 4 ∨ dn = 1 := by omega
  have hdr := draw_any dn (by omega) (by omega) w2 R (p + 1) (by rcases hlit' with rfl | rfl | rfl | rfl <;> omega) hr2
  have hm2 := hm1.trans m2
  have rb2 := rb1.mv m2 (by omega)
  have hl2 := rb2.lt
  clear hnum hd hlit m2 hr2 hm1 rb1 hW hrW
  go_wp2_with fail
  refine hdr.mono ?_
  intro e3 w3 h3
  obtain ⟨x, A, c, F, p', rfl, ho, hF, hsh, hcn, m3, hr3, hp3⟩ := h3.some4 hlit'
  have hm3 := hm2.trans m3
  obtain ⟨r0, r1, r2, g0, g1, g2, rl⟩ := (rb2.mv m3 (by omega)).res'
  have hne : ∀ b ∈ F, b ≠ w.heap.size := fun b hb => by have := hF b hb; omega
  have hF' : ∀ b ∈ F, w.heap.size ≤ b := fun b hb => by have := hF b hb; omega
  clear hdr h3 hF m3 rb2 hm2
  go_wp2_with fail
  refine bodyPost_ret (v := .agg #[.int .i64 x.op, .string x.name, .slice A x.kids.length c]) (by simp [results, Tryd.results50, go_sem, r0, r1, r2]) rfl ?_
  exact ⟨x, A, c, F, p', rfl, own_setN (own_setN (own_setN ho hne _ _) hne _ _) hne _ _, hF', hsh, hcn, ((hm3.setNew (Nat.le_refl _) _).setNew (Nat.le_refl _) _).setNew (Nat.le_refl _) _, ((hr3.setNew hR _).setNew hR _).setNew hR _, by omega⟩

end Go.Proofs.YtapelogbceoojaaDoor

/-! Slices that a call has made and appends to: what they hold. No program in sight. -/
namespace Go.Proofs.YtapelogbceoojaaDoor
open Go.RowKit
set_option linter.unusedVariables false
set_option maxRecDepth 100000

theorem owns_cell {w : World} {base : Nat} {e : TypeId} {k n : Nat} {v : Value} {cs : List Value} (h : w.ownsRow base e k v n cs) (hk : 0 < k) {i j : Nat} (hi : i < n) (hj : j < k) :
    ∃ g cap, v = .slice (some ⟨g, 0, none⟩) n cap ∧ base ≤ g ∧ w.cell? ⟨g, i * k + j, none⟩ = some (cs.getD (i * k + j) undef) := by
  obtain ⟨hl, h⟩ := h
  rcases h with ⟨_, h0⟩ | ⟨g, cap, cur, hv, hb, hg, hn, _, hc, ht⟩
  · omega
  · refine ⟨g, cap, hv, hb, ?_⟩
    have hlt : i * k + j < n * k := by
      have h1 : (i + 1) * k ≤ n * k := Nat.mul_le_mul_right k hi
      rw [Nat.add_mul, Nat.one_mul] at h1
      omega
    have hle : n * k ≤ cap * k := Nat.mul_le_mul_right k hn
    have h1 : cs[i * k + j]? = cur.toList[i * k + j]? := by rw [← ht, List.getElem?_take, if_pos hlt]
    have h2 : i * k + j < cs.length := by omega
    rw [cell_of_row w g (i * k + j) cur e (0, 0) hg, ← Array.getElem?_toList, ← h1, List.getElem?_eq_getElem h2, List.getD_eq_getElem?_getD, List.getElem?_eq_getElem h2]
    rfl

/-- A slice of the call's own, of elements of k cells each; of each P holds. -/
def RowOf {α : Type} (k : Nat) (Q : (Nat → Value) → α → Prop) (w : World) (base : Nat) (e : TypeId) (v : Value) (xs : List α) : Prop :=
  ∃ cs : List Value, w.ownsRow base e k v xs.length cs ∧ ∀ i (h : i < xs.length), Q (fun j => cs.getD (i * k + j) undef) xs[i]
theorem RowOf.imp {α : Type} {k : Nat} {Q Q' : (Nat → Value) → α → Prop} {w : World} {base : Nat} {e : TypeId} {v : Value} {xs : List α} (h : RowOf k Q w base e v xs) (hq : ∀ cs x, Q cs x → Q' cs x) : RowOf k Q' w base e v xs := by
  obtain ⟨cs, h1, h2⟩ := h
  exact ⟨cs, h1, fun i hi => hq _ _ (h2 i hi)⟩
theorem RowOf.nil {α : Type} (k : Nat) (Q : (Nat → Value) → α → Prop) (w : World) (base : Nat) (e : TypeId) : RowOf k Q w base e (.slice none 0 0) ([] : List α) := ⟨[], World.ownsRow_nil w base e k, fun i hi => absurd hi (Nat.not_lt_zero _)⟩
/-- An empty slice in a block of its own. -/
theorem RowOf.made {α : Type} {k : Nat} (Q : (Nat → Value) → α → Prop) {w : World} {base g : Nat} {e : TypeId} (h : Own w g e #[]) (hb : base ≤ g) : RowOf k Q w base e (.slice (some ⟨g, 0, none⟩) 0 0) ([] : List α) :=
  ⟨[], ⟨by simp, .inr ⟨g, 0, #[], rfl, hb, h, Nat.le_refl _, by simp [maxLen], by simp, by simp⟩⟩, fun i hi => absurd hi (Nat.not_lt_zero _)⟩
theorem RowOf.slR {α : Type} {k : Nat} (hk : 0 < k) {R : World → (Nat → Value) → α → Prop} {Q : (Nat → Value) → α → Prop} {w a : World} {base : Nat} {e : TypeId} {v : Value} {xs : List α} (h : RowOf k Q w base e v xs) (hq : ∀ cs x, Q cs x → R a cs x) (ha : Le (above base w) a) : SlR k R a v xs := by
  obtain ⟨cs, h1, h2⟩ := h
  have hform : ∃ A c, v = .slice A xs.length c ∧ xs.length ≤ 9223372036854775807 := by
    rcases h1.2 with ⟨rfl, h0⟩ | ⟨g, cap, cur, rfl, _, _, hn, hc, _⟩
    · rw [h0]; exact ⟨_, _, rfl, by omega⟩
    · simp only [maxLen] at hc
      exact ⟨_, _, rfl, by omega⟩
  obtain ⟨A, c, rfl, hm⟩ := hform
  refine ⟨A, c, rfl, hm, fun i hi => ?_⟩
  obtain ⟨g, cap, hv, hb, _⟩ := owns_cell h1 hk hi hk
  refine ⟨g, 0, by injection hv, _, fun j hj => ?_, hq _ _ (h2 i hi)⟩
  obtain ⟨g', cap', hv', hb', hc'⟩ := owns_cell h1 hk hi hj
  rw [hv] at hv'
  injection hv' with e1
  injection e1 with e1
  injection e1 with e1
  subst e1
  rw [Nat.zero_add]
  exact ha _ _ (cell_above_of hb hc')
theorem RowOf.slR' {α : Type} {k : Nat} (hk : 0 < k) {R : World → (Nat → Value) → α → Prop} {Q : (Nat → Value) → α → Prop} {w a : World} {base : Nat} {e : TypeId} {v : Value} {xs : List α} (h : RowOf k Q w base e v xs) (hq : ∀ cs x, Q cs x → R a cs x) (ha : ∀ g o u, base ≤ g → v.ownBlock = some g → w.cell? ⟨g, o, none⟩ = some u → a.cell? ⟨g, o, none⟩ = some u) : SlR k R a v xs := by
  obtain ⟨cs, h1, h2⟩ := h
  have hform : ∃ A c, v = .slice A xs.length c ∧ xs.length ≤ 9223372036854775807 := by
    rcases h1.2 with ⟨rfl, h0⟩ | ⟨g, cap, cur, rfl, _, _, hn, hc, _⟩
    · rw [h0]; exact ⟨_, _, rfl, by omega⟩
    · simp only [maxLen] at hc
      exact ⟨_, _, rfl, by omega⟩
  obtain ⟨A, c, rfl, hm⟩ := hform
  refine ⟨A, c, rfl, hm, fun i hi => ?_⟩
  obtain ⟨g, cap, hv, hb, _⟩ := owns_cell h1 hk hi hk
  refine ⟨g, 0, by injection hv, _, fun j hj => ?_, hq _ _ (h2 i hi)⟩
  obtain ⟨g', cap', hv', hb', hc'⟩ := owns_cell h1 hk hi hj
  have e0 := hv.symm.trans hv'
  injection e0 with e1
  injection e1 with e1
  injection e1 with e1
  subst e1
  rw [Nat.zero_add]
  exact ha _ _ _ hb (by rw [hv]; rfl) hc'
/-- One element more. -/
theorem RowOf.snoc {α : Type} {k : Nat} {Q : (Nat → Value) → α → Prop} (hQ : ∀ (f g : Nat → Value) x, (∀ j, j < k → f j = g j) → Q f x → Q g x) {w w' : World} {base : Nat} {e : TypeId} {v v' : Value} {xs : List α} {cs news : List Value} {x : α} (h : w.ownsRow base e k v xs.length cs) (hcs : ∀ i (h : i < xs.length), Q (fun j => cs.getD (i * k + j) undef) xs[i])
    (hn : news.length = k) (hx : Q (fun j => news.getD j undef) x) (h' : w'.ownsRow base e k v' (xs.length + 1) (cs ++ news)) : RowOf k Q w' base e v' (xs ++ [x]) := by
  refine ⟨cs ++ news, by simpa using h', fun i hi => ?_⟩
  rw [List.length_append, List.length_singleton] at hi
  have hl := h.1
  by_cases hlt : i < xs.length
  · rw [List.getElem_append_left hlt]
    refine hQ _ _ _ (fun j hj => ?_) (hcs i hlt)
    have h1 : i * k + j < cs.length := by
      have h1 : (i + 1) * k ≤ xs.length * k := Nat.mul_le_mul_right k hlt
      rw [Nat.add_mul, Nat.one_mul] at h1
      omega
    simp only [List.getD_eq_getElem?_getD]
    rw [List.getElem?_append_left h1]
  · obtain rfl : i = xs.length := by omega
    rw [List.getElem_append_right (Nat.le_refl _)]
    simp only [Nat.sub_self, List.getElem_singleton]
    refine hQ _ _ _ (fun j hj => ?_) hx
    simp only [List.getD_eq_getElem?_getD]
    rw [List.getElem?_append_right (by omega), hl, show xs.length * k + j - xs.length * k = j by omega]
theorem RowOf.of_block {α : Type} {k : Nat} {Q : (Nat → Value) → α → Prop} {w w' : World} {base : Nat} {e : TypeId} {v : Value} {xs : List α} (h : RowOf k Q w base e v xs) (hb : ∀ g, base ≤ g → v.ownBlock = some g → g < w.heap.size → w'.heap[g]? = w.heap[g]?) : RowOf k Q w' base e v xs := by
  obtain ⟨cs, ⟨h1, h3⟩, h2⟩ := h
  refine ⟨cs, ⟨h1, ?_⟩, h2⟩
  rcases h3 with h3 | ⟨g, cap, cur, rfl, hbg, hg, rest⟩
  · exact .inl h3
  · refine .inr ⟨g, cap, cur, rfl, hbg, ?_, rest⟩
    rw [hb g hbg rfl ((Array.getElem?_eq_some_iff.1 hg).elim fun h _ => h)]
    exact hg

/-- The cells of a list lie at an address. -/
def NewsAt (w : World) (ad : Addr) (news : List Value) : Prop := ∀ j u, news[j]? = some u → w.cell? (ad.add j) = some u
theorem NewsAt.le {w w' : World} {ad : Addr} {news : List Value} (h : NewsAt w ad news) (hl : Le w w') : NewsAt w' ad news := fun j u hj => hl _ _ (h j u hj)
theorem add_lit (b o j : Nat) : (⟨b, o, none⟩ : Addr).add j = ⟨b, o + j, none⟩ := by simp [Addr.add]

/-- The cells of a slice of k-cell elements, in a row. -/
theorem SlR.news {α : Type} {k : Nat} {R : World → (Nat → Value) → α → Prop} {w : World} {A : Option Addr} {c n : Nat} {xs : List α} (h : SlR k R w (.slice A n c) xs) (hk : 0 < k) (hn : 0 < n) :
    ∃ b o, A = some ⟨b, o, none⟩ ∧ ∃ news : List Value, news.length = n * k ∧ NewsAt w ⟨b, o, none⟩ news ∧ ∀ i (hi : i < xs.length), ∃ cs, (∀ j, j < k → cs j = news.getD (i * k + j) undef) ∧ R w cs xs[i] := by
  obtain ⟨A', c', e, _, h⟩ := h
  injection e with e1 e2 e3
  subst e1 e2
  obtain ⟨b, o, rfl, _⟩ := h 0 hn
  have key : ∀ i, i < xs.length → ∃ cs : Nat → Value, (∀ j, j < k → w.cell? ⟨b, o + i * k + j, none⟩ = some (cs j)) ∧ ∀ hi : i < xs.length, R w cs xs[i] := fun i hi => by
    obtain ⟨b', o', e, cs, h1, h2⟩ := h i hi
    injection e with e
    injection e with e1 e2
    subst e1 e2
    exact ⟨cs, h1, fun _ => h2⟩
  refine ⟨b, o, rfl, (List.range (xs.length * k)).map (fun t => (w.cell? ⟨b, o + t, none⟩).getD undef), by simp, fun j u hj => ?_, fun i hi => ?_⟩
  · rw [List.getElem?_map] at hj
    rcases Nat.lt_or_ge j (xs.length * k) with hlt | hge
    · rw [List.getElem?_range hlt] at hj
      simp only [Option.map_some, Option.some.injEq] at hj
      have hi : j / k < xs.length := by rw [Nat.div_lt_iff_lt_mul hk]; exact hlt
      obtain ⟨cs, h1, _⟩ := key _ hi
      have h2 := h1 (j % k) (Nat.mod_lt _ hk)
      rw [show o + j / k * k + j % k = o + j by rw [Nat.add_assoc, Nat.mul_comm, Nat.div_add_mod]] at h2
      rw [h2] at hj
      rw [add_lit, h2, ← hj]
      rfl
    · rw [List.getElem?_eq_none (by simpa using hge)] at hj
      cases hj
  · obtain ⟨cs, h1, h2⟩ := key i hi
    refine ⟨cs, fun j hj => ?_, h2 hi⟩
    have hlt : i * k + j < xs.length * k := by
      have h1 : (i + 1) * k ≤ xs.length * k := Nat.mul_le_mul_right k hi
      rw [Nat.add_mul, Nat.one_mul] at h1
      omega
    rw [List.getD_eq_getElem?_getD, List.getElem?_map, List.getElem?_range hlt]
    have := h1 j hj
    rw [Nat.add_assoc] at this
    simp [this]

theorem news_one {k n : Nat} {news : List Value} (hk : 0 < k) (hl : news.length = n * k) (h : ∀ i, i < n → ∀ j, j < k → (news.getD (i * k + j) undef).oneCell' = true) : ∀ u ∈ news, u.oneCell' = true := fun u hu => by
  obtain ⟨t, ht, rfl⟩ := List.getElem_of_mem hu
  have h1 := h (t / k) (by rw [Nat.div_lt_iff_lt_mul hk]; omega) (t % k) (Nat.mod_lt _ hk)
  rw [show t / k * k + t % k = t by rw [Nat.mul_comm, Nat.div_add_mod], List.getD_eq_getElem?_getD, List.getElem?_eq_getElem ht] at h1
  exact h1
theorem made_owns {w : World} {base g k : Nat} {e : TypeId} (h : Own w g e #[]) (hb : base ≤ g) : w.ownsRow base e k (.slice (some ⟨g, 0, none⟩) 0 0) 0 [] :=
  ⟨by simp, .inr ⟨g, 0, #[], rfl, hb, h, Nat.le_refl _, by simp [maxLen], by simp, by simp⟩⟩

/-- Nothing is appended: the slice is handed on. -/
theorem run_append_empty {P : Program} (w : World) (t ty e : TypeId) (i : TypeInfo) (ht : P.underlying t = some (.slice e)) (hi : P.info? e = some i) (b off n cap : Nat) (hn : n ≤ cap) (A : Option Addr) (c : Nat) :
    (Builtin.append_ #[t, t] ty #[.slice (some ⟨b, off, none⟩) n cap, .slice A 0 c]).run P w = .ok (.slice (some ⟨b, off, none⟩) n cap) w := by
  cases A with
  | some a =>
    have h := run_append_room_cells (P := P) w t ty e i ht hi b off n cap a 0 c [] (by simp) (fun j u h => by simp at h) (fun u h => by cases h) (by omega) (fun j hj => absurd hj (Nat.not_lt_zero _)) (fun j hj => absurd hj (Nat.not_lt_zero _))
    rw [h]
    simp [World.setCells]
  | none =>
    simp [Builtin.append_, run_underlying ht, sizeOf, typeInfo, hi, Builtin.lenOf, Builtin.firstCells, hn, storeCells]
theorem step_append_empty {P : Program} (w : World) {ops : Array Oper} {o : Oper} {a : Act} {K : Act → World → Prop} {Q : Exit → Act → World → Prop} {E : Prop} (hgd : o.guard = none) (s x : Operand) (t : TypeId)
    (ho : o.op = .call { callee := .builtin .append, args := #[s, x], argTypes := #[t, t] }) (e : TypeId) (i : TypeInfo) (ht : P.underlying t = some (.slice e)) (hi : P.info? e = some i) (b off n cap : Nat) (hn : n ≤ cap) (A : Option Addr) (c : Nat)
    (hs : a.eval s = .slice (some ⟨b, off, none⟩) n cap) (hx : a.eval x = .slice A 0 c) (h : K (a.put o.dst (.slice (some ⟨b, off, none⟩) n cap)) w) :
    if Region.wanted o (yielded ops a.tmps) = true then Oper.wp P o a w K Q else E := by
  have hw : Region.wanted o (yielded ops a.tmps) = true := by simp [Region.wanted, hgd]
  rw [if_pos hw]
  unfold Oper.wp execOp
  simp only [ho, resolve, invoke, builtin, Sem.run_bind, Sem.run_pure, Result.andThen_ok, List.map_toArray, List.map_cons, List.map_nil, hs, hx, run_append_empty w t o.type e i ht hi b off n cap hn A c]
  exact h

end Go.Proofs.YtapelogbceoojaaDoor

/-! The walk of l7Mutate. -/
namespace Go.Proofs.YtapelogbceoojaaDoor
open Go.RowKit
set_option linter.unusedVariables false
set_option maxRecDepth 100000

theorem Tryd.infoRE : (Tryd.prog.info? 29).map (fun i => (i.zero, i.size, i.bytes)) = some (some (.agg #[.int .i64 0, .string ⟨#[]⟩, .slice none 0 0]), 3, 48) := by kernel_rfl

/-- Only the blocks of q. -/
def keepW (q : Nat → Prop) [DecidablePred q] (w : World) : World := { w with heap := w.heap.mapIdx fun i o => if q i then o else .map #[] 0 }
theorem cell_keepW (q : Nat → Prop) [DecidablePred q] (w : World) (a : Addr) : (keepW q w).cell? a = if q a.block then w.cell? a else none := by
  unfold World.cell? keepW
  simp only [Array.getElem?_mapIdx]
  cases h : w.heap[a.block]? with
  | none => simp
  | some o => by_cases hb : q a.block <;> simp [hb]
theorem cell_keepW_of {q : Nat → Prop} [DecidablePred q] {w : World} {a : Addr} {v : Value} (hq : q a.block) (h : w.cell? a = some v) : (keepW q w).cell? a = some v := by rw [cell_keepW, if_pos hq]; exact h
theorem of_cell_keepW {q : Nat → Prop} [DecidablePred q] {w : World} {a : Addr} {v : Value} (h : (keepW q w).cell? a = some v) : q a.block ∧ w.cell? a = some v := by
  rw [cell_keepW] at h
  by_cases hb : q a.block
  · rw [if_pos hb] at h; exact ⟨hb, h⟩
  · rw [if_neg hb] at h; cases h
theorem Le.keepW {q q' : Nat → Prop} [DecidablePred q] [DecidablePred q'] {w w' : World} (h : ∀ a v, q a.block → w.cell? a = some v → q' a.block ∧ w'.cell? a = some v) : Le (Go.Proofs.YtapelogbceoojaaDoor.keepW q w) (Go.Proofs.YtapelogbceoojaaDoor.keepW q' w') := fun a v hc => by
  obtain ⟨h1, h2⟩ := of_cell_keepW hc
  obtain ⟨h3, h4⟩ := h a v h1 h2
  exact cell_keepW_of h3 h4
/-- What may not turn while l7Mutate goes on. -/
def Kp (Z R B O : Nat) (v : Value) (b : Nat) : Prop := (R < b ∧ b ≠ Z) ∧ b ≠ O ∧ b ≠ B ∧ v.ownBlock ≠ some b
instance (Z R B O : Nat) (v : Value) : DecidablePred (Kp Z R B O v) := fun _ => inferInstanceAs (Decidable ((_ ∧ _) ∧ _ ∧ _ ∧ _))
/-- .. but block Z. -/
def Kz (Z R b : Nat) : Prop := R < b ∧ b ≠ Z
instance (Z R : Nat) : DecidablePred (Kz Z R) := fun _ => inferInstanceAs (Decidable (_ ∧ _))

/-- The walk of l7Mutate behind its first statement: the variable 'out' in block O, the result in the block behind the box. -/
structure MutS (Z : Nat) (w V : World) (R p O : Nat) (x : RE) (v : Value) : Prop where
  out : Own V O 29 #[.int .i64 x.op, .string x.name, v]
  row : RowOf 3 (RepE (keepW (Kp Z R (w.heap.size + 1) O v) V)) V w.heap.size 29 v x.kids
  ne : v.ownBlock ≠ some O ∧ v.ownBlock ≠ some (w.heap.size + 1)
  res : Own V (w.heap.size + 1) 29 #[.int .i64 0, .string ⟨#[]⟩, .slice none 0 0]
  mv : Mv R w V
  rd : Rd V R p
  hO : w.heap.size + 1 < O
  hR : R < w.heap.size
  nm : x.name.size ≤ 300
  hZ : Z < w.heap.size

/-- Behind an append to a row of the call's own. -/
theorem mv_grown {w X w1 : World} {R s : Nat} (m : Mv R w X) (h : X.grownBy w1 (some s)) (hs : w.heap.size ≤ s) : Mv R w w1 :=
  ⟨h.os.trans m.os, h.tape.trans m.tape, h.output.trans m.output, Nat.le_trans m.size (World.grownBy.size h), fun i hi hne => (World.grownBy.block h i (Nat.lt_of_lt_of_le hi m.size) (fun e => by injection e with e; omega)).trans (World.grownBy.block m i hi hne)⟩
theorem rd_mv {w w1 : World} {R p : Nat} (h : Rd w R p) (m : Mv R w w1) (hR : w1.heap[R]? = w.heap[R]?) : Rd w1 R p := by
  obtain ⟨A, n, c, h, hn, hc⟩ := h
  refine ⟨A, n, c, h.of_block hR, hn, fun i hi => ?_⟩
  obtain ⟨b, f, u, h1, h2, h3, h4⟩ := hc i hi
  exact ⟨b, f, u, h1, h2, m.cell h3 (by show b ≠ R; omega), h4⟩
theorem mutS_start {Z : Nat} {w w1 V : World} {R p O gg cap : Nat} {x : RE} {news : List Value} (hZ : Z < w.heap.size) (hR : R < w.heap.size) (hr : Rd w R p) (m1 : Mv R w w1) (hRb : w1.heap[R]? = w.heap[R]?) (hnm : x.name.size ≤ 300) (hnl : news.length = x.kids.length * 3)
    (hre : ∀ (i : Nat) (hi : i < x.kids.length), ∃ cs, (∀ (j : Nat), j < 3 → cs j = news.getD (i * 3 + j) undef) ∧ RepE (keepW (Kz Z R) w) cs x.kids[i])
    (hown : w1.ownsRow w.heap.size 29 3 (.slice (some ⟨gg, 0, none⟩) x.kids.length cap) x.kids.length news) (hV : Mv R w V) (hVb : ∀ i, i ≠ O → i < w1.heap.size → V.heap[i]? = w1.heap[i]?) (hO : w.heap.size + 1 < O) (hgb : w.heap.size ≤ gg) (hgg : gg ≠ O) (hgg' : gg ≠ w.heap.size + 1) (hg1 : gg < w1.heap.size)
    (hout : Own V O 29 #[.int .i64 x.op, .string x.name, .slice (some ⟨gg, 0, none⟩) x.kids.length cap]) (hres : Own w1 (w.heap.size + 1) 29 #[.int .i64 0, .string ⟨#[]⟩, .slice none 0 0]) : MutS Z w V R p O x (.slice (some ⟨gg, 0, none⟩) x.kids.length cap) := by
  have hle : Le (keepW (Kz Z R) w) (keepW (Kp Z R (w.heap.size + 1) O (.slice (some ⟨gg, 0, none⟩) x.kids.length cap)) V) := fun a v hc => by
    obtain ⟨⟨h1, h1'⟩, h2⟩ := of_cell_keepW hc
    have hlt := World.block_lt_of_cell? _ _ h2
    refine cell_keepW_of ⟨by omega, by omega, by omega, fun e => ?_⟩ (hV.cell h2 (by omega))
    simp only [Value.ownBlock, Option.some.injEq] at e
    omega
  refine ⟨hout, ?_, ⟨by simpa [Value.ownBlock] using hgg, by simpa [Value.ownBlock] using hgg'⟩, hres.of_block (hVb _ (by omega) hres.lt), hV, ?_, hO, hR, hnm, hZ⟩
  · have h1 : RowOf 3 (RepE (keepW (Kp Z R (w.heap.size + 1) O (.slice (some ⟨gg, 0, none⟩) x.kids.length cap)) V)) w1 w.heap.size 29 (.slice (some ⟨gg, 0, none⟩) x.kids.length cap) x.kids := by
      refine ⟨news, hown, fun i hi => ?_⟩
      obtain ⟨cs, h1, h2⟩ := hre i hi
      exact RepE.le hle _ _ (h2.congr' fun j hj => (h1 j hj).symm)
    exact h1.of_block fun g _ hg hlt => hVb g (fun e => by simp [Value.ownBlock] at hg; omega) hlt
  · exact rd_mv hr hV ((hVb R (by omega) (by have := m1.size; omega)).trans hRb)

/-- A call that moves only the source. -/
theorem MutS.mv' {Z : Nat} {w V V' : World} {R p p' O : Nat} {x : RE} {v : Value} (h : MutS Z w V R p O x v) (m : Mv R V V') (rd : Rd V' R p') : MutS Z w V' R p' O x v := by
  have hR := h.hR
  have hO := h.hO
  refine ⟨h.out.mv m (by omega), ?_, h.ne, h.res.mv m (by omega), h.mv.trans m, rd, hO, hR, h.nm, h.hZ⟩
  refine (h.row.imp fun cs y hy => RepE.le (Le.keepW fun a u hq hc => ⟨hq, m.cell hc (by have := hq.1; omega)⟩) _ _ hy).of_block fun g hg _ hlt => m.block hlt (by omega)
/-- New memory. -/
theorem MutS.alloc {Z : Nat} {w V : World} {R p O : Nat} {x : RE} {v : Value} (h : MutS Z w V R p O x v) (o : Obj) : MutS Z w (V.alloc o) R p O x v :=
  h.mv' ((Mv.refl _ _).alloc o) (h.rd.alloc o)

theorem MutS.setO {Z : Nat} {w V : World} {R p O : Nat} {x x' : RE} {v : Value} (h : MutS Z w V R p O x v) (j : Nat) (u : Value) (hk : x'.kids = x.kids) (hn : x'.name.size ≤ 300)
    (hc : (#[.int .i64 x.op, .string x.name, v] : Array Value).setIfInBounds j u = #[.int .i64 x'.op, .string x'.name, v]) : MutS Z w (V.setCell ⟨O, j, none⟩ u) R p O x' v := by
  have hR := h.hR
  have hO := h.hO
  refine ⟨by rw [← hc]; exact h.out.set j u, ?_, h.ne, h.res.far (by show w.heap.size + 1 ≠ O; omega) _, h.mv.setNew (by show w.heap.size ≤ O; omega) _, h.rd.setNew (by show R < O; omega) _, hO, hR, hn, h.hZ⟩
  rw [hk]
  refine (h.row.imp fun cs y hy => RepE.le (Le.keepW fun a z hq hc => ⟨hq, ?_⟩) _ _ hy).of_block fun g hg hv hlt => Below.heap_setCell _ _ _ _ (fun e => h.ne.1 (by rw [hv, e]))
  rw [World.cell?_setCell_other _ _ _ _ (fun e => hq.2.1 (by rw [← e]))]
  exact hc

/-- The slice of the operands, as what was handed back stands for it. -/
theorem MutS.rep {Z : Nat} {w V : World} {R p O : Nat} {x : RE} {v : Value} (h : MutS Z w V R p O x v) : ∃ A c, v = .slice A x.kids.length c ∧ RepK (above (R + 1) V) A c x := by
  have hR := h.hR
  have hs := h.row.slR (k := 3) (R := RepE) (by omega) (a := above (R + 1) V) (fun cs y hy => RepE.le (fun a u hc => by
    obtain ⟨h1, h2⟩ := of_cell_keepW hc
    exact cell_above_of (by have := h1.1; omega) h2) _ _ hy) (Le.above_mono (by omega) _)
  obtain ⟨A, c, rfl, _⟩ := hs.slice
  exact ⟨A, c, rfl, by have := h.nm; omega, hs⟩

def RetMutZ (Z : Nat) (w : World) (R p : Nat) (x : RE) (e : Ending) (w' : World) : Prop :=
  ∃ (x' : RE) (A : Option Addr) (c p' : Nat), e = .returned (.agg #[.int .i64 x'.op, .string x'.name, .slice A x'.kids.length c]) ∧ RepK (keepW (Kz Z R) w') A c x' ∧ x'.name.size ≤ 300 ∧ x'.kids.length ≤ x.kids.length + 1 ∧ cntE x' ≤ cntE x + 12 ∧ Mv R w w' ∧ Rd w' R p' ∧ p' ≤ p + 100
/-- The result is written. -/
theorem MutS.fin {Z : Nat} {w V : World} {R p p' O : Nat} {x x' : RE} {A : Option Addr} {c : Nat} {v0 v1 v2 : Value} (h : MutS Z w V R p' O x' (.slice A x'.kids.length c)) (hk : x'.kids.length ≤ x.kids.length + 1) (hc : cntE x' ≤ cntE x + 12) (hp : p' ≤ p + 100) :
    RetMutZ Z w R p x (.returned (.agg #[.int .i64 x'.op, .string x'.name, .slice A x'.kids.length c])) (((V.setCell ⟨w.heap.size + 1, 0, none⟩ v0).setCell ⟨w.heap.size + 1, 1, none⟩ v1).setCell ⟨w.heap.size + 1, 2, none⟩ v2) := by
  have hR := h.hR
  have hm := ((h.mv.setNew (p := ⟨w.heap.size + 1, 0, none⟩) (by show w.heap.size ≤ w.heap.size + 1; omega) v0).setNew (p := ⟨w.heap.size + 1, 1, none⟩) (by show w.heap.size ≤ w.heap.size + 1; omega) v1).setNew (p := ⟨w.heap.size + 1, 2, none⟩) (by show w.heap.size ≤ w.heap.size + 1; omega) v2
  refine ⟨x', A, c, p', rfl, ?_, h.nm, hk, hc, hm, ((h.rd.setNew (by show R < w.heap.size + 1; omega) _).setNew (by show R < w.heap.size + 1; omega) _).setNew (by show R < w.heap.size + 1; omega) _, hp⟩
  have hrow := h.row.of_block (w' := ((V.setCell ⟨w.heap.size + 1, 0, none⟩ v0).setCell ⟨w.heap.size + 1, 1, none⟩ v1).setCell ⟨w.heap.size + 1, 2, none⟩ v2) fun g _ hv _ => by
    have hne : g ≠ w.heap.size + 1 := fun e => h.ne.2 (by rw [hv, e])
    exact (Below.heap_setCell _ _ _ _ hne).trans ((Below.heap_setCell _ _ _ _ hne).trans (Below.heap_setCell _ _ _ _ hne))
  have hs := hrow.slR (k := 3) (R := RepE) (by omega) (a := keepW (Kz Z R) (((V.setCell ⟨w.heap.size + 1, 0, none⟩ v0).setCell ⟨w.heap.size + 1, 1, none⟩ v1).setCell ⟨w.heap.size + 1, 2, none⟩ v2)) (fun cs y hy => RepE.le (fun a u hc => by
    obtain ⟨h1, h2⟩ := of_cell_keepW hc
    refine cell_keepW_of h1.1 ?_
    have hne : a.block ≠ w.heap.size + 1 := h1.2.2.1
    rw [World.cell?_setCell_far _ _ _ _ (fun e => hne e.symm), World.cell?_setCell_far _ _ _ _ (fun e => hne e.symm), World.cell?_setCell_far _ _ _ _ (fun e => hne e.symm)]
    exact h2) _ _ hy) (fun a u hc => by
    obtain ⟨h1, h2⟩ := cell_above_lt hc
    exact cell_keepW_of ⟨by omega, by have := h.hZ; omega⟩ h2)
  exact ⟨by have := h.nm; omega, hs⟩

/-- 'out' becomes an expression of the operation 6 of which it was the operand. -/
theorem MutS.wrap {Z : Nat} {w V : World} {R p O : Nat} {x : RE} {A : Option Addr} {c : Nat} (h : MutS Z w V R p O x (.slice A x.kids.length c)) :
    MutS Z w ((((V.setCell ⟨O, 0, none⟩ (.int .i64 6)).setCell ⟨O, 1, none⟩ (.string ⟨#[]⟩)).setCell ⟨O, 2, none⟩ (.slice (some ⟨V.heap.size, 0, none⟩) 1 1)).alloc (.cells #[.int .i64 x.op, .string x.name, .slice A x.kids.length c] 29)) R p O (.mk 6 ⟨#[]⟩ [x]) (.slice (some ⟨V.heap.size, 0, none⟩) 1 1) := by
  have hR := h.hR
  have hO := h.hO
  have hol := h.out.lt
  have hrl := h.res.lt
  have hms := h.mv.size
  have hsz : (((V.setCell ⟨O, 0, none⟩ (.int .i64 6)).setCell ⟨O, 1, none⟩ (.string ⟨#[]⟩)).setCell ⟨O, 2, none⟩ (.slice (some ⟨V.heap.size, 0, none⟩) 1 1)).heap.size = V.heap.size := by simp [World.setCell]
  have hnew := Own.new (((V.setCell ⟨O, 0, none⟩ (.int .i64 6)).setCell ⟨O, 1, none⟩ (.string ⟨#[]⟩)).setCell ⟨O, 2, none⟩ (.slice (some ⟨V.heap.size, 0, none⟩) 1 1)) 29 #[.int .i64 x.op, .string x.name, .slice A x.kids.length c]
  rw [hsz] at hnew
  refine ⟨(((h.out.set 0 _).set 1 _).set 2 _).alloc _, ?_, ⟨by simp [Value.ownBlock]; omega, by simp [Value.ownBlock]; omega⟩, (((h.res.far (by show w.heap.size + 1 ≠ O; omega) _).far (by show w.heap.size + 1 ≠ O; omega) _).far (by show w.heap.size + 1 ≠ O; omega) _).alloc _,
    (((h.mv.setNew (by show w.heap.size ≤ O; omega) _).setNew (by show w.heap.size ≤ O; omega) _).setNew (by show w.heap.size ≤ O; omega) _).alloc _, (((h.rd.setNew (by show R < O; omega) _).setNew (by show R < O; omega) _).setNew (by show R < O; omega) _).alloc _, hO, hR, (by show ByteArray.size ⟨#[]⟩ ≤ 300; decide), h.hZ⟩
  have far : ∀ (g o : Nat) (u : Value), g ≠ O → V.cell? ⟨g, o, none⟩ = some u → ((((V.setCell ⟨O, 0, none⟩ (.int .i64 6)).setCell ⟨O, 1, none⟩ (.string ⟨#[]⟩)).setCell ⟨O, 2, none⟩ (.slice (some ⟨V.heap.size, 0, none⟩) 1 1)).alloc (.cells #[.int .i64 x.op, .string x.name, .slice A x.kids.length c] 29)).cell? ⟨g, o, none⟩ = some u := fun g o u hg hc => by
    refine Le.alloc _ _ _ _ ?_
    rw [World.cell?_setCell_far _ _ _ _ (by show O ≠ g; omega), World.cell?_setCell_far _ _ _ _ (by show O ≠ g; omega), World.cell?_setCell_far _ _ _ _ (by show O ≠ g; omega)]
    exact hc
  have hs := h.row.slR' (k := 3) (R := RepE) (by omega) (a := keepW (Kp Z R (w.heap.size + 1) O (.slice (some ⟨V.heap.size, 0, none⟩) 1 1)) ((((V.setCell ⟨O, 0, none⟩ (.int .i64 6)).setCell ⟨O, 1, none⟩ (.string ⟨#[]⟩)).setCell ⟨O, 2, none⟩ (.slice (some ⟨V.heap.size, 0, none⟩) 1 1)).alloc (.cells #[.int .i64 x.op, .string x.name, .slice A x.kids.length c] 29)))
    (fun cs y hy => RepE.le (Le.keepW fun a u hq hc => ⟨⟨hq.1, hq.2.1, hq.2.2.1, fun e => by
        have := World.block_lt_of_cell? _ _ hc
        simp only [Value.ownBlock, Option.some.injEq] at e
        omega⟩, by
        obtain ⟨ab, ao, ap⟩ := a
        refine Le.alloc _ _ _ _ ?_
        rw [World.cell?_setCell_far _ _ _ _ (fun e => hq.2.1 e.symm), World.cell?_setCell_far _ _ _ _ (fun e => hq.2.1 e.symm), World.cell?_setCell_far _ _ _ _ (fun e => hq.2.1 e.symm)]
        exact hc⟩) _ _ hy)
    (fun g o u hg hv hc => by
      have hgO : g ≠ O := fun e => h.ne.1 (by rw [hv, e])
      have hgB : g ≠ w.heap.size + 1 := fun e => h.ne.2 (by rw [hv, e])
      have := World.block_lt_of_cell? _ _ hc
      exact cell_keepW_of ⟨by show R < g ∧ g ≠ Z; have := h.hZ; omega, hgO, hgB, fun e => by simp only [Value.ownBlock, Option.some.injEq] at e; simp at this; omega⟩ (far g o u hgO hc))
  refine ⟨[.int .i64 x.op, .string x.name, .slice A x.kids.length c], ⟨rfl, .inr ⟨V.heap.size, 1, _, rfl, by omega, hnew, by simp [RE.kids], by simp [maxLen], by simp, by simp [RE.kids]⟩⟩, fun i hi => ?_⟩
  obtain rfl : i = 0 := by simp [RE.kids] at hi; omega
  exact repE_K.2 ⟨A, c, rfl, rfl, rfl, by have := h.nm; show x.name.size ≤ _; omega, hs⟩

theorem owns_base {w : World} {base : Nat} {e : TypeId} {k n : Nat} {v : Value} {cs : List Value} (h : w.ownsRow base e k v n cs) {g : Nat} (hv : v.ownBlock = some g) : base ≤ g ∧ g < w.heap.size := by
  rcases h.2 with ⟨rfl, _⟩ | ⟨g', cap, cur, rfl, hb, hg, _⟩
  · cases hv
  · simp only [Value.ownBlock, Option.some.injEq] at hv
    subst hv
    exact ⟨hb, (Array.getElem?_eq_some_iff.1 hg).elim fun h _ => h⟩
theorem owns_of_block {w w' : World} {base : Nat} {e : TypeId} {k n : Nat} {v : Value} {cs : List Value} (h : w.ownsRow base e k v n cs) (hb : ∀ g, v.ownBlock = some g → base ≤ g → g < w.heap.size → w'.heap[g]? = w.heap[g]?) : w'.ownsRow base e k v n cs := by
  refine ⟨h.1, ?_⟩
  rcases h.2 with h3 | ⟨g, cap, cur, rfl, hbg, hg, rest⟩
  · exact .inl h3
  · refine .inr ⟨g, cap, cur, rfl, hbg, ?_, rest⟩
    rw [hb g rfl hbg ((Array.getElem?_eq_some_iff.1 hg).elim fun h _ => h)]
    exact hg

/-- 'out' gets an operand more. -/
theorem MutS.push {Z : Nat} {w V V1 V3 : World} {R p p1 O gg cap : Nat} {x y : RE} {v : Value} {cs : List Value} {Ay : Option Addr} {cy : Nat} {Fy : List Nat} (h : MutS Z w V R p O x v) (hcs : V.ownsRow w.heap.size 29 3 v x.kids.length cs)
    (hq : ∀ i (hi : i < x.kids.length), RepE (keepW (Kp Z R (w.heap.size + 1) O v) V) (fun j => cs.getD (i * 3 + j) undef) x.kids[i]) (m1 : Mv R V V1) (rd1 : Rd V1 R p1) (hy : OwE V1 (.slice Ay y.kids.length cy) y.kids Fy) (hF : ∀ b ∈ Fy, V.heap.size ≤ b) (hny : y.name.size ≤ 300)
    (hg : (V1.alloc (.cells #[.int .i64 y.op, .string y.name, .slice Ay y.kids.length cy] 29)).grownBy V3 v.ownBlock)
    (hown : V3.ownsRow w.heap.size 29 3 (.slice (some ⟨gg, 0, none⟩) (x.kids.length + 1) cap) (x.kids.length + 1) (cs ++ [.int .i64 y.op, .string y.name, .slice Ay y.kids.length cy])) (hat : v.ownBlock = some gg ∨ gg = V1.heap.size + 1) :
    MutS Z w (V3.setCell ⟨O, 2, none⟩ (.slice (some ⟨gg, 0, none⟩) (x.kids.length + 1) cap)) R p1 O (.mk x.op x.name (x.kids ++ [y])) (.slice (some ⟨gg, 0, none⟩) (x.kids.length + 1) cap) := by
  have hR := h.hR
  have hO := h.hO
  have hsv := h.mv.size
  have hs1 := m1.size
  have hs3 : V1.heap.size + 1 ≤ V3.heap.size := by have := World.grownBy.size hg; simp at this; exact this
  have hol := h.out.lt
  have hrl := h.res.lt
  have hgO : gg ≠ O := by
    rcases hat with e | e
    · exact fun e' => h.ne.1 (by rw [e, e'])
    · omega
  have hgB : gg ≠ w.heap.size + 1 := by
    rcases hat with e | e
    · exact fun e' => h.ne.2 (by rw [e, e'])
    · omega
  have hgb : w.heap.size ≤ gg ∧ gg < V3.heap.size := owns_base hown rfl
  -- a block that is no row stays
  have st : ∀ i, i < V1.heap.size → v.ownBlock ≠ some i → V3.heap[i]? = V1.heap[i]? := fun i hi hn => (World.grownBy.block hg i (by simp; omega) (fun e => hn e.symm)).trans (Go.Deep.blk_alloc_lt _ _ _ hi)
  have mR : ∀ i, i < V.heap.size → i ≠ R → V1.heap[i]? = V.heap[i]? := fun i hi hn => m1.block hi hn
  have hown_lt : ∀ i, v.ownBlock = some i → w.heap.size ≤ i ∧ i < V.heap.size := fun i e => owns_base hcs e
  have mv3 : Mv R w V3 := by
    refine ⟨(World.grownBy.os hg).trans (m1.os.trans h.mv.os), (World.grownBy.tape hg).trans (m1.tape.trans h.mv.tape), (World.grownBy.output hg).trans (m1.output.trans h.mv.output), by omega, fun i hi hne => ?_⟩
    have hiR : i ≠ R := fun e => hne (by rw [e])
    rw [st i (by omega) (fun e => by have := hown_lt i e; omega), mR i (by omega) hiR]
    exact World.grownBy.block h.mv i hi hne
  have hout3 : Own V3 O 29 #[.int .i64 x.op, .string x.name, v] := h.out.of_block ((st O (by omega) h.ne.1).trans (mR O hol (by omega)))
  have hres3 : Own V3 (w.heap.size + 1) 29 #[.int .i64 0, .string ⟨#[]⟩, .slice none 0 0] := h.res.of_block ((st _ (by omega) h.ne.2).trans (mR _ hrl (by omega)))
  have rd3 : Rd V3 R p1 := by
    obtain ⟨A, n, c, h1, hn, hc⟩ := rd1
    refine ⟨A, n, c, h1.of_block (st R (by omega) (fun e => by have := hown_lt R e; omega)), hn, fun i hi => ?_⟩
    obtain ⟨b, f, u, g1, g2, g3, g4⟩ := hc i hi
    refine ⟨b, f, u, g1, g2, ?_, g4⟩
    have hlt := World.block_lt_of_cell? _ _ g3
    rw [World.cell?_of_block (w := V1) (st b hlt (fun e => by have := hown_lt b e; omega))]
    exact g3
  refine ⟨hout3.set 2 _, ?_, ⟨by simpa [Value.ownBlock] using hgO, by simpa [Value.ownBlock] using hgB⟩, hres3.far (by show w.heap.size + 1 ≠ O; omega) _, mv3.setNew (by show w.heap.size ≤ O; omega) _, rd3.setNew (by show R < O; omega) _, hO, hR, h.nm, h.hZ⟩
  -- a cell that may not turn does not
  have cellst : ∀ (a : Addr) (u : Value), a.block ≠ O → a.block < V1.heap.size → v.ownBlock ≠ some a.block → V1.cell? a = some u → (V3.setCell ⟨O, 2, none⟩ (.slice (some ⟨gg, 0, none⟩) (x.kids.length + 1) cap)).cell? a = some u := fun a u hO' hlt hn hc => by
    rw [World.cell?_setCell_far _ _ _ _ (fun e => hO' e.symm), World.cell?_of_block (w := V1) (st a.block hlt hn)]
    exact hc
  have hle : Le (keepW (Kp Z R (w.heap.size + 1) O v) V) (keepW (Kp Z R (w.heap.size + 1) O (.slice (some ⟨gg, 0, none⟩) (x.kids.length + 1) cap)) (V3.setCell ⟨O, 2, none⟩ (.slice (some ⟨gg, 0, none⟩) (x.kids.length + 1) cap))) := Le.keepW fun a u hqa hc => by
    have hlt := World.block_lt_of_cell? _ _ hc
    refine ⟨⟨hqa.1, hqa.2.1, hqa.2.2.1, fun e => ?_⟩, cellst a u hqa.2.1 (by omega) hqa.2.2.2 (m1.cell hc (by have := hqa.1; omega))⟩
    simp only [Value.ownBlock, Option.some.injEq] at e
    rcases hat with e' | e'
    · exact hqa.2.2.2 (by rw [e', e])
    · omega
  have hrow : RowOf 3 (RepE (keepW (Kp Z R (w.heap.size + 1) O (.slice (some ⟨gg, 0, none⟩) (x.kids.length + 1) cap)) (V3.setCell ⟨O, 2, none⟩ (.slice (some ⟨gg, 0, none⟩) (x.kids.length + 1) cap)))) V3 w.heap.size 29 (.slice (some ⟨gg, 0, none⟩) (x.kids.length + 1) cap) (x.kids ++ [y]) := by
    refine RowOf.snoc (fun f g z hfg hz => hz.congr hfg) hcs (fun i hi => RepE.le hle _ _ (hq i hi)) rfl ?_ hown
    refine repE_K.2 ⟨Ay, cy, rfl, rfl, rfl, by omega, ?_⟩
    refine RepEs.le (hy.rep (B := V.heap.size) hF) fun a u hc => ?_
    obtain ⟨h1, h2⟩ := cell_above_lt hc
    have hlt := World.block_lt_of_cell? _ _ h2
    have hn : v.ownBlock ≠ some a.block := fun e => by have := hown_lt _ e; omega
    refine cell_keepW_of ⟨by have := h.hZ; omega, by omega, by omega, fun e => ?_⟩ (cellst a u (by omega) hlt hn h2)
    simp only [Value.ownBlock, Option.some.injEq] at e
    rcases hat with e' | e'
    · exact hn (by rw [e', e])
    · omega
  exact hrow.of_block fun g _ hgv _ => Below.heap_setCell _ _ _ _ (fun e => by simp only [Value.ownBlock, Option.some.injEq] at hgv; exact hgO (by rw [hgv]; exact e))

/-- .. where there is no operand. -/
theorem MutS.empty {Z : Nat} {w V : World} {R p O g : Nat} {x : RE} (hZ : Z < w.heap.size) (hk : x.kids.length = 0) (hout : Own V O 29 #[.int .i64 x.op, .string x.name, .slice (some ⟨g, 0, none⟩) 0 0]) (hg : Own V g 29 #[]) (hgb : w.heap.size ≤ g) (hgO : g ≠ O) (hgB : g ≠ w.heap.size + 1)
    (hres : Own V (w.heap.size + 1) 29 #[.int .i64 0, .string ⟨#[]⟩, .slice none 0 0]) (mv : Mv R w V) (rd : Rd V R p) (hO : w.heap.size + 1 < O) (hR : R < w.heap.size) (hn : x.name.size ≤ 300) : MutS Z w V R p O x (.slice (some ⟨g, 0, none⟩) 0 0) := by
  have hnil : x.kids = [] := List.eq_nil_of_length_eq_zero hk
  refine ⟨hout, ?_, ⟨by simpa [Value.ownBlock] using hgO, by simpa [Value.ownBlock] using hgB⟩, hres, mv, rd, hO, hR, hn, hZ⟩
  rw [hnil]
  exact RowOf.made _ hg hgb

theorem cntL_append (xs ys : List RE) : cntL (xs ++ ys) = cntL xs + cntL ys := by
  induction xs with
  | nil => simp [cntL]
  | cons e es ih => rw [List.cons_append, cntL, cntL, ih]; omega
/-- The frame behind the first statement. -/
def MutQ (Z : Nat) (w : World) (R p : Nat) (x : RE) (arg : Value) (e : Exit) (a : Act) (V : World) : Prop :=
  e = .normal ∧ ∃ (O : Nat) (v u7 u8 u9 u10 u11 u12 u13 u14 u15 : Value), MutS Z w V R p O x v ∧
    a = ⟨#[.pointer (some ⟨R, 0, none⟩), arg, undef, .pointer (some ⟨w.heap.size, 0, none⟩), .pointer (some ⟨w.heap.size + 1, 0, none⟩), .pointer (some ⟨O, 0, none⟩), undef, u7, u8, u9, u10, u11, u12, u13, u14, u15, undef, undef, undef, undef, undef, undef, undef, undef, undef, undef, undef, undef, undef, undef, undef, undef, undef, undef, undef, undef, undef, undef, undef, undef, undef, undef, undef, undef, undef, undef, undef, undef, undef], []⟩

end Go.Proofs.YtapelogbceoojaaDoor
