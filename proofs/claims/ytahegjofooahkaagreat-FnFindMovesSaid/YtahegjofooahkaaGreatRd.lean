/-
  The reference's source of choices: a pointer to a struct of a slice of bytes and a count. A call moves only the count, and makes new memory. The walks of l17Open, pick, num.
-/
import Derived.Test.YtahegjofooahkaaGreatOwA
namespace Go.Proofs.YtahegjofooahkaaGreat
open Go.RowKit
set_option linter.unusedVariables false
set_option maxRecDepth 100000

/-- The source lies in block R: its bytes elsewhere, its count p. -/
def Rd (w : World) (R : Nat) (p : Nat) : Prop :=
  ∃ A n c, Own w R 98 #[.slice A n c, .int .i64 p] ∧ n ≤ 2000 ∧ ∀ i, i < n → ∃ b o v, A = some ⟨b, o, none⟩ ∧ b < R ∧ w.cell? ⟨b, o + i, none⟩ = some (.int .u8 v) ∧ 0 ≤ v ∧ v ≤ 255
theorem Rd.lt {w : World} {R p : Nat} (h : Rd w R p) : R < w.heap.size := by
  obtain ⟨A, n, c, h, _⟩ := h
  exact h.lt
theorem Rd.alloc {w : World} {R p : Nat} (h : Rd w R p) (o : Obj) : Rd (w.alloc o) R p := by
  obtain ⟨A, n, c, h, hn, hb⟩ := h
  refine ⟨A, n, c, h.alloc o, hn, fun i hi => ?_⟩
  obtain ⟨b, f, v, h1, h2, h3, h4⟩ := hb i hi
  exact ⟨b, f, v, h1, h2, Le.alloc _ _ _ _ h3, h4⟩
theorem Rd.below {w w' : World} {R p : Nat} (h : Rd w R p) (hb : Below w.heap.size w w') : Rd w' R p := by
  obtain ⟨A, n, c, h, hn, hc⟩ := h
  refine ⟨A, n, c, h.under hb, hn, fun i hi => ?_⟩
  obtain ⟨b, f, v, h1, h2, h3, h4⟩ := hc i hi
  exact ⟨b, f, v, h1, h2, Le.below hb _ _ h3, h4⟩
theorem Rd.drewN {w : World} {R p : Nat} (h : Rd w R p) (n : Nat) : Rd (w.drewN n) R p := h
theorem Rd.drew {w : World} {R p : Nat} (h : Rd w R p) : Rd w.drew R p := h
/-- A store into a block made later. -/
theorem Rd.setNew {w : World} {R p : Nat} (h : Rd w R p) {q : Addr} (hq : R < q.block) (v : Value) : Rd (w.setCell q v) R p := by
  obtain ⟨A, n, c, h, hn, hc⟩ := h
  refine ⟨A, n, c, h.far (by omega) v, hn, fun i hi => ?_⟩
  obtain ⟨b, f, u, h1, h2, h3, h4⟩ := hc i hi
  refine ⟨b, f, u, h1, h2, ?_, h4⟩
  rw [World.cell?_setCell_other _ _ _ _ (fun e => by subst e; simp at hq; omega)]
  exact h3
theorem bits_xor_i64_nat (a b : Nat) (ha : a < 9223372036854775808) (hb : b < 9223372036854775808) : bits .xor .i64 (a : Int) (b : Int) = ((a ^^^ b : Nat) : Int) := by
  have hx : a ^^^ b < 2 ^ 63 := Nat.xor_lt_two_pow (by omega) (by omega)
  have h1 : (BitVec.ofInt 64 (a : Int)).toNat = a := by
    rw [BitVec.ofInt_natCast, BitVec.toNat_ofNat]; exact Nat.mod_eq_of_lt (by omega)
  have h2 : (BitVec.ofInt 64 (b : Int)).toNat = b := by
    rw [BitVec.ofInt_natCast, BitVec.toNat_ofNat]; exact Nat.mod_eq_of_lt (by omega)
  show IntKind.i64.wrap ((BitVec.ofInt 64 (a : Int) ^^^ BitVec.ofInt 64 (b : Int)).toNat : Int) = _
  rw [BitVec.toNat_xor, h1, h2]
  rw [IntKind.wrap_i64]
  omega
theorem xor_mod (X n : Int) (h0 : 0 ≤ X) (h1 : X ≤ 1125899906842624) (hn : 1 ≤ n) : 0 ≤ (bits .xor .i64 X (X / 64)).tmod n ∧ (bits .xor .i64 X (X / 64)).tmod n < n := by
  obtain ⟨a, rfl⟩ : ∃ a : Nat, X = a := ⟨X.toNat, by omega⟩
  rw [show ((a : Int) / 64) = ((a / 64 : Nat) : Int) by omega, bits_xor_i64_nat _ _ (by omega) (by omega)]
  exact ⟨Int.tmod_nonneg _ (by omega), Int.tmod_lt_of_pos _ (by omega)⟩

def RetPick (w : World) (R : Nat) (p : Nat) (n : Int) (e : Ending) (w' : World) : Prop := ∃ v : Int, e = .returned (.int .i64 v) ∧ 0 ≤ v ∧ (0 < n → v < n) ∧ Mv R w w' ∧ Rd w' R (p + 1)

set_option maxHeartbeats 1000000 in
theorem pick_any (w : World) (R p : Nat) (n : Int) (hp : p ≤ 1099511627776) (hr : Rd w R p) :
    Calls Tryz.prog 49 #[.pointer (some ⟨R, 0, none⟩), .int .i64 n] w (RetPick w R p n) := by
  obtain ⟨A, len, c, own, hlen, hb⟩ := hr
  have q0 := own.cell (i := 0) rfl
  have q1 := own.cell (i := 1) rfl
  have q2 := own.frozen 1
  have d0 : (w.setCell ⟨R, 1, none⟩ (.int .i64 ((p : Int) + 1))).cell? ⟨R, 0, none⟩ = some (.slice A len c) := (own.set 1 _).cell rfl
  have hRd : Rd (w.setCell ⟨R, 1, none⟩ (.int .i64 ((p : Int) + 1))) R (p + 1) := by
    refine ⟨A, len, c, ?_, hlen, fun i hi => ?_⟩
    · have := own.set 1 (.int .i64 ((p : Int) + 1))
      exact this
    · obtain ⟨b, o, v, h1, h2, h3, h4⟩ := hb i hi
      exact ⟨b, o, v, h1, h2, by rw [World.cell?_setCell_other _ _ _ _ (fun e => by injection e with e; omega)]; exact h3, h4⟩
  have hm : Mv R w (w.setCell ⟨R, 1, none⟩ (.int .i64 ((p : Int) + 1))) := (Mv.refl _ _).setR _ _
  have HRd := Lib.hid hRd
  have Hm := Lib.hid hm
  clear hRd hm
  go_enter Tryz.func49, Tryz.ntmps49
  by_cases hn1 : n < 1
  · have b1 : decide (n < 1) = true := by rw [decide_eq_true_iff]; exact hn1
    go_wp2_with fail
    go_ret
    exact ⟨0, rfl, by omega, by omega, Hm.out, HRd.out⟩
  have b1 : decide (n < 1) = false := by rw [decide_eq_false_iff_not]; exact hn1
  by_cases hl : len = 0
  · subst hl
    go_wp2_with fail
    go_ret
    exact ⟨0, rfl, by omega, by omega, Hm.out, HRd.out⟩
  have hl0 : ((len : Int) == 0) = false := by simpa using hl
  by_cases hpl : p < len
  · obtain ⟨b, o, v, rfl, hbR, hc, hv0, hv1⟩ := hb p hpl
    have d1 : (w.setCell ⟨R, 1, none⟩ (.int .i64 ((p : Int) + 1))).cell? ⟨b, o + p, none⟩ = some (.int .u8 v) := by rw [World.cell?_setCell_other _ _ _ _ (fun e => by injection e with e; omega)]; exact hc
    have m0 := Int.emod_nonneg v (show n ≠ 0 by omega)
    have m1 := Int.emod_lt_of_pos v (show 0 < n by omega)
    go_wp2_with fail
    go_ret
    exact ⟨_, rfl, m0, fun _ => m1, Hm.out, HRd.out⟩
  · have hlp : 0 < len := by omega
    have h1lt : p % len < len := Nat.mod_lt _ hlp
    have h2lt : (p * 7 + 3) % len < len := Nat.mod_lt _ hlp
    obtain ⟨b, o, v, rfl, hbR, hc, hv0, hv1⟩ := hb _ h1lt
    obtain ⟨b', o', v', e0, _, hc', hv0', hv1'⟩ := hb _ h2lt
    simp only [Option.some.injEq, Addr.mk.injEq, and_true] at e0
    obtain ⟨rfl, rfl⟩ := e0
    have d1 : (w.setCell ⟨R, 1, none⟩ (.int .i64 ((p : Int) + 1))).cell? ⟨b, o + p % len, none⟩ = some (.int .u8 v) := by rw [World.cell?_setCell_other _ _ _ _ (fun e => by injection e with e; omega)]; exact hc
    have d2 : (w.setCell ⟨R, 1, none⟩ (.int .i64 ((p : Int) + 1))).cell? ⟨b, o + (p * 7 + 3) % len, none⟩ = some (.int .u8 v') := by rw [World.cell?_setCell_other _ _ _ _ (fun e => by injection e with e; omega)]; exact hc'
    have i1 : ((p : Int) % (len : Int)) < (len : Int) := Int.emod_lt_of_pos _ (by omega)
    have i2 : (((p : Int) * 7 + 3) % (len : Int)) < (len : Int) := Int.emod_lt_of_pos _ (by omega)
    have i3 : (0 : Int) ≤ (p : Int) % (len : Int) := Int.emod_nonneg _ (by omega)
    have i4 : (0 : Int) ≤ ((p : Int) * 7 + 3) % (len : Int) := Int.emod_nonneg _ (by omega)
    have i5 : (0 : Int) ≤ (p : Int) / (len : Int) := Int.ediv_nonneg (by omega) (by omega)
    have i6 : (p : Int) / (len : Int) ≤ p := Int.ediv_le_self _ (by omega)
    have t1 : ((p : Int) % (len : Int)).toNat = p % len := by rw [← Int.natCast_emod, Int.toNat_natCast]
    have t2 : (((p : Int) * 7 + 3) % (len : Int)).toNat = (p * 7 + 3) % len := by rw [show ((p : Int) * 7 + 3) = ((p * 7 + 3 : Nat) : Int) by omega, ← Int.natCast_emod, Int.toNat_natCast]
    clear hb hc hc' own h1lt h2lt
    go_wp2_with fail
    go_quiet (fail)
    obtain ⟨X, hX⟩ : ∃ X, X = v * 131 + v' * 1117 + (p : Int) * 29 + (p : Int) / (len : Int) * 53 := ⟨_, rfl⟩
    rw [← hX]
    have hX0 : 0 ≤ X := by omega
    have hX1 : X ≤ 1125899906842624 := by omega
    have hX2 : X / 64 ≤ X := Int.ediv_le_self _ hX0
    have hX3 : 0 ≤ X / 64 := Int.ediv_nonneg hX0 (by omega)
    clear hX i1 i2 i3 i4 i5 i6 t1 t2 d0 d1 d2
    go_wp2_with fail
    go_ret
    obtain ⟨m0, m1⟩ := xor_mod X n hX0 hX1 (by omega)
    exact ⟨_, rfl, m0, fun _ => m1, Hm.out.drewN _, HRd.out.drewN _⟩

/-- A slice of bytes as it was handed in. -/
def Bys (w : World) (A : Option Addr) (n : Nat) : Prop := n ≤ 9223372036854775807 ∧ ∀ i, i < n → ∃ b o v, A = some ⟨b, o, none⟩ ∧ w.cell? ⟨b, o + i, none⟩ = some (.int .u8 v) ∧ 0 ≤ v ∧ v ≤ 255

def RetOpen (w : World) (e : Ending) (w' : World) : Prop := ∃ R : Nat, e = .returned (.pointer (some ⟨R, 0, none⟩)) ∧ w.heap.size ≤ R ∧ Rd w' R 0 ∧ Below w.heap.size w w'

set_option maxHeartbeats 400000 in
theorem open_any (w : World) (A : Option Addr) (n c : Nat) (h : Bys w A n) (hnc : n ≤ c) (hA : A = none → n = 0) : Calls Tryz.prog 47 #[.slice A n c] w (RetOpen w) := by
  have mk : ∀ m : Nat, m ≤ n → m ≤ 2000 → Rd (w.alloc (.cells #[.slice A m c, .int .i64 0] 98)) w.heap.size 0 := fun m hm h2 =>
    ⟨A, m, c, Own.new _ _ _, h2, fun i hi => by
      obtain ⟨b, o, v, h1, h3, h4⟩ := h.2 i (by omega)
      exact ⟨b, o, v, h1, World.block_lt_of_cell? _ _ h3, Le.alloc _ _ _ _ h3, h4⟩⟩
  have Mk := Lib.hid mk
  have hn := h.1
  clear mk h
  go_enter Tryz.func47, Tryz.ntmps47
  by_cases h2 : 2000 < n
  · have b2 : decide ((n : Int) > 2000) = true := by rw [decide_eq_true_iff]; omega
    go_wp2_with fail
    go_ret
    exact ⟨_, rfl, Nat.le_refl _, Mk.out 2000 (by omega) (by omega), (Below.refl _ _).alloc (Nat.le_refl _) _⟩
  · have b2 : decide ((n : Int) > 2000) = false := by rw [decide_eq_false_iff_not]; omega
    go_wp2_with fail
    go_ret
    exact ⟨_, rfl, Nat.le_refl _, Mk.out n (Nat.le_refl _) (by omega), (Below.refl _ _).alloc (Nat.le_refl _) _⟩

def RetNum (w : World) (R p : Nat) (xs : List Int) (e : Ending) (w' : World) : Prop := ∃ x : Int, e = .returned (.int .i64 x) ∧ x ∈ xs ∧ Mv R w w' ∧ Rd w' R (p + 1)

set_option maxHeartbeats 400000 in
theorem num_any (w : World) (R p : Nat) (A : Option Addr) (c : Nat) (xs : List Int) (hp : p ≤ 1099511627776) (hr : Rd w R p) (hx : Ints (above (R + 1) w) A c xs) (hne : 0 < xs.length) :
    Calls Tryz.prog 51 #[.pointer (some ⟨R, 0, none⟩), .slice A xs.length c] w (RetNum w R p xs) := by
  have hm := hx.len
  have hpk := pick_any w R p xs.length hp hr
  go_enter Tryz.func51, Tryz.ntmps51
  go_wp2_with fail
  refine hpk.mono ?_
  rintro e1 w1 ⟨v, rfl, h0, hlt, m, r1⟩
  obtain ⟨i, rfl⟩ : ∃ i : Nat, v = i := ⟨v.toNat, by omega⟩
  have hi : i < xs.length := by have := hlt (by omega); omega
  obtain ⟨b, o, rfl, hbl, hc⟩ := (hx.le m.above).get hi
  have hc' := (cell_above_lt hc).2
  have hii : (i : Int) < (xs.length : Int) := by omega
  clear hx hlt hpk hc hbl h0
  go_wp2_with fail
  go_ret
  exact ⟨_, rfl, List.getElem_mem hi, m, r1⟩

/-- A literal slice of ints, just made. -/
theorem ints_lit {w : World} {R b n : Nat} {cs : Array Value} {t : TypeId} (xs : List Int) (h : Own w b t cs) (hb : R < b) (hl : xs.length = n) (hn : n ≤ 100) (hc : ∀ i (hi : i < xs.length), cs[i]? = some (.int .i64 xs[i])) : Ints (above (R + 1) w) (some ⟨b, 0, none⟩) n xs :=
  Ints.mk (by omega) fun i hi => cell_above_of (by show R + 1 ≤ b; omega) (by rw [Nat.zero_add]; exact h.cell (hc i hi))

theorem rd_grown {R p : Nat} {X w1 : World} {row : Option Nat} (h : Rd X R p) (g : X.grownBy w1 row) (hr : ∀ x, row = some x → R < x) : Rd w1 R p := by
  obtain ⟨A, n, c, h, hn, hc⟩ := h
  refine ⟨A, n, c, h.of_block (World.grownBy.block g R h.lt (fun e => by have := hr R e.symm; omega)), hn, fun i hi => ?_⟩
  obtain ⟨b, f, v, h1, h2, h3, h4⟩ := hc i hi
  refine ⟨b, f, v, h1, h2, ?_, h4⟩
  rw [World.cell?_of_block (w := X) (World.grownBy.block g b (World.block_lt_of_cell? _ _ h3) (fun e => by have := hr b e.symm; omega))]
  exact h3

end Go.Proofs.YtahegjofooahkaaGreat
