/-
  Operations on relations that are rows of bits. No program in sight.
-/
import Derived.Test.YtfgpbnncdfcjjaaDoorBits
namespace Go.Proofs.YtfgpbnncdfcjjaaDoor
open Go.RowKit
set_option linter.unusedVariables false
set_option maxRecDepth 100000

abbrev Rel := Nat → Nat → Bool
theorem bitN_ext {n : Nat} {a : Nat} {f : Nat → Bool} (h : ∀ k, a.testBit k = (decide (k < n) && f k)) : a = bitN f n := Nat.eq_of_testBit_eq fun k => by rw [h, bitN_bit]
theorem bitN_or (f g : Nat → Bool) (n : Nat) : bitN f n ||| bitN g n = bitN (fun k => f k || g k) n := bitN_ext fun k => by
  rw [Nat.testBit_or, bitN_bit, bitN_bit]
  cases decide (k < n) <;> simp
theorem bitN_and (f g : Nat → Bool) (n : Nat) : bitN f n &&& bitN g n = bitN (fun k => f k && g k) n := bitN_ext fun k => by
  rw [Nat.testBit_and, bitN_bit, bitN_bit]
  cases decide (k < n) <;> simp
theorem bitN_set (f : Nat → Bool) {n i : Nat} (hi : i < n) : bitN f n ||| 1 <<< i = bitN (fun s => f s || decide (s = i)) n := bitN_ext fun k => by
  rw [Nat.testBit_or, bitN_bit, Nat.shiftLeft_eq, Nat.one_mul, Nat.testBit_two_pow]
  by_cases hk : k < n
  · have e : decide (i = k) = decide (k = i) := decide_eq_decide.2 ⟨fun h => h.symm, fun h => h.symm⟩
    simp [hk, e]
  · have : ¬ i = k := by omega
    simp [hk, this]
theorem andNot_nat (a b : Nat) (ha : a < 9223372036854775808) (hb : b < 9223372036854775808) : ∃ c : Nat, bits .andNot .i64 (a : Int) (b : Int) = (c : Int) ∧ c < 9223372036854775808 ∧ ∀ k, c.testBit k = (a.testBit k && !b.testBit k) := by
  refine ⟨a &&& (2 ^ 64 - 1 - b), ?_, Nat.lt_of_le_of_lt Nat.and_le_left ha, fun k => ?_⟩
  · have hx : a &&& (2 ^ 64 - 1 - b) ≤ a := Nat.and_le_left
    show IntKind.i64.wrap ((BitVec.ofInt 64 (a : Int) &&& ~~~BitVec.ofInt 64 (b : Int)).toNat : Int) = _
    rw [BitVec.toNat_and, BitVec.toNat_not, ofInt64 a ha, ofInt64 b hb, IntKind.wrap_i64]
    omega
  · rw [Nat.testBit_and]
    by_cases hk : k < 64
    · congr 1
      have h2 : b < 2 ^ 64 := by omega
      rw [show 2 ^ 64 - 1 - b = 2 ^ 64 - (b + 1) by omega, Nat.testBit_two_pow_sub_succ h2 k]
      simp [hk]
    · have h1 : a.testBit k = false := Nat.testBit_lt_two_pow (Nat.lt_of_lt_of_le ha (Nat.le_trans (by decide : 9223372036854775808 ≤ 2 ^ 64) (Nat.pow_le_pow_right (by omega) (by omega))))
      rw [h1]; rfl
theorem andNot_bitN (f g : Nat → Bool) {n : Nat} (h : n ≤ 16) : bits .andNot .i64 ((bitN f n : Nat) : Int) ((bitN g n : Nat) : Int) = ((bitN (fun k => f k && !g k) n : Nat) : Int) := by
  have h1 := bitN_small f h
  have h2 := bitN_small g h
  obtain ⟨c, e, _, hc⟩ := andNot_nat (bitN f n) (bitN g n) (by omega) (by omega)
  rw [e]
  congr 1
  refine bitN_ext fun k => ?_
  rw [hc, bitN_bit, bitN_bit]
  cases decide (k < n) <;> simp
theorem or_bitN (f g : Nat → Bool) {n : Nat} (h : n ≤ 16) : bits .or .i64 ((bitN f n : Nat) : Int) ((bitN g n : Nat) : Int) = ((bitN (fun k => f k || g k) n : Nat) : Int) := by
  have h1 := bitN_small f h
  have h2 := bitN_small g h
  rw [bits_or_nat _ _ (by omega) (by omega), bitN_or]
theorem and_bitN (f g : Nat → Bool) {n : Nat} (h : n ≤ 16) : bits .and .i64 ((bitN f n : Nat) : Int) ((bitN g n : Nat) : Int) = ((bitN (fun k => f k && g k) n : Nat) : Int) := by
  have h1 := bitN_small f h
  have h2 := bitN_small g h
  rw [bits_and_nat _ _ (by omega) (by omega), bitN_and]
theorem set_bitN (f : Nat → Bool) {n i : Nat} (h : n ≤ 16) (hi : i < n) : bits .or .i64 ((bitN f n : Nat) : Int) (IntKind.i64.wrap ((2 : Int) ^ i)) = ((bitN (fun s => f s || decide (s = i)) n : Nat) : Int) := by
  have h1 := bitN_small f h
  rw [or_bit _ _ (by omega) (by omega), bitN_set f hi]
/-- 'related(r, i, k)', 'l2Has(r, i, k)'. -/
theorem test_bitN (f : Nat → Bool) {n k : Nat} (h : n ≤ 16) (hk : k < n) : (bits .and .i64 (((bitN f n : Nat) : Int) / 2 ^ k) 1 == 1) = f k := by
  have h1 := bitN_small f h
  rw [bit_test _ _ (by omega), bitN_bit, decide_eq_true hk, Bool.true_and]

/-! ### The operations -/
def unR (a b : Rel) : Rel := fun i k => a i k || b i k
def meR (a b : Rel) : Rel := fun i k => a i k && b i k
def miR (a b : Rel) : Rel := fun i k => a i k && !b i k
def inR (a : Rel) : Rel := fun i k => a k i
def coR (n : Nat) (a b : Rel) : Rel := fun i k => (List.range n).any fun t => a i t && b t k
/-- One middle element more. -/
def clS (m : Nat) (a : Rel) : Rel := fun i k => a i k || (a i m && a m k)
def clR : Nat → Rel → Rel
  | 0, a => a
  | m + 1, a => clS m (clR m a)
theorem co_step (n m : Nat) (a b : Rel) (i : Nat) (hm : m < n) (h : a i m = true) (f : Nat → Bool) (hf : ∀ k, f k = (List.range m).any fun t => a i t && b t k) : (fun k => f k || b m k) = fun k => (List.range (m + 1)).any fun t => a i t && b t k := by
  funext k
  rw [List.range_succ, List.any_append, hf]
  simp [h]
theorem any_range_succ (m : Nat) (g : Nat → Bool) : (List.range (m + 1)).any g = ((List.range m).any g || g m) := by
  rw [List.range_succ, List.any_append]
  simp
/-- A list of numbers that is such a relation. -/
def IsRel (n : Nat) (xs : List Int) : Prop := n ≤ 16 ∧ ∃ a : Rel, xs = relN a n

end Go.Proofs.YtfgpbnncdfcjjaaDoor
