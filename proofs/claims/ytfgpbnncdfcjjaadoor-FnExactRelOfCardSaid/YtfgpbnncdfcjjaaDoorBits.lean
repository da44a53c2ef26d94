/-
  Bits of numbers as the walks write them. No program in sight.
-/
import Derived.Test.YtfgpbnncdfcjjaaDoorRelP
namespace Go.Proofs.YtfgpbnncdfcjjaaDoor
open Go.RowKit
set_option linter.unusedVariables false
set_option maxRecDepth 100000

theorem ofInt64 (a : Nat) (ha : a < 9223372036854775808) : (BitVec.ofInt 64 (a : Int)).toNat = a := by
  rw [BitVec.ofInt_natCast, BitVec.toNat_ofNat]; exact Nat.mod_eq_of_lt (by omega)
theorem bits_or_nat (a b : Nat) (ha : a < 9223372036854775808) (hb : b < 9223372036854775808) : bits .or .i64 (a : Int) (b : Int) = ((a ||| b : Nat) : Int) := by
  have hx : a ||| b < 2 ^ 63 := Nat.or_lt_two_pow (by omega) (by omega)
  show IntKind.i64.wrap ((BitVec.ofInt 64 (a : Int) ||| BitVec.ofInt 64 (b : Int)).toNat : Int) = _
  rw [BitVec.toNat_or, ofInt64 a ha, ofInt64 b hb, IntKind.wrap_i64]
  omega
theorem bits_and_nat (a b : Nat) (ha : a < 9223372036854775808) (hb : b < 9223372036854775808) : bits .and .i64 (a : Int) (b : Int) = ((a &&& b : Nat) : Int) := by
  have hx : a &&& b < 2 ^ 63 := Nat.and_lt_two_pow _ (by omega)
  show IntKind.i64.wrap ((BitVec.ofInt 64 (a : Int) &&& BitVec.ofInt 64 (b : Int)).toNat : Int) = _
  rw [BitVec.toNat_and, ofInt64 a ha, ofInt64 b hb, IntKind.wrap_i64]
  omega
theorem wrap_pow (k : Nat) (hk : k < 62) : IntKind.i64.wrap ((2 : Int) ^ k) = ((1 <<< k : Nat) : Int) := by
  have h1 : 2 ^ k < 2 ^ 62 := Nat.pow_lt_pow_right (by omega) hk
  have h2 : ((2 : Int) ^ k) = ((2 ^ k : Nat) : Int) := by simp
  rw [Nat.shiftLeft_eq, Nat.one_mul, h2]
  generalize 2 ^ k = m at h1
  exact IntWalk.i64_in _ ⟨by omega, by omega⟩
theorem shl_lt (k : Nat) (hk : k < 62) : 1 <<< k < 9223372036854775808 := by
  rw [Nat.shiftLeft_eq, Nat.one_mul]
  have : 2 ^ k < 2 ^ 62 := Nat.pow_lt_pow_right (by omega) hk
  omega
/-- 'row | 1<<k'. -/
theorem or_bit (a k : Nat) (ha : a < 9223372036854775808) (hk : k < 62) : bits .or .i64 (a : Int) (IntKind.i64.wrap ((2 : Int) ^ k)) = ((a ||| 1 <<< k : Nat) : Int) := by
  rw [wrap_pow k hk]
  exact bits_or_nat _ _ ha (shl_lt k hk)
theorem bitN_small (f : Nat → Bool) {n : Nat} (h : n ≤ 16) : bitN f n < 65536 := by
  have h1 := bitN_lt f n
  have h2 : 2 ^ n ≤ 2 ^ 16 := Nat.pow_le_pow_right (by omega) h
  omega
theorem bitN_step (f : Nat → Bool) (k : Nat) (hk : k < 16) (h : f k = true) : bits .or .i64 ((bitN f k : Nat) : Int) (IntKind.i64.wrap ((2 : Int) ^ k)) = ((bitN f (k + 1) : Nat) : Int) := by
  have := bitN_small f (n := k) (by omega)
  rw [or_bit _ _ (by omega) (by omega), bitN, if_pos h]
/-- 'row>>k&1 == 1'. -/
theorem bit_test (a k : Nat) (ha : a < 9223372036854775808) : (bits .and .i64 ((a : Int) / 2 ^ k) 1 == 1) = a.testBit k := by
  have h1 : ((a : Int) / 2 ^ k) = ((a / 2 ^ k : Nat) : Int) := by simp
  have h2 : a / 2 ^ k ≤ a := Nat.div_le_self _ _
  rw [h1, show (1 : Int) = ((1 : Nat) : Int) from rfl, bits_and_nat _ _ (by omega) (by omega)]
  rw [Nat.testBit_eq_decide_div_mod_eq, Nat.and_one_is_mod, Bool.eq_iff_iff, beq_iff_eq, decide_eq_true_iff]
  omega

end Go.Proofs.YtfgpbnncdfcjjaaDoor
