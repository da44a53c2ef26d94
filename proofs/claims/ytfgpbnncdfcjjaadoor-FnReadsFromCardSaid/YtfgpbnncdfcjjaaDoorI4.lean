/-
  How many pairs a relation has: the library's count of bits, and the walk of CountRel.
-/
import Derived.Test.YtfgpbnncdfcjjaaDoorI3
namespace Go.Proofs.YtfgpbnncdfcjjaaDoor
open Go.RowKit
set_option linter.unusedVariables false
set_option maxRecDepth 100000

def pcN : Nat → Nat → Nat
  | 0, _ => 0
  | k + 1, x => Nat.add (pcN k (Nat.div x 2)) (Nat.mod x 2)
def ocA (x : Nat) : Nat := Nat.add (Nat.land (Nat.div x 2) 6148914691236517205) (Nat.land x 6148914691236517205)
def ocB (x : Nat) : Nat := Nat.add (Nat.land (Nat.div x 4) 3689348814741910323) (Nat.land x 3689348814741910323)
def ocC (x : Nat) : Nat := Nat.land (Nat.add (Nat.div x 16) x) 1085102592571150095
def ocD (x : Nat) : Nat := Nat.add x (Nat.div x 256)
def ocE (x : Nat) : Nat := Nat.add x (Nat.div x 65536)
def ocF (x : Nat) : Nat := Nat.add x (Nat.div x 4294967296)
def ocN (x : Nat) : Nat := Nat.land (ocF (ocE (ocD (ocC (ocB (ocA x)))))) 127
def ocT : Nat → Nat → Bool
  | 0, x => Nat.beq (ocN x) (pcN 16 x)
  | d + 1, x => and (ocT d (Nat.mul 2 x)) (ocT d (Nat.add (Nat.mul 2 x) 1))
set_option maxHeartbeats 4000000 in
theorem oc_all : ocT 16 0 = true := by decide +kernel
theorem ocT_at : ∀ (d x y : Nat), ocT d x = true → y < 2 ^ d → ocN (x * 2 ^ d + y) = pcN 16 (x * 2 ^ d + y)
  | 0, x, y, h, hy => by
    obtain rfl : y = 0 := by simp at hy; exact hy
    have h1 := Nat.eq_of_beq_eq_true (show Nat.beq (ocN x) (pcN 16 x) = true from h)
    simpa using h1
  | d + 1, x, y, h, hy => by
    have h' : (ocT d (2 * x) && ocT d (2 * x + 1)) = true := h
    rw [Bool.and_eq_true] at h'
    rw [Nat.pow_succ] at hy ⊢
    by_cases hlt : y < 2 ^ d
    · have := ocT_at d (2 * x) y h'.1 hlt
      rw [show x * (2 ^ d * 2) + y = 2 * x * 2 ^ d + y by rw [Nat.mul_comm (2 ^ d) 2, ← Nat.mul_assoc, Nat.mul_comm x 2]]
      exact this
    · have := ocT_at d (2 * x + 1) (y - 2 ^ d) h'.2 (by omega)
      rw [show x * (2 ^ d * 2) + y = (2 * x + 1) * 2 ^ d + (y - 2 ^ d) by rw [Nat.mul_comm (2 ^ d) 2, ← Nat.mul_assoc, Nat.mul_comm x 2, Nat.add_mul, Nat.one_mul]; omega]
      exact this
theorem oc_pc {x : Nat} (h : x < 65536) : ocN x = pcN 16 x := by
  have := ocT_at 16 0 x oc_all h
  simpa using this
theorem cntN_low (f : Nat → Bool) : ∀ k, cntN f (k + 1) = (if f 0 = true then 1 else 0) + cntN (fun j => f (j + 1)) k
  | 0 => by simp [cntN]
  | k + 1 => by
    rw [cntN, cntN_low f k, cntN]
    omega
theorem pc_cnt : ∀ (k x : Nat), pcN k x = cntN x.testBit k
  | 0, _ => rfl
  | k + 1, x => by
    rw [cntN_low]
    show pcN k (x / 2) + x % 2 = _
    rw [pc_cnt k (x / 2)]
    have h1 : (fun j => x.testBit (j + 1)) = (x / 2).testBit := by funext j; rw [Nat.testBit_succ]
    rw [h1, Nat.testBit_zero]
    have h2 : x % 2 = 0 ∨ x % 2 = 1 := by omega
    rcases h2 with h2 | h2 <;> rw [h2] <;> simp <;> omega
theorem cntN_trunc (f : Nat → Bool) (n : Nat) : ∀ k, cntN (fun j => decide (j < n) && f j) k = cntN f (min n k)
  | 0 => by simp [cntN]
  | k + 1 => by
    rw [cntN, cntN_trunc f n k]
    by_cases h : k < n
    · rw [show min n k = k by omega, show min n (k + 1) = k + 1 by omega, cntN]
      simp [h]
    · rw [show min n k = n by omega, show min n (k + 1) = n by omega]
      simp [h]
theorem oc_bitN (f : Nat → Bool) {n : Nat} (hn : n ≤ 16) : ocN (bitN f n) = cntN f n := by
  rw [oc_pc (bitN_small f hn), pc_cnt, show (bitN f n).testBit = fun j => decide (j < n) && f j from funext fun j => bitN_bit f n j, cntN_trunc, show min n 16 = n by omega]

theorem ofInt64u (a : Nat) (ha : a < 18446744073709551616) : (BitVec.ofInt 64 (a : Int)).toNat = a := by
  rw [BitVec.ofInt_natCast, BitVec.toNat_ofNat]; exact Nat.mod_eq_of_lt (by omega)
theorem wrap_u64_nat (a : Nat) (h : a < 2 ^ 63) : IntKind.u64.wrap (a : Int) = (a : Int) := IntWalk.u64_in _ ⟨by omega, by omega⟩
theorem bits_and_u64 (a b : Nat) (ha : a < 9223372036854775808) (hb : b < 9223372036854775808) : bits .and .u64 (a : Int) (b : Int) = ((Nat.land a b : Nat) : Int) := by
  have hx : a &&& b < 2 ^ 63 := Nat.and_lt_two_pow _ (by omega)
  show IntKind.u64.wrap ((BitVec.ofInt 64 (a : Int) &&& BitVec.ofInt 64 (b : Int)).toNat : Int) = _
  rw [BitVec.toNat_and, ofInt64 a ha, ofInt64 b hb]
  exact wrap_u64_nat _ hx
theorem land_le (a b : Nat) : Nat.land a b ≤ a := Nat.and_le_left

set_option maxHeartbeats 2000000 in
theorem oc64_any (x : Nat) (hx : x < 65536) (w : World) : Calls Tryd.prog 99 #[.int .u64 (x : Nat)] w (RetQI w (ocN x : Nat)) := by
  obtain ⟨a1, h1⟩ : ∃ a, a = Nat.land (Nat.div x 2) 6148914691236517205 := ⟨_, rfl⟩
  obtain ⟨a2, h2⟩ : ∃ a, a = Nat.land x 6148914691236517205 := ⟨_, rfl⟩
  obtain ⟨s1, k1⟩ : ∃ a, a = a1 + a2 := ⟨_, rfl⟩
  have l1 : a1 ≤ 65536 := by rw [h1]; exact Nat.le_trans (land_le _ _) (Nat.le_trans (Nat.div_le_self _ _) (by omega))
  have l2 : a2 ≤ 65536 := by rw [h2]; exact Nat.le_trans (land_le _ _) (by omega)
  obtain ⟨b1, h3⟩ : ∃ a, a = Nat.land (Nat.div s1 4) 3689348814741910323 := ⟨_, rfl⟩
  obtain ⟨b2, h4⟩ : ∃ a, a = Nat.land s1 3689348814741910323 := ⟨_, rfl⟩
  obtain ⟨s2, k2⟩ : ∃ a, a = b1 + b2 := ⟨_, rfl⟩
  have l3 : b1 ≤ 131072 := by rw [h3]; exact Nat.le_trans (land_le _ _) (Nat.le_trans (Nat.div_le_self _ _) (by omega))
  have l4 : b2 ≤ 131072 := by rw [h4]; exact Nat.le_trans (land_le _ _) (by omega)
  obtain ⟨c1, k3⟩ : ∃ a, a = Nat.div s2 16 + s2 := ⟨_, rfl⟩
  have l5 : Nat.div s2 16 ≤ s2 := Nat.div_le_self _ _
  obtain ⟨s3, h5⟩ : ∃ a, a = Nat.land c1 1085102592571150095 := ⟨_, rfl⟩
  have l6 : s3 ≤ c1 := by rw [h5]; exact land_le _ _
  obtain ⟨s4, k4⟩ : ∃ a, a = s3 + Nat.div s3 256 := ⟨_, rfl⟩
  have l7 : Nat.div s3 256 ≤ s3 := Nat.div_le_self _ _
  obtain ⟨s5, k5⟩ : ∃ a, a = s4 + Nat.div s4 65536 := ⟨_, rfl⟩
  have l8 : Nat.div s4 65536 ≤ s4 := Nat.div_le_self _ _
  obtain ⟨s6, k6⟩ : ∃ a, a = s5 + Nat.div s5 4294967296 := ⟨_, rfl⟩
  have l9 : Nat.div s5 4294967296 ≤ s5 := Nat.div_le_self _ _
  have hr : Hid (ocN x = Nat.land s6 127) := by
    show _ = _
    rw [k6, k5, k4, h5, k3, k2, h3, h4, k1, h1, h2]
    rfl
  have d1 : ∀ a b : Nat, ((a : Int) / (b : Int)) = ((Nat.div a b : Nat) : Int) := fun a b => by rw [← Int.natCast_ediv]; rfl
  have e1 : bits .and .u64 ((x : Int) / 2) 6148914691236517205 = ((a1 : Nat) : Int) := by
    rw [h1, show (2 : Int) = ((2 : Nat) : Int) from rfl, d1]
    exact bits_and_u64 _ _ (Nat.lt_of_le_of_lt (Nat.div_le_self _ _) (by omega)) (by decide)
  have e2 : bits .and .u64 (x : Int) 6148914691236517205 = ((a2 : Nat) : Int) := by rw [h2]; exact bits_and_u64 _ _ (by omega) (by decide)
  have e3 : IntKind.u64.wrap ((a1 : Int) + (a2 : Int)) = ((s1 : Nat) : Int) := by rw [k1, ← Int.natCast_add]; exact wrap_u64_nat _ (by omega)
  have e4 : bits .and .u64 ((s1 : Int) / 4) 3689348814741910323 = ((b1 : Nat) : Int) := by
    rw [h3, show (4 : Int) = ((4 : Nat) : Int) from rfl, d1]
    exact bits_and_u64 _ _ (Nat.lt_of_le_of_lt (Nat.div_le_self _ _) (by omega)) (by decide)
  have e5 : bits .and .u64 (s1 : Int) 3689348814741910323 = ((b2 : Nat) : Int) := by rw [h4]; exact bits_and_u64 _ _ (by omega) (by decide)
  have e6 : IntKind.u64.wrap ((b1 : Int) + (b2 : Int)) = ((s2 : Nat) : Int) := by rw [k2, ← Int.natCast_add]; exact wrap_u64_nat _ (by omega)
  have e7 : IntKind.u64.wrap ((s2 : Int) / 16 + (s2 : Int)) = ((c1 : Nat) : Int) := by rw [k3, show (16 : Int) = ((16 : Nat) : Int) from rfl, d1, ← Int.natCast_add]; exact wrap_u64_nat _ (by omega)
  have e8 : bits .and .u64 (c1 : Int) 1085102592571150095 = ((s3 : Nat) : Int) := by rw [h5]; exact bits_and_u64 _ _ (by omega) (by decide)
  have e9 : IntKind.u64.wrap ((s3 : Int) + (s3 : Int) / 256) = ((s4 : Nat) : Int) := by rw [k4, show (256 : Int) = ((256 : Nat) : Int) from rfl, d1, ← Int.natCast_add]; exact wrap_u64_nat _ (by omega)
  have e10 : IntKind.u64.wrap ((s4 : Int) + (s4 : Int) / 65536) = ((s5 : Nat) : Int) := by rw [k5, show (65536 : Int) = ((65536 : Nat) : Int) from rfl, d1, ← Int.natCast_add]; exact wrap_u64_nat _ (by omega)
  have e11 : IntKind.u64.wrap ((s5 : Int) + (s5 : Int) / 4294967296) = ((s6 : Nat) : Int) := by rw [k6, show (4294967296 : Int) = ((4294967296 : Nat) : Int) from rfl, d1, ← Int.natCast_add]; exact wrap_u64_nat _ (by omega)
  have e12 : IntKind.i64.wrap (s6 : Int) = ((s6 : Nat) : Int) := IntWalk.i64_in _ ⟨by omega, by omega⟩
  have e13 : bits .and .i64 (s6 : Int) 127 = ((Nat.land s6 127 : Nat) : Int) := bits_and_nat s6 127 (by omega) (by decide)
  generalize Nat.land s6 127 = r at hr e13
  clear h1 h2 h3 h4 h5 k1 k2 k3 k4 k5 k6 l1 l2 l3 l4 l5 l6 l7 l8 l9 d1
  go_enter Tryd.func99, Tryd.ntmps99
  go_wp2_with fail
  go_ret
  exact ⟨by rw [hr.out]; rfl, rfl⟩
theorem oc_any (x : Nat) (hx : x < 65536) (w : World) : Calls Tryd.prog 66 #[.int .u64 (x : Nat)] w (RetQI w (ocN x : Nat)) := by
  go_enter Tryd.func66, Tryd.ntmps66
  go_wp2_with fail
  refine (oc64_any x hx _).mono ?_
  rintro e w' ⟨rfl, rfl⟩
  go_wp2_with fail
  go_ret
  exact ⟨rfl, rfl⟩
set_option maxHeartbeats 1000000 in
theorem imCount_any (a : Rel) (n : Nat) (hn : n ≤ 16) (w : World) (A : Option Addr) (c : Nat) (ha : Ints w A c (relN a n)) :
    Calls Tryd.prog 27 #[.slice A n c] w (RetI w (cntR a n n : Nat)) := by
  go_enter Tryd.func27, Tryd.ntmps27
  go_wp2_with fail
  refine (relValid_any a n hn w A c ha).mono ?_
  rintro e0 w0 ⟨rfl, hb0⟩
  have ha0 := ha.le (Le.below hb0)
  go_wp2_with fail
  go_loopg [3, 5, 11] n (fun g s3 s5 s11 wr => ∃ i : Nat, i ≤ n ∧ g = n - i ∧ s3 = .int .i64 ((cntR a n i : Nat) : Int) ∧ s11 = .int .i64 i ∧ w0 = wr)
  case atStart => exact ⟨0, Nat.zero_le _, rfl, rfl, rfl, rfl⟩
  case round =>
    obtain ⟨i, hin, rfl, rfl, rfl, rfl⟩ := hrel
    by_cases hlt : i < n
    · have hci : cntR a n i ≤ 256 := by
        have h1 := cntR_le a n i
        have h2 : i * n ≤ 16 * 16 := Nat.mul_le_mul (by omega) hn
        omega
      have Hci : Hid (cntR a n (i + 1) = cntR a n i + ocN (bitN (a i) n)) := by show _ = _; rw [oc_bitN _ hn]; rfl
      have hoc : ocN (bitN (a i) n) ≤ 16 := by rw [oc_bitN _ hn]; have := cntN_le (a i) n; omega
      obtain ⟨b, o, rfl, hbl, k0⟩ := relN_ints ha0 hlt
      have hc := oc_any (bitN (a i) n) (bitN_small _ hn) w0
      have hbs := bitN_small (a i) hn
      generalize cntR a n i = ci at hci Hci
      generalize bitN (a i) n = x at k0 hc Hci hoc hbs
      generalize ocN x = y at hc Hci hoc
      go_wp2_with fail
      refine hc.mono ?_
      rintro e5 w5 ⟨rfl, rfl⟩
      go_wp2_with fail
      go_roundg (n - (i + 1))
      case measure => omega
      case rel => exact ⟨i + 1, by omega, rfl, by rw [Hci.out]; go_num, by go_num, rfl⟩
    · obtain rfl : i = n := by omega
      go_wp2_with fail
      go_ret
      exact ⟨rfl, hb0⟩

end Go.Proofs.YtfgpbnncdfcjjaaDoor
