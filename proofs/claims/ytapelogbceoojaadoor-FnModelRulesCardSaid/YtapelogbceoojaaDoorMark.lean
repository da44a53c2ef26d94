/-
  The walk of markText: a number's text.
-/
import Derived.Test.YtapelogbceoojaaDoorWText
namespace Go.Proofs.YtapelogbceoojaaDoor
open Go.RowKit
set_option linter.unusedVariables false
set_option maxRecDepth 100000

/-- The digits of a number, in front of a text. -/
def dg : Nat → Nat → ByteArray → ByteArray
  | 0, _, out => out
  | f + 1, k, out => if k = 0 then out else dg f (k / 10) (⟨#[UInt8.ofNat (48 + k % 10)]⟩ ++ out)
def mkT (k : Nat) : ByteArray := ⟨#[109]⟩ ++ dg 20 k ⟨#[]⟩
theorem dg_zero (f : Nat) (out : ByteArray) : dg f 0 out = out := by cases f <;> simp [dg]
theorem dg_succ (f k : Nat) (out : ByteArray) (h : 0 < k) : dg (f + 1) k out = dg f (k / 10) (⟨#[UInt8.ofNat (48 + k % 10)]⟩ ++ out) := by
  rw [dg, if_neg (by omega)]

theorem conv1 (w : World) (n : Int) : (convert 33 9 (.slice (some ⟨w.heap.size, 0, none⟩) 1 1)).run Tryd.prog (w.alloc (.cells #[.int .u8 n] 5)) = .ok (.string ⟨#[UInt8.ofNat n.toNat]⟩) (w.alloc (.cells #[.int .u8 n] 5)) := by
  rw [run_convert_bytes_string _ _ _ 5 _ _ _ Tryd.underlying33 Tryd.underlying5 Tryd.underlying9]
  refine (run_bytesToString _ _ _ _ [n] (run_loadCells_list _ _ [Value.int .u8 n] fun j v h => ?_)).trans rfl
  match j, h with
  | 0, h => injection h with h; subst h; simp [Addr.add]

theorem dg_size (f : Nat) : ∀ (k : Nat) (out : ByteArray), (dg f k out).size ≤ out.size + f := by
  induction f with
  | zero => intro k out; rw [dg]; omega
  | succ f ih =>
    intro k out
    rw [dg]
    split
    · omega
    · refine Nat.le_trans (ih _ _) ?_
      rw [ByteArray.size_append, ByteArray.size_mk']
      simp
      omega
theorem mkT_size (k : Nat) : (mkT k).size ≤ 21 := by
  unfold mkT
  have := dg_size 20 k ⟨#[]⟩
  rw [ByteArray.size_append, ByteArray.size_mk']
  have h : ByteArray.size ⟨#[]⟩ = 0 := rfl
  simp
  omega

set_option maxHeartbeats 1000000 in
theorem markText_any (k : Nat) (w : World) (h0 : 0 < k) (hk : k < 10 ^ 18) : Calls Tryd.prog 76 #[.int .i64 k] w (RetStr w (mkT k)) := by
  have b0 : decide (k = 0) = false := by rw [decide_eq_false_iff_not]; omega
  have hk0 : k ≠ 0 := by omega
  go_enter Tryd.func76, Tryd.ntmps76
  go_wp2_with fail
  go_loopg [0, 3] 20 (fun g s0 s3 wr => ∃ (f j : Nat) (out : ByteArray), f ≤ 20 ∧ g = f ∧ s0 = .int .i64 j ∧ s3 = .string out ∧ j < 10 ^ 18 ∧ out.size + f = 20 ∧ Hid (j < 10 ^ f ∧ dg f j out = dg 20 k ⟨#[]⟩) ∧ Below w.heap.size w wr)
  case atStart => exact ⟨20, k, ⟨#[]⟩, by omega, rfl, rfl, rfl, hk, rfl, ⟨by omega, rfl⟩, Below.refl _ _⟩
  case round =>
    obtain ⟨f, j, out, hf, rfl, rfl, rfl, hj, hsz, hat, hb⟩ := hrel
    by_cases hj0 : 0 < j
    · obtain ⟨f', rfl⟩ : ∃ f', gk = f' + 1 := by
        cases gk with
        | zero => have := hat.out.1; omega
        | succ f => exact ⟨f, rfl⟩
      have hat' : j / 10 < 10 ^ f' ∧ dg f' (j / 10) (⟨#[UInt8.ofNat (48 + j % 10)]⟩ ++ out) = dg 20 k ⟨#[]⟩ := by
        obtain ⟨h1, h2⟩ := hat.out
        rw [dg_succ _ _ _ hj0] at h2
        rw [Nat.pow_succ] at h1
        exact ⟨by omega, h2⟩
      have Hat := Lib.hid hat'
      clear hat' hat
      have hsz' : (⟨#[UInt8.ofNat (48 + j % 10)]⟩ ++ out : ByteArray).size + f' = 20 := by
        rw [ByteArray.size_append, ByteArray.size_mk']
        simp
        omega
      have b1 : decide ((j : Int) > 0) = true := by rw [decide_eq_true_iff]; omega
      go_wp2_with fail
      rw [conv1]
      go_wp2_with fail
      go_roundg f'
      case measure => omega
      case rel => exact ⟨f', j / 10, _, by omega, rfl, by go_num, rfl, by omega, hsz', Hat.out, hb.alloc hb.size _⟩
    · obtain rfl : j = 0 := by omega
      go_wp2_with fail
      go_ret
      refine ⟨ret_str ?_, hb⟩
      have h1 := hat.out.2
      rw [dg_zero] at h1
      unfold mkT
      rw [h1]

end Go.Proofs.YtapelogbceoojaaDoor
