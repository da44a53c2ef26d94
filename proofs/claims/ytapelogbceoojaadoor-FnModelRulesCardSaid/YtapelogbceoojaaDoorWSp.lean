/-
  The walks of the reference's reading of expressions: l7Is, l7Op.
-/
import Derived.Test.YtapelogbceoojaaDoorParsD
import Derived.Test.YtapelogbceoojaaDoorWPars
import Derived.Test.YtapelogbceoojaaDoorWText
namespace Go.Proofs.YtapelogbceoojaaDoor
open Go.RowKit
set_option linter.unusedVariables false
set_option maxRecDepth 100000

/-- What is left of a text at an offset. -/
def rest (s : ByteArray) (at_ : Nat) : List UInt8 := s.data.toList.drop at_
theorem rest_lt {s : ByteArray} {k : Nat} (h : k < s.size) : rest s k = s[k] :: rest s (k + 1) := by
  unfold rest
  exact List.drop_eq_getElem_cons (by simpa using h)
theorem rest_ge {s : ByteArray} {k : Nat} (h : s.size ≤ k) : rest s k = [] := by
  unfold rest
  exact List.drop_of_length_le (by simpa using h)
def headB (s : ByteArray) (k : Nat) (c : UInt8) : Bool := decide ((rest s k).head? = some c)

set_option maxHeartbeats 400000 in
theorem l7Is_any (s : ByteArray) (k : Nat) (c : UInt8) (w : World) : Calls Tryd.prog 102 #[.string s, .int .i64 k, .int .u8 c.toNat] w (RetQ w (headB s k c)) := by
  by_cases hk : k < s.size
  · by_cases hc : s[k] = c
    · have hcb : ((s[k].toNat : Int) == (c.toNat : Int)) = true := by rw [hc]; simp
      have hh : headB s k c = true := by unfold headB; rw [rest_lt hk]; simp [hc]
      have Hh := Lib.hid hh
      clear hc hh
      go_enter Tryd.func102, Tryd.ntmps102
      go_wp2_with fail
      go_ret
      exact ⟨ret_bool (by rw [Hh.out]), rfl⟩
    · have hcb : ((s[k].toNat : Int) == (c.toNat : Int)) = false := by
        rw [beq_eq_false_iff_ne]
        intro e
        exact hc (UInt8.toNat_inj.1 (by omega))
      have hh : headB s k c = false := by unfold headB; rw [rest_lt hk]; simp [hc]
      have Hh := Lib.hid hh
      clear hc hh
      go_enter Tryd.func102, Tryd.ntmps102
      go_wp2_with fail
      go_ret
      exact ⟨ret_bool (by rw [Hh.out]), rfl⟩
  · have hh : headB s k c = false := by unfold headB; rw [rest_ge (by omega)]; simp
    have Hh := Lib.hid hh
    clear hh
    go_enter Tryd.func102, Tryd.ntmps102
    go_wp2_with fail
    go_ret
    exact ⟨ret_bool (by rw [Hh.out]), rfl⟩

set_option maxHeartbeats 400000 in
theorem l7Is_neg (s : ByteArray) (a : Int) (h : a < 0) (c : UInt8) (w : World) : Calls Tryd.prog 102 #[.string s, .int .i64 a, .int .u8 c.toNat] w (RetQ w false) := by
  have d : decide (a ≥ 0) = false := by rw [decide_eq_false_iff_not]; omega
  go_enter Tryd.func102, Tryd.ntmps102
  go_wp2_with fail
  go_ret
  exact ⟨rfl, rfl⟩

theorem sgn_size' {o : Int} (h1 : 2 ≤ o) (h2 : o ≤ 5) : 0 < (sgn o).size := by
  have h : o = 2 ∨ o = 3 ∨ o = 4 ∨ o = 5 := by omega
  rcases h with rfl | rfl | rfl | rfl <;> decide
theorem sgn_sg' {o : Int} (h1 : 2 ≤ o) (h2 : o ≤ 5) : (sgn o)[0]'(sgn_size' h1 h2) = sg o := by
  have h : o = 2 ∨ o = 3 ∨ o = 4 ∨ o = 5 := by omega
  rcases h with rfl | rfl | rfl | rfl <;> rfl
def RetOp (w : World) (s : ByteArray) (k : Nat) (l : Int) (e : Ending) (w' : World) : Prop :=
  ∃ op : Int, e = .returned (.int .i64 op) ∧ Below w.heap.size w w' ∧ ((op = 0 ∧ ∀ o : Int, 2 ≤ o → o ≤ 5 → lvl o = l → headB s k (sg o) = false) ∨ (2 ≤ op ∧ op ≤ 5 ∧ lvl op = l ∧ headB s k (sg op) = true))

set_option maxHeartbeats 1000000 in
theorem l7Op_any (s : ByteArray) (k : Nat) (l : Int) (w : World) : Calls Tryd.prog 90 #[.string s, .int .i64 k, .int .i64 l] w (RetOp w s k l) := by
  go_enter Tryd.func90, Tryd.ntmps90
  go_wp2_with fail
  go_loopg [7] 4 (fun g s7 wr => ∃ i : Nat, i ≤ 4 ∧ g = 4 - i ∧ s7 = .int .i64 ((i : Int) + 2) ∧ Below w.heap.size w wr ∧ Hid (∀ o : Int, 2 ≤ o → o < i + 2 → lvl o = l → headB s k (sg o) = false))
  case atStart => exact ⟨0, by omega, rfl, by go_num, Below.refl _ _, fun o h1 h2 => by omega⟩
  case round =>
    obtain ⟨i, hi4, rfl, rfl, hb, hno⟩ := hrel
    by_cases hi : i < 4
    · have step : (lvl ((i : Int) + 2) = l → headB s k (sg ((i : Int) + 2)) = false) → ∀ o : Int, 2 ≤ o → o < (i + 1 : Nat) + 2 → lvl o = l → headB s k (sg o) = false := fun h o g1 g2 g3 => by
        by_cases he : o = (i : Int) + 2
        · subst he; exact h g3
        · exact hno.out o g1 (by omega) g3
      have Step := Lib.hid step
      clear step
      by_cases hlv : lvl ((i : Int) + 2) = l
      · have blv : (lvl ((i : Int) + 2) == l) = true := by rw [beq_iff_eq]; exact hlv
        have hsz := sgn_size' (o := (i : Int) + 2) (by omega) (by omega)
        have hszi : (0 : Int) < ((sgn ((i : Int) + 2)).size : Int) := by omega
        have hsg := sgn_sg' (o := (i : Int) + 2) (by omega) (by omega)
        go_wp2_with fail
        refine (l7Level_any _ _).mono ?_
        rintro e3 w3 ⟨rfl, rfl⟩
        go_wp2_with fail
        refine (l7Sign_any _ _ (by omega) (by omega)).mono ?_
        rintro e4 w4 ⟨rfl, hb4⟩
        have hb5 := hb.trans (hb4.mono hb.size)
        go_wp2_with fail
        refine (l7Is_any s k (sg ((i : Int) + 2)) _).mono ?_
        rintro e5 w5 ⟨rfl, rfl⟩
        cases hh : headB s k (sg ((i : Int) + 2))
        · go_wp2_with fail
          go_roundg (4 - (i + 1))
          case measure => omega
          case rel => exact ⟨i + 1, by omega, rfl, by go_num, hb5, Step.out fun _ => hh⟩
        · go_wp2_with fail
          go_ret
          exact ⟨_, rfl, hb5, Or.inr ⟨by omega, by omega, hlv, hh⟩⟩
      · have blv : (lvl ((i : Int) + 2) == l) = false := by rw [beq_eq_false_iff_ne]; exact hlv
        go_wp2_with fail
        refine (l7Level_any _ _).mono ?_
        rintro e3 w3 ⟨rfl, rfl⟩
        go_wp2_with fail
        go_roundg (4 - (i + 1))
        case measure => omega
        case rel => exact ⟨i + 1, by omega, rfl, by go_num, hb, Step.out fun h => absurd h hlv⟩
    · go_wp2_with fail
      go_ret
      exact ⟨0, rfl, hb, Or.inl ⟨rfl, fun o g1 g2 g3 => hno.out o g1 (by omega) g3⟩⟩

end Go.Proofs.YtapelogbceoojaaDoor
