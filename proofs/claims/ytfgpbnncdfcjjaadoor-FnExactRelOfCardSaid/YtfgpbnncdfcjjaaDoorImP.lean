/-
  The program's within, reads, writes, InstrValid.
-/
import Derived.Test.YtfgpbnncdfcjjaaDoorPrg
import Derived.BigRegion
import Derived.ChangeAlike
namespace Go.Proofs.YtfgpbnncdfcjjaaDoor
open Go.RowKit
set_option linter.unusedVariables false
set_option maxRecDepth 100000

def wtn (n a b : Int) : Bool := decide (a ≤ n) && decide (n ≤ b)
theorem wtn_zero (n b : Int) : wtn n 0 b = btw n b := rfl
set_option maxHeartbeats 400000 in
theorem withinQ_any (n a b : Int) (w : World) : Calls Tryd.prog 83 #[.int .i64 n, .int .i64 a, .int .i64 b] w (fun e w' => e = .returned (.bool (wtn n a b)) ∧ w = w') := by
  go_enter Tryd.func83, Tryd.ntmps83
  by_cases h1 : a ≤ n
  · by_cases h2 : n ≤ b
    · have hb : Hid (wtn n a b = true) := by show _ = _; simp [wtn, h1, h2]
      go_wp2_with fail
      go_ret
      exact ⟨ret_bool hb.out.symm, rfl⟩
    · have hb : Hid (wtn n a b = false) := by show _ = _; simp [wtn, h2]
      go_wp2_with fail
      go_ret
      exact ⟨ret_bool hb.out.symm, rfl⟩
  · have hb : Hid (wtn n a b = false) := by show _ = _; simp [wtn, h1]
    go_wp2_with fail
    go_ret
    exact ⟨ret_bool hb.out.symm, rfl⟩

theorem insB_load' {x : Ins} (h : x.op = 1 ∨ x.op = 3) : insB x = (decide (x.val = 0) && (wtn x.loc 0 2 && wtn x.reg 0 2)) := by
  rw [Bool.eq_iff_iff, insB_iff]
  simp only [Bool.and_eq_true, wtn, decide_eq_true_eq]
  unfold InsOk
  omega
theorem insB_store' {x : Ins} (h : x.op = 2) : insB x = (decide (x.reg = 0) && (wtn x.loc 0 2 && wtn x.val 0 3)) := by
  rw [Bool.eq_iff_iff, insB_iff]
  simp only [Bool.and_eq_true, wtn, decide_eq_true_eq]
  unfold InsOk
  omega
theorem insB_fence' {x : Ins} (h : x.op = 4) : insB x = (decide (x.loc = 0) && (decide (x.reg = 0) && decide (x.val = 0))) := by
  rw [Bool.eq_iff_iff, insB_iff]
  simp only [Bool.and_eq_true, decide_eq_true_eq]
  unfold InsOk
  omega
theorem insB_swap' {x : Ins} (h : x.op = 5) : insB x = (wtn x.loc 0 2 && (wtn x.reg 0 2 && wtn x.val 0 3)) := by
  rw [Bool.eq_iff_iff, insB_iff]
  simp only [Bool.and_eq_true, wtn, decide_eq_true_eq]
  unfold InsOk
  omega
theorem insB_none' {x : Ins} (h1 : x.op ≠ 1) (h2 : x.op ≠ 2) (h3 : x.op ≠ 3) (h4 : x.op ≠ 4) (h5 : x.op ≠ 5) : insB x = false := by
  rw [insB_false]
  unfold InsOk
  omega
theorem wtn00 {b : Int} (h : 0 ≤ b) : wtn 0 0 b = true := by simp [wtn, h]

set_option maxHeartbeats 2000000 in
/-- A fence. -/
theorem implIns4 (x : Ins) (w : World) (h : x.op = 4) : Calls Tryd.prog 84 #[.agg #[.int .i64 x.op, .int .i64 x.loc, .int .i64 x.reg, .int .i64 x.val]] w (RetB w (insB x)) := by
  have He := Lib.hid (insB_fence' h)
  have d1 : ((x.op : Int) == 1) = false := by simp [h]
  have d2 : ((x.op : Int) == 2) = false := by simp [h]
  have d3 : ((x.op : Int) == 3) = false := by simp [h]
  have d4 : ((x.op : Int) == 4) = true := by simp [h]
  clear h
  go_enter Tryd.func84, Tryd.ntmps84
  by_cases h0 : x.loc = 0
  · by_cases h1 : x.reg = 0
    · by_cases h2 : x.val = 0
      · have Hr : Hid (insB x = true) := by show _ = _; rw [He.out]; simp [h0, h1, h2]
        have w2 : wtn 0 0 2 = true := wtn00 (by omega)
        have w3 : wtn 0 0 3 = true := wtn00 (by omega)
        go_wp2_with (first | (go_at_call 83; refine (withinQ_any _ _ _ _).mono ?_; rintro e1 w1 ⟨rfl, rfl⟩))
        go_ret
        refine ⟨ret_bool Hr.out.symm, ?_⟩
        repeat (first | exact Below.refl _ _ | refine Below.alloc ?_ (by simp <;> omega) _ | refine Below.setCell ?_ (by simp <;> omega) _)
      · have Hr : Hid (insB x = false) := by show _ = _; rw [He.out]; simp [h2]
        go_wp2_with fail
        go_ret
        refine ⟨ret_bool Hr.out.symm, ?_⟩
        repeat (first | exact Below.refl _ _ | refine Below.alloc ?_ (by simp <;> omega) _ | refine Below.setCell ?_ (by simp <;> omega) _)
    · have Hr : Hid (insB x = false) := by show _ = _; rw [He.out]; simp [h1]
      go_wp2_with fail
      go_ret
      refine ⟨ret_bool Hr.out.symm, ?_⟩
      repeat (first | exact Below.refl _ _ | refine Below.alloc ?_ (by simp <;> omega) _ | refine Below.setCell ?_ (by simp <;> omega) _)
  · have Hr : Hid (insB x = false) := by show _ = _; rw [He.out]; simp [h0]
    go_wp2_with fail
    go_ret
    refine ⟨ret_bool Hr.out.symm, ?_⟩
    repeat (first | exact Below.refl _ _ | refine Below.alloc ?_ (by simp <;> omega) _ | refine Below.setCell ?_ (by simp <;> omega) _)

set_option maxHeartbeats 4000000 in
theorem implIns5 (x : Ins) (w : World) (h : x.op = 5) : Calls Tryd.prog 84 #[.agg #[.int .i64 x.op, .int .i64 x.loc, .int .i64 x.reg, .int .i64 x.val]] w (RetB w (insB x)) := by
  have He := Lib.hid (insB_swap' h)
  have d1 : ((x.op : Int) == 1) = false := by simp [h]
  have d2 : ((x.op : Int) == 2) = false := by simp [h]
  have d3 : ((x.op : Int) == 3) = false := by simp [h]
  have d4 : ((x.op : Int) == 4) = false := by simp [h]
  have d5 : ((x.op : Int) == 5) = true := by simp [h]
  clear h
  go_enter Tryd.func84, Tryd.ntmps84
  cases hl : wtn x.loc 0 2 <;> cases hr : wtn x.reg 0 2 <;> cases hv : wtn x.val 0 3
  all_goals
    rw [hl, hr, hv] at He
    go_wp2_with (first | (go_at_call 83; refine (withinQ_any _ _ _ _).mono ?_; rintro e1 w1 ⟨rfl, rfl⟩))
    go_ret
    refine ⟨ret_bool He.out.symm, ?_⟩
    repeat (first | exact Below.refl _ _ | refine Below.alloc ?_ (by simp <;> omega) _ | refine Below.setCell ?_ (by simp <;> omega) _)

set_option maxHeartbeats 4000000 in
theorem implIns0 (x : Ins) (w : World) (h : x.op ≠ 1 ∧ x.op ≠ 2 ∧ x.op ≠ 3 ∧ x.op ≠ 4 ∧ x.op ≠ 5) : Calls Tryd.prog 84 #[.agg #[.int .i64 x.op, .int .i64 x.loc, .int .i64 x.reg, .int .i64 x.val]] w (RetB w (insB x)) := by
  have He := Lib.hid (insB_none' h.1 h.2.1 h.2.2.1 h.2.2.2.1 h.2.2.2.2)
  have d1 : ((x.op : Int) == 1) = false := by simpa using h.1
  have d2 : ((x.op : Int) == 2) = false := by simpa using h.2.1
  have d3 : ((x.op : Int) == 3) = false := by simpa using h.2.2.1
  have d4 : ((x.op : Int) == 4) = false := by simpa using h.2.2.2.1
  have d5 : ((x.op : Int) == 5) = false := by simpa using h.2.2.2.2
  clear h
  go_enter Tryd.func84, Tryd.ntmps84
  go_wp2_with fail
  go_ret
  refine ⟨ret_bool He.out.symm, ?_⟩
  repeat (first | exact Below.refl _ _ | refine Below.alloc ?_ (by simp <;> omega) _ | refine Below.setCell ?_ (by simp <;> omega) _)

set_option maxHeartbeats 4000000 in
theorem implIns1 (x : Ins) (w : World) (h : x.op = 1) : Calls Tryd.prog 84 #[.agg #[.int .i64 x.op, .int .i64 x.loc, .int .i64 x.reg, .int .i64 x.val]] w (RetB w (insB x)) := by
  have He := Lib.hid (insB_load' (Or.inl h))
  have d1 : ((x.op : Int) == 1) = true := by simp [h]
  have d2 : ((x.op : Int) == 2) = false := by simp [h]
  have d3 : ((x.op : Int) == 3) = false := by simp [h]
  have d4 : ((x.op : Int) == 4) = false := by simp [h]
  have d5 : ((x.op : Int) == 5) = false := by simp [h]
  clear h
  go_enter Tryd.func84, Tryd.ntmps84
  by_cases hz : x.val = 0
  · have w0 : wtn 0 0 3 = true := wtn00 (by omega)
    cases hl : wtn x.loc 0 2 <;> cases hr : wtn x.reg 0 2
    all_goals
      rw [hl, hr] at He
      have Hr : Hid (insB x = _) := He.out.trans (by simp [hz]; rfl)
      go_wp2_with fail
      go_region
      all_goals
        go_wp2_with (first | (go_at_call 83; refine (withinQ_any _ _ _ _).mono ?_; rintro e1 w1 ⟨rfl, rfl⟩))
        go_ret
        refine ⟨ret_bool Hr.out.symm, ?_⟩
        repeat (first | exact Below.refl _ _ | refine Below.alloc ?_ (by simp <;> omega) _ | refine Below.setCell ?_ (by simp <;> omega) _ | refine Below.drew ?_)
  · have Hr : Hid (insB x = false) := by show _ = _; rw [He.out]; simp [hz]
    go_wp2_with fail
    go_region
    all_goals
      go_wp2_with fail
      go_ret
      refine ⟨ret_bool Hr.out.symm, ?_⟩
      repeat (first | exact Below.refl _ _ | refine Below.alloc ?_ (by simp <;> omega) _ | refine Below.setCell ?_ (by simp <;> omega) _ | refine Below.drew ?_)

set_option maxHeartbeats 4000000 in
theorem implIns3 (x : Ins) (w : World) (h : x.op = 3) : Calls Tryd.prog 84 #[.agg #[.int .i64 x.op, .int .i64 x.loc, .int .i64 x.reg, .int .i64 x.val]] w (RetB w (insB x)) := by
  have He := Lib.hid (insB_load' (Or.inr h))
  have d1 : ((x.op : Int) == 1) = false := by simp [h]
  have d2 : ((x.op : Int) == 2) = false := by simp [h]
  have d3 : ((x.op : Int) == 3) = true := by simp [h]
  have d4 : ((x.op : Int) == 4) = false := by simp [h]
  have d5 : ((x.op : Int) == 5) = false := by simp [h]
  clear h
  go_enter Tryd.func84, Tryd.ntmps84
  by_cases hz : x.val = 0
  · have w0 : wtn 0 0 3 = true := wtn00 (by omega)
    cases hl : wtn x.loc 0 2 <;> cases hr : wtn x.reg 0 2
    all_goals
      rw [hl, hr] at He
      have Hr : Hid (insB x = _) := He.out.trans (by simp [hz]; rfl)
      go_wp2_with fail
      go_region
      all_goals
        go_wp2_with (first | (go_at_call 83; refine (withinQ_any _ _ _ _).mono ?_; rintro e1 w1 ⟨rfl, rfl⟩))
        go_ret
        refine ⟨ret_bool Hr.out.symm, ?_⟩
        repeat (first | exact Below.refl _ _ | refine Below.alloc ?_ (by simp <;> omega) _ | refine Below.setCell ?_ (by simp <;> omega) _ | refine Below.drew ?_)
  · have Hr : Hid (insB x = false) := by show _ = _; rw [He.out]; simp [hz]
    go_wp2_with fail
    go_region
    all_goals
      go_wp2_with fail
      go_ret
      refine ⟨ret_bool Hr.out.symm, ?_⟩
      repeat (first | exact Below.refl _ _ | refine Below.alloc ?_ (by simp <;> omega) _ | refine Below.setCell ?_ (by simp <;> omega) _ | refine Below.drew ?_)

set_option maxHeartbeats 4000000 in
theorem implIns2 (x : Ins) (w : World) (h : x.op = 2) : Calls Tryd.prog 84 #[.agg #[.int .i64 x.op, .int .i64 x.loc, .int .i64 x.reg, .int .i64 x.val]] w (RetB w (insB x)) := by
  have He := Lib.hid (insB_store' h)
  have d1 : ((x.op : Int) == 1) = false := by simp [h]
  have d2 : ((x.op : Int) == 2) = true := by simp [h]
  have d3 : ((x.op : Int) == 3) = false := by simp [h]
  have d4 : ((x.op : Int) == 4) = false := by simp [h]
  have d5 : ((x.op : Int) == 5) = false := by simp [h]
  clear h
  go_enter Tryd.func84, Tryd.ntmps84
  by_cases hz : x.reg = 0
  · have w0 : wtn 0 0 2 = true := wtn00 (by omega)
    cases hl : wtn x.loc 0 2 <;> cases hr : wtn x.val 0 3
    all_goals
      rw [hl, hr] at He
      have Hr : Hid (insB x = _) := He.out.trans (by simp [hz]; rfl)
      go_wp2_with fail
      go_region
      all_goals
        go_wp2_with (first | (go_at_call 83; refine (withinQ_any _ _ _ _).mono ?_; rintro e1 w1 ⟨rfl, rfl⟩))
        go_ret
        refine ⟨ret_bool Hr.out.symm, ?_⟩
        repeat (first | exact Below.refl _ _ | refine Below.alloc ?_ (by simp <;> omega) _ | refine Below.setCell ?_ (by simp <;> omega) _ | refine Below.drew ?_)
  · have Hr : Hid (insB x = false) := by show _ = _; rw [He.out]; simp [hz]
    go_wp2_with fail
    go_region
    all_goals
      go_wp2_with fail
      go_ret
      refine ⟨ret_bool Hr.out.symm, ?_⟩
      repeat (first | exact Below.refl _ _ | refine Below.alloc ?_ (by simp <;> omega) _ | refine Below.setCell ?_ (by simp <;> omega) _ | refine Below.drew ?_)

theorem implIns_any (x : Ins) (w : World) : Calls Tryd.prog 84 #[.agg #[.int .i64 x.op, .int .i64 x.loc, .int .i64 x.reg, .int .i64 x.val]] w (RetB w (insB x)) := by
  rcases (show x.op = 1 ∨ x.op = 2 ∨ x.op = 3 ∨ x.op = 4 ∨ x.op = 5 ∨ (x.op ≠ 1 ∧ x.op ≠ 2 ∧ x.op ≠ 3 ∧ x.op ≠ 4 ∧ x.op ≠ 5) by omega) with h | h | h | h | h | h
  · exact implIns1 x w h
  · exact implIns2 x w h
  · exact implIns3 x w h
  · exact implIns4 x w h
  · exact implIns5 x w h
  · exact implIns0 x w h

end Go.Proofs.YtfgpbnncdfcjjaaDoor
