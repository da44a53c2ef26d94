/-
  The text of an expression, plainly. No program in sight.
-/
import Derived.Test.YtapelogbceoojaaDoorVal
namespace Go.Proofs.YtapelogbceoojaaDoor
open Go.RowKit
set_option linter.unusedVariables false
set_option maxRecDepth 100000

/-- In brackets, or not. -/
def brk (b : Bool) (t : ByteArray) : ByteArray := if b then ⟨#[40]⟩ ++ t ++ ⟨#[41]⟩ else t

/-- The text of an expression without brackets round it. -/
def ct : RE → ByteArray
  | .mk op name [] => name
  | .mk op name [a] => sgn op ++ brk (decide (0 < lvl a.op)) (ct a)
  | .mk op name [a, b] => brk (decide (lvl op < lvl a.op)) (ct a) ++ sgn op ++ brk (decide (lvl op - 1 < lvl b.op)) (ct b)
  | .mk op name (_ :: _ :: _ :: _) => name
/-- .. in brackets if its level is greater than one that it may have. -/
def tx (e : RE) (most : Int) : ByteArray := brk (decide (most < lvl e.op)) (ct e)

theorem lvl_bounds (op : Int) : 0 ≤ lvl op ∧ lvl op ≤ 3 := by
  unfold lvl
  split
  · omega
  · split
    · omega
    · split <;> omega
theorem size_sgn (op : Int) : (sgn op).size ≤ 1 := by
  unfold sgn
  repeat (split; · decide)
  decide
theorem size_brk (b : Bool) (t : ByteArray) : (brk b t).size ≤ t.size + 2 := by
  cases b
  · simp [brk]
  · simp [brk, ByteArray.size_append, ByteArray.size_mk']
    omega
theorem size_nm {s : ByteArray} (h : s ∈ nm) : s.size ≤ 5 := by
  simp only [nm, List.mem_cons, List.not_mem_nil, or_false] at h
  rcases h with rfl | rfl | rfl | rfl | rfl | rfl | rfl | rfl | rfl | rfl <;> decide

theorem kidsI_cases {op : Int} {n : Nat} (h : (n : Int) = kidsI op) : (op = 1 ∧ n = 0) ∨ ((op = 6 ∨ op = 7) ∧ n = 1) ∨ ((op = 2 ∨ op = 3 ∨ op = 4 ∨ op = 5) ∧ n = 2) := by
  unfold kidsI at h
  split at h
  · left; omega
  · split at h
    · right; right; omega
    · split at h
      · right; left; omega
      · omega

theorem size_ct (m : Nat) : ∀ e : RE, Shp m e → (ct e).size ≤ 8 * cntE e - 2 := by
  induction m with
  | zero => intro e h; exact h.elim
  | succ m ih =>
    intro e h
    obtain ⟨op, name, kids⟩ := e
    obtain ⟨⟨h1, h2, h3⟩, h4⟩ := h
    simp only [RE.op, RE.name, RE.kids] at h1 h2 h3 h4
    match kids, h1, h4 with
    | [], h1, _ =>
      rw [ct, cntE, cntL]
      by_cases ho : op = 1
      · have := size_nm (h2.1 ho); omega
      · rw [h3 ho]; decide
    | [a], h1, h4 =>
      rw [ct, cntE, cntL, cntL]
      have ha := ih a (h4 a (by simp))
      have hb := size_brk (decide (0 < lvl a.op)) (ct a)
      have hs := size_sgn op
      have hc := cntE_pos a
      rw [ByteArray.size_append]
      omega
    | [a, b], h1, h4 =>
      rw [ct, cntE, cntL, cntL, cntL]
      have ha := ih a (h4 a (by simp))
      have hb := ih b (h4 b (by simp))
      have ka := size_brk (decide (lvl op < lvl a.op)) (ct a)
      have kb := size_brk (decide (lvl op - 1 < lvl b.op)) (ct b)
      have hs := size_sgn op
      have hc := cntE_pos a
      have hd := cntE_pos b
      rw [ByteArray.size_append, ByteArray.size_append]
      omega
    | _ :: _ :: _ :: _, h1, _ =>
      simp only [List.length_cons] at h1
      rcases kidsI_cases h1 with ⟨_, h⟩ | ⟨_, h⟩ | ⟨_, h⟩ <;> omega
theorem size_tx {m : Nat} {e : RE} (h : Shp m e) (most : Int) : (tx e most).size ≤ 8 * cntE e := by
  have h1 := size_ct m e h
  have h2 := size_brk (decide (most < lvl e.op)) (ct e)
  have h3 := cntE_pos e
  unfold tx
  omega

theorem tx_pos {e : RE} {most : Int} (h : most < lvl e.op) : tx e most = ⟨#[40]⟩ ++ ct e ++ ⟨#[41]⟩ := by
  unfold tx brk
  rw [if_pos (by simpa using h)]
theorem tx_neg {e : RE} {most : Int} (h : ¬ most < lvl e.op) : tx e most = ct e := by
  unfold tx brk
  rw [if_neg (by simpa using h)]
theorem ret_str {a b : ByteArray} (h : a = b) : Ending.returned (.string a) = .returned (.string b) := by rw [h]

/-- What the functions hand back for an expression, valid or not. -/
noncomputable def fmt (e : RE) : ByteArray := if valB e then ct e else ⟨#[]⟩
theorem tx_three (e : RE) : tx e 3 = ct e := by
  unfold tx brk
  have := lvl_bounds e.op
  rw [if_neg]
  simp
  omega

end Go.Proofs.YtapelogbceoojaaDoor
