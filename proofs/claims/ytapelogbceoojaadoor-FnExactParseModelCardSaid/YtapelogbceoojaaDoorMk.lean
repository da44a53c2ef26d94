/-
  Lists that are marked element by element, each element taking so many numbers. No program in sight.
-/
import Derived.Test.YtapelogbceoojaaDoorInts
namespace Go.Proofs.YtapelogbceoojaaDoor
set_option linter.unusedVariables false

section
variable {α : Type} (mk : Nat → α → α) (wt : α → Nat)
def mkG : Nat → List α → List α
  | _, [] => []
  | k, e :: es => mk k e :: mkG (k + wt e) es
theorem mkG_length (es : List α) : ∀ k, (mkG mk wt k es).length = es.length := by
  induction es with
  | nil => intro k; rfl
  | cons e es ih => intro k; rw [mkG, List.length_cons, List.length_cons, ih]
theorem mkG_get (es : List α) : ∀ (k i : Nat) (h : i < es.length), (mkG mk wt k es)[i]'(by rw [mkG_length]; exact h) = mk (k + wSum wt (es.take i)) es[i] := by
  induction es with
  | nil => intro k i h; simp at h
  | cons e es ih =>
    intro k i h
    cases i with
    | zero => simp [mkG, wSum]
    | succ i =>
      have := ih (k + wt e) i (by simpa using h)
      simp only [mkG, List.getElem_cons_succ, List.take_succ_cons, wSum]
      rw [this]
      congr 1
      omega
/-- Marked up to i. -/
def midG (k : Nat) (es : List α) (i : Nat) : List α := (mkG mk wt k es).take i ++ es.drop i
theorem midG_zero (k : Nat) (es : List α) : midG mk wt k es 0 = es := by simp [midG]
theorem midG_all (k : Nat) (es : List α) : midG mk wt k es es.length = mkG mk wt k es := by
  unfold midG
  rw [List.drop_length, List.append_nil, List.take_of_length_le (by rw [mkG_length]; omega)]
theorem midG_length (k : Nat) (es : List α) (i : Nat) (h : i ≤ es.length) : (midG mk wt k es i).length = es.length := by
  unfold midG
  rw [List.length_append, List.length_take, List.length_drop, mkG_length]
  omega
theorem midG_get (k : Nat) (es : List α) (i : Nat) (h : i < es.length) (h' : i < (midG mk wt k es i).length) : (midG mk wt k es i)[i] = es[i] := by
  have h1 : (midG mk wt k es i)[i]? = es[i]? := by
    unfold midG
    rw [List.getElem?_append_right (by rw [List.length_take]; omega), List.length_take, mkG_length, show min i es.length = i by omega, Nat.sub_self, List.getElem?_drop, Nat.add_zero]
  rw [List.getElem?_eq_getElem h', List.getElem?_eq_getElem h] at h1
  exact Option.some.inj h1
theorem midG_set (k : Nat) (es : List α) (i : Nat) (h : i < es.length) : (midG mk wt k es i).set i (mk (k + wSum wt (es.take i)) es[i]) = midG mk wt k es (i + 1) := by
  have hl : i < (mkG mk wt k es).length := by rw [mkG_length]; exact h
  unfold midG
  rw [List.set_append_right _ _ (by rw [List.length_take]; omega), List.length_take, show min i (mkG mk wt k es).length = i by omega, Nat.sub_self, List.drop_eq_getElem_cons h, List.set_cons_zero, List.take_succ_eq_append_getElem hl, mkG_get mk wt es k i h, List.append_assoc]
  rfl
theorem midG_mem {k : Nat} {es : List α} {i : Nat} {x : α} (h : x ∈ midG mk wt k es i) : (∃ j e, e ∈ es ∧ x = mk j e) ∨ x ∈ es := by
  unfold midG at h
  rcases List.mem_append.1 h with h | h
  · left
    obtain ⟨n, hn, rfl⟩ := List.getElem_of_mem (List.mem_of_mem_take h)
    rw [mkG_length] at hn
    exact ⟨_, _, List.getElem_mem hn, mkG_get mk wt es k n hn⟩
  · right; exact List.mem_of_mem_drop h
end

end Go.Proofs.YtapelogbceoojaaDoor
