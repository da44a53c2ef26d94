/-
  Lists of numbers in their order; sorted lists of them. No program in sight.
-/
import Derived.Test.YtcckflijaolnkaaLib
namespace Go.Proofs.Ytcckflijaolnkaa
set_option linter.unusedVariables false

/-- As slices.Compare compares. -/
def lexC : List Int → List Int → Int
  | [], [] => 0
  | [], _ :: _ => -1
  | _ :: _, [] => 1
  | a :: al, b :: bl => if a < b then -1 else if b < a then 1 else lexC al bl
theorem lexC_anti : ∀ a b : List Int, lexC b a = - lexC a b
  | [], [] => rfl
  | [], _ :: _ => rfl
  | _ :: _, [] => rfl
  | a :: al, b :: bl => by
    have ih := lexC_anti al bl
    simp only [lexC]
    by_cases h1 : a < b
    · rw [if_neg (by omega), if_pos h1, if_pos h1]; rfl
    · by_cases h2 : b < a
      · rw [if_pos h2, if_neg h1, if_pos h2]
      · rw [if_neg h2, if_neg h1, if_neg h1, if_neg h2, ih]
theorem lexC_self (a : List Int) : lexC a a = 0 := by
  have := lexC_anti a a
  omega
theorem lexC_eq : ∀ a b : List Int, lexC a b = 0 → a = b
  | [], [], _ => rfl
  | [], _ :: _, h => by simp [lexC] at h
  | _ :: _, [], h => by simp [lexC] at h
  | a :: al, b :: bl, h => by
    simp only [lexC] at h
    by_cases h1 : a < b
    · rw [if_pos h1] at h; omega
    · rw [if_neg h1] at h
      by_cases h2 : b < a
      · rw [if_pos h2] at h; omega
      · rw [if_neg h2] at h
        rw [lexC_eq al bl h, show a = b by omega]
theorem lexC_trans : ∀ a b c : List Int, lexC a b < 0 → lexC b c < 0 → lexC a c < 0
  | [], _, [], h, k => by
    rename_i b
    cases b with
    | nil => simp [lexC] at h
    | cons x b => simp [lexC] at k
  | [], _, _ :: _, _, _ => by simp [lexC]
  | _ :: _, [], _, h, _ => by simp [lexC] at h
  | _ :: _, _ :: _, [], _, k => by simp [lexC] at k
  | a :: al, b :: bl, c :: cl, h, k => by
    have ih := lexC_trans al bl cl
    simp only [lexC] at h k ⊢
    by_cases h1 : a < b
    · by_cases k1 : b < c
      · rw [if_pos (by omega)]; omega
      · rw [if_neg k1] at k
        by_cases k2 : c < b
        · rw [if_pos k2] at k; omega
        · rw [if_pos (by omega)]; omega
    · rw [if_neg h1] at h
      by_cases h2 : b < a
      · rw [if_pos h2] at h; omega
      · rw [if_neg h2] at h
        by_cases k1 : b < c
        · rw [if_pos (by omega)]; omega
        · rw [if_neg k1] at k
          by_cases k2 : c < b
          · rw [if_pos k2] at k; omega
          · rw [if_neg k2] at k
            rw [if_neg (by omega), if_neg (by omega)]
            exact ih h k
theorem lexC_ntrans (a b c : List Int) (h : ¬ lexC a b < 0) (k : ¬ lexC b c < 0) : ¬ lexC a c < 0 := fun hac => by
  have h' := lexC_anti a b
  have k' := lexC_anti b c
  by_cases e1 : lexC a b = 0
  · rw [lexC_eq _ _ e1] at hac; exact k hac
  · by_cases e2 : lexC b c = 0
    · rw [← lexC_eq _ _ e2] at hac; exact h hac
    · have := lexC_trans c b a (by omega) (by omega)
      have := lexC_anti a c
      omega
/-- Strictly ascending. -/
def Asc (L : List (List Int)) : Prop := L.Pairwise fun a b => lexC a b < 0
theorem asc_uniq : ∀ L M : List (List Int), Asc L → Asc M → (∀ x, x ∈ L ↔ x ∈ M) → L = M
  | [], [], _, _, _ => rfl
  | [], b :: M, _, _, h => by have := (h b).2 (by simp); simp at this
  | a :: L, [], _, _, h => by have := (h a).1 (by simp); simp at this
  | a :: L, b :: M, hL, hM, h => by
    obtain ⟨a1, a2⟩ := List.pairwise_cons.1 hL
    obtain ⟨b1, b2⟩ := List.pairwise_cons.1 hM
    have e : a = b := by
      rcases List.mem_cons.1 ((h a).1 (by simp)) with e | ha
      · exact e
      · rcases List.mem_cons.1 ((h b).2 (by simp)) with e | hb
        · exact e.symm
        · have h1 := b1 a ha
          have h2 := a1 b hb
          have := lexC_anti a b
          omega
    subst e
    rw [asc_uniq L M a2 b2 fun x => ⟨fun hx => by
      rcases List.mem_cons.1 ((h x).1 (List.mem_cons_of_mem _ hx)) with e | hm
      · subst e
        have := a1 x hx
        rw [lexC_self] at this
        omega
      · exact hm, fun hx => by
      rcases List.mem_cons.1 ((h x).2 (List.mem_cons_of_mem _ hx)) with e | hm
      · subst e
        have := b1 x hx
        rw [lexC_self] at this
        omega
      · exact hm⟩]
/-- Each once, in an ascending list. -/
def compL : List (List Int) → List (List Int)
  | [] => []
  | [a] => [a]
  | a :: b :: r => if a = b then compL (b :: r) else a :: compL (b :: r)
theorem compL_mem : ∀ (L : List (List Int)) (x : List Int), x ∈ compL L ↔ x ∈ L
  | [], x => Iff.rfl
  | [a], x => Iff.rfl
  | a :: b :: r, x => by
    have ih := compL_mem (b :: r) x
    rw [compL]
    split
    · rename_i e
      subst e
      rw [ih]
      simp
    · rw [List.mem_cons, List.mem_cons, ih]
theorem compL_asc : ∀ L : List (List Int), L.Pairwise (fun a b => ¬ lexC b a < 0) → Asc (compL L)
  | [], _ => List.Pairwise.nil
  | [a], _ => by simp [compL, Asc]
  | a :: b :: r, h => by
    obtain ⟨h1, h2⟩ := List.pairwise_cons.1 h
    have ih := compL_asc (b :: r) h2
    rw [compL]
    split
    · exact ih
    · rename_i hne
      refine List.pairwise_cons.2 ⟨fun x hx => ?_, ih⟩
      have hx := (compL_mem _ x).1 hx
      have hab : lexC a b < 0 := by
        have h3 := h1 b (by simp)
        have h4 := lexC_anti a b
        have h5 : lexC a b ≠ 0 := fun e => hne (lexC_eq _ _ e)
        omega
      rcases List.mem_cons.1 hx with rfl | hx
      · exact hab
      · have h6 := (List.pairwise_cons.1 h2).1 x hx
        by_cases e : lexC b x = 0
        · rw [← lexC_eq _ _ e]; exact hab
        · have := lexC_anti b x
          exact lexC_trans a b x hab (by omega)
/-- One more into an ascending list. -/
def putL : List (List Int) → List Int → List (List Int)
  | [], o => [o]
  | a :: L, o => if lexC a o < 0 then a :: putL L o else if lexC a o = 0 then a :: L else o :: a :: L
theorem putL_mem : ∀ (L : List (List Int)) (o x : List Int), x ∈ putL L o ↔ x = o ∨ x ∈ L
  | [], o, x => by simp [putL]
  | a :: L, o, x => by
    have ih := putL_mem L o x
    rw [putL]
    split
    · rw [List.mem_cons, ih, List.mem_cons]
      constructor
      · rintro (h | h | h)
        · exact .inr (.inl h)
        · exact .inl h
        · exact .inr (.inr h)
      · rintro (h | h | h)
        · exact .inr (.inl h)
        · exact .inl h
        · exact .inr (.inr h)
    · split
      · rename_i e
        rw [lexC_eq _ _ e]
        constructor
        · exact .inr
        · rintro (rfl | h)
          · exact List.mem_cons_self
          · exact h
      · rw [List.mem_cons]
theorem putL_asc : ∀ (L : List (List Int)) (o : List Int), Asc L → Asc (putL L o)
  | [], o, _ => by simp [putL, Asc]
  | a :: L, o, h => by
    obtain ⟨h1, h2⟩ := List.pairwise_cons.1 h
    rw [putL]
    split
    · rename_i hlt
      refine List.pairwise_cons.2 ⟨fun x hx => ?_, putL_asc L o h2⟩
      rcases (putL_mem L o x).1 hx with rfl | hx
      · exact hlt
      · exact h1 x hx
    · split
      · exact h
      · rename_i hn hz
        have ho : lexC o a < 0 := by have := lexC_anti a o; omega
        refine List.pairwise_cons.2 ⟨fun x hx => ?_, h⟩
        rcases List.mem_cons.1 hx with rfl | hx
        · exact ho
        · exact lexC_trans o a x ho (h1 x hx)
/-- .. as the reference puts it. -/
theorem putL_at : ∀ (L : List (List Int)) (o : List Int) (k : Nat), k ≤ L.length → (∀ j (h : j < L.length), j < k → lexC L[j] o < 0) → (∀ h : k < L.length, ¬ lexC L[k] o < 0) →
    putL L o = if ∃ h : k < L.length, lexC L[k] o = 0 then L else L.take k ++ o :: L.drop k
  | [], o, k, hk, _, _ => by
    obtain rfl : k = 0 := by simpa using hk
    rw [if_neg (by rintro ⟨h, _⟩; simp at h)]
    rfl
  | a :: L, o, 0, _, _, h0 => by
    have hn := h0 (by simp)
    simp only [List.getElem_cons_zero] at hn
    rw [putL, if_neg hn]
    by_cases e : lexC a o = 0
    · rw [if_pos e, if_pos ⟨by simp, e⟩]
    · rw [if_neg e, if_neg (by rintro ⟨_, h⟩; exact e h)]
      rfl
  | a :: L, o, k + 1, hk, hj, h0 => by
    have hlt := hj 0 (by simp) (by omega)
    simp only [List.getElem_cons_zero] at hlt
    have ih := putL_at L o k (by simpa using hk) (fun j h hjk => by have := hj (j + 1) (by simpa using h) (by omega); simpa using this) (fun h => by have := h0 (by simpa using h); simpa using this)
    rw [putL, if_pos hlt, ih]
    by_cases e : ∃ h : k < L.length, lexC L[k] o = 0
    · rw [if_pos e, if_pos (by obtain ⟨h, h'⟩ := e; exact ⟨by simpa using h, by simpa using h'⟩)]
    · rw [if_neg e, if_neg (fun ⟨h, h'⟩ => e ⟨by simpa using h, by simpa using h'⟩)]
      rfl

end Go.Proofs.Ytcckflijaolnkaa
