/-
  Laws of the relations on the events of a candidate. No program in sight.
-/
import Derived.Test.YtfgpbnncdfcjjaaDoorRelP
namespace Go.Proofs.YtfgpbnncdfcjjaaDoor
open Go.RowKit
set_option linter.unusedVariables false
set_option maxRecDepth 100000

theorem plF_get {n : Int} : ∀ {xs : List Int} {i : Nat}, n ∈ xs → ∃ k, ∃ h : k < xs.length, plF i xs n = ((i + k : Nat) : Int) ∧ xs[k] = n
  | [], _, h => by cases h
  | y :: xs, i, h => by
    by_cases hy : y = n
    · exact ⟨0, by simp, by rw [plF, if_pos hy]; rfl, hy⟩
    · have hm : n ∈ xs := by
        rcases List.mem_cons.1 h with e | h
        · exact absurd e.symm hy
        · exact h
      obtain ⟨k, hk, h1, h2⟩ := plF_get (i := i + 1) hm
      exact ⟨k + 1, by simpa using hk, by rw [plF, if_neg hy, h1]; congr 1; omega, by simpa using h2⟩
theorem plI_get {n : Int} {xs : List Int} (h : n ∈ xs) : ∃ k, ∃ hk : k < xs.length, plI xs n = (k : Int) ∧ xs[k] = n := by
  obtain ⟨k, hk, h1, h2⟩ := plF_get (i := 0) h
  exact ⟨k, hk, by unfold plI; rw [h1, Nat.zero_add], h2⟩
theorem plI_inj {xs : List Int} {a b : Int} (ha : a ∈ xs) (hb : b ∈ xs) (h : plI xs a = plI xs b) : a = b := by
  obtain ⟨i, hi, e1, h1⟩ := plI_get ha
  obtain ⟨k, hk, e2, h2⟩ := plI_get hb
  obtain rfl : i = k := by omega
  rw [← h1, ← h2]
theorem plI_head {xs : List Int} {a : Int} (h : xs.head? = some a) : plI xs a = 0 := by
  cases xs with
  | nil => cases h
  | cons y ys =>
    simp only [List.head?_cons, Option.some.injEq] at h
    subst h
    unfold plI
    rw [plF, if_pos rfl]
    rfl
theorem getD_evs {L : List Ev} {i : Nat} (h : i < L.length) : L.getD i e0 = L[i] := by simp [h]
section
variable {p : Prg} {x : Ex}
theorem evs_ini {l : Nat} (hl : l ≤ 2) : ∃ h : l < (evs p).length, (evs p)[l].loc = l ∧ (evs p)[l].wr = true ∧ (evs p)[l].rd = false := by
  have h3 : l < ini.length := by show l < 3; omega
  have hlt : l < (evs p).length := by unfold evs; rw [List.length_append]; omega
  refine ⟨hlt, ?_⟩
  have he : (evs p)[l] = ini[l] := List.getElem_append_left h3
  rw [he]
  have : l = 0 ∨ l = 1 ∨ l = 2 := by omega
  rcases this with rfl | rfl | rfl <;> exact ⟨rfl, rfl, rfl⟩
theorem first_writes (h : CandOk p x) {l i : Nat} (hl : l ≤ 2) (hi : i < (evs p).length) : pairB p x (evs p) 4 l i = ((evs p)[i].wr && decide ((evs p)[i].loc = (l : Int)) && !decide (i = l)) := by
  obtain ⟨hll, hloc, hw, _⟩ := evs_ini (p := p) hl
  show befB (ordAt x ((evs p).getD l e0).loc) l i = _
  rw [getD_evs hll]
  have m1 := (mem_ord h hll hll).2 ⟨hw, rfl⟩
  have m2 := mem_ord h hll hi
  have hhd : (ordAt x (evs p)[l].loc).head? = some (l : Int) := by
    unfold ordAt
    rw [hloc, Int.toNat_natCast]
    exact (h.2.2.2 l (by omega)).2
  have h0 := plI_head hhd
  generalize ordAt x (evs p)[l].loc = o at m1 m2 hhd h0 ⊢
  by_cases hm : (evs p)[i].wr = true ∧ (evs p)[i].loc = (evs p)[l].loc
  · have mi := m2.2 hm
    rw [befB_mem m1 mi, h0, hm.1, hm.2, hloc]
    by_cases e : i = l
    · subst e
      simp [h0]
    · obtain ⟨k, hk, e1, h1⟩ := plI_get mi
      have hk0 : 0 < k := by
        rcases Nat.eq_zero_or_pos k with h2 | h2
        · exfalso
          have e3 : plI o (i : Int) = plI o (l : Int) := by rw [h0, e1, h2]; rfl
          have := plI_inj mi m1 e3
          omega
        · exact h2
      rw [e1]
      simp [e, hk0]
  · rw [befB_false (.inr fun hm' => hm (m2.1 hm'))]
    by_cases h1 : (evs p)[i].wr = true
    · have h2 : ¬ (evs p)[i].loc = (l : Int) := fun e => hm ⟨h1, by rw [e, hloc]⟩
      simp [h2]
    · simp [h1]
theorem order_total (h : CandOk p x) {i k : Nat} (hi : i < (evs p).length) (hk : k < (evs p).length) :
    (pairB p x (evs p) 4 i k || pairB p x (evs p) 4 k i) = ((evs p)[i].wr && (evs p)[k].wr && decide ((evs p)[i].loc = (evs p)[k].loc) && !decide (i = k)) := by
  show (befB (ordAt x ((evs p).getD i e0).loc) i k || befB (ordAt x ((evs p).getD k e0).loc) k i) = _
  rw [getD_evs hi, getD_evs hk]
  have mii := mem_ord h hi hi
  have mik := mem_ord h hi hk
  have mki := mem_ord h hk hi
  have mkk := mem_ord h hk hk
  by_cases hm : (evs p)[i].wr = true ∧ (evs p)[k].wr = true ∧ (evs p)[i].loc = (evs p)[k].loc
  · obtain ⟨h1, h2, h3⟩ := hm
    have a1 := mii.2 ⟨h1, rfl⟩
    have a2 := mik.2 ⟨h2, h3.symm⟩
    rw [← h3] at *
    rw [befB_mem a1 a2, befB_mem a2 a1, h1, h2]
    by_cases e : i = k
    · subst e; simp
    · have hne : plI (ordAt x (evs p)[i].loc) (i : Int) ≠ plI (ordAt x (evs p)[i].loc) (k : Int) := fun e' => by
        have := plI_inj a1 a2 e'
        omega
      simp only [Bool.true_and, decide_true, e, decide_false, Bool.not_false, Bool.or_eq_true, decide_eq_true_iff]
      omega
  · have z1 : befB (ordAt x (evs p)[i].loc) (i : Int) (k : Int) = false := befB_false (by
      by_cases h1 : (evs p)[i].wr = true
      · right
        intro hm'
        have := mik.1 hm'
        exact hm ⟨h1, this.1, this.2.symm⟩
      · left
        exact fun hm' => h1 (mii.1 hm').1)
    have z2 : befB (ordAt x (evs p)[k].loc) (k : Int) (i : Int) = false := befB_false (by
      by_cases h1 : (evs p)[k].wr = true
      · right
        intro hm'
        have := mki.1 hm'
        exact hm ⟨this.1, h1, this.2⟩
      · left
        exact fun hm' => h1 (mkk.1 hm').1)
    rw [z1, z2]
    by_cases h1 : (evs p)[i].wr = true
    · by_cases h2 : (evs p)[k].wr = true
      · have h3 : ¬ (evs p)[i].loc = (evs p)[k].loc := fun e => hm ⟨h1, h2, e⟩
        simp [h3]
      · simp [h2]
    · simp [h1]
end

end Go.Proofs.YtfgpbnncdfcjjaaDoor
