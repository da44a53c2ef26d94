/-
  Candidates for executions, plainly: who writes a location, which candidates are valid. No program in sight.
-/
import Derived.Test.YtpadkallejfdlaaPrg
import Derived.Test.YtpadkallejfdlaaExec
namespace Go.Proofs.Ytpadkallejfdlaa
open Go.RowKit
set_option linter.unusedVariables false
set_option maxRecDepth 100000

/-- An event that writes a location. -/
def wrl (loc : Int) (e : Ev) : Bool := e.wr && decide (e.loc = loc)
/-- The places of the writes of a location, from a place on. -/
def wrF (loc : Int) : Nat → List Ev → List Int
  | _, [] => []
  | i, e :: es => if wrl loc e = true then (i : Int) :: wrF loc (i + 1) es else wrF loc (i + 1) es
def wrs (L : List Ev) (loc : Int) : List Int := wrF loc 0 L
theorem wrF_append (loc : Int) (es fs : List Ev) : ∀ i, wrF loc i (es ++ fs) = wrF loc i es ++ wrF loc (i + es.length) fs := by
  induction es with
  | nil => intro i; simp [wrF]
  | cons e es ih =>
    intro i
    rw [List.cons_append, wrF, wrF, ih, List.length_cons, show i + 1 + es.length = i + (es.length + 1) by omega]
    by_cases h : wrl loc e = true
    · rw [if_pos h, if_pos h, List.cons_append]
    · rw [if_neg h, if_neg h]
theorem wrs_take (L : List Ev) (loc : Int) (k : Nat) (h : k < L.length) : wrs (L.take (k + 1)) loc = wrs (L.take k) loc ++ if wrl loc L[k] = true then [(k : Int)] else [] := by
  unfold wrs
  rw [List.take_succ_eq_append_getElem h, wrF_append, List.length_take, show 0 + min k L.length = k by omega]
  rfl
theorem wrF_length (loc : Int) (es : List Ev) : ∀ i, (wrF loc i es).length ≤ es.length := by
  induction es with
  | nil => intro i; simp [wrF]
  | cons e es ih =>
    intro i
    have := ih (i + 1)
    rw [wrF, List.length_cons]
    by_cases h : wrl loc e = true
    · rw [if_pos h, List.length_cons]; omega
    · rw [if_neg h]; omega
theorem wrs_length (L : List Ev) (loc : Int) : (wrs L loc).length ≤ L.length := wrF_length loc L 0
theorem mem_wrF {loc n : Int} {es : List Ev} : ∀ {i : Nat}, n ∈ wrF loc i es ↔ ∃ k : Nat, ∃ h : k < es.length, n = (i + k : Nat) ∧ wrl loc es[k] = true := by
  induction es with
  | nil => intro i; simp [wrF]
  | cons e es ih =>
    intro i
    have key : (∃ k : Nat, ∃ h : k < (e :: es).length, n = (i + k : Nat) ∧ wrl loc (e :: es)[k] = true) ↔ (n = i ∧ wrl loc e = true) ∨ ∃ k : Nat, ∃ h : k < es.length, n = (i + 1 + k : Nat) ∧ wrl loc es[k] = true := by
      constructor
      · rintro ⟨k, h, h1, h2⟩
        cases k with
        | zero => exact .inl ⟨by omega, h2⟩
        | succ k => exact .inr ⟨k, by simpa using h, by omega, by simpa using h2⟩
      · rintro (⟨h1, h2⟩ | ⟨k, h, h1, h2⟩)
        · exact ⟨0, by simp, by omega, h2⟩
        · exact ⟨k + 1, by simpa using h, by omega, by simpa using h2⟩
    rw [key, wrF]
    by_cases h : wrl loc e = true
    · rw [if_pos h, List.mem_cons, ih]; simp [h]
    · rw [if_neg h, ih]; simp [h]
theorem mem_wrs {L : List Ev} {loc n : Int} : n ∈ wrs L loc ↔ ∃ k : Nat, ∃ h : k < L.length, n = k ∧ wrl loc L[k] = true := by
  unfold wrs; rw [mem_wrF]; simp
theorem wrF_sorted (loc : Int) (es : List Ev) : ∀ i : Nat, (wrF loc i es).Pairwise (· < ·) ∧ ∀ n ∈ wrF loc i es, (i : Int) ≤ n := by
  induction es with
  | nil => intro i; simp [wrF]
  | cons e es ih =>
    intro i
    obtain ⟨h1, h2⟩ := ih (i + 1)
    rw [wrF]
    by_cases h : wrl loc e = true
    · rw [if_pos h]
      refine ⟨List.pairwise_cons.2 ⟨fun n hn => by have := h2 n hn; omega, h1⟩, fun n hn => ?_⟩
      rcases List.mem_cons.1 hn with rfl | hn
      · omega
      · have := h2 n hn; omega
    · rw [if_neg h]
      exact ⟨h1, fun n hn => by have := h2 n hn; omega⟩
theorem wrs_sorted (L : List Ev) (loc : Int) : (wrs L loc).Pairwise (· < ·) := (wrF_sorted loc L 0).1
theorem wrs_nodup (L : List Ev) (loc : Int) : (wrs L loc).Nodup := (wrs_sorted L loc).imp fun h => by omega
/-- The first write is first. -/
theorem wrs_evs (p : Prg) (l : Nat) (hl : l ≤ 2) : ∃ r, wrs (evs p) l = (l : Int) :: r := by
  unfold wrs evs
  rw [wrF_append]
  match l, hl with
  | 0, _ => exact ⟨_, rfl⟩
  | 1, _ => exact ⟨_, rfl⟩
  | 2, _ => exact ⟨_, rfl⟩

/-! ### Valid candidates -/
def OkF (L : List Ev) (f : List Int) : Prop := f.length = L.length ∧ ∀ i (h : i < L.length), if L[i].rd = true then f.getD i 0 ∈ wrs L L[i].loc ∧ f.getD i 0 ≠ i else f.getD i 0 = -1
def okO1 (L : List Ev) (loc : Nat) (o : List Int) : Prop := o.Perm (wrs L loc) ∧ o.head? = some (loc : Int)
def OkO (L : List Ev) (os : List (List Int)) : Prop := os.length = 3 ∧ ∀ l, l < 3 → okO1 L l (os.getD l [])
def CandOk (p : Prg) (x : Ex) : Prop := PrgOk p ∧ OkF (evs p) x.from_ ∧ OkO (evs p) x.order
open Classical in
noncomputable def candB (p : Prg) (x : Ex) : Bool := decide (CandOk p x)
theorem candB_iff {p : Prg} {x : Ex} : candB p x = true ↔ CandOk p x := by simp [candB]
theorem candB_false {p : Prg} {x : Ex} : candB p x = false ↔ ¬ CandOk p x := by simp [candB]

/-- A list with the same number of elements that has all of another one's, each once, is that one in some order. -/
theorem perm_of_sub : ∀ {ws l : List Int}, ws.Nodup → (∀ w ∈ ws, w ∈ l) → l.length = ws.length → l.Perm ws
  | [], l, _, _, hl => by rw [List.length_eq_zero_iff.1 hl]
  | w :: ws, l, hn, hs, hl => by
    have hw := hs w (by simp)
    have h1 := List.perm_cons_erase hw
    have hn' := List.nodup_cons.1 hn
    have h2 : (l.erase w).Perm ws := perm_of_sub hn'.2 (fun x hx => (List.mem_erase_of_ne (fun e => hn'.1 (by rw [← e]; exact hx))).2 (hs x (List.mem_cons_of_mem _ hx))) (by
      have := h1.length_eq
      simp at this hl
      omega)
    exact h1.trans (h2.cons w)
theorem okO1_sp {L : List Ev} {loc : Nat} {o : List Int} (hw : ∃ r, wrs L loc = (loc : Int) :: r) : okO1 L loc o ↔ o.length = (wrs L loc).length ∧ o.head? = (wrs L loc).head? ∧ ∀ w ∈ wrs L loc, w ∈ o := by
  obtain ⟨r, hr⟩ := hw
  constructor
  · rintro ⟨h1, h2⟩
    exact ⟨h1.length_eq, by rw [h2, hr]; rfl, fun w hw => (h1.mem_iff).2 hw⟩
  · rintro ⟨h1, h2, h3⟩
    exact ⟨perm_of_sub (wrs_nodup L loc) h3 h1, by rw [h2, hr]; rfl⟩
theorem srt_wrs {L : List Ev} {loc : Nat} {o : List Int} : (o.mergeSort fun x y => decide (x ≤ y)) = wrs L loc ↔ o.Perm (wrs L loc) := by
  constructor
  · intro h
    rw [← h]
    exact (List.mergeSort_perm _ _).symm
  · intro h
    refine List.Perm.eq_of_pairwise (le := (· ≤ ·)) (fun a b _ _ h1 h2 => by omega) ?_ ((wrs_sorted L loc).imp fun h => by omega) ((List.mergeSort_perm _ _).trans h)
    have := List.pairwise_mergeSort (le := fun x y : Int => decide (x ≤ y)) (fun a b c h1 h2 => by simp at *; omega) (fun a b => by simp; omega) o
    exact this.imp fun h => by simpa using h

end Go.Proofs.Ytpadkallejfdlaa
