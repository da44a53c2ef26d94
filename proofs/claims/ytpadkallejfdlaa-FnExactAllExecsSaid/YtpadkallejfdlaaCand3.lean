/-
  How many candidates a valid program has at most. No program in sight.
-/
import Derived.Test.YtpadkallejfdlaaCand2
namespace Go.Proofs.Ytpadkallejfdlaa
open Go.RowKit
set_option linter.unusedVariables false
set_option maxRecDepth 100000

theorem wrF_count (loc : Int) : ∀ (es : List Ev) (i : Nat), (wrF loc i es).length = es.countP (wrl loc)
  | [], _ => rfl
  | e :: es, i => by
    rw [wrF, List.countP_cons]
    by_cases h : wrl loc e = true
    · rw [if_pos h, List.length_cons, wrF_count]; simp [h]
    · rw [if_neg h, wrF_count]; simp [h]
theorem wrs_count (L : List Ev) (loc : Int) : (wrs L loc).length = L.countP (wrl loc) := wrF_count loc L 0
def rdl (loc : Int) (e : Ev) : Bool := e.rd && decide (e.loc = loc)
theorem evT_countW (loc : Int) (ti : Nat) : ∀ (t : List Ins) (i : Nat), (evT ti i t).countP (wrl loc) = cntT loc true t
  | [], _ => rfl
  | x :: t, i => by
    have ih := evT_countW loc ti t (i + 1)
    unfold cntT at ih ⊢
    rw [evT, List.countP_append, ih, List.countP_cons]
    unfold evI
    by_cases h4 : x.op = 4
    · rw [if_pos h4]; simp [hitB, wrB, h4]
    · rw [if_neg h4]; simp [hitB, wrl, Bool.and_comm]; omega
theorem evT_countR (loc : Int) (ti : Nat) : ∀ (t : List Ins) (i : Nat), (evT ti i t).countP (rdl loc) = cntT loc false t
  | [], _ => rfl
  | x :: t, i => by
    have ih := evT_countR loc ti t (i + 1)
    unfold cntT at ih ⊢
    rw [evT, List.countP_append, ih, List.countP_cons]
    unfold evI
    by_cases h4 : x.op = 4
    · rw [if_pos h4]; simp [hitB, rdB, h4]
    · rw [if_neg h4]; simp [hitB, rdl, Bool.and_comm]; omega
theorem evP_countW (loc : Int) : ∀ (p : Prg) (ti : Nat), (evP ti p).countP (wrl loc) = cntP loc true p
  | [], _ => rfl
  | t :: p, ti => by
    have ih := evP_countW loc p (ti + 1)
    unfold cntP at ih ⊢
    rw [evP, List.countP_append, ih, evT_countW]; rfl
theorem evP_countR (loc : Int) : ∀ (p : Prg) (ti : Nat), (evP ti p).countP (rdl loc) = cntP loc false p
  | [], _ => rfl
  | t :: p, ti => by
    have ih := evP_countR loc p (ti + 1)
    unfold cntP at ih ⊢
    rw [evP, List.countP_append, ih, evT_countR]; rfl
theorem wrs_evs_len (p : Prg) (l : Nat) (hl : l ≤ 2) : (wrs (evs p) l).length = cntP l true p + 1 := by
  rw [wrs_count]
  unfold evs
  rw [List.countP_append, evP_countW]
  have h : ini.countP (wrl (l : Int)) = 1 := by
    have : l = 0 ∨ l = 1 ∨ l = 2 := by omega
    rcases this with rfl | rfl | rfl <;> rfl
  omega
theorem rd_evs_len (p : Prg) (l : Nat) : (evs p).countP (rdl l) = cntP l false p := by
  unfold evs
  rw [List.countP_append, evP_countR]
  have h : ini.countP (rdl (l : Int)) = 0 := by
    rw [List.countP_eq_zero]
    intro e he
    simp [ini] at he
    rcases he with rfl | rfl | rfl <;> simp [rdl]
  omega

/-- A location's number of writes. -/
def wN (L : List Ev) (e : Ev) : Nat := if e.rd = true then (wrs L e.loc).length else 1
theorem frC_le (L : List Ev) (i : Nat) (e : Ev) : (frC L i e).length ≤ wN L e := by
  unfold frC wN
  by_cases h : e.rd = true
  · rw [if_pos h, if_pos h]; exact List.length_filter_le _ _
  · rw [if_neg h, if_neg h]; simp
theorem lenP_le (L : List Ev) : ∀ (es : List Ev) (i : Nat), lenP (chF L i es) ≤ (es.map (wN L)).foldr (· * ·) 1
  | [], _ => Nat.le_refl _
  | e :: es, i => by
    rw [chF, lenP, List.map_cons, List.foldr_cons]
    exact Nat.mul_le_mul (frC_le L i e) (lenP_le L es (i + 1))
theorem prod_wN (L : List Ev) : ∀ (es : List Ev), (∀ e ∈ es, e.loc = 0 ∨ e.loc = 1 ∨ e.loc = 2) →
    (es.map (wN L)).foldr (· * ·) 1 = (wrs L 0).length ^ es.countP (rdl 0) * (wrs L 1).length ^ es.countP (rdl 1) * (wrs L 2).length ^ es.countP (rdl 2)
  | [], _ => by simp
  | e :: es, h => by
    rw [List.map_cons, List.foldr_cons, prod_wN L es fun x hx => h x (List.mem_cons_of_mem _ hx), List.countP_cons, List.countP_cons, List.countP_cons]
    unfold wN
    by_cases hr : e.rd = true
    · rw [if_pos hr]
      rcases h e (by simp) with hl | hl | hl
      · simp only [rdl, hl, hr]
        simp [Nat.pow_succ, Nat.mul_comm, Nat.mul_assoc]
      · simp only [rdl, hl, hr]
        simp [Nat.pow_succ, Nat.mul_comm, Nat.mul_assoc, Nat.mul_left_comm]
      · simp only [rdl, hl, hr]
        simp [Nat.pow_succ, Nat.mul_comm, Nat.mul_assoc, Nat.mul_left_comm]
    · rw [if_neg hr]
      simp [rdl, hr]
theorem mem_evT_loc {ti : Nat} {e : Ev} : ∀ {t : List Ins} {i : Nat}, e ∈ evT ti i t → ∃ x ∈ t, e.loc = x.loc
  | [], _, h => by cases h
  | x :: t, i, h => by
    rw [evT] at h
    rcases List.mem_append.1 h with h | h
    · unfold evI at h
      by_cases h4 : x.op = 4
      · rw [if_pos h4] at h; cases h
      · rw [if_neg h4] at h
        rw [List.mem_singleton.1 h]
        exact ⟨x, by simp, rfl⟩
    · obtain ⟨y, hy, h⟩ := mem_evT_loc h
      exact ⟨y, List.mem_cons_of_mem _ hy, h⟩
theorem mem_evP_loc {e : Ev} : ∀ {p : Prg} {ti : Nat}, e ∈ evP ti p → ∃ t ∈ p, ∃ x ∈ t, e.loc = x.loc
  | [], _, h => by cases h
  | t :: p, ti, h => by
    rw [evP] at h
    rcases List.mem_append.1 h with h | h
    · obtain ⟨x, hx, h1⟩ := mem_evT_loc h
      exact ⟨t, by simp, x, hx, h1⟩
    · obtain ⟨s, hs, h⟩ := mem_evP_loc h
      exact ⟨s, List.mem_cons_of_mem _ hs, h⟩
theorem evs_loc {p : Prg} (h : ShapeOk p) : ∀ e ∈ evs p, e.loc = 0 ∨ e.loc = 1 ∨ e.loc = 2 := by
  intro e he
  unfold evs at he
  rcases List.mem_append.1 he with he | he
  · simp [ini] at he
    rcases he with rfl | rfl | rfl <;> simp
  · obtain ⟨t, ht, x, hx, e1⟩ := mem_evP_loc he
    have := ((h.2.1 t ht).2 x hx).loc
    omega
theorem ordC_length (L : List Ev) (l : Nat) : (ordC L l).length = fact (wrs L l).tail.length := by
  unfold ordC; rw [List.length_map, perms_length]
theorem cands_count {p : Prg} (h : PrgOk p) : (froms (evs p)).length * (orders (evs p)).length ≤ 3000 := by
  refine Nat.le_trans ?_ h.2.2
  have h1 : (froms (evs p)).length ≤ ((evs p).map (wN (evs p))).foldr (· * ·) 1 := by
    unfold froms
    rw [prodL_length]
    exact lenP_le (evs p) (evs p) 0
  rw [prod_wN _ _ (evs_loc h.1)] at h1
  have e0 := wrs_evs_len p 0 (by omega)
  have e1 := wrs_evs_len p 1 (by omega)
  have e2 := wrs_evs_len p 2 (by omega)
  have r0 := rd_evs_len p 0
  have r1 := rd_evs_len p 1
  have r2 := rd_evs_len p 2
  have h2 : (orders (evs p)).length = fact (cntP 0 true p) * (fact (cntP 1 true p) * fact (cntP 2 true p)) := by
    unfold orders ordersF
    rw [prodL_length]
    show (ordC (evs p) 0).length * ((ordC (evs p) 1).length * ((ordC (evs p) 2).length * 1)) = _
    rw [ordC_length, ordC_length, ordC_length, Nat.mul_one, List.length_tail, List.length_tail, List.length_tail]
    rw [show (wrs (evs p) ((0 : Nat) : Int)).length = cntP 0 true p + 1 from e0, show (wrs (evs p) ((1 : Nat) : Int)).length = cntP 1 true p + 1 from e1, show (wrs (evs p) ((2 : Nat) : Int)).length = cntP 2 true p + 1 from e2]
    rfl
  rw [h2]
  rw [show (wrs (evs p) 0).length = cntP 0 true p + 1 from e0, show (wrs (evs p) 1).length = cntP 1 true p + 1 from e1, show (wrs (evs p) 2).length = cntP 2 true p + 1 from e2, show (evs p).countP (rdl 0) = cntP 0 false p from r0, show (evs p).countP (rdl 1) = cntP 1 false p from r1, show (evs p).countP (rdl 2) = cntP 2 false p from r2] at h1
  refine Nat.le_trans (Nat.mul_le_mul_right _ h1) (Nat.le_of_eq ?_)
  unfold exN exL
  simp [Nat.mul_assoc, Nat.mul_left_comm]

theorem frC_pos {p : Prg} (h : ShapeOk p) {i : Nat} (hi : i < (evs p).length) : 0 < (frC (evs p) i (evs p)[i]).length := by
  unfold frC
  by_cases hr : (evs p)[i].rd = true
  · rw [if_pos hr]
    have hi3 : 3 ≤ i := by
      rcases Nat.lt_or_ge i 3 with h3 | h3
      · exfalso
        have he : (evs p)[i] = ini[i]'h3 := List.getElem_append_left (show i < ini.length from h3)
        rw [he] at hr
        have : i = 0 ∨ i = 1 ∨ i = 2 := by omega
        rcases this with rfl | rfl | rfl <;> simp [ini] at hr
      · exact h3
    obtain ⟨l, hl, hle⟩ : ∃ l : Nat, (evs p)[i].loc = l ∧ l ≤ 2 := by
      rcases evs_loc h _ (List.getElem_mem hi) with e | e | e
      · exact ⟨0, e, by omega⟩
      · exact ⟨1, e, by omega⟩
      · exact ⟨2, e, by omega⟩
    rw [hl]
    obtain ⟨r, hr⟩ := wrs_evs p l hle
    rw [hr]
    have : (l : Int) ∈ ((l : Int) :: r).filter (fun n => decide (n ≠ (i : Int))) := by
      rw [List.mem_filter]; exact ⟨by simp, by simp; omega⟩
    exact List.length_pos_of_mem this
  · rw [if_neg hr]; simp
theorem lenP_drop {p : Prg} (h : ShapeOk p) : ∀ (n k : Nat), k + n = (evs p).length → lenP (chF (evs p) k ((evs p).drop k)) ≤ lenP (chF (evs p) 0 (evs p)) := by
  have key : ∀ k, k ≤ (evs p).length → lenP (chF (evs p) k ((evs p).drop k)) ≤ lenP (chF (evs p) 0 (evs p)) := by
    intro k
    induction k with
    | zero => intro _; simp
    | succ k ih =>
      intro hk
      have h1 := ih (by omega)
      rw [chF_drop _ k (by omega), lenP] at h1
      have h2 := frC_pos h (i := k) (by omega)
      exact Nat.le_trans (Nat.le_mul_of_pos_left _ h2) h1
  exact fun n k hn => key k (by omega)
theorem fact_le_mul (a b c d : Nat) (h : a * b ≤ 3000) (hb : 0 < b) : a ≤ 3000 := Nat.le_trans (Nat.le_mul_of_pos_right _ hb) h
theorem lenP_fact_pos (L : List Ev) : ∀ ls : List Nat, 0 < lenP (ls.map (ordC L))
  | [] => by simp [lenP]
  | l :: ls => by
    rw [List.map_cons, lenP]
    refine Nat.mul_pos ?_ (lenP_fact_pos L ls)
    rw [ordC_length]; exact fact_pos _
theorem lenP_from_pos {p : Prg} (h : ShapeOk p) : 0 < lenP (chF (evs p) 0 (evs p)) := by
  have := lenP_drop h 0 (evs p).length (by omega)
  rw [List.drop_length, chF, lenP] at this
  omega
/-- What the walks want of the events of a valid program. -/
structure Few3 (L : List Ev) : Prop where
  len : L.length ≤ 15
  fr : ∀ k, k ≤ L.length → (prodL (chF L k (L.drop k))).length ≤ 3000
  od : ∀ l, l ≤ 3 → (ordersF L l).length ≤ 3000
  all : (froms L).length * (orders L).length ≤ 3000
  pm : ∀ l : Nat, l ≤ 2 → (wrs L l).length ≤ 7
  hd : ∀ l : Nat, l ≤ 2 → ∃ r, wrs L l = (l : Int) :: r
theorem fact_big {n : Nat} (h : 7 ≤ n) : 5040 ≤ fact n := by
  induction n with
  | zero => omega
  | succ n ih =>
    rcases Nat.lt_or_ge n 7 with h7 | h7
    · obtain rfl : n = 6 := by omega
      decide
    · have := ih h7
      rw [fact]
      exact Nat.le_trans this (Nat.le_mul_of_pos_left _ (Nat.succ_pos n))
theorem few3 {p : Prg} (h : PrgOk p) : Few3 (evs p) := by
  have hall := cands_count h
  have hop : 0 < (orders (evs p)).length := by unfold orders ordersF; rw [prodL_length]; exact lenP_fact_pos _ _
  have hfp : 0 < (froms (evs p)).length := by unfold froms; rw [prodL_length]; exact lenP_from_pos h.1
  have hf : (froms (evs p)).length ≤ 3000 := Nat.le_trans (Nat.le_mul_of_pos_right _ hop) hall
  have ho : (orders (evs p)).length ≤ 3000 := Nat.le_trans (Nat.le_mul_of_pos_left _ hfp) hall
  have hol : (orders (evs p)).length = (ordC (evs p) 0).length * ((ordC (evs p) 1).length * ((ordC (evs p) 2).length * 1)) := by
    unfold orders ordersF; rw [prodL_length]; rfl
  have p0 : 0 < (ordC (evs p) 0).length := by rw [ordC_length]; exact fact_pos _
  have p1 : 0 < (ordC (evs p) 1).length := by rw [ordC_length]; exact fact_pos _
  have p2 : 0 < (ordC (evs p) 2).length := by rw [ordC_length]; exact fact_pos _
  rw [Nat.mul_one] at hol
  have ho' := ho
  rw [hol] at ho'
  have q12 : (ordC (evs p) 1).length * (ordC (evs p) 2).length ≤ 3000 := Nat.le_trans (Nat.le_mul_of_pos_left _ p0) ho'
  have q2 : (ordC (evs p) 2).length ≤ 3000 := Nat.le_trans (Nat.le_mul_of_pos_left _ p1) q12
  have q1 : (ordC (evs p) 1).length ≤ 3000 := Nat.le_trans (Nat.le_mul_of_pos_right _ p2) q12
  have q0 : (ordC (evs p) 0).length ≤ 3000 := Nat.le_trans (Nat.le_mul_of_pos_right _ (Nat.mul_pos p1 p2)) ho'
  refine ⟨by rw [evs_length]; have := h.1.2.2; omega, fun k hk => ?_, fun l hl => ?_, hall, fun l hl => ?_, wrs_evs p⟩
  · rw [prodL_length]
    have := lenP_drop h.1 ((evs p).length - k) k (by omega)
    unfold froms at hf
    rw [prodL_length] at hf
    omega
  · have : l = 0 ∨ l = 1 ∨ l = 2 ∨ l = 3 := by omega
    rcases this with rfl | rfl | rfl | rfl
    · exact ho
    · unfold ordersF
      rw [prodL_length]
      show (ordC (evs p) 1).length * ((ordC (evs p) 2).length * 1) ≤ 3000
      rw [Nat.mul_one]; exact q12
    · unfold ordersF
      rw [prodL_length]
      show (ordC (evs p) 2).length * 1 ≤ 3000
      rw [Nat.mul_one]; exact q2
    · unfold ordersF
      rw [prodL_length]
      show 1 ≤ 3000
      omega
  · have key : (ordC (evs p) l).length ≤ 3000 := by
      have : l = 0 ∨ l = 1 ∨ l = 2 := by omega
      rcases this with rfl | rfl | rfl
      · exact q0
      · exact q1
      · exact q2
    rw [ordC_length, List.length_tail] at key
    rcases Nat.lt_or_ge ((wrs (evs p) l).length - 1) 7 with h7 | h7
    · omega
    · have := fact_big h7; omega

end Go.Proofs.Ytpadkallejfdlaa
