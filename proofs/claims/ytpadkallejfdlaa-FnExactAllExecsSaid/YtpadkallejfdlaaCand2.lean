/-
  All candidates for executions of a program, plainly: products of choices, orders; how many there are; they are just the valid ones. No program in sight.
-/
import Derived.Test.YtpadkallejfdlaaCand
namespace Go.Proofs.Ytpadkallejfdlaa
open Go.RowKit
set_option linter.unusedVariables false
set_option maxRecDepth 100000

/-- All lists with one element of each list of choices. -/
def prodL {α : Type} : List (List α) → List (List α)
  | [] => [[]]
  | c :: cs => c.flatMap fun x => (prodL cs).map (x :: ·)
def lenP {α : Type} : List (List α) → Nat
  | [] => 1
  | c :: cs => c.length * lenP cs
theorem flatMap_len {α β : Type} (f : α → List β) (n : Nat) (h : ∀ x, (f x).length = n) (l : List α) : (l.flatMap f).length = l.length * n := by
  induction l with
  | nil => simp
  | cons x l ih => rw [List.flatMap_cons, List.length_append, h, ih, List.length_cons, Nat.add_mul]; omega
theorem prodL_length {α : Type} : ∀ cs : List (List α), (prodL cs).length = lenP cs
  | [] => rfl
  | c :: cs => by rw [prodL, flatMap_len _ (lenP cs) (fun x => by rw [List.length_map, prodL_length]), lenP]
theorem prodL_each {α : Type} : ∀ {cs : List (List α)} {f : List α}, f ∈ prodL cs → f.length = cs.length
  | [], f, h => by rw [prodL, List.mem_singleton] at h; rw [h]; rfl
  | c :: cs, f, h => by
    rw [prodL, List.mem_flatMap] at h
    obtain ⟨x, _, h⟩ := h
    obtain ⟨g, hg, rfl⟩ := List.mem_map.1 h
    rw [List.length_cons, List.length_cons, prodL_each hg]
theorem mem_prodL {α : Type} : ∀ {cs : List (List α)} {f : List α}, f ∈ prodL cs ↔ f.length = cs.length ∧ ∀ i (h : i < f.length) (h' : i < cs.length), f[i] ∈ cs[i]
  | [], f => by
    rw [prodL, List.mem_singleton]
    constructor
    · rintro rfl; exact ⟨rfl, fun i h => by simp at h⟩
    · rintro ⟨h, _⟩; exact List.length_eq_zero_iff.1 h
  | c :: cs, [] => by
    rw [prodL, List.mem_flatMap]
    constructor
    · rintro ⟨x, _, h⟩; obtain ⟨g, _, e⟩ := List.mem_map.1 h; cases e
    · rintro ⟨h, _⟩; simp at h
  | c :: cs, x :: f => by
    rw [prodL, List.mem_flatMap]
    constructor
    · rintro ⟨y, hy, h⟩
      obtain ⟨g, hg, e⟩ := List.mem_map.1 h
      injection e with e1 e2
      subst e1 e2
      obtain ⟨h1, h2⟩ := mem_prodL.1 hg
      refine ⟨by simp [h1], fun i h h' => ?_⟩
      cases i with
      | zero => exact hy
      | succ i => exact h2 i (by simpa using h) (by simpa using h')
    · rintro ⟨h1, h2⟩
      refine ⟨x, h2 0 (by simp) (by simp), List.mem_map.2 ⟨f, mem_prodL.2 ⟨by simpa using h1, fun i h h' => ?_⟩, rfl⟩⟩
      have := h2 (i + 1) (by simpa using h) (by simpa using h')
      simpa using this

/-! ### Sources of reads -/
def frC (L : List Ev) (i : Nat) (e : Ev) : List Int := if e.rd = true then (wrs L e.loc).filter (fun n => decide (n ≠ (i : Int))) else [-1]
def chF (L : List Ev) : Nat → List Ev → List (List Int)
  | _, [] => []
  | i, e :: es => frC L i e :: chF L (i + 1) es
def froms (L : List Ev) : List (List Int) := prodL (chF L 0 L)
theorem chF_length (L : List Ev) : ∀ (es : List Ev) (i : Nat), (chF L i es).length = es.length
  | [], _ => rfl
  | e :: es, i => by rw [chF, List.length_cons, List.length_cons, chF_length]
theorem chF_get (L : List Ev) : ∀ (es : List Ev) (i k : Nat) (h : k < es.length) (h' : k < (chF L i es).length), (chF L i es)[k] = frC L (i + k) es[k]
  | e :: es, i, 0, _, _ => rfl
  | e :: es, i, k + 1, h, h' => by
    have := chF_get L es (i + 1) k (by simpa using h) (by rw [chF_length]; simpa using h)
    simp only [chF, List.getElem_cons_succ]
    rw [this, show i + 1 + k = i + (k + 1) by omega]
theorem chF_drop (L : List Ev) (k : Nat) (h : k < L.length) : chF L k (L.drop k) = frC L k L[k] :: chF L (k + 1) (L.drop (k + 1)) := by
  rw [List.drop_eq_getElem_cons h, chF]
theorem mem_froms {L : List Ev} {f : List Int} : f ∈ froms L ↔ OkF L f := by
  unfold froms OkF
  rw [mem_prodL]
  have hcl := chF_length L L 0
  constructor
  · rintro ⟨h1, h2⟩
    rw [hcl] at h1
    refine ⟨h1, fun i hi => ?_⟩
    have hif : i < f.length := by omega
    have h3 := h2 i hif (by rw [chF_length]; exact hi)
    rw [chF_get L L 0 i hi] at h3
    rw [show f.getD i 0 = f[i] by simp [hif]]
    unfold frC at h3
    rw [Nat.zero_add] at h3
    by_cases hr : L[i].rd = true
    · rw [if_pos hr] at h3 ⊢
      rw [List.mem_filter] at h3
      exact ⟨h3.1, by simpa using h3.2⟩
    · rw [if_neg hr] at h3 ⊢
      simpa using h3
  · rintro ⟨h1, h2⟩
    refine ⟨h1.trans hcl.symm, fun i hif h' => ?_⟩
    have hi : i < L.length := by omega
    have h3 := h2 i hi
    rw [chF_get L L 0 i hi, Nat.zero_add]
    rw [show f.getD i 0 = f[i] by simp [hif]] at h3
    unfold frC
    by_cases hr : L[i].rd = true
    · rw [if_pos hr] at h3 ⊢
      rw [List.mem_filter]
      exact ⟨h3.1, by simpa using h3.2⟩
    · rw [if_neg hr] at h3 ⊢
      simpa using h3

/-! ### Orders -/
def permsN : Nat → List Int → List (List Int)
  | 0, _ => [[]]
  | n + 1, xs => (List.range xs.length).flatMap fun i => (permsN n (xs.eraseIdx i)).map (xs.getD i 0 :: ·)
def perms (xs : List Int) : List (List Int) := permsN xs.length xs
theorem permsN_length : ∀ (n : Nat) (xs : List Int), xs.length = n → (permsN n xs).length = fact n
  | 0, _, _ => rfl
  | n + 1, xs, h => by
    have key : ∀ l : List Nat, (∀ i ∈ l, i < xs.length) → (l.flatMap fun i => (permsN n (xs.eraseIdx i)).map (xs.getD i 0 :: ·)).length = l.length * fact n := by
      intro l
      induction l with
      | nil => intro _; simp
      | cons i l ih =>
        intro hl
        have hi := hl i (by simp)
        rw [List.flatMap_cons, List.length_append, List.length_map, permsN_length n _ (by rw [List.length_eraseIdx]; simp [hi]; omega), ih fun j hj => hl j (List.mem_cons_of_mem _ hj), List.length_cons, Nat.add_mul]
        omega
    rw [permsN, key _ fun i hi => List.mem_range.1 hi, List.length_range, h, fact]
theorem perms_length (xs : List Int) : (perms xs).length = fact xs.length := permsN_length _ _ rfl
theorem perms_cons {xs : List Int} (h : 0 < xs.length) : perms xs = (List.range xs.length).flatMap fun i => (perms (xs.eraseIdx i)).map (xs.getD i 0 :: ·) := by
  obtain ⟨n, hn⟩ : ∃ n, xs.length = n + 1 := ⟨xs.length - 1, by omega⟩
  unfold perms
  rw [hn, permsN, hn]
  simp only [List.flatMap]
  congr 1
  refine List.map_congr_left fun i hi => ?_
  have hi' : i < xs.length := by rw [hn]; exact List.mem_range.1 hi
  rw [List.length_eraseIdx, if_pos hi', hn]
  rfl
theorem perm_eraseIdx {xs : List Int} {i : Nat} (h : i < xs.length) : (xs.getD i 0 :: xs.eraseIdx i).Perm xs := by
  rw [show xs.getD i 0 = xs[i] by simp [h], List.eraseIdx_eq_take_drop_succ]
  have := List.take_append_drop i xs
  rw [List.drop_eq_getElem_cons h] at this
  conv => rhs; rw [← this]
  exact (List.perm_middle).symm
theorem mem_permsN : ∀ {n : Nat} {xs ys : List Int}, xs.length = n → (ys ∈ permsN n xs ↔ ys.Perm xs)
  | 0, xs, ys, h => by
    rw [permsN, List.mem_singleton, List.length_eq_zero_iff.1 h, List.perm_nil]
  | n + 1, xs, ys, h => by
    rw [permsN, List.mem_flatMap]
    have hle : ∀ i, i < xs.length → (xs.eraseIdx i).length = n := fun i hi => by rw [List.length_eraseIdx, if_pos hi, h]; rfl
    constructor
    · rintro ⟨i, hi, hy⟩
      have hi := List.mem_range.1 hi
      obtain ⟨zs, hz, rfl⟩ := List.mem_map.1 hy
      exact (((mem_permsN (hle i hi)).1 hz).cons _).trans (perm_eraseIdx hi)
    · intro hp
      cases ys with
      | nil => have := hp.length_eq; simp at this; omega
      | cons y ys =>
        have hy : y ∈ xs := hp.mem_iff.1 (by simp)
        obtain ⟨i, hi, he⟩ := List.getElem_of_mem hy
        refine ⟨i, List.mem_range.2 hi, List.mem_map.2 ⟨ys, (mem_permsN (hle i hi)).2 ?_, by simp [hi, he]⟩⟩
        have h2 := hp.trans (perm_eraseIdx hi).symm
        rw [show xs.getD i 0 = y by simp [hi, he]] at h2
        exact h2.cons_inv
theorem mem_perms {xs ys : List Int} : ys ∈ perms xs ↔ ys.Perm xs := mem_permsN rfl
def ordC (L : List Ev) (l : Nat) : List (List Int) := (perms (wrs L l).tail).map ((wrs L l).headD 0 :: ·)
theorem mem_ordC {L : List Ev} {l : Nat} {o : List Int} (hw : ∃ r, wrs L l = (l : Int) :: r) : o ∈ ordC L l ↔ okO1 L l o := by
  obtain ⟨r, hr⟩ := hw
  unfold ordC okO1
  rw [hr, List.mem_map]
  simp only [List.tail_cons, List.headD_cons]
  constructor
  · rintro ⟨z, hz, rfl⟩
    exact ⟨(mem_perms.1 hz).cons _, rfl⟩
  · rintro ⟨h1, h2⟩
    cases o with
    | nil => simp at h2
    | cons y o =>
      simp at h2
      subst h2
      exact ⟨o, mem_perms.2 h1.cons_inv, rfl⟩
def ordersF (L : List Ev) (l : Nat) : List (List (List Int)) := prodL (((List.range 3).drop l).map (ordC L))
def orders (L : List Ev) : List (List (List Int)) := ordersF L 0
theorem mem_orders {L : List Ev} {os : List (List Int)} (hw : ∀ l : Nat, l ≤ 2 → ∃ r, wrs L l = (l : Int) :: r) : os ∈ orders L ↔ OkO L os := by
  unfold orders ordersF OkO
  rw [mem_prodL]
  have e : ((List.range 3).drop 0).map (ordC L) = [ordC L 0, ordC L 1, ordC L 2] := rfl
  rw [e]
  constructor
  · rintro ⟨h1, h2⟩
    refine ⟨h1, fun l hl => ?_⟩
    have hlo : l < os.length := by rw [h1]; exact hl
    have h3 := h2 l hlo (by simpa using hl)
    rw [show os.getD l [] = os[l] by simp [hlo]]
    have hl3 : l = 0 ∨ l = 1 ∨ l = 2 := by omega
    rcases hl3 with rfl | rfl | rfl
    · exact (mem_ordC (hw 0 (by omega))).1 h3
    · exact (mem_ordC (hw 1 (by omega))).1 h3
    · exact (mem_ordC (hw 2 (by omega))).1 h3
  · rintro ⟨h1, h2⟩
    refine ⟨h1, fun l hlo hl => ?_⟩
    have hl : l < 3 := by simpa using hl
    have h3 := h2 l hl
    rw [show os.getD l [] = os[l] by simp [hlo]] at h3
    have hl3 : l = 0 ∨ l = 1 ∨ l = 2 := by omega
    rcases hl3 with rfl | rfl | rfl
    · exact (mem_ordC (hw 0 (by omega))).2 h3
    · exact (mem_ordC (hw 1 (by omega))).2 h3
    · exact (mem_ordC (hw 2 (by omega))).2 h3

/-! ### All -/
def cands (L : List Ev) : List Ex := (froms L).flatMap fun f => (orders L).map fun o => ⟨f, o⟩
theorem mem_cands {p : Prg} (h : PrgOk p) {x : Ex} : x ∈ cands (evs p) ↔ CandOk p x := by
  unfold cands CandOk
  rw [List.mem_flatMap]
  constructor
  · rintro ⟨f, hf, hx⟩
    obtain ⟨o, ho, rfl⟩ := List.mem_map.1 hx
    exact ⟨h, mem_froms.1 hf, (mem_orders (wrs_evs p)).1 ho⟩
  · rintro ⟨_, h1, h2⟩
    exact ⟨x.from_, mem_froms.2 h1, List.mem_map.2 ⟨x.order, (mem_orders (wrs_evs p)).2 h2, rfl⟩⟩

end Go.Proofs.Ytpadkallejfdlaa
