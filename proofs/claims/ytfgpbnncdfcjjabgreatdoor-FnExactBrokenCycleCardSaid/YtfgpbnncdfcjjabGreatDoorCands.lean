/-
  Candidates for executions, plainly: who writes a location, which candidates are valid. No program in sight. All candidates for executions of a program, plainly: products of choices, orders; how many there are; they are just the valid ones. No program in sight. How many candidates a valid program has at most. No program in sight. Candidates: how many they are, and that they differ. No program in sight.
-/
import Derived.Test.YtfgpbnncdfcjjabGreatDoorPrg
import Derived.Test.YtfgpbnncdfcjjabGreatDoorInts

/-! Candidates for executions, plainly: who writes a location, which candidates are valid. No program in sight. -/
namespace Go.Proofs.YtfgpbnncdfcjjabGreatDoor
open Go.RowKit
set_option linter.unusedVariables false
set_option maxRecDepth 100000

/-- An event that writes a location. -/
def wrl (loc : Int) (e : Ev) : Bool := e.wr && decide (e.loc = loc)
/-- The places of the writes of a location, from a place on. -/
def wrF (loc : Int) : Nat → List Ev → List Int
  | _, [] => []
  | i, e :: es => if wrl loc e = true then (i : Int) :: wrF loc (i + 1) es else wrF loc (i + 1) es
def wrs (L : List Ev) (loc : Int) : List Int := wrF loc 0 L
theorem wrF_append (loc : Int) (es fs : List Ev) : ∀ i, wrF loc i (es ++ fs) = wrF loc i es ++ wrF loc (i + es.length) fs := by
  induction es with
  | nil => intro i; simp [wrF]
  | cons e es ih =>
    intro i
    rw [List.cons_append, wrF, wrF, ih, List.length_cons, show i + 1 + es.length = i + (es.length + 1) by omega]
    by_cases h : wrl loc e = true
    · rw [if_pos h, if_pos h, List.cons_append]
    · rw [if_neg h, if_neg h]
theorem wrs_take (L : List Ev) (loc : Int) (k : Nat) (h : k < L.length) : wrs (L.take (k + 1)) loc = wrs (L.take k) loc ++ if wrl loc L[k] = true then [(k : Int)] else [] := by
  unfold wrs
  rw [List.take_succ_eq_append_getElem h, wrF_append, List.length_take, show 0 + min k L.length = k by omega]
  rfl
theorem wrF_length (loc : Int) (es : List Ev) : ∀ i, (wrF loc i es).length ≤ es.length := by
  induction es with
  | nil => intro i; simp [wrF]
  | cons e es ih =>
    intro i
    have := ih (i + 1)
    rw [wrF, List.length_cons]
    by_cases h : wrl loc e = true
    · rw [if_pos h, List.length_cons]; omega
    · rw [if_neg h]; omega
theorem wrs_length (L : List Ev) (loc : Int) : (wrs L loc).length ≤ L.length := wrF_length loc L 0
theorem mem_wrF {loc n : Int} {es : List Ev} : ∀ {i : Nat}, n ∈ wrF loc i es ↔ ∃ k : Nat, ∃ h : k < es.length, n = (i + k : Nat) ∧ wrl loc es[k] = true := by
  induction es with
  | nil => intro i; simp [wrF]
  | cons e es ih =>
    intro i
    have key : (∃ k : Nat, ∃ h : k < (e :: es).length, n = (i + k : Nat) ∧ wrl loc (e :: es)[k] = true) ↔ (n = i ∧ wrl loc e = true) ∨ ∃ k : Nat, ∃ h : k < es.length, n = (i + 1 + k : Nat) ∧ wrl loc es[k] = true := by
      constructor
      · rintro ⟨k, h, h1, h2⟩
        cases k with
        | zero => exact .inl ⟨by omega, h2⟩
        | succ k => exact .inr ⟨k, by simpa using h, by omega, by simpa using h2⟩
      · rintro (⟨h1, h2⟩ | ⟨k, h, h1, h2⟩)
        · exact ⟨0, by simp, by omega, h2⟩
        · exact ⟨k + 1, by simpa using h, by omega, by simpa using h2⟩
    rw [key, wrF]
    by_cases h : wrl loc e = true
    · rw [if_pos h, List.mem_cons, ih]; simp [h]
    · rw [if_neg h, ih]; simp [h]
theorem mem_wrs {L : List Ev} {loc n : Int} : n ∈ wrs L loc ↔ ∃ k : Nat, ∃ h : k < L.length, n = k ∧ wrl loc L[k] = true := by
  unfold wrs; rw [mem_wrF]; simp
theorem wrF_sorted (loc : Int) (es : List Ev) : ∀ i : Nat, (wrF loc i es).Pairwise (· < ·) ∧ ∀ n ∈ wrF loc i es, (i : Int) ≤ n := by
  induction es with
  | nil => intro i; simp [wrF]
  | cons e es ih =>
    intro i
    obtain ⟨h1, h2⟩ := ih (i + 1)
    rw [wrF]
    by_cases h : wrl loc e = true
    · rw [if_pos h]
      refine ⟨List.pairwise_cons.2 ⟨fun n hn => by have := h2 n hn; omega, h1⟩, fun n hn => ?_⟩
      rcases List.mem_cons.1 hn with rfl | hn
      · omega
      · have := h2 n hn; omega
    · rw [if_neg h]
      exact ⟨h1, fun n hn => by have := h2 n hn; omega⟩
theorem wrs_sorted (L : List Ev) (loc : Int) : (wrs L loc).Pairwise (· < ·) := (wrF_sorted loc L 0).1
theorem wrs_nodup (L : List Ev) (loc : Int) : (wrs L loc).Nodup := (wrs_sorted L loc).imp fun h => by omega
/-- The first write is first. -/
theorem wrs_evs (p : Prg) (l : Nat) (hl : l ≤ 2) : ∃ r, wrs (evs p) l = (l : Int) :: r := by
  unfold wrs evs
  rw [wrF_append]
  match l, hl with
  | 0, _ => exact ⟨_, rfl⟩
  | 1, _ => exact ⟨_, rfl⟩
  | 2, _ => exact ⟨_, rfl⟩

/-! ### Valid candidates -/
def OkF (L : List Ev) (f : List Int) : Prop := f.length = L.length ∧ ∀ i (h : i < L.length), if L[i].rd = true then f.getD i 0 ∈ wrs L L[i].loc ∧ f.getD i 0 ≠ i else f.getD i 0 = -1
def okO1 (L : List Ev) (loc : Nat) (o : List Int) : Prop := o.Perm (wrs L loc) ∧ o.head? = some (loc : Int)
def OkO (L : List Ev) (os : List (List Int)) : Prop := os.length = 3 ∧ ∀ l, l < 3 → okO1 L l (os.getD l [])
def CandOk (p : Prg) (x : Ex) : Prop := PrgOk p ∧ OkF (evs p) x.from_ ∧ OkO (evs p) x.order
open Classical in
noncomputable def candB (p : Prg) (x : Ex) : Bool := decide (CandOk p x)
theorem candB_iff {p : Prg} {x : Ex} : candB p x = true ↔ CandOk p x := by simp [candB]
theorem candB_false {p : Prg} {x : Ex} : candB p x = false ↔ ¬ CandOk p x := by simp [candB]

/-- A list with the same number of elements that has all of another one's, each once, is that one in some order. -/
theorem perm_of_sub : ∀ {ws l : List Int}, ws.Nodup → (∀ w ∈ ws, w ∈ l) → l.length = ws.length → l.Perm ws
  | [], l, _, _, hl => by rw [List.length_eq_zero_iff.1 hl]
  | w :: ws, l, hn, hs, hl => by
    have hw := hs w (by simp)
    have h1 := List.perm_cons_erase hw
    have hn' := List.nodup_cons.1 hn
    have h2 : (l.erase w).Perm ws := perm_of_sub hn'.2 (fun x hx => (List.mem_erase_of_ne (fun e => hn'.1 (by rw [← e]; exact hx))).2 (hs x (List.mem_cons_of_mem _ hx))) (by
      have := h1.length_eq
      simp at this hl
      omega)
    exact h1.trans (h2.cons w)
theorem okO1_sp {L : List Ev} {loc : Nat} {o : List Int} (hw : ∃ r, wrs L loc = (loc : Int) :: r) : okO1 L loc o ↔ o.length = (wrs L loc).length ∧ o.head? = (wrs L loc).head? ∧ ∀ w ∈ wrs L loc, w ∈ o := by
  obtain ⟨r, hr⟩ := hw
  constructor
  · rintro ⟨h1, h2⟩
    exact ⟨h1.length_eq, by rw [h2, hr]; rfl, fun w hw => (h1.mem_iff).2 hw⟩
  · rintro ⟨h1, h2, h3⟩
    exact ⟨perm_of_sub (wrs_nodup L loc) h3 h1, by rw [h2, hr]; rfl⟩
theorem srt_wrs {L : List Ev} {loc : Nat} {o : List Int} : (o.mergeSort fun x y => decide (x ≤ y)) = wrs L loc ↔ o.Perm (wrs L loc) := by
  constructor
  · intro h
    rw [← h]
    exact (List.mergeSort_perm _ _).symm
  · intro h
    refine List.Perm.eq_of_pairwise (le := (· ≤ ·)) (fun a b _ _ h1 h2 => by omega) ?_ ((wrs_sorted L loc).imp fun h => by omega) ((List.mergeSort_perm _ _).trans h)
    have := List.pairwise_mergeSort (le := fun x y : Int => decide (x ≤ y)) (fun a b c h1 h2 => by simp at *; omega) (fun a b => by simp; omega) o
    exact this.imp fun h => by simpa using h

end Go.Proofs.YtfgpbnncdfcjjabGreatDoor

/-! All candidates for executions of a program, plainly: products of choices, orders; how many there are; they are just the valid ones. No program in sight. -/
namespace Go.Proofs.YtfgpbnncdfcjjabGreatDoor
open Go.RowKit
set_option linter.unusedVariables false
set_option maxRecDepth 100000

/-- All lists with one element of each list of choices. -/
def prodL {α : Type} : List (List α) → List (List α)
  | [] => [[]]
  | c :: cs => c.flatMap fun x => (prodL cs).map (x :: ·)
def lenP {α : Type} : List (List α) → Nat
  | [] => 1
  | c :: cs => c.length * lenP cs
theorem flatMap_len {α β : Type} (f : α → List β) (n : Nat) (h : ∀ x, (f x).length = n) (l : List α) : (l.flatMap f).length = l.length * n := by
  induction l with
  | nil => simp
  | cons x l ih => rw [List.flatMap_cons, List.length_append, h, ih, List.length_cons, Nat.add_mul]; omega
theorem prodL_length {α : Type} : ∀ cs : List (List α), (prodL cs).length = lenP cs
  | [] => rfl
  | c :: cs => by rw [prodL, flatMap_len _ (lenP cs) (fun x => by rw [List.length_map, prodL_length]), lenP]
theorem prodL_each {α : Type} : ∀ {cs : List (List α)} {f : List α}, f ∈ prodL cs → f.length = cs.length
  | [], f, h => by rw [prodL, List.mem_singleton] at h; rw [h]; rfl
  | c :: cs, f, h => by
    rw [prodL, List.mem_flatMap] at h
    obtain ⟨x, _, h⟩ := h
    obtain ⟨g, hg, rfl⟩ := List.mem_map.1 h
    rw [List.length_cons, List.length_cons, prodL_each hg]
theorem mem_prodL {α : Type} : ∀ {cs : List (List α)} {f : List α}, f ∈ prodL cs ↔ f.length = cs.length ∧ ∀ i (h : i < f.length) (h' : i < cs.length), f[i] ∈ cs[i]
  | [], f => by
    rw [prodL, List.mem_singleton]
    constructor
    · rintro rfl; exact ⟨rfl, fun i h => by simp at h⟩
    · rintro ⟨h, _⟩; exact List.length_eq_zero_iff.1 h
  | c :: cs, [] => by
    rw [prodL, List.mem_flatMap]
    constructor
    · rintro ⟨x, _, h⟩; obtain ⟨g, _, e⟩ := List.mem_map.1 h; cases e
    · rintro ⟨h, _⟩; simp at h
  | c :: cs, x :: f => by
    rw [prodL, List.mem_flatMap]
    constructor
    · rintro ⟨y, hy, h⟩
      obtain ⟨g, hg, e⟩ := List.mem_map.1 h
      injection e with e1 e2
      subst e1 e2
      obtain ⟨h1, h2⟩ := mem_prodL.1 hg
      refine ⟨by simp [h1], fun i h h' => ?_⟩
      cases i with
      | zero => exact hy
      | succ i => exact h2 i (by simpa using h) (by simpa using h')
    · rintro ⟨h1, h2⟩
      refine ⟨x, h2 0 (by simp) (by simp), List.mem_map.2 ⟨f, mem_prodL.2 ⟨by simpa using h1, fun i h h' => ?_⟩, rfl⟩⟩
      have := h2 (i + 1) (by simpa using h) (by simpa using h')
      simpa using this

/-! ### Sources of reads -/
def frC (L : List Ev) (i : Nat) (e : Ev) : List Int := if e.rd = true then (wrs L e.loc).filter (fun n => decide (n ≠ (i : Int))) else [-1]
def chF (L : List Ev) : Nat → List Ev → List (List Int)
  | _, [] => []
  | i, e :: es => frC L i e :: chF L (i + 1) es
def froms (L : List Ev) : List (List Int) := prodL (chF L 0 L)
theorem chF_length (L : List Ev) : ∀ (es : List Ev) (i : Nat), (chF L i es).length = es.length
  | [], _ => rfl
  | e :: es, i => by rw [chF, List.length_cons, List.length_cons, chF_length]
theorem chF_get (L : List Ev) : ∀ (es : List Ev) (i k : Nat) (h : k < es.length) (h' : k < (chF L i es).length), (chF L i es)[k] = frC L (i + k) es[k]
  | e :: es, i, 0, _, _ => rfl
  | e :: es, i, k + 1, h, h' => by
    have := chF_get L es (i + 1) k (by simpa using h) (by rw [chF_length]; simpa using h)
    simp only [chF, List.getElem_cons_succ]
    rw [this, show i + 1 + k = i + (k + 1) by omega]
theorem chF_drop (L : List Ev) (k : Nat) (h : k < L.length) : chF L k (L.drop k) = frC L k L[k] :: chF L (k + 1) (L.drop (k + 1)) := by
  rw [List.drop_eq_getElem_cons h, chF]
theorem mem_froms {L : List Ev} {f : List Int} : f ∈ froms L ↔ OkF L f := by
  unfold froms OkF
  rw [mem_prodL]
  have hcl := chF_length L L 0
  constructor
  · rintro ⟨h1, h2⟩
    rw [hcl] at h1
    refine ⟨h1, fun i hi => ?_⟩
    have hif : i < f.length := by omega
    have h3 := h2 i hif (by rw [chF_length]; exact hi)
    rw [chF_get L L 0 i hi] at h3
    rw [show f.getD i 0 = f[i] by simp [hif]]
    unfold frC at h3
    rw [Nat.zero_add] at h3
    by_cases hr : L[i].rd = true
    · rw [if_pos hr] at h3 ⊢
      rw [List.mem_filter] at h3
      exact ⟨h3.1, by simpa using h3.2⟩
    · rw [if_neg hr] at h3 ⊢
      simpa using h3
  · rintro ⟨h1, h2⟩
    refine ⟨h1.trans hcl.symm, fun i hif h' => ?_⟩
    have hi : i < L.length := by omega
    have h3 := h2 i hi
    rw [chF_get L L 0 i hi, Nat.zero_add]
    rw [show f.getD i 0 = f[i] by simp [hif]] at h3
    unfold frC
    by_cases hr : L[i].rd = true
    · rw [if_pos hr] at h3 ⊢
      rw [List.mem_filter]
      exact ⟨h3.1, by simpa using h3.2⟩
    · rw [if_neg hr] at h3 ⊢
      simpa using h3

/-! ### Orders -/
def permsN : Nat → List Int → List (List Int)
  | 0, _ => [[]]
  | n + 1, xs => (List.range xs.length).flatMap fun i => (permsN n (xs.eraseIdx i)).map (xs.getD i 0 :: ·)
def perms (xs : List Int) : List (List Int) := permsN xs.length xs
theorem permsN_length : ∀ (n : Nat) (xs : List Int), xs.length = n → (permsN n xs).length = fact n
  | 0, _, _ => rfl
  | n + 1, xs, h => by
    have key : ∀ l : List Nat, (∀ i ∈ l, i < xs.length) → (l.flatMap fun i => (permsN n (xs.eraseIdx i)).map (xs.getD i 0 :: ·)).length = l.length * fact n := by
      intro l
      induction l with
      | nil => intro _; simp
      | cons i l ih =>
        intro hl
        have hi := hl i (by simp)
        rw [List.flatMap_cons, List.length_append, List.length_map, permsN_length n _ (by rw [List.length_eraseIdx]; simp [hi]; omega), ih fun j hj => hl j (List.mem_cons_of_mem _ hj), List.length_cons, Nat.add_mul]
        omega
    rw [permsN, key _ fun i hi => List.mem_range.1 hi, List.length_range, h, fact]
theorem perms_length (xs : List Int) : (perms xs).length = fact xs.length := permsN_length _ _ rfl
theorem perms_cons {xs : List Int} (h : 0 < xs.length) : perms xs = (List.range xs.length).flatMap fun i => (perms (xs.eraseIdx i)).map (xs.getD i 0 :: ·) := by
  obtain ⟨n, hn⟩ : ∃ n, xs.length = n + 1 := ⟨xs.length - 1, by omega⟩
  unfold perms
  rw [hn, permsN, hn]
  simp only [List.flatMap]
  congr 1
  refine List.map_congr_left fun i hi => ?_
  have hi' : i < xs.length := by rw [hn]; exact List.mem_range.1 hi
  rw [List.length_eraseIdx, if_pos hi', hn]
  rfl
theorem perm_eraseIdx {xs : List Int} {i : Nat} (h : i < xs.length) : (xs.getD i 0 :: xs.eraseIdx i).Perm xs := by
  rw [show xs.getD i 0 = xs[i] by simp [h], List.eraseIdx_eq_take_drop_succ]
  have := List.take_append_drop i xs
  rw [List.drop_eq_getElem_cons h] at this
  conv => rhs; rw [← this]
  exact (List.perm_middle).symm
theorem mem_permsN : ∀ {n : Nat} {xs ys : List Int}, xs.length = n → (ys ∈ permsN n xs ↔ ys.Perm xs)
  | 0, xs, ys, h => by
    rw [permsN, List.mem_singleton, List.length_eq_zero_iff.1 h, List.perm_nil]
  | n + 1, xs, ys, h => by
    rw [permsN, List.mem_flatMap]
    have hle : ∀ i, i < xs.length → (xs.eraseIdx i).length = n := fun i hi => by rw [List.length_eraseIdx, if_pos hi, h]; rfl
    constructor
    · rintro ⟨i, hi, hy⟩
      have hi := List.mem_range.1 hi
      obtain ⟨zs, hz, rfl⟩ := List.mem_map.1 hy
      exact (((mem_permsN (hle i hi)).1 hz).cons _).trans (perm_eraseIdx hi)
    · intro hp
      cases ys with
      | nil => have := hp.length_eq; simp at this; omega
      | cons y ys =>
        have hy : y ∈ xs := hp.mem_iff.1 (by simp)
        obtain ⟨i, hi, he⟩ := List.getElem_of_mem hy
        refine ⟨i, List.mem_range.2 hi, List.mem_map.2 ⟨ys, (mem_permsN (hle i hi)).2 ?_, by simp [hi, he]⟩⟩
        have h2 := hp.trans (perm_eraseIdx hi).symm
        rw [show xs.getD i 0 = y by simp [hi, he]] at h2
        exact h2.cons_inv
theorem mem_perms {xs ys : List Int} : ys ∈ perms xs ↔ ys.Perm xs := mem_permsN rfl
def ordC (L : List Ev) (l : Nat) : List (List Int) := (perms (wrs L l).tail).map ((wrs L l).headD 0 :: ·)
theorem mem_ordC {L : List Ev} {l : Nat} {o : List Int} (hw : ∃ r, wrs L l = (l : Int) :: r) : o ∈ ordC L l ↔ okO1 L l o := by
  obtain ⟨r, hr⟩ := hw
  unfold ordC okO1
  rw [hr, List.mem_map]
  simp only [List.tail_cons, List.headD_cons]
  constructor
  · rintro ⟨z, hz, rfl⟩
    exact ⟨(mem_perms.1 hz).cons _, rfl⟩
  · rintro ⟨h1, h2⟩
    cases o with
    | nil => simp at h2
    | cons y o =>
      simp at h2
      subst h2
      exact ⟨o, mem_perms.2 h1.cons_inv, rfl⟩
def ordersF (L : List Ev) (l : Nat) : List (List (List Int)) := prodL (((List.range 3).drop l).map (ordC L))
def orders (L : List Ev) : List (List (List Int)) := ordersF L 0
theorem mem_orders {L : List Ev} {os : List (List Int)} (hw : ∀ l : Nat, l ≤ 2 → ∃ r, wrs L l = (l : Int) :: r) : os ∈ orders L ↔ OkO L os := by
  unfold orders ordersF OkO
  rw [mem_prodL]
  have e : ((List.range 3).drop 0).map (ordC L) = [ordC L 0, ordC L 1, ordC L 2] := rfl
  rw [e]
  constructor
  · rintro ⟨h1, h2⟩
    refine ⟨h1, fun l hl => ?_⟩
    have hlo : l < os.length := by rw [h1]; exact hl
    have h3 := h2 l hlo (by simpa using hl)
    rw [show os.getD l [] = os[l] by simp [hlo]]
    have hl3 : l = 0 ∨ l = 1 ∨ l = 2 := by omega
    rcases hl3 with rfl | rfl | rfl
    · exact (mem_ordC (hw 0 (by omega))).1 h3
    · exact (mem_ordC (hw 1 (by omega))).1 h3
    · exact (mem_ordC (hw 2 (by omega))).1 h3
  · rintro ⟨h1, h2⟩
    refine ⟨h1, fun l hlo hl => ?_⟩
    have hl : l < 3 := by simpa using hl
    have h3 := h2 l hl
    rw [show os.getD l [] = os[l] by simp [hlo]] at h3
    have hl3 : l = 0 ∨ l = 1 ∨ l = 2 := by omega
    rcases hl3 with rfl | rfl | rfl
    · exact (mem_ordC (hw 0 (by omega))).2 h3
    · exact (mem_ordC (hw 1 (by omega))).2 h3
    · exact (mem_ordC (hw 2 (by omega))).2 h3

/-! ### All -/
def cands (L : List Ev) : List Ex := (froms L).flatMap fun f => (orders L).map fun o => ⟨f, o⟩
theorem mem_cands {p : Prg} (h : PrgOk p) {x : Ex} : x ∈ cands (evs p) ↔ CandOk p x := by
  unfold cands CandOk
  rw [List.mem_flatMap]
  constructor
  · rintro ⟨f, hf, hx⟩
    obtain ⟨o, ho, rfl⟩ := List.mem_map.1 hx
    exact ⟨h, mem_froms.1 hf, (mem_orders (wrs_evs p)).1 ho⟩
  · rintro ⟨_, h1, h2⟩
    exact ⟨x.from_, mem_froms.2 h1, List.mem_map.2 ⟨x.order, (mem_orders (wrs_evs p)).2 h2, rfl⟩⟩

end Go.Proofs.YtfgpbnncdfcjjabGreatDoor

/-! How many candidates a valid program has at most. No program in sight. -/
namespace Go.Proofs.YtfgpbnncdfcjjabGreatDoor
open Go.RowKit
set_option linter.unusedVariables false
set_option maxRecDepth 100000

theorem wrF_count (loc : Int) : ∀ (es : List Ev) (i : Nat), (wrF loc i es).length = es.countP (wrl loc)
  | [], _ => rfl
  | e :: es, i => by
    rw [wrF, List.countP_cons]
    by_cases h : wrl loc e = true
    · rw [if_pos h, List.length_cons, wrF_count]; simp [h]
    · rw [if_neg h, wrF_count]; simp [h]
theorem wrs_count (L : List Ev) (loc : Int) : (wrs L loc).length = L.countP (wrl loc) := wrF_count loc L 0
def rdl (loc : Int) (e : Ev) : Bool := e.rd && decide (e.loc = loc)
theorem evT_countW (loc : Int) (ti : Nat) : ∀ (t : List Ins) (i : Nat), (evT ti i t).countP (wrl loc) = cntT loc true t
  | [], _ => rfl
  | x :: t, i => by
    have ih := evT_countW loc ti t (i + 1)
    unfold cntT at ih ⊢
    rw [evT, List.countP_append, ih, List.countP_cons]
    unfold evI
    by_cases h4 : x.op = 4
    · rw [if_pos h4]; simp [hitB, wrB, h4]
    · rw [if_neg h4]; simp [hitB, wrl, Bool.and_comm]; omega
theorem evT_countR (loc : Int) (ti : Nat) : ∀ (t : List Ins) (i : Nat), (evT ti i t).countP (rdl loc) = cntT loc false t
  | [], _ => rfl
  | x :: t, i => by
    have ih := evT_countR loc ti t (i + 1)
    unfold cntT at ih ⊢
    rw [evT, List.countP_append, ih, List.countP_cons]
    unfold evI
    by_cases h4 : x.op = 4
    · rw [if_pos h4]; simp [hitB, rdB, h4]
    · rw [if_neg h4]; simp [hitB, rdl, Bool.and_comm]; omega
theorem evP_countW (loc : Int) : ∀ (p : Prg) (ti : Nat), (evP ti p).countP (wrl loc) = cntP loc true p
  | [], _ => rfl
  | t :: p, ti => by
    have ih := evP_countW loc p (ti + 1)
    unfold cntP at ih ⊢
    rw [evP, List.countP_append, ih, evT_countW]; rfl
theorem evP_countR (loc : Int) : ∀ (p : Prg) (ti : Nat), (evP ti p).countP (rdl loc) = cntP loc false p
  | [], _ => rfl
  | t :: p, ti => by
    have ih := evP_countR loc p (ti + 1)
    unfold cntP at ih ⊢
    rw [evP, List.countP_append, ih, evT_countR]; rfl
theorem wrs_evs_len (p : Prg) (l : Nat) (hl : l ≤ 2) : (wrs (evs p) l).length = cntP l true p + 1 := by
  rw [wrs_count]
  unfold evs
  rw [List.countP_append, evP_countW]
  have h : ini.countP (wrl (l : Int)) = 1 := by
    have : l = 0 ∨ l = 1 ∨ l = 2 := by omega
    rcases this with rfl | rfl | rfl <;> rfl
  omega
theorem rd_evs_len (p : Prg) (l : Nat) : (evs p).countP (rdl l) = cntP l false p := by
  unfold evs
  rw [List.countP_append, evP_countR]
  have h : ini.countP (rdl (l : Int)) = 0 := by
    rw [List.countP_eq_zero]
    intro e he
    simp [ini] at he
    rcases he with rfl | rfl | rfl <;> simp [rdl]
  omega

/-- A location's number of writes. -/
def wN (L : List Ev) (e : Ev) : Nat := if e.rd = true then (wrs L e.loc).length else 1
theorem frC_le (L : List Ev) (i : Nat) (e : Ev) : (frC L i e).length ≤ wN L e := by
  unfold frC wN
  by_cases h : e.rd = true
  · rw [if_pos h, if_pos h]; exact List.length_filter_le _ _
  · rw [if_neg h, if_neg h]; simp
theorem lenP_le (L : List Ev) : ∀ (es : List Ev) (i : Nat), lenP (chF L i es) ≤ (es.map (wN L)).foldr (· * ·) 1
  | [], _ => Nat.le_refl _
  | e :: es, i => by
    rw [chF, lenP, List.map_cons, List.foldr_cons]
    exact Nat.mul_le_mul (frC_le L i e) (lenP_le L es (i + 1))
theorem prod_wN (L : List Ev) : ∀ (es : List Ev), (∀ e ∈ es, e.loc = 0 ∨ e.loc = 1 ∨ e.loc = 2) →
    (es.map (wN L)).foldr (· * ·) 1 = (wrs L 0).length ^ es.countP (rdl 0) * (wrs L 1).length ^ es.countP (rdl 1) * (wrs L 2).length ^ es.countP (rdl 2)
  | [], _ => by simp
  | e :: es, h => by
    rw [List.map_cons, List.foldr_cons, prod_wN L es fun x hx => h x (List.mem_cons_of_mem _ hx), List.countP_cons, List.countP_cons, List.countP_cons]
    unfold wN
    by_cases hr : e.rd = true
    · rw [if_pos hr]
      rcases h e (by simp) with hl | hl | hl
      · simp only [rdl, hl, hr]
        simp [Nat.pow_succ, Nat.mul_comm, Nat.mul_assoc]
      · simp only [rdl, hl, hr]
        simp [Nat.pow_succ, Nat.mul_comm, Nat.mul_assoc, Nat.mul_left_comm]
      · simp only [rdl, hl, hr]
        simp [Nat.pow_succ, Nat.mul_comm, Nat.mul_assoc, Nat.mul_left_comm]
    · rw [if_neg hr]
      simp [rdl, hr]
theorem mem_evT_loc {ti : Nat} {e : Ev} : ∀ {t : List Ins} {i : Nat}, e ∈ evT ti i t → ∃ x ∈ t, e.loc = x.loc
  | [], _, h => by cases h
  | x :: t, i, h => by
    rw [evT] at h
    rcases List.mem_append.1 h with h | h
    · unfold evI at h
      by_cases h4 : x.op = 4
      · rw [if_pos h4] at h; cases h
      · rw [if_neg h4] at h
        rw [List.mem_singleton.1 h]
        exact ⟨x, by simp, rfl⟩
    · obtain ⟨y, hy, h⟩ := mem_evT_loc h
      exact ⟨y, List.mem_cons_of_mem _ hy, h⟩
theorem mem_evP_loc {e : Ev} : ∀ {p : Prg} {ti : Nat}, e ∈ evP ti p → ∃ t ∈ p, ∃ x ∈ t, e.loc = x.loc
  | [], _, h => by cases h
  | t :: p, ti, h => by
    rw [evP] at h
    rcases List.mem_append.1 h with h | h
    · obtain ⟨x, hx, h1⟩ := mem_evT_loc h
      exact ⟨t, by simp, x, hx, h1⟩
    · obtain ⟨s, hs, h⟩ := mem_evP_loc h
      exact ⟨s, List.mem_cons_of_mem _ hs, h⟩
theorem evs_loc {p : Prg} (h : ShapeOk p) : ∀ e ∈ evs p, e.loc = 0 ∨ e.loc = 1 ∨ e.loc = 2 := by
  intro e he
  unfold evs at he
  rcases List.mem_append.1 he with he | he
  · simp [ini] at he
    rcases he with rfl | rfl | rfl <;> simp
  · obtain ⟨t, ht, x, hx, e1⟩ := mem_evP_loc he
    have := ((h.2.1 t ht).2 x hx).loc
    omega
theorem ordC_length (L : List Ev) (l : Nat) : (ordC L l).length = fact (wrs L l).tail.length := by
  unfold ordC; rw [List.length_map, perms_length]
theorem cands_count {p : Prg} (h : PrgOk p) : (froms (evs p)).length * (orders (evs p)).length ≤ 3000 := by
  refine Nat.le_trans ?_ h.2.2
  have h1 : (froms (evs p)).length ≤ ((evs p).map (wN (evs p))).foldr (· * ·) 1 := by
    unfold froms
    rw [prodL_length]
    exact lenP_le (evs p) (evs p) 0
  rw [prod_wN _ _ (evs_loc h.1)] at h1
  have e0 := wrs_evs_len p 0 (by omega)
  have e1 := wrs_evs_len p 1 (by omega)
  have e2 := wrs_evs_len p 2 (by omega)
  have r0 := rd_evs_len p 0
  have r1 := rd_evs_len p 1
  have r2 := rd_evs_len p 2
  have h2 : (orders (evs p)).length = fact (cntP 0 true p) * (fact (cntP 1 true p) * fact (cntP 2 true p)) := by
    unfold orders ordersF
    rw [prodL_length]
    show (ordC (evs p) 0).length * ((ordC (evs p) 1).length * ((ordC (evs p) 2).length * 1)) = _
    rw [ordC_length, ordC_length, ordC_length, Nat.mul_one, List.length_tail, List.length_tail, List.length_tail]
    rw [show (wrs (evs p) ((0 : Nat) : Int)).length = cntP 0 true p + 1 from e0, show (wrs (evs p) ((1 : Nat) : Int)).length = cntP 1 true p + 1 from e1, show (wrs (evs p) ((2 : Nat) : Int)).length = cntP 2 true p + 1 from e2]
    rfl
  rw [h2]
  rw [show (wrs (evs p) 0).length = cntP 0 true p + 1 from e0, show (wrs (evs p) 1).length = cntP 1 true p + 1 from e1, show (wrs (evs p) 2).length = cntP 2 true p + 1 from e2, show (evs p).countP (rdl 0) = cntP 0 false p from r0, show (evs p).countP (rdl 1) = cntP 1 false p from r1, show (evs p).countP (rdl 2) = cntP 2 false p from r2] at h1
  refine Nat.le_trans (Nat.mul_le_mul_right _ h1) (Nat.le_of_eq ?_)
  unfold exN exL
  simp [Nat.mul_assoc, Nat.mul_left_comm]

theorem frC_pos {p : Prg} (h : ShapeOk p) {i : Nat} (hi : i < (evs p).length) : 0 < (frC (evs p) i (evs p)[i]).length := by
  unfold frC
  by_cases hr : (evs p)[i].rd = true
  · rw [if_pos hr]
    have hi3 : 3 ≤ i := by
      rcases Nat.lt_or_ge i 3 with h3 | h3
      · exfalso
        have he : (evs p)[i] = ini[i]'h3 := List.getElem_append_left (show i < ini.length from h3)
        rw [he] at hr
        have : i = 0 ∨ i = 1 ∨ i = 2 := by omega
        rcases this with rfl | rfl | rfl <;> simp [ini] at hr
      · exact h3
    obtain ⟨l, hl, hle⟩ : ∃ l : Nat, (evs p)[i].loc = l ∧ l ≤ 2 := by
      rcases evs_loc h _ (List.getElem_mem hi) with e | e | e
      · exact ⟨0, e, by omega⟩
      · exact ⟨1, e, by omega⟩
      · exact ⟨2, e, by omega⟩
    rw [hl]
    obtain ⟨r, hr⟩ := wrs_evs p l hle
    rw [hr]
    have : (l : Int) ∈ ((l : Int) :: r).filter (fun n => decide (n ≠ (i : Int))) := by
      rw [List.mem_filter]; exact ⟨by simp, by simp; omega⟩
    exact List.length_pos_of_mem this
  · rw [if_neg hr]; simp
theorem lenP_drop {p : Prg} (h : ShapeOk p) : ∀ (n k : Nat), k + n = (evs p).length → lenP (chF (evs p) k ((evs p).drop k)) ≤ lenP (chF (evs p) 0 (evs p)) := by
  have key : ∀ k, k ≤ (evs p).length → lenP (chF (evs p) k ((evs p).drop k)) ≤ lenP (chF (evs p) 0 (evs p)) := by
    intro k
    induction k with
    | zero => intro _; simp
    | succ k ih =>
      intro hk
      have h1 := ih (by omega)
      rw [chF_drop _ k (by omega), lenP] at h1
      have h2 := frC_pos h (i := k) (by omega)
      exact Nat.le_trans (Nat.le_mul_of_pos_left _ h2) h1
  exact fun n k hn => key k (by omega)
theorem fact_le_mul (a b c d : Nat) (h : a * b ≤ 3000) (hb : 0 < b) : a ≤ 3000 := Nat.le_trans (Nat.le_mul_of_pos_right _ hb) h
theorem lenP_fact_pos (L : List Ev) : ∀ ls : List Nat, 0 < lenP (ls.map (ordC L))
  | [] => by simp [lenP]
  | l :: ls => by
    rw [List.map_cons, lenP]
    refine Nat.mul_pos ?_ (lenP_fact_pos L ls)
    rw [ordC_length]; exact fact_pos _
theorem lenP_from_pos {p : Prg} (h : ShapeOk p) : 0 < lenP (chF (evs p) 0 (evs p)) := by
  have := lenP_drop h 0 (evs p).length (by omega)
  rw [List.drop_length, chF, lenP] at this
  omega
/-- What the walks want of the events of a valid program. -/
structure Few3 (L : List Ev) : Prop where
  len : L.length ≤ 15
  fr : ∀ k, k ≤ L.length → (prodL (chF L k (L.drop k))).length ≤ 3000
  od : ∀ l, l ≤ 3 → (ordersF L l).length ≤ 3000
  all : (froms L).length * (orders L).length ≤ 3000
  pm : ∀ l : Nat, l ≤ 2 → (wrs L l).length ≤ 7
  hd : ∀ l : Nat, l ≤ 2 → ∃ r, wrs L l = (l : Int) :: r
theorem fact_big {n : Nat} (h : 7 ≤ n) : 5040 ≤ fact n := by
  induction n with
  | zero => omega
  | succ n ih =>
    rcases Nat.lt_or_ge n 7 with h7 | h7
    · obtain rfl : n = 6 := by omega
      decide
    · have := ih h7
      rw [fact]
      exact Nat.le_trans this (Nat.le_mul_of_pos_left _ (Nat.succ_pos n))
theorem few3 {p : Prg} (h : PrgOk p) : Few3 (evs p) := by
  have hall := cands_count h
  have hop : 0 < (orders (evs p)).length := by unfold orders ordersF; rw [prodL_length]; exact lenP_fact_pos _ _
  have hfp : 0 < (froms (evs p)).length := by unfold froms; rw [prodL_length]; exact lenP_from_pos h.1
  have hf : (froms (evs p)).length ≤ 3000 := Nat.le_trans (Nat.le_mul_of_pos_right _ hop) hall
  have ho : (orders (evs p)).length ≤ 3000 := Nat.le_trans (Nat.le_mul_of_pos_left _ hfp) hall
  have hol : (orders (evs p)).length = (ordC (evs p) 0).length * ((ordC (evs p) 1).length * ((ordC (evs p) 2).length * 1)) := by
    unfold orders ordersF; rw [prodL_length]; rfl
  have p0 : 0 < (ordC (evs p) 0).length := by rw [ordC_length]; exact fact_pos _
  have p1 : 0 < (ordC (evs p) 1).length := by rw [ordC_length]; exact fact_pos _
  have p2 : 0 < (ordC (evs p) 2).length := by rw [ordC_length]; exact fact_pos _
  rw [Nat.mul_one] at hol
  have ho' := ho
  rw [hol] at ho'
  have q12 : (ordC (evs p) 1).length * (ordC (evs p) 2).length ≤ 3000 := Nat.le_trans (Nat.le_mul_of_pos_left _ p0) ho'
  have q2 : (ordC (evs p) 2).length ≤ 3000 := Nat.le_trans (Nat.le_mul_of_pos_left _ p1) q12
  have q1 : (ordC (evs p) 1).length ≤ 3000 := Nat.le_trans (Nat.le_mul_of_pos_right _ p2) q12
  have q0 : (ordC (evs p) 0).length ≤ 3000 := Nat.le_trans (Nat.le_mul_of_pos_right _ (Nat.mul_pos p1 p2)) ho'
  refine ⟨by rw [evs_length]; have := h.1.2.2; omega, fun k hk => ?_, fun l hl => ?_, hall, fun l hl => ?_, wrs_evs p⟩
  · rw [prodL_length]
    have := lenP_drop h.1 ((evs p).length - k) k (by omega)
    unfold froms at hf
    rw [prodL_length] at hf
    omega
  · have : l = 0 ∨ l = 1 ∨ l = 2 ∨ l = 3 := by omega
    rcases this with rfl | rfl | rfl | rfl
    · exact ho
    · unfold ordersF
      rw [prodL_length]
      show (ordC (evs p) 1).length * ((ordC (evs p) 2).length * 1) ≤ 3000
      rw [Nat.mul_one]; exact q12
    · unfold ordersF
      rw [prodL_length]
      show (ordC (evs p) 2).length * 1 ≤ 3000
      rw [Nat.mul_one]; exact q2
    · unfold ordersF
      rw [prodL_length]
      show 1 ≤ 3000
      omega
  · have key : (ordC (evs p) l).length ≤ 3000 := by
      have : l = 0 ∨ l = 1 ∨ l = 2 := by omega
      rcases this with rfl | rfl | rfl
      · exact q0
      · exact q1
      · exact q2
    rw [ordC_length, List.length_tail] at key
    rcases Nat.lt_or_ge ((wrs (evs p) l).length - 1) 7 with h7 | h7
    · omega
    · have := fact_big h7; omega

end Go.Proofs.YtfgpbnncdfcjjabGreatDoor

/-! Candidates: how many they are, and that they differ. No program in sight. -/
namespace Go.Proofs.YtfgpbnncdfcjjabGreatDoor
open Go.RowKit
set_option linter.unusedVariables false
set_option maxRecDepth 100000

theorem prodL_nodup {α : Type} : ∀ {cs : List (List α)}, (∀ c ∈ cs, c.Nodup) → (prodL cs).Nodup
  | [], _ => by simp [prodL]
  | c :: cs, h => by
    have ih := prodL_nodup fun x hx => h x (List.mem_cons_of_mem _ hx)
    have hc := h c (by simp)
    rw [prodL]
    refine List.pairwise_flatMap.2 ⟨fun x _ => ih.map _ fun a b hab e => hab (by injection e), hc.imp fun {a b} hab x hx y hy e => ?_⟩
    obtain ⟨x', _, rfl⟩ := List.mem_map.1 hx
    obtain ⟨y', _, rfl⟩ := List.mem_map.1 hy
    exact hab (by injection e)
theorem permsN_nodup : ∀ (n : Nat) (xs : List Int), xs.length = n → xs.Nodup → (permsN n xs).Nodup
  | 0, _, _, _ => by simp [permsN]
  | n + 1, xs, hn, h => by
    rw [permsN]
    refine List.pairwise_flatMap.2 ⟨fun i hi => ?_, ?_⟩
    · have hi' := List.mem_range.1 hi
      exact (permsN_nodup n (xs.eraseIdx i) (by rw [List.length_eraseIdx, if_pos hi']; omega) (h.sublist (List.eraseIdx_sublist _ _))).map _ fun a b hab e => hab (by injection e)
    · refine (List.pairwise_lt_range (n := xs.length)).imp_of_mem fun {i j} hi hj hij x hx y hy e => ?_
      have hi' := List.mem_range.1 hi
      have hj' := List.mem_range.1 hj
      obtain ⟨x', _, rfl⟩ := List.mem_map.1 hx
      obtain ⟨y', _, rfl⟩ := List.mem_map.1 hy
      have e1 : xs.getD i 0 = xs.getD j 0 := by injection e
      rw [show xs.getD i 0 = xs[i] by simp [hi'], show xs.getD j 0 = xs[j] by simp [hj']] at e1
      exact (List.pairwise_iff_getElem.1 h) i j hi' hj' hij e1
theorem frC_nodup (L : List Ev) (i : Nat) (e : Ev) : (frC L i e).Nodup := by
  unfold frC
  split
  · exact List.Pairwise.filter _ (wrs_nodup L e.loc)
  · simp
theorem chF_nodup (L : List Ev) : ∀ (es : List Ev) (i : Nat), ∀ c ∈ chF L i es, c.Nodup
  | [], _, c, h => by cases h
  | e :: es, i, c, h => by
    rw [chF] at h
    rcases List.mem_cons.1 h with rfl | h
    · exact frC_nodup L i e
    · exact chF_nodup L es (i + 1) c h
theorem ordC_nodup (L : List Ev) (l : Nat) : (ordC L l).Nodup := by
  unfold ordC
  exact (permsN_nodup _ _ rfl ((wrs_nodup L l).sublist (List.tail_sublist _))).map _ fun a b hab e => hab (by injection e)
theorem cands_nodup (L : List Ev) : (cands L).Nodup := by
  unfold cands
  refine List.pairwise_flatMap.2 ⟨fun f _ => ?_, ?_⟩
  · have ho : (orders L).Nodup := prodL_nodup fun c hc => by
      obtain ⟨l, _, rfl⟩ := List.mem_map.1 hc
      exact ordC_nodup L l
    exact ho.map _ fun a b hab e => hab (by injection e)
  · have h : (froms L).Nodup := prodL_nodup (chF_nodup L L 0)
    refine h.imp fun {a b} hab x hx y hy e => ?_
    obtain ⟨x', _, rfl⟩ := List.mem_map.1 hx
    obtain ⟨y', _, rfl⟩ := List.mem_map.1 hy
    exact hab (by injection e)

/-! ### How many -/
theorem cands_length (L : List Ev) : (cands L).length = (froms L).length * (orders L).length := by
  unfold cands
  rw [flatMap_len _ (orders L).length (fun f => by rw [List.length_map])]
theorem cands_pos {p : Prg} (h : PrgOk p) : 0 < (cands (evs p)).length := by
  rw [cands_length]
  refine Nat.mul_pos ?_ ?_
  · unfold froms; rw [prodL_length]; exact lenP_from_pos h.1
  · unfold orders ordersF; rw [prodL_length]; exact lenP_fact_pos _ _
theorem exN_prod {p : Prg} (h : ShapeOk p) : ((evs p).map (wN (evs p))).foldr (· * ·) 1 * (orders (evs p)).length = exN p := by
  rw [prod_wN _ _ (evs_loc h)]
  have e0 := wrs_evs_len p 0 (by omega)
  have e1 := wrs_evs_len p 1 (by omega)
  have e2 := wrs_evs_len p 2 (by omega)
  have r0 := rd_evs_len p 0
  have r1 := rd_evs_len p 1
  have r2 := rd_evs_len p 2
  have h2 : (orders (evs p)).length = fact (cntP 0 true p) * (fact (cntP 1 true p) * fact (cntP 2 true p)) := by
    unfold orders ordersF
    rw [prodL_length]
    show (ordC (evs p) 0).length * ((ordC (evs p) 1).length * ((ordC (evs p) 2).length * 1)) = _
    rw [ordC_length, ordC_length, ordC_length, Nat.mul_one, List.length_tail, List.length_tail, List.length_tail]
    rw [show (wrs (evs p) ((0 : Nat) : Int)).length = cntP 0 true p + 1 from e0, show (wrs (evs p) ((1 : Nat) : Int)).length = cntP 1 true p + 1 from e1, show (wrs (evs p) ((2 : Nat) : Int)).length = cntP 2 true p + 1 from e2]
    rfl
  rw [h2]
  rw [show (wrs (evs p) 0).length = cntP 0 true p + 1 from e0, show (wrs (evs p) 1).length = cntP 1 true p + 1 from e1, show (wrs (evs p) 2).length = cntP 2 true p + 1 from e2, show (evs p).countP (rdl 0) = cntP 0 false p from r0, show (evs p).countP (rdl 1) = cntP 1 false p from r1, show (evs p).countP (rdl 2) = cntP 2 false p from r2]
  unfold exN exL
  simp [Nat.mul_assoc, Nat.mul_left_comm]
theorem cands_le {p : Prg} (h : ShapeOk p) : (cands (evs p)).length ≤ exN p := by
  rw [cands_length, ← exN_prod h]
  refine Nat.mul_le_mul_right _ ?_
  unfold froms
  rw [prodL_length]
  exact lenP_le (evs p) (evs p) 0
theorem lenP_eq (L : List Ev) : ∀ (es : List Ev) (i : Nat), (∀ k (h : k < es.length), (frC L (i + k) es[k]).length = wN L es[k]) → lenP (chF L i es) = (es.map (wN L)).foldr (· * ·) 1
  | [], _, _ => rfl
  | e :: es, i, h => by
    rw [chF, lenP, List.map_cons, List.foldr_cons]
    rw [lenP_eq L es (i + 1) fun k hk => by
      have := h (k + 1) (by simpa using hk)
      rw [show i + 1 + k = i + (k + 1) by omega]
      simpa using this]
    have := h 0 (by simp)
    rw [Nat.add_zero] at this
    simp only [List.getElem_cons_zero] at this
    rw [this]
theorem evT_rw {ti : Nat} {e : Ev} : ∀ {t : List Ins} {i : Nat}, e ∈ evT ti i t → ∃ x ∈ t, e.rd = rdB x ∧ e.wr = wrB x
  | [], _, h => by cases h
  | x :: t, i, h => by
    rw [evT] at h
    rcases List.mem_append.1 h with h | h
    · unfold evI at h
      by_cases h4 : x.op = 4
      · rw [if_pos h4] at h; cases h
      · rw [if_neg h4] at h
        rw [List.mem_singleton.1 h]
        exact ⟨x, by simp, rfl, rfl⟩
    · obtain ⟨y, hy, h⟩ := evT_rw h
      exact ⟨y, List.mem_cons_of_mem _ hy, h⟩
theorem evP_rw {e : Ev} : ∀ {p : Prg} {ti : Nat}, e ∈ evP ti p → ∃ t ∈ p, ∃ x ∈ t, e.rd = rdB x ∧ e.wr = wrB x
  | [], _, h => by cases h
  | t :: p, ti, h => by
    rw [evP] at h
    rcases List.mem_append.1 h with h | h
    · obtain ⟨x, hx, h3⟩ := evT_rw h
      exact ⟨t, by simp, x, hx, h3⟩
    · obtain ⟨s, hs, h⟩ := evP_rw h
      exact ⟨s, List.mem_cons_of_mem _ hs, h⟩
/-- Without swaps no event both reads and writes. -/
theorem noswap {p : Prg} (h : ∀ t ∈ p, ∀ x ∈ t, x.op ≠ 5) : ∀ e ∈ evs p, e.rd = true → e.wr = false := by
  intro e he hr
  unfold evs at he
  rcases List.mem_append.1 he with he | he
  · simp [ini] at he
    rcases he with rfl | rfl | rfl <;> cases hr
  · obtain ⟨t, ht, x, hx, h1, h2⟩ := evP_rw he
    have h5 := h t ht x hx
    rw [h1] at hr
    rw [h2]
    unfold rdB at hr
    unfold wrB
    have h1 : x.op = 1 := by simpa [h5] using hr
    simp [h1]
theorem cands_eq {p : Prg} (h : ShapeOk p) (hs : ∀ t ∈ p, ∀ x ∈ t, x.op ≠ 5) : (cands (evs p)).length = exN p := by
  rw [cands_length, ← exN_prod h]
  congr 1
  unfold froms
  rw [prodL_length]
  refine lenP_eq _ _ _ fun k hk => ?_
  rw [Nat.zero_add]
  unfold frC wN
  by_cases hr : (evs p)[k].rd = true
  · rw [if_pos hr, if_pos hr, List.filter_eq_self.2]
    intro n hn
    rw [decide_eq_true_iff]
    rintro rfl
    obtain ⟨j, hj, e, hw⟩ := mem_wrs.1 hn
    obtain rfl : k = j := by omega
    have := noswap hs _ (List.getElem_mem hk) hr
    unfold wrl at hw
    rw [this] at hw
    simp at hw
  · rw [if_neg hr, if_neg hr]; rfl

end Go.Proofs.YtfgpbnncdfcjjabGreatDoor
