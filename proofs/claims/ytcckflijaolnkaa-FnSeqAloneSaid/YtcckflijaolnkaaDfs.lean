/-
  A search through the states of a machine, in plain words: what has been seen is, at the end, what can be reached. No program in sight.
-/
import Derived.Test.YtcckflijaolnkaaLib
namespace Go.Proofs.Ytcckflijaolnkaa
set_option linter.unusedVariables false

inductive Reach {σ : Type} (succ : σ → List σ) (s0 : σ) : σ → Prop
  | start : Reach succ s0 s0
  | next {s t : σ} : Reach succ s0 s → t ∈ succ s → Reach succ s0 t
/-- What a search has found: V has been seen, K waits. -/
structure Dfs {σ : Type} (succ : σ → List σ) (s0 : σ) (V K : List σ) : Prop where
  nd : V.Nodup
  ndk : K.Nodup
  sub : ∀ s ∈ K, s ∈ V
  here : s0 ∈ V
  done : ∀ s ∈ V, s ∉ K → ∀ t ∈ succ s, t ∈ V
  reach : ∀ s ∈ V, Reach succ s0 s
/-- .. while the successors of s are looked at: the first i have been. -/
structure DfsAt {σ : Type} (succ : σ → List σ) (s0 : σ) (V K : List σ) (s : σ) (i : Nat) : Prop where
  nd : V.Nodup
  ndk : K.Nodup
  sub : ∀ s ∈ K, s ∈ V
  here : s0 ∈ V
  cur : s ∈ V
  notk : s ∉ K
  done : ∀ t ∈ V, t ∉ K → t ≠ s → ∀ u ∈ succ t, u ∈ V
  part : ∀ u ∈ (succ s).take i, u ∈ V
  reach : ∀ s ∈ V, Reach succ s0 s
section
variable {σ : Type} {succ : σ → List σ} {s0 s : σ} {V K : List σ} {i : Nat}
theorem Dfs.start (succ : σ → List σ) (s0 : σ) : Dfs succ s0 [s0] [s0] :=
  ⟨by simp, by simp, fun s h => h, by simp, fun s h hn => absurd h hn, fun s h => by rw [List.mem_singleton.1 h]; exact .start⟩
theorem Dfs.pop (h : Dfs succ s0 V (K ++ [s])) : DfsAt succ s0 V K s 0 := by
  have hn := List.nodup_append.1 h.ndk
  have hs : s ∉ K := fun hk => (hn.2.2 s hk s (by simp)) rfl
  refine ⟨h.nd, hn.1, fun t ht => h.sub t (List.mem_append_left _ ht), h.here, h.sub s (by simp), hs, fun t ht hk hne => h.done t ht fun hm => ?_, fun u hu => by simp at hu, h.reach⟩
  rcases List.mem_append.1 hm with hm | hm
  · exact hk hm
  · exact hne (List.mem_singleton.1 hm)
theorem take_mem_succ {l : List σ} {i : Nat} (hi : i < l.length) {u : σ} : u ∈ l.take (i + 1) ↔ u ∈ l.take i ∨ u = l[i] := by
  rw [List.take_succ_eq_append_getElem hi, List.mem_append, List.mem_singleton]
theorem DfsAt.seen (h : DfsAt succ s0 V K s i) (hi : i < (succ s).length) (hm : (succ s)[i] ∈ V) : DfsAt succ s0 V K s (i + 1) :=
  ⟨h.nd, h.ndk, h.sub, h.here, h.cur, h.notk, h.done, fun u hu => by
    rcases (take_mem_succ hi).1 hu with hu | rfl
    · exact h.part u hu
    · exact hm, h.reach⟩
theorem DfsAt.new (h : DfsAt succ s0 V K s i) (hi : i < (succ s).length) (hm : (succ s)[i] ∉ V) : DfsAt succ s0 (V ++ [(succ s)[i]]) (K ++ [(succ s)[i]]) s (i + 1) := by
  have hl : ∀ {u : σ}, u ∈ V → u ∈ V ++ [(succ s)[i]] := fun hu => List.mem_append_left _ hu
  refine ⟨?_, ?_, fun t ht => ?_, hl h.here, hl h.cur, fun hk => ?_, fun t ht hk hne u hu => ?_, fun u hu => ?_, fun t ht => ?_⟩
  · rw [List.nodup_append]
    exact ⟨h.nd, by simp, fun a ha b hb e => hm (by rw [← List.mem_singleton.1 hb, ← e]; exact ha)⟩
  · rw [List.nodup_append]
    exact ⟨h.ndk, by simp, fun a ha b hb e => hm (by rw [← List.mem_singleton.1 hb, ← e]; exact h.sub a ha)⟩
  · rcases List.mem_append.1 ht with ht | ht
    · exact hl (h.sub t ht)
    · exact List.mem_append_right _ ht
  · rcases List.mem_append.1 hk with hk | hk
    · exact h.notk hk
    · exact hm (by rw [← List.mem_singleton.1 hk]; exact h.cur)
  · rcases List.mem_append.1 ht with ht | ht
    · exact hl (h.done t ht (fun e => hk (List.mem_append_left _ e)) hne u hu)
    · exact absurd (List.mem_append_right _ ht) hk
  · rcases (take_mem_succ hi).1 hu with hu | rfl
    · exact hl (h.part u hu)
    · simp
  · rcases List.mem_append.1 ht with ht | ht
    · exact h.reach t ht
    · rw [List.mem_singleton.1 ht]
      exact .next (h.reach s h.cur) (List.getElem_mem hi)
theorem DfsAt.fin (h : DfsAt succ s0 V K s i) (hi : (succ s).length ≤ i) : Dfs succ s0 V K :=
  ⟨h.nd, h.ndk, h.sub, h.here, fun t ht hk u hu => by
    by_cases e : t = s
    · subst e
      exact h.part u (by rw [List.take_of_length_le hi]; exact hu)
    · exact h.done t ht hk e u hu, h.reach⟩
theorem Dfs.all (h : Dfs succ s0 V []) : s ∈ V ↔ Reach succ s0 s := by
  refine ⟨h.reach s, fun hr => ?_⟩
  induction hr with
  | start => exact h.here
  | next _ ht ih => exact h.done _ ih (by simp) _ ht
/-- Lists without doubles: one in the other. -/
theorem nodup_le [DecidableEq σ] : ∀ (l m : List σ), l.Nodup → (∀ x ∈ l, x ∈ m) → l.length ≤ m.length
  | [], m, _, _ => Nat.zero_le _
  | x :: l, m, hn, hs => by
    have hx := hs x (by simp)
    have hn' := List.nodup_cons.1 hn
    have h := nodup_le l (m.erase x) hn'.2 fun y hy => by
      have hne : y ≠ x := fun e => hn'.1 (by rw [← e]; exact hy)
      exact (List.mem_erase_of_ne hne).2 (hs y (List.mem_cons_of_mem _ hy))
    have hp : 0 < m.length := List.length_pos_of_mem hx
    rw [List.length_erase_of_mem hx] at h
    rw [List.length_cons]
    omega
theorem Dfs.length_eq [DecidableEq σ] {V' : List σ} (h : Dfs succ s0 V []) (h' : Dfs succ s0 V' []) : V.length = V'.length :=
  Nat.le_antisymm (nodup_le _ _ h.nd fun x hx => h'.all.2 (h.all.1 hx)) (nodup_le _ _ h'.nd fun x hx => h.all.2 (h'.all.1 hx))
end

/-- The states that i steps lead to. -/
def lvl {σ : Type} (succ : σ → List σ) (s0 : σ) : Nat → List σ
  | 0 => [s0]
  | i + 1 => (lvl succ s0 i).flatMap succ
theorem lvl_length {σ : Type} {succ : σ → List σ} {s0 : σ} {b : Nat} (hb : ∀ s, (succ s).length ≤ b) : ∀ i, (lvl succ s0 i).length ≤ b ^ i
  | 0 => by simp [lvl]
  | i + 1 => by
    have h := lvl_length (s0 := s0) hb i
    have key : ∀ l : List σ, (l.flatMap succ).length ≤ l.length * b := fun l => by
      induction l with
      | nil => simp
      | cons x l ih =>
        rw [List.flatMap_cons, List.length_append, List.length_cons, Nat.add_mul, Nat.one_mul]
        have := hb x
        omega
    rw [lvl, Nat.pow_succ]
    exact Nat.le_trans (key _) (Nat.mul_le_mul_right _ h)
/-- Where every step raises a rank that is at most D, there are few states. -/
def univ {σ : Type} (succ : σ → List σ) (s0 : σ) (D : Nat) : List σ := (List.range (D + 1)).flatMap (lvl succ s0)
theorem reach_univ {σ : Type} {succ : σ → List σ} {s0 : σ} {D : Nat} (rk : σ → Nat) (h0 : rk s0 = 0) (hs : ∀ s t, Reach succ s0 s → t ∈ succ s → rk t = rk s + 1) (hD : ∀ s, Reach succ s0 s → rk s ≤ D) {s : σ} (h : Reach succ s0 s) : s ∈ univ succ s0 D := by
  have hl : s ∈ lvl succ s0 (rk s) := by
    induction h with
    | start => rw [h0]; simp [lvl]
    | next h ht ih =>
      rw [hs _ _ h ht, lvl]
      exact List.mem_flatMap.2 ⟨_, ih, ht⟩
  exact List.mem_flatMap.2 ⟨rk s, List.mem_range.2 (by have := hD s h; omega), hl⟩
theorem univ_length {σ : Type} {succ : σ → List σ} {s0 : σ} {b : Nat} (hb : ∀ s, (succ s).length ≤ b) (hb1 : 1 ≤ b) (D : Nat) : (univ succ s0 D).length ≤ (D + 1) * b ^ D := by
  have key : ∀ m, m ≤ D + 1 → ((List.range m).flatMap (lvl succ s0)).length ≤ m * b ^ D := fun m => by
    induction m with
    | zero => intro _; simp
    | succ m ih =>
      intro hm
      have h1 := ih (by omega)
      have h2 := lvl_length (s0 := s0) hb m
      have h3 : b ^ m ≤ b ^ D := Nat.pow_le_pow_right hb1 (by omega)
      rw [List.range_succ, List.flatMap_append, List.length_append, Nat.add_mul, Nat.one_mul]
      simp only [List.flatMap_cons, List.flatMap_nil, List.append_nil]
      omega
  exact key _ (Nat.le_refl _)

end Go.Proofs.Ytcckflijaolnkaa
