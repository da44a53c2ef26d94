/-
  Rows that a call appends to, of elements that may lead to blocks of their own. No program in sight.
-/
import Derived.Test.YtpadkallejfdlaaOw
import Derived.Test.YtpadkallejfdlaaAp
namespace Go.Proofs.Ytpadkallejfdlaa
open Go.RowKit
set_option linter.unusedVariables false
set_option maxRecDepth 100000

structure RowW {α : Type} (k : Nat) (e : TypeId) (P : OwP α) (w : World) (base : Nat) (v : Value) (xs : List α) (cs : List Value) (Fs : Nat → List Nat) : Prop where
  own : w.ownsRow base e k v xs.length cs
  el : ∀ i (h : i < xs.length), P w (fun j => cs.getD (i * k + j) undef) xs[i] (Fs i)
  nd : ((List.range xs.length).map Fs).flatten.Nodup
  ge : ∀ i, i < xs.length → ∀ b ∈ Fs i, base ≤ b ∧ v.ownBlock ≠ some b
namespace RowW
variable {α : Type} {k : Nat} {e : TypeId} {P : OwP α} {w w' : World} {base : Nat} {v : Value} {xs : List α} {cs : List Value} {Fs : Nat → List Nat}
theorem nil (k : Nat) (e : TypeId) (P : OwP α) (w : World) (base : Nat) : RowW k e P w base (.slice none 0 0) ([] : List α) [] (fun _ => []) :=
  ⟨World.ownsRow_nil w base _ k, fun i h => absurd h (Nat.not_lt_zero _), by simp, fun i h => absurd h (Nat.not_lt_zero _)⟩
theorem made {g : Nat} (k : Nat) (P : OwP α) (h : Own w g e #[]) (hb : base ≤ g) : RowW k e P w base (.slice (some ⟨g, 0, none⟩) 0 0) ([] : List α) [] (fun _ => []) :=
  ⟨made_owns h hb, fun i h => absurd h (Nat.not_lt_zero _), by simp, fun i h => absurd h (Nat.not_lt_zero _)⟩
/-- What is older than the row, and what is not a part of it, may turn. -/
theorem move (hP : OwLoc k P) (h : RowW k e P w base v xs cs Fs) (hb : ∀ b, base ≤ b → b < w.heap.size → w'.heap[b]? = w.heap[b]?) : RowW k e P w' base v xs cs Fs :=
  ⟨owns_of_block h.own fun g _ h1 h2 => hb g h1 h2, fun i hi => hP.move (h.el i hi) fun b hm => hb b (h.ge i hi b hm).1 (hP.lt (h.el i hi) b hm), h.nd, h.ge⟩
theorem below (hP : OwLoc k P) (h : RowW k e P w base v xs cs Fs) (hb : Below w.heap.size w w') : RowW k e P w' base v xs cs Fs := h.move hP fun b _ hl => hb.block b hl
theorem slR (hk : 0 < k) {R : World → (Nat → Value) → α → Prop} {B : Nat} (h : RowW k e P w base v xs cs Fs) (hB : B ≤ base) (hR : ∀ cs x F', (∀ b ∈ F', B ≤ b) → P w cs x F' → R (above B w) cs x) : SlR k R (above B w) v xs := by
  have hrow : RowOf k (fun cs x => ∃ F', (∀ b ∈ F', B ≤ b) ∧ P w cs x F') w base e v xs := ⟨cs, h.own, fun i hi => ⟨Fs i, fun b hb => Nat.le_trans hB (h.ge i hi b hb).1, h.el i hi⟩⟩
  exact hrow.slR hk (fun cs x ⟨F', h1, h2⟩ => hR cs x F' h1 h2) (Le.above_mono hB _)
/-- One element more. -/
theorem push (hP : OwLoc k P) (h : RowW k e P w base v xs cs Fs) {X w1 : World} {gg cap' H : Nat} {x : α} {F : List Nat} {news : List Value} (hs : w.heap.size ≤ X.heap.size) (hX : ∀ b, base ≤ b → b < w.heap.size → X.heap[b]? = w.heap[b]?) (hg : X.grownBy w1 v.ownBlock)
    (hn : news.length = k) (hx : P X (fun j => news.getD j undef) x F) (hF : ∀ b ∈ F, w.heap.size ≤ b) (hFn : F.Nodup) (hbw : base ≤ w.heap.size)
    (hown1 : w1.ownsRow base e k (.slice (some ⟨gg, 0, none⟩) (xs.length + 1) cap') (xs.length + 1) (cs ++ news)) (hat : v.ownBlock = some gg ∨ gg = H) (hH : X.heap.size = H) :
    RowW k e P w1 base (.slice (some ⟨gg, 0, none⟩) (xs.length + 1) cap') (xs ++ [x]) (cs ++ news) (fun i => if i = xs.length then F else Fs i) := by
  have hlen : cs.length = xs.length * k := h.own.1
  have hlt : ∀ g, v.ownBlock = some g → base ≤ g ∧ g < w.heap.size := fun g hv => owns_base h.own hv
  have ne : ∀ b, v.ownBlock ≠ some b → b < X.heap.size → (Value.slice (some ⟨gg, 0, none⟩) (xs.length + 1) cap').ownBlock ≠ some b := fun b hn hl e => by
    simp only [Value.ownBlock, Option.some.injEq] at e
    rcases hat with h | h
    · exact hn (by rw [h, e])
    · omega
  have hold : ∀ i, i < xs.length → ∀ b ∈ Fs i, b < w.heap.size := fun i hi b hb => hP.lt (h.el i hi) b hb
  have hFne : ∀ b ∈ F, v.ownBlock ≠ some b := fun b hb e => by have := hlt _ e; have := hF b hb; omega
  refine ⟨by rw [List.length_append, List.length_singleton]; exact hown1, fun i hi => ?_, ?_, fun i hi b hb => ?_⟩
  · rw [List.length_append, List.length_singleton] at hi
    by_cases hlast : i = xs.length
    · subst hlast
      rw [List.getElem_append_right (Nat.le_refl _)]
      simp only [Nat.sub_self, List.getElem_cons_zero, if_pos]
      refine hP.congr (fun j hj => ?_) (hP.move hx fun b hb => World.grownBy.block hg b (hP.lt hx b hb) (fun e => hFne b hb e.symm))
      show news.getD j undef = (cs ++ news).getD (xs.length * k + j) undef
      rw [List.getD_eq_getElem?_getD, List.getD_eq_getElem?_getD, List.getElem?_append_right (by omega), hlen, Nat.add_sub_cancel_left]
    · have hi' : i < xs.length := by omega
      rw [List.getElem_append_left hi', if_neg hlast]
      have h1 : (i + 1) * k ≤ xs.length * k := Nat.mul_le_mul_right k hi'
      rw [Nat.add_mul, Nat.one_mul] at h1
      refine hP.congr (fun j hj => ?_) (hP.move (h.el i hi') fun b hb => ?_)
      · show cs.getD (i * k + j) undef = (cs ++ news).getD (i * k + j) undef
        rw [List.getD_eq_getElem?_getD, List.getD_eq_getElem?_getD, List.getElem?_append_left (by omega)]
      · have hbl := hold i hi' b hb
        rw [World.grownBy.block hg b (by omega) (fun e => (h.ge i hi' b hb).2 e.symm)]
        exact hX b (h.ge i hi' b hb).1 hbl
  · rw [List.length_append, List.length_singleton, List.range_succ, List.map_append, List.flatten_append]
    have e1 : (List.range xs.length).map (fun i => if i = xs.length then F else Fs i) = (List.range xs.length).map Fs := List.map_congr_left fun i hi => by
      have := List.mem_range.1 hi
      rw [if_neg (by omega)]
    rw [e1]
    simp only [List.map_cons, List.map_nil, if_true, List.flatten_cons, List.flatten_nil, List.append_nil]
    refine List.nodup_append.2 ⟨h.nd, hFn, fun a ha b hb e => ?_⟩
    obtain ⟨i, hi, hm⟩ := of_mem_ft ha
    have := hold i hi a hm
    have := hF b hb
    omega
  · rw [List.length_append, List.length_singleton] at hi
    have hb : b ∈ (if i = xs.length then F else Fs i) := hb
    by_cases hlast : i = xs.length
    · rw [if_pos hlast] at hb
      have := hF b hb
      exact ⟨by omega, ne b (hFne b hb) (hP.lt hx b hb)⟩
    · rw [if_neg hlast] at hb
      obtain ⟨h1, h2⟩ := h.ge i (by omega) b hb
      exact ⟨h1, ne b h2 (by have := hold i (by omega) b hb; omega)⟩
theorem ow (hP : OwLoc k P) (h : RowW k e P w base v xs cs Fs) : ∃ F, OwRow k e P w v xs F ∧ F.Nodup ∧ ∀ b ∈ F, base ≤ b := by
  obtain ⟨own, el, nd, ge⟩ := h
  obtain ⟨hl, h⟩ := own
  rcases h with ⟨rfl, h0⟩ | ⟨g, cap', cur, rfl, hbg, hg, hn, hm, hc, ht⟩
  · obtain rfl : xs = [] := List.length_eq_zero_iff.1 h0
    exact ⟨[], OwRow.nil, List.nodup_nil, fun b hb => by cases hb⟩
  · have hcap : xs.length * k ≤ cap' * k := Nat.mul_le_mul_right k hn
    have hml : xs.length ≤ 9223372036854775807 := by unfold maxLen at hm; omega
    have gg : ∀ j, j < xs.length * k → cur.getD j undef = cs.getD j undef := fun j hj => by
      rw [← ht, List.getD_eq_getElem?_getD, List.getElem?_take, if_pos hj, Array.getElem?_toList]
      simp [Array.getD, show j < cur.size by omega]
    have gs : ∀ i, i < cur.size → cur[i]? = some (cur.getD i undef) := fun i h => by simp [Array.getD, h]
    refine ⟨_, OwRow.made (g := g) (c := cap') (N := cap' * k) (G := fun j => cur.getD j undef) Fs ⟨cur, hg, hc, fun i hi => gs i (by omega)⟩ hn hcap hml (fun i hi => ?_), ?_, ?_⟩
    · have h1 : (i + 1) * k ≤ xs.length * k := Nat.mul_le_mul_right k hi
      rw [Nat.add_mul, Nat.one_mul] at h1
      exact hP.congr (fun j hj => (gg _ (by omega)).symm) (el i hi)
    · rw [List.nodup_cons]
      refine ⟨fun hm => ?_, nd⟩
      obtain ⟨i, hi, hx⟩ := of_mem_ft hm
      exact (ge i hi g hx).2 rfl
    · intro b hb
      rcases List.mem_cons.1 hb with rfl | hb
      · exact hbg
      · obtain ⟨i, hi, hx⟩ := of_mem_ft hb
        exact (ge i hi b hx).1
end RowW

end Go.Proofs.Ytpadkallejfdlaa
