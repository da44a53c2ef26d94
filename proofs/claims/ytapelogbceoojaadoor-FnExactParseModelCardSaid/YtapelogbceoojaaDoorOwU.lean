/-
  A row of rules that a call has made and appends to, each rule's operands in blocks of their own: which blocks they are. No program in sight.
-/
import Derived.Test.YtapelogbceoojaaDoorRowK
import Derived.Test.YtapelogbceoojaaDoorRule
import Derived.Test.YtapelogbceoojaaDoorOwn
import Derived.Test.YtapelogbceoojaaDoorWSp2
namespace Go.Proofs.YtapelogbceoojaaDoor
open Go.RowKit
set_option linter.unusedVariables false
set_option maxRecDepth 100000

/-- The row's cells and, of each rule, the blocks of its operands. -/
structure RowU (w : World) (base : Nat) (v : Value) (ms : List RU) (cs : List Value) (Fs : Nat → List Nat) : Prop where
  own : w.ownsRow base 72 4 v ms.length cs
  el : ∀ i (h : i < ms.length), cs.getD (i * 4) undef = .int .i64 ms[i].kind ∧ cs.getD (i * 4 + 1) undef = .int .i64 ms[i].e.op ∧ cs.getD (i * 4 + 2) undef = .string ms[i].e.name ∧ ms[i].e.name.size ≤ 300 ∧ OwE w (cs.getD (i * 4 + 3) undef) ms[i].e.kids (Fs i)
  nd : ((List.range ms.length).map Fs).flatten.Nodup
  ge : ∀ i, i < ms.length → ∀ b ∈ Fs i, base ≤ b ∧ v.ownBlock ≠ some b
namespace RowU
variable {w w' : World} {base : Nat} {v : Value} {ms : List RU} {cs : List Value} {Fs : Nat → List Nat}
theorem nil (w : World) (base : Nat) (Fs : Nat → List Nat) : RowU w base (.slice none 0 0) [] [] Fs :=
  ⟨World.ownsRow_nil w base _ 4, fun i h => absurd h (Nat.not_lt_zero _), by simp, fun i h => absurd h (Nat.not_lt_zero _)⟩
theorem below (h : RowU w base v ms cs Fs) (hb : Below w.heap.size w w') : RowU w' base v ms cs Fs :=
  ⟨owns_of_block h.own fun g _ _ hlt => hb.block g hlt, fun i hi => by
    obtain ⟨h0, h1, h2, h3, h4⟩ := h.el i hi
    exact ⟨h0, h1, h2, h3, own_below h4 hb⟩, h.nd, h.ge⟩
theorem rowOf (h : RowU w base v ms cs Fs) : RowOf 4 (RepU w) w base 72 v ms := by
  refine ⟨cs, h.own, fun i hi => ?_⟩
  obtain ⟨h0, h1, h2, h3, h4⟩ := h.el i hi
  have hs := RepEs.le (h4.rep (B := 0) (fun b hb => Nat.zero_le _)) (Le.above _ _)
  obtain ⟨A, c, hv⟩ := h4.slice
  rw [hv] at hs
  exact repU_K.2 ⟨A, c, by simpa using h0, h1, h2, by rw [← hv], by omega, hs⟩
theorem slR (h : RowU w base v ms cs Fs) : SlR 4 RepU w v ms := RowOf.slR (R := RepU) (by omega) h.rowOf (fun cs x hx => hx) (Le.above _ _)
/-- One rule more. -/
theorem push (h : RowU w base v ms cs Fs) {X w1 : World} {gg cap H c : Nat} {A : Option Addr} {x : RU} {F : List Nat} (hX : Below w.heap.size w X) (hg : X.grownBy w1 v.ownBlock) (hx : OwE X (.slice A x.e.kids.length c) x.e.kids F) (hF : ∀ b ∈ F, w.heap.size ≤ b) (hFn : F.Nodup) (hnm : x.e.name.size ≤ 300)
    (hbw : base ≤ w.heap.size) (hown1 : w1.ownsRow base 72 4 (.slice (some ⟨gg, 0, none⟩) (ms.length + 1) cap) (ms.length + 1) (cs ++ [.int .i64 x.kind, .int .i64 x.e.op, .string x.e.name, .slice A x.e.kids.length c])) (hat : v.ownBlock = some gg ∨ gg = H) (hH : X.heap.size = H) :
    RowU w1 base (.slice (some ⟨gg, 0, none⟩) (ms.length + 1) cap) (ms ++ [x]) (cs ++ [.int .i64 x.kind, .int .i64 x.e.op, .string x.e.name, .slice A x.e.kids.length c]) (fun i => if i = ms.length then F else Fs i) := by
  have hlen : cs.length = ms.length * 4 := h.own.1
  have hlt : ∀ g, v.ownBlock = some g → base ≤ g ∧ g < w.heap.size := fun g hv => owns_base h.own hv
  have ne : ∀ b, v.ownBlock ≠ some b → b < X.heap.size → (Value.slice (some ⟨gg, 0, none⟩) (ms.length + 1) cap).ownBlock ≠ some b := fun b hn hl e => by
    simp only [Value.ownBlock, Option.some.injEq] at e
    rcases hat with h | h
    · exact hn (by rw [h, e])
    · omega
  have hold : ∀ i, i < ms.length → ∀ b ∈ Fs i, b < w.heap.size := fun i hi b hb => ((h.el i hi).2.2.2.2).lt b hb
  have hFne : ∀ b ∈ F, v.ownBlock ≠ some b := fun b hb e => by have := hlt _ e; have := hF b hb; omega
  refine ⟨by rw [List.length_append, List.length_singleton]; exact hown1, fun i hi => ?_, ?_, fun i hi b hb => ?_⟩
  · rw [List.length_append, List.length_singleton] at hi
    by_cases hlast : i = ms.length
    · subst hlast
      rw [List.getElem_append_right (Nat.le_refl _)]
      simp only [Nat.sub_self, List.getElem_cons_zero, if_pos]
      have g : ∀ j u, [Value.int .i64 x.kind, .int .i64 x.e.op, .string x.e.name, .slice A x.e.kids.length c][j]? = some u → (cs ++ [Value.int .i64 x.kind, .int .i64 x.e.op, .string x.e.name, .slice A x.e.kids.length c]).getD (ms.length * 4 + j) undef = u := fun j u hj => by
        rw [List.getD_eq_getElem?_getD, List.getElem?_append_right (by omega), hlen, Nat.add_sub_cancel_left, hj]
        rfl
      refine ⟨g 0 _ rfl, g 1 _ rfl, g 2 _ rfl, hnm, ?_⟩
      rw [g 3 _ rfl]
      exact hx.of_blocks fun b hb => World.grownBy.block hg b (hx.lt b hb) (fun e => hFne b hb e.symm)
    · have hi' : i < ms.length := by omega
      rw [List.getElem_append_left hi', if_neg hlast]
      have g : ∀ j, j < 4 → (cs ++ [Value.int .i64 x.kind, .int .i64 x.e.op, .string x.e.name, .slice A x.e.kids.length c]).getD (i * 4 + j) undef = cs.getD (i * 4 + j) undef := fun j hj => by
        rw [List.getD_eq_getElem?_getD, List.getD_eq_getElem?_getD, List.getElem?_append_left (by omega)]
      obtain ⟨h0, h1, h2, h3, h4⟩ := h.el i hi'
      have g0 := g 0 (by omega)
      rw [Nat.add_zero] at g0
      rw [g0, g 1 (by omega), g 2 (by omega), g 3 (by omega)]
      refine ⟨h0, h1, h2, h3, ?_⟩
      have h5 := own_below h4 hX
      exact h5.of_blocks fun b hb => World.grownBy.block hg b (h5.lt b hb) (fun e => (h.ge i hi' b hb).2 e.symm)
  · rw [List.length_append, List.length_singleton, List.range_succ, List.map_append, List.flatten_append]
    have e1 : (List.range ms.length).map (fun i => if i = ms.length then F else Fs i) = (List.range ms.length).map Fs := List.map_congr_left fun i hi => by
      have := List.mem_range.1 hi
      rw [if_neg (by omega)]
    rw [e1]
    simp only [List.map_cons, List.map_nil, if_true, List.flatten_cons, List.flatten_nil, List.append_nil]
    refine List.nodup_append.2 ⟨h.nd, hFn, fun a ha b hb e => ?_⟩
    obtain ⟨i, hi, hm⟩ := of_mem_foot ha
    have := hold i hi a hm
    have := hF b hb
    omega
  · rw [List.length_append, List.length_singleton] at hi
    have hb : b ∈ (if i = ms.length then F else Fs i) := hb
    by_cases hlast : i = ms.length
    · rw [if_pos hlast] at hb
      have := hF b hb
      exact ⟨by omega, ne b (hFne b hb) (hx.lt b hb)⟩
    · rw [if_neg hlast] at hb
      obtain ⟨h1, h2⟩ := h.ge i (by omega) b hb
      exact ⟨h1, ne b h2 (by have := hold i (by omega) b hb; have := hX.size; omega)⟩
end RowU

/-- Rules that are one's own, in just these blocks. -/
def OwU (w : World) (v : Value) (ms : List RU) (F : List Nat) : Prop :=
  (v = .slice none 0 0 ∧ ms = [] ∧ F = []) ∨ ∃ (g c N : Nat) (G : Nat → Value) (Fs : Nat → List Nat), v = .slice (some ⟨g, 0, none⟩) ms.length c ∧ w.rowIs g 72 N G ∧ ms.length * 4 ≤ N ∧ ms.length ≤ 9223372036854775807 ∧
    (∀ i (h : i < ms.length), G (i * 4) = .int .i64 ms[i].kind ∧ G (i * 4 + 1) = .int .i64 ms[i].e.op ∧ G (i * 4 + 2) = .string ms[i].e.name ∧ ms[i].e.name.size ≤ 9223372036854775807 ∧ OwE w (G (i * 4 + 3)) ms[i].e.kids (Fs i)) ∧
    F = g :: ((List.range ms.length).map Fs).flatten
theorem RowU.owU {w : World} {base : Nat} {v : Value} {ms : List RU} {cs : List Value} {Fs : Nat → List Nat} (h : RowU w base v ms cs Fs) : ∃ F, OwU w v ms F ∧ F.Nodup ∧ ∀ b ∈ F, base ≤ b := by
  obtain ⟨own, el, nd, ge⟩ := h
  obtain ⟨hl, h⟩ := own
  rcases h with ⟨rfl, h0⟩ | ⟨g, cap, cur, rfl, hbg, hg, hn, hm, hc, ht⟩
  · obtain rfl : ms = [] := List.length_eq_zero_iff.1 h0
    exact ⟨[], Or.inl ⟨rfl, rfl, rfl⟩, List.nodup_nil, fun b hb => by cases hb⟩
  · have hcap : ms.length * 4 ≤ cap * 4 := by omega
    have hml : ms.length ≤ 9223372036854775807 := by unfold maxLen at hm; omega
    have gg : ∀ j, j < ms.length * 4 → cur.getD j undef = cs.getD j undef := fun j hj => by
      rw [← ht, List.getD_eq_getElem?_getD, List.getElem?_take, if_pos hj, Array.getElem?_toList]
      simp [Array.getD, show j < cur.size by omega]
    refine ⟨g :: ((List.range ms.length).map Fs).flatten, Or.inr ⟨g, cap, cap * 4, fun j => cur.getD j undef, Fs, rfl, ⟨cur, hg, hc, fun i hi => getD_some (by omega)⟩, hcap, hml, fun i hi => ?_, rfl⟩, ?_, ?_⟩
    · obtain ⟨h0, h1, h2, h3, h4⟩ := el i hi
      simp only
      rw [gg _ (by omega), gg _ (by omega), gg _ (by omega), gg _ (by omega)]
      exact ⟨h0, h1, h2, by omega, h4⟩
    · rw [List.nodup_cons]
      refine ⟨fun hm => ?_, nd⟩
      obtain ⟨i, hi, hx⟩ := of_mem_foot hm
      exact (ge i hi g hx).2 rfl
    · intro b hb
      rcases List.mem_cons.1 hb with rfl | hb
      · exact hbg
      · obtain ⟨i, hi, hx⟩ := of_mem_foot hb
        exact (ge i hi b hx).1

end Go.Proofs.YtapelogbceoojaaDoor
