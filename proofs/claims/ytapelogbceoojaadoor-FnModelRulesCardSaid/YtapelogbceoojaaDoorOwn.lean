/-
  Expressions whose memory is one's own: each slice of operands a block by itself; which blocks they are.
-/
import Derived.Test.YtapelogbceoojaaDoorRE
namespace Go.Proofs.YtapelogbceoojaaDoor
open Go.RowKit
set_option linter.unusedVariables false
set_option maxRecDepth 100000

/-- The slice value holds the expressions, in just these blocks. -/
inductive OwE (w : World) : Value → List RE → List Nat → Prop
  | nil : OwE w (.slice none 0 0) [] []
  | row {b : Nat} {F : Nat → Value} {es : List RE} {vs : Nat → Value} {Fs : Nat → List Nat} : es ≠ [] → es.length ≤ 9223372036854775807 →
      w.rowIs b 29 (es.length * 3) F →
      (∀ i (h : i < es.length), F (i * 3) = .int .i64 es[i].op ∧ F (i * 3 + 1) = .string es[i].name ∧ F (i * 3 + 2) = vs i ∧ es[i].name.size ≤ 9223372036854775807) →
      (∀ i (h : i < es.length), OwE w (vs i) es[i].kids (Fs i)) →
      OwE w (.slice (some ⟨b, 0, none⟩) es.length es.length) es (b :: ((List.range es.length).map Fs).flatten)

theorem OwE.slice {w : World} {v : Value} {es : List RE} {F : List Nat} (h : OwE w v es F) : ∃ A c, v = .slice A es.length c := by
  cases h with
  | nil => exact ⟨_, _, rfl⟩
  | row => exact ⟨_, _, rfl⟩
theorem mem_foot {n : Nat} {Fs : Nat → List Nat} {i x : Nat} (hi : i < n) (hx : x ∈ Fs i) : x ∈ ((List.range n).map Fs).flatten :=
  List.mem_flatten.2 ⟨Fs i, List.mem_map.2 ⟨i, List.mem_range.2 hi, rfl⟩, hx⟩
theorem of_mem_foot {n : Nat} {Fs : Nat → List Nat} {x : Nat} (h : x ∈ ((List.range n).map Fs).flatten) : ∃ i, i < n ∧ x ∈ Fs i := by
  obtain ⟨l, hl, hx⟩ := List.mem_flatten.1 h
  obtain ⟨i, hi, rfl⟩ := List.mem_map.1 hl
  exact ⟨i, List.mem_range.1 hi, hx⟩
theorem OwE.lt {w : World} {v : Value} {es : List RE} {F : List Nat} (h : OwE w v es F) : ∀ b ∈ F, b < w.heap.size := by
  induction h with
  | nil => intro b hb; cases hb
  | row _ _ hr _ _ ih =>
    intro x hx
    rcases List.mem_cons.1 hx with rfl | hx
    · exact hr.lt
    · obtain ⟨i, hi, hx⟩ := of_mem_foot hx
      exact ih i hi x hx
theorem OwE.of_blocks {w w' : World} {v : Value} {es : List RE} {F : List Nat} (h : OwE w v es F) (hb : ∀ b ∈ F, w'.heap[b]? = w.heap[b]?) : OwE w' v es F := by
  induction h with
  | nil => exact .nil
  | row hne hl hr hF hk ih =>
    exact .row hne hl (hr.of_block (hb _ (by simp))) hF fun i hi => ih i hi fun b hbm => hb b (List.mem_cons_of_mem _ (mem_foot hi hbm))
/-- .. so they are what the walks speak of; also where all that lies below them is hidden. -/
theorem OwE.rep {w : World} {v : Value} {es : List RE} {F : List Nat} (h : OwE w v es F) {B : Nat} (hB : ∀ b ∈ F, B ≤ b) : SlR 3 RepE (above B w) v es := by
  induction h with
  | nil => exact ⟨none, 0, rfl, by simp, fun i hi => absurd hi (Nat.not_lt_zero _)⟩
  | @row b F es vs Fs hne hl hr hF hk ih =>
    refine ⟨_, _, rfl, hl, fun i hi => ⟨b, 0, rfl, fun j => F (i * 3 + j), fun j hj => ?_, ?_⟩⟩
    · rw [Nat.zero_add]
      exact cell_above_of (hB b (by simp)) (hr.cell (by omega))
    · obtain ⟨h0, h1, h2, h3⟩ := hF i hi
      have hs := ih i hi fun x hx => hB x (List.mem_cons_of_mem _ (mem_foot hi hx))
      obtain ⟨A, c, hv⟩ := (hk i hi).slice
      rw [hv] at hs h2
      exact repE_K.2 ⟨A, c, h0, h1, h2, h3, hs⟩

theorem getD_some {cs : Array Value} {i : Nat} (h : i < cs.size) : cs[i]? = some (cs.getD i undef) := by simp [Array.getD, h]

/-- One operand in a new block. -/
theorem OwE.one {w : World} {x : RE} {v : Value} {F : List Nat} (h : OwE w v x.kids F) (hn : x.name.size ≤ 9223372036854775807) :
    OwE (w.alloc (.cells #[.int .i64 x.op, .string x.name, v] 29)) (.slice (some ⟨w.heap.size, 0, none⟩) 1 1) [x] (w.heap.size :: F) := by
  have hr := World.rowIs_alloc w #[.int .i64 x.op, .string x.name, v] 29 (fun i => #[.int .i64 x.op, .string x.name, v].getD i undef) (fun i hi => getD_some hi)
  have h1 := OwE.row (w := w.alloc (.cells #[.int .i64 x.op, .string x.name, v] 29)) (es := [x]) (vs := fun _ => v) (Fs := fun _ => F) (by simp) (by simp) hr
    (fun i hi => by
      obtain rfl : i = 0 := by simpa using hi
      exact ⟨rfl, rfl, rfl, hn⟩)
    (fun i hi => by
      obtain rfl : i = 0 := by simpa using hi
      exact h.of_blocks fun b hb => Go.Deep.blk_alloc_lt _ _ _ (h.lt b hb))
  simpa using h1
/-- Two operands in a new block. -/
theorem OwE.two {w : World} {x y : RE} {v u : Value} {F G : List Nat} (h : OwE w v x.kids F) (k : OwE w u y.kids G) (hn : x.name.size ≤ 9223372036854775807) (hm : y.name.size ≤ 9223372036854775807) :
    OwE (w.alloc (.cells #[.int .i64 x.op, .string x.name, v, .int .i64 y.op, .string y.name, u] 29)) (.slice (some ⟨w.heap.size, 0, none⟩) 2 2) [x, y] (w.heap.size :: (F ++ G)) := by
  have hr := World.rowIs_alloc w #[.int .i64 x.op, .string x.name, v, .int .i64 y.op, .string y.name, u] 29 (fun i => #[.int .i64 x.op, .string x.name, v, .int .i64 y.op, .string y.name, u].getD i undef) (fun i hi => getD_some hi)
  have h1 := OwE.row (w := w.alloc (.cells #[.int .i64 x.op, .string x.name, v, .int .i64 y.op, .string y.name, u] 29)) (es := [x, y]) (vs := fun i => if i = 0 then v else u) (Fs := fun i => if i = 0 then F else G) (by simp) (by simp) hr
    (fun i hi => by
      match i, hi with
      | 0, _ => exact ⟨rfl, rfl, rfl, hn⟩
      | 1, _ => exact ⟨rfl, rfl, rfl, hm⟩)
    (fun i hi => by
      match i, hi with
      | 0, _ => exact h.of_blocks fun b hb => Go.Deep.blk_alloc_lt _ _ _ (h.lt b hb)
      | 1, _ => exact k.of_blocks fun b hb => Go.Deep.blk_alloc_lt _ _ _ (k.lt b hb))
  simpa [List.range_succ] using h1

end Go.Proofs.YtapelogbceoojaaDoor
