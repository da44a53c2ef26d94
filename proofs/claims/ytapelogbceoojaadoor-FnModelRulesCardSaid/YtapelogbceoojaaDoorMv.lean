/-
  Worlds in which one block, and what is new, may have turned. No program in sight.
-/
import Derived.Test.YtapelogbceoojaaDoorLib
namespace Go.Proofs.YtapelogbceoojaaDoor
open Go.RowKit
set_option linter.unusedVariables false
set_option maxRecDepth 100000

/-- Only block R, and what is new, may have turned. -/
def Mv (R : Nat) (w w' : World) : Prop := w.grownBy w' (some R)
theorem Mv.refl (R : Nat) (w : World) : Mv R w w := ⟨rfl, rfl, rfl, Nat.le_refl _, fun _ _ _ => rfl⟩
theorem Mv.trans {R : Nat} {a b c : World} (h : Mv R a b) (k : Mv R b c) : Mv R a c :=
  ⟨k.os.trans h.os, k.tape.trans h.tape, k.output.trans h.output, Nat.le_trans h.size k.size, fun i hi hne => (k.block i (Nat.lt_of_lt_of_le hi h.size) hne).trans (h.block i hi hne)⟩
theorem Mv.of_below {R : Nat} {a b : World} (h : Below a.heap.size a b) : Mv R a b := ⟨h.os, h.tape, h.output, h.size, fun i hi _ => h.block i hi⟩
theorem Mv.below {R B : Nat} {a b : World} (h : Mv R a b) (hB : B ≤ R) (hs : B ≤ a.heap.size) : Below B a b := ⟨h.os, h.tape, h.output, h.size, fun i hi => h.block i (by omega) (fun e => by injection e with e; omega)⟩
theorem Mv.size {R : Nat} {a b : World} (h : Mv R a b) : a.heap.size ≤ b.heap.size := World.grownBy.size h
theorem Mv.block {R : Nat} {a b : World} (h : Mv R a b) {i : Nat} (hi : i < a.heap.size) (hne : i ≠ R) : b.heap[i]? = a.heap[i]? := World.grownBy.block h i hi (fun e => hne (by injection e))
theorem Mv.above {R : Nat} {a b : World} (h : Mv R a b) : Le (Go.Proofs.YtapelogbceoojaaDoor.above (R + 1) a) (Go.Proofs.YtapelogbceoojaaDoor.above (R + 1) b) := fun x v hx => by
  obtain ⟨h1, h2⟩ := cell_above_lt hx
  refine cell_above_of h1 ?_
  have hlt := World.block_lt_of_cell? _ _ h2
  rw [World.cell?_of_block (w := a) (h.block hlt (by omega))]
  exact h2
theorem Mv.alloc {R : Nat} {a w : World} (h : Mv R a w) (o : Obj) : Mv R a (w.alloc o) := h.trans (.of_below (Below.alloc (Below.refl _ _) (Nat.le_refl _) o))
theorem Mv.setR {R : Nat} {a w : World} (h : Mv R a w) (i : Nat) (v : Value) : Mv R a (w.setCell ⟨R, i, none⟩ v) :=
  h.trans ⟨rfl, rfl, rfl, by simp [World.setCell], fun k hk hne => Below.heap_setCell _ _ _ _ (fun e => hne (by rw [e]))⟩
/-- A store into a block that was not there. -/
theorem Mv.setNew {R : Nat} {a w : World} (h : Mv R a w) {p : Addr} (hp : a.heap.size ≤ p.block) (v : Value) : Mv R a (w.setCell p v) :=
  ⟨h.os, h.tape, h.output, by simpa [World.setCell] using h.size, fun i hi hne => (Below.heap_setCell _ _ _ _ (by omega)).trans (World.grownBy.block h i hi hne)⟩
theorem Mv.drewN {R : Nat} {a w : World} (h : Mv R a w) (n : Nat) : Mv R a (w.drewN n) := ⟨h.os, h.tape, h.output, h.size, (show a.grownBy w (some R) from h).block⟩
theorem Mv.drew {R : Nat} {a w : World} (h : Mv R a w) : Mv R a w.drew := ⟨h.os, h.tape, h.output, h.size, (show a.grownBy w (some R) from h).block⟩
/-- A block of one's own that is not R stays as it is. -/
theorem Own.mv {w w' : World} {b R : Nat} {t : TypeId} {cs : Array Value} (h : Own w b t cs) (hm : Mv R w w') (hne : b ≠ R) : Own w' b t cs := h.of_block (hm.block h.lt hne)
theorem Mv.cell {R : Nat} {a b : World} (h : Mv R a b) {p : Addr} {v : Value} (hc : a.cell? p = some v) (hne : p.block ≠ R) : b.cell? p = some v := by
  rw [World.cell?_of_block (w := a) (h.block (World.block_lt_of_cell? _ _ hc) hne)]
  exact hc

end Go.Proofs.YtapelogbceoojaaDoor
