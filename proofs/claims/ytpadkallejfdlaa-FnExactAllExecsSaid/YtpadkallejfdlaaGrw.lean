/-
  Worlds in which a row of the call's own has been appended to, again and again. No program in sight.
-/
import Derived.Test.YtpadkallejfdlaaRws
namespace Go.Proofs.Ytpadkallejfdlaa
open Go.RowKit
set_option linter.unusedVariables false
set_option maxRecDepth 100000

theorem grown_refl (w : World) (r : Option Nat) : w.grownBy w r := ⟨rfl, rfl, rfl, Nat.le_refl _, fun _ _ _ => rfl⟩
theorem grown_below {a b c : World} {r : Option Nat} (h : a.grownBy b r) (hb : Below b.heap.size b c) : a.grownBy c r :=
  ⟨hb.os.trans (World.grownBy.os h), hb.tape.trans (World.grownBy.tape h), hb.output.trans (World.grownBy.output h), Nat.le_trans (World.grownBy.size h) hb.size, fun k hk hn => (hb.block k (Nat.lt_of_lt_of_le hk (World.grownBy.size h))).trans (World.grownBy.block h k hk hn)⟩
theorem grown_next {a b c : World} {r s : Option Nat} (h : a.grownBy b r) (k : b.grownBy c s) (hs : ∀ g, s = some g → r = some g ∨ a.heap.size ≤ g) : a.grownBy c r :=
  ⟨(World.grownBy.os k).trans (World.grownBy.os h), (World.grownBy.tape k).trans (World.grownBy.tape h), (World.grownBy.output k).trans (World.grownBy.output h), Nat.le_trans (World.grownBy.size h) (World.grownBy.size k), fun i hi hn =>
    (World.grownBy.block k i (Nat.lt_of_lt_of_le hi (World.grownBy.size h)) (fun e => by
      rcases hs i e.symm with h1 | h1
      · exact hn h1.symm
      · omega)).trans (World.grownBy.block h i hi hn)⟩
theorem below_of_grown {B : Nat} {w a b : World} {r : Option Nat} (h : Below B w a) (k : a.grownBy b r) (hB : B ≤ a.heap.size) (hr : ∀ g, r = some g → B ≤ g) : Below B w b :=
  ⟨(World.grownBy.os k).trans h.os, (World.grownBy.tape k).trans h.tape, (World.grownBy.output k).trans h.output, Nat.le_trans h.size (World.grownBy.size k), fun i hi => (World.grownBy.block k i (by omega) (fun e => by have := hr i e.symm; omega)).trans (h.block i hi)⟩
/-- What lies behind number B stays, where the row lies ahead of it. -/
theorem Le.above_grown {B : Nat} {a b : World} {r : Option Nat} (h : a.grownBy b r) (hr : ∀ g, r = some g → g < B) : Le (Go.Proofs.Ytpadkallejfdlaa.above B a) (Go.Proofs.Ytpadkallejfdlaa.above B b) := fun x v hc => by
  obtain ⟨h1, h2⟩ := cell_above_lt hc
  refine cell_above_of h1 ?_
  rw [World.cell?_of_block (w := a) (World.grownBy.block h x.block (World.block_lt_of_cell? _ _ h2) (fun e => by have := hr _ e.symm; omega))]
  exact h2
/-- Where row v' has come from row v. -/
def RowFrom (v : Value) (a : World) (v' : Value) : Prop := ∀ g, v'.ownBlock = some g → v.ownBlock = some g ∨ a.heap.size ≤ g
theorem RowFrom.refl (v : Value) (a : World) : RowFrom v a v := fun g h => .inl h
theorem RowFrom.next {v v' : Value} {a : World} {gg H n c : Nat} (h : RowFrom v a v') (hat : v'.ownBlock = some gg ∨ gg = H) (hH : a.heap.size ≤ H) : RowFrom v a (.slice (some ⟨gg, 0, none⟩) n c) := fun g hg => by
  simp only [Value.ownBlock, Option.some.injEq] at hg
  subst hg
  rcases hat with e | e
  · exact h _ e
  · exact .inr (by omega)
/-- A part of a slice of ints. -/
theorem Ints.take {w : World} {A : Option Addr} {c : Nat} {xs : List Int} (h : Ints w A c xs) (i : Nat) (hi : i ≤ xs.length) : Ints w A c (xs.take i) := by
  have hl := h.len
  obtain ⟨A', c', e, _, h⟩ := h
  injection e with e1 e2 e3
  subst e1
  refine ⟨_, _, rfl, by rw [List.length_take]; omega, fun j hj => ?_⟩
  rw [List.length_take] at hj
  obtain ⟨b, o, h1, cs, h2, h3⟩ := h j (by omega)
  exact ⟨b, o, h1, cs, h2, by rw [List.getElem_take]; exact h3⟩
theorem Ints.drop {w : World} {b o c : Nat} {xs : List Int} (h : Ints w (some ⟨b, o, none⟩) c xs) (i c' : Nat) (hi : i ≤ xs.length) : Ints w (some ⟨b, o + i, none⟩) c' (xs.drop i) := by
  have hl := h.len
  refine Ints.mk (by rw [List.length_drop]; omega) fun j hj => ?_
  rw [List.length_drop] at hj
  obtain ⟨b', o', e, _, hc⟩ := h.get (i := i + j) (by omega)
  injection e with e
  injection e with e1 e2
  subst e1 e2
  rw [List.getElem_drop, show o + i + j = o + (i + j) by omega]
  exact hc

end Go.Proofs.Ytpadkallejfdlaa
