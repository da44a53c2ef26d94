/-
  An argument that is a bool, opened.
-/
import Derived.Test.YtahegjofooahkaaShut
namespace Go.Proofs.Ytahegjofooahkaa
open Go.RowKit Go.ChangeShapes Go.WideShapes Go.ChangeAt Go.Deep
set_option linter.unusedVariables false
set_option maxRecDepth 100000
variable {H : Type} {enc : TypeId × Value → H} {w : World} {base : Nat} {spare : Nat → Bool} {held : Bool}

/-- A value of type bool that has one cell is that cell. -/
theorem bool_of_cells {P : Program} {W : World} {r : Reach} {b : Nat} {t : TypeId} {v c : Value} (ht : P.underlying t = some .bool) (hok : Value.okWide P W r b t v) (hc : v.cells.toList = [c]) : v = c := by
  cases v <;> simp only [Value.cells, List.cons.injEq, and_true] at hc <;> first | exact hc | skip
  simp [Value.okWide, Cell.okWide, ht, Cell.ok] at hok
/-- An argument of type bool. -/
theorem open_bool {v : Value} {d : DataW H} {ps : List MemPlace} (h : DataW.Trod enc Try.prog w base spare held 4 v d ps) {W : World} {r : Reach} {b : Nat} (hok : Value.okWide Try.prog W r b 4 v) : ∃ x : Bool, v = .bool x := by
  obtain ⟨fuel, hf⟩ := h
  obtain ⟨x, e, _⟩ := DataW.trod_bool Try.underlying4 hf
  exact ⟨x, bool_of_cells Try.underlying4 hok e⟩

end Go.Proofs.Ytahegjofooahkaa
