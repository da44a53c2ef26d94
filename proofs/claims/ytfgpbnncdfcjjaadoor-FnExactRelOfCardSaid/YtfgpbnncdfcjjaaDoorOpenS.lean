/-
  An argument that is a string, opened.
-/
import Derived.Test.YtfgpbnncdfcjjaaDoorShut
namespace Go.Proofs.YtfgpbnncdfcjjaaDoor
open Go.RowKit Go.ChangeShapes Go.WideShapes Go.ChangeAt Go.Deep
set_option linter.unusedVariables false
set_option maxRecDepth 100000
variable {H : Type} {enc : TypeId × Value → H} {w : World} {base : Nat} {spare : Nat → Bool} {held : Bool}

/-- A value of type string that has one cell is that cell. -/
theorem string_of_cells {P : Program} {W : World} {r : Reach} {b : Nat} {t : TypeId} {v c : Value} (ht : P.underlying t = some .string) (hok : Value.okWide P W r b t v) (hc : v.cells.toList = [c]) : v = c := by
  cases v <;> simp only [Value.cells, List.cons.injEq, and_true] at hc <;> first | exact hc | skip
  simp [Value.okWide, Cell.okWide, ht, Cell.ok] at hok
/-- An argument of type string. -/
theorem open_str {v : Value} {d : DataW H} {ps : List MemPlace} (h : DataW.Trod enc Tryd.prog w base spare held 9 v d ps) {W : World} {r : Reach} {b : Nat} (hok : Value.okWide Tryd.prog W r b 9 v) : ∃ s : ByteArray, v = .string s := by
  obtain ⟨fuel, hf⟩ := h
  obtain ⟨s, e, _, _⟩ := DataW.trod_string Tryd.underlying9 hf
  exact ⟨s, string_of_cells Tryd.underlying9 hok e⟩

end Go.Proofs.YtfgpbnncdfcjjaaDoor
