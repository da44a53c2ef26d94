/-
  The walks of the reference's operations on relations.
-/
import Derived.Test.YtfgpbnncdfcjjaaDoorBitR
namespace Go.Proofs.YtfgpbnncdfcjjaaDoor
open Go.RowKit
set_option linter.unusedVariables false
set_option maxRecDepth 100000

/-- A relation handed back. -/
def RetRel (w : World) (R : Rel) (n : Nat) (e : Ending) (w' : World) : Prop := ∃ A c, e = .returned (.slice A n c) ∧ RowI w' w.heap.size (.slice A n c) (relN R n) ∧ Below w.heap.size w w'
theorem RetRel.of {w w' : World} {R : Rel} {n : Nat} {e : Ending} (h : RetRowI w (relN R n) e w') : RetRel w R n e w' := by
  obtain ⟨A, c, he, hr, hb⟩ := h
  rw [relN_length] at he hr
  exact ⟨A, c, he, hr, hb⟩
theorem RetRel.mk {w w' : World} {R : Rel} {n : Nat} {v : Value} (h : RowI w' w.heap.size v (relN R n)) (hb : Below w.heap.size w w') : RetRel w R n (.returned v) w' := .of (RetRowI.mk h hb)
theorem row_rel {w : World} {base n : Nat} {R : Rel} {A : Option Addr} {c : Nat} (h : RowI w base (.slice A n c) (relN R n)) : Ints w A c (relN R n) := by
  obtain ⟨A', c', e, h⟩ := RowI.ints h
  injection e with e1 e2 e3
  subst e1 e3
  exact h.le (Le.above _ _)

theorem take_rel (R : Rel) {n i : Nat} (h : i < n) : (relN R n).take (i + 1) = (relN R n).take i ++ [((bitN (R i) n : Nat) : Int)] := by
  rw [List.take_succ_eq_append_getElem (by rw [relN_length]; exact h), relN_get]
theorem take_rel_length (R : Rel) {n i : Nat} (h : i ≤ n) : ((relN R n).take i).length = i := by rw [List.length_take, relN_length]; omega

end Go.Proofs.YtfgpbnncdfcjjaaDoor
