/-
  The walks of relText, impl.FormatRelExpr; l7Sign, l7Level, l7Text, l7Part, spec.FormatRelExpr. The walks of l7Text, spec.FormatRelExpr.
-/
import Derived.Test.YtfgpbnncdfcjjaaGreatDoorVal
import Derived.Test.YtfgpbnncdfcjjaaGreatDoorWVal

/-! The walks of relText, impl.FormatRelExpr; l7Sign, l7Level, l7Text, l7Part, spec.FormatRelExpr. -/
namespace Go.Proofs.YtfgpbnncdfcjjaaGreatDoor
open Go.RowKit
set_option linter.unusedVariables false
set_option maxRecDepth 100000

def RetStr (w : World) (s : ByteArray) (e : Ending) (w' : World) : Prop := e = .returned (.string s) ∧ Below w.heap.size w w'

theorem RetStr.open {P : Program} {f : FuncId} {args : Array Value} {w : World} {s : ByteArray} (h : Calls P f args w (RetStr w s)) : Calls P f args w fun e w' => e = .returned (.string s) ∧ Below w.heap.size w w' := h

theorem fmt_true {x : RE} (h : valB x = true) : fmt x = ct x := by unfold fmt; rw [if_pos h]
theorem fmt_false {x : RE} (h : valB x = false) : fmt x = ⟨#[]⟩ := by unfold fmt; rw [if_neg (by rw [h]; decide)]

def RetIQ (w : World) (n : Int) (e : Ending) (w' : World) : Prop := e = .returned (.int .i64 n) ∧ w = w'
theorem RetIQ.open {P : Program} {f : FuncId} {args : Array Value} {w : World} {n : Int} (h : Calls P f args w (RetIQ w n)) : Calls P f args w fun e w' => e = .returned (.int .i64 n) ∧ w = w' := h

end Go.Proofs.YtfgpbnncdfcjjaaGreatDoor

/-! The walks of l7Text, spec.FormatRelExpr. -/
namespace Go.Proofs.YtfgpbnncdfcjjaaGreatDoor
open Go.RowKit
set_option linter.unusedVariables false
set_option maxRecDepth 100000

end Go.Proofs.YtfgpbnncdfcjjaaGreatDoor
