/-
  NARROWER THAN 'FOR EVERY INPUT', by the rows' own cells (each row's printed sentence says how): FnExactBrokenCycle: loops, laid · FnBrokenRule: laid · FnRuleOrder: laid · FnBrokenCycle: laid.
  DERIVED. THE GIVEN ROWS OF THIS SEAT. 4 by the template 'for every input the law returns true; each argument reads behind the call as it read before'; 0 by the template 'total and deterministic' (their statements: YtfgpbnncdfcjjabGreatDoorTotals.lean).
  GIVEN WITH THE SEED: the statements are not yours to turn. If you find one false, say at which input.
  Laid BY PROGRAM, IN A SANDBOX (cutbox-rows.mjs): the forced cells as the released guide's own fill.sh prints them over the translation f8d63cbd6bdaf567… (all of the seat's roots in one cut). By AI agents, Wed Nov 11 2026. No macro, syntax, notation, axiom, sorry.
-/
import Derived.Test.YtfgpbnncdfcjjabGreatDoorChecked
import GoSem.Claim
import GoSem.ClaimJoined
import GoSem.ClaimMapViews
import Derived.JoinedTies
import Derived.KernelRfl
namespace Go.Proofs.YtfgpbnncdfcjjabGreatDoor
/- THE CELL 'sum', in the pinned program and in every row, IS THE sha256 OF THE DUMP (.gsa) THAT YtfgpbnncdfcjjabGreatDoorProg.lean LOADS. Nothing in Lean hashes anything: it is a label: what it is worth is what the hold of that sum in a sandbox is worth. -/
noncomputable def Tryz.pinned : Pinned := { name := "ytfgpbnncdfcjjabgreatdoor", sum := "f8d63cbd6bdaf567920efa5fe0d4e467a70899fbf7539b9eee989a4b871eb257", checked := Tryz.checked }
namespace Rows
def none {H : Type} : Left H := { results := [], args := [] }

/- WHAT THE LISTED PACKAGE-LEVEL VARIABLES READ AS WHEN THE CALL BEGINS. Each datum BY PROGRAM (the guide's laid-datum.mjs) off the statement by which the dump's own 'gosem.cut.vars' lays the variable. In a bare row this is a premise. The card (YtfgpbnncdfcjjabGreatDoorCards.lean) ties it to the program's text. -/
def laid_loop_example_weakmemory_impl_relNames {H : Type} : DataW H := .agg [.lit (.string [112, 111]), .lit (.string [108, 111, 99]), .lit (.string [101, 120, 116]), .lit (.string [114, 102]), .lit (.string [99, 111]), .lit (.string [102, 114]), .lit (.string [102, 101, 110, 99, 101]), .lit (.string [119, 114]), .lit (.string [119, 119]), .lit (.string [105, 100])]

/-- 'laws.FnExactBrokenCycle': WHATEVER THE INPUT: true; the input reads as it did. -/
def fnExactBrokenCycleSpec : ChangeSpec := { name := "fnExactBrokenCycle", vars := ["loop.example/weakmemory/impl.relNames"], fn := fun _ => fun
  | [d1, d2, d3, g1] => { results := [.lit (.bool true)], args := [d1, d2, d3], vars := [g1] }
  | _ => none }
def fnExactBrokenCycleRow : OpenClaim := { program := "ytfgpbnncdfcjjabgreatdoor", sum := "f8d63cbd6bdaf567920efa5fe0d4e467a70899fbf7539b9eee989a4b871eb257", func := "loop.example/weakmemory/laws.FnExactBrokenCycle", spec := "fnExactBrokenCycle", unfollowed := true, recurses := true, named := ["loop.example/weakmemory/impl.relNames"], loops := true, apart := false, laid := [("loop.example/weakmemory/impl.relNames", laid_loop_example_weakmemory_impl_relNames)] }
def FnExactBrokenCycleSaid : Prop := fnExactBrokenCycleRow.holds Tryz.pinned (OpenSpec.ofChange fnExactBrokenCycleSpec)

/-- ITS FALSE NEIGHBOUR: 'it returns false'. Refute it at one input. -/
def fnExactBrokenCycleWrong : ChangeSpec := { name := "fnExactBrokenCycle", vars := ["loop.example/weakmemory/impl.relNames"], fn := fun _ => fun
  | [d1, d2, d3, g1] => { results := [.lit (.bool false)], args := [d1, d2, d3], vars := [g1] }
  | _ => none }
def FnExactBrokenCycleWrongFalsely : Prop := fnExactBrokenCycleRow.holds Tryz.pinned (OpenSpec.ofChange fnExactBrokenCycleWrong)

/-- 'laws.FnBrokenRule': WHATEVER THE INPUT: true; the input reads as it did. -/
def fnBrokenRuleSpec : ChangeSpec := { name := "fnBrokenRule", vars := ["loop.example/weakmemory/impl.relNames"], fn := fun _ => fun
  | [d, g1] => { results := [.lit (.bool true)], args := [d], vars := [g1] }
  | _ => none }
def fnBrokenRuleRow : OpenClaim := { program := "ytfgpbnncdfcjjabgreatdoor", sum := "f8d63cbd6bdaf567920efa5fe0d4e467a70899fbf7539b9eee989a4b871eb257", func := "loop.example/weakmemory/laws.FnBrokenRule", spec := "fnBrokenRule", unfollowed := true, recurses := true, named := ["loop.example/weakmemory/impl.relNames"], apart := false, laid := [("loop.example/weakmemory/impl.relNames", laid_loop_example_weakmemory_impl_relNames)] }
def FnBrokenRuleSaid : Prop := fnBrokenRuleRow.holds Tryz.pinned (OpenSpec.ofChange fnBrokenRuleSpec)

/-- ITS FALSE NEIGHBOUR: 'it returns false'. Refute it at one input. -/
def fnBrokenRuleWrong : ChangeSpec := { name := "fnBrokenRule", vars := ["loop.example/weakmemory/impl.relNames"], fn := fun _ => fun
  | [d, g1] => { results := [.lit (.bool false)], args := [d], vars := [g1] }
  | _ => none }
def FnBrokenRuleWrongFalsely : Prop := fnBrokenRuleRow.holds Tryz.pinned (OpenSpec.ofChange fnBrokenRuleWrong)

/-- 'laws.FnRuleOrder': WHATEVER THE INPUT: true; the input reads as it did. -/
def fnRuleOrderSpec : ChangeSpec := { name := "fnRuleOrder", vars := ["loop.example/weakmemory/impl.relNames"], fn := fun _ => fun
  | [d, g1] => { results := [.lit (.bool true)], args := [d], vars := [g1] }
  | _ => none }
def fnRuleOrderRow : OpenClaim := { program := "ytfgpbnncdfcjjabgreatdoor", sum := "f8d63cbd6bdaf567920efa5fe0d4e467a70899fbf7539b9eee989a4b871eb257", func := "loop.example/weakmemory/laws.FnRuleOrder", spec := "fnRuleOrder", unfollowed := true, recurses := true, named := ["loop.example/weakmemory/impl.relNames"], apart := false, laid := [("loop.example/weakmemory/impl.relNames", laid_loop_example_weakmemory_impl_relNames)] }
def FnRuleOrderSaid : Prop := fnRuleOrderRow.holds Tryz.pinned (OpenSpec.ofChange fnRuleOrderSpec)

/-- ITS FALSE NEIGHBOUR: 'it returns false'. Refute it at one input. -/
def fnRuleOrderWrong : ChangeSpec := { name := "fnRuleOrder", vars := ["loop.example/weakmemory/impl.relNames"], fn := fun _ => fun
  | [d, g1] => { results := [.lit (.bool false)], args := [d], vars := [g1] }
  | _ => none }
def FnRuleOrderWrongFalsely : Prop := fnRuleOrderRow.holds Tryz.pinned (OpenSpec.ofChange fnRuleOrderWrong)

/-- 'laws.FnBrokenCycle': WHATEVER THE INPUT: true; the input reads as it did. -/
def fnBrokenCycleSpec : ChangeSpec := { name := "fnBrokenCycle", vars := ["loop.example/weakmemory/impl.relNames"], fn := fun _ => fun
  | [d, g1] => { results := [.lit (.bool true)], args := [d], vars := [g1] }
  | _ => none }
def fnBrokenCycleRow : OpenClaim := { program := "ytfgpbnncdfcjjabgreatdoor", sum := "f8d63cbd6bdaf567920efa5fe0d4e467a70899fbf7539b9eee989a4b871eb257", func := "loop.example/weakmemory/laws.FnBrokenCycle", spec := "fnBrokenCycle", unfollowed := true, recurses := true, named := ["loop.example/weakmemory/impl.relNames"], apart := false, laid := [("loop.example/weakmemory/impl.relNames", laid_loop_example_weakmemory_impl_relNames)] }
def FnBrokenCycleSaid : Prop := fnBrokenCycleRow.holds Tryz.pinned (OpenSpec.ofChange fnBrokenCycleSpec)

/-- ITS FALSE NEIGHBOUR: 'it returns false'. Refute it at one input. -/
def fnBrokenCycleWrong : ChangeSpec := { name := "fnBrokenCycle", vars := ["loop.example/weakmemory/impl.relNames"], fn := fun _ => fun
  | [d, g1] => { results := [.lit (.bool false)], args := [d], vars := [g1] }
  | _ => none }
def FnBrokenCycleWrongFalsely : Prop := fnBrokenCycleRow.holds Tryz.pinned (OpenSpec.ofChange fnBrokenCycleWrong)

/- THE SECOND FORM. 'bulk': how many values and letters a reading holds, each counted each time it is reached (what is shared counts as often as it is met; a slice's spare places count too). A statement '..UptoSaid' is the law's where the arguments, and the package variables that the reading takes, are together of bulk at most 1048576: NARROWER than '..Said'. Prove '..Said' where nothing that the law and all that it calls make is longer than what came in: it says more and counts as full. Else prove '..UptoSaid'. A law counts once. -/
mutual
def uptoBulk {H : Type} : DataW H → Nat
  | .lit (.string bytes) => bytes.length + 1
  | .lit _ => 1
  | .nil => 1
  | .ptr d => uptoBulk d + 1
  | .slice elems spare => uptoBulkAll elems + uptoBulkAll spare + 1
  | .agg parts => uptoBulkAll parts + 1
  | .iface _ d => uptoBulk d + 1
  | .map entries => uptoBulkEntries entries + 1
  | .held _ => 1
def uptoBulkAll {H : Type} : List (DataW H) → Nat
  | [] => 0
  | d :: r => uptoBulk d + uptoBulkAll r
def uptoBulkEntries {H : Type} : List (Lit × DataW H) → Nat
  | [] => 0
  | x :: r => uptoBulkEntry x + uptoBulkEntries r
def uptoBulkEntry {H : Type} : Lit × DataW H → Nat
  | (.string bytes, d) => bytes.length + uptoBulk d + 1
  | (_, d) => uptoBulk d + 1
 end
def uptoSmall : (H : Type) → List (DataW H) → Bool := fun _ ds => decide (uptoBulkAll ds ≤ 1048576)
def OpenSpec.upto (s : _root_.Go.ChangeSpec) : _root_.Go.OpenSpec := { _root_.Go.OpenSpec.ofChange s with cond := some uptoSmall }

/-- 'laws.FnExactBrokenCycle', WHERE WHAT IT READS IS OF BULK AT MOST 1048576: true; the input reads as it did. -/
def fnExactBrokenCycleUptoRow : OpenClaim := { program := "ytfgpbnncdfcjjabgreatdoor", sum := "f8d63cbd6bdaf567920efa5fe0d4e467a70899fbf7539b9eee989a4b871eb257", func := "loop.example/weakmemory/laws.FnExactBrokenCycle", spec := "fnExactBrokenCycle", unfollowed := true, recurses := true, named := ["loop.example/weakmemory/impl.relNames"], loops := true, apart := false, laid := [("loop.example/weakmemory/impl.relNames", laid_loop_example_weakmemory_impl_relNames)], narrowed := true }
def FnExactBrokenCycleUptoSaid : Prop := fnExactBrokenCycleUptoRow.holds Tryz.pinned (OpenSpec.upto fnExactBrokenCycleSpec)

/-- 'laws.FnBrokenRule', WHERE WHAT IT READS IS OF BULK AT MOST 1048576: true; the input reads as it did. -/
def fnBrokenRuleUptoRow : OpenClaim := { program := "ytfgpbnncdfcjjabgreatdoor", sum := "f8d63cbd6bdaf567920efa5fe0d4e467a70899fbf7539b9eee989a4b871eb257", func := "loop.example/weakmemory/laws.FnBrokenRule", spec := "fnBrokenRule", unfollowed := true, recurses := true, named := ["loop.example/weakmemory/impl.relNames"], apart := false, laid := [("loop.example/weakmemory/impl.relNames", laid_loop_example_weakmemory_impl_relNames)], narrowed := true }
def FnBrokenRuleUptoSaid : Prop := fnBrokenRuleUptoRow.holds Tryz.pinned (OpenSpec.upto fnBrokenRuleSpec)

/-- 'laws.FnRuleOrder', WHERE WHAT IT READS IS OF BULK AT MOST 1048576: true; the input reads as it did. -/
def fnRuleOrderUptoRow : OpenClaim := { program := "ytfgpbnncdfcjjabgreatdoor", sum := "f8d63cbd6bdaf567920efa5fe0d4e467a70899fbf7539b9eee989a4b871eb257", func := "loop.example/weakmemory/laws.FnRuleOrder", spec := "fnRuleOrder", unfollowed := true, recurses := true, named := ["loop.example/weakmemory/impl.relNames"], apart := false, laid := [("loop.example/weakmemory/impl.relNames", laid_loop_example_weakmemory_impl_relNames)], narrowed := true }
def FnRuleOrderUptoSaid : Prop := fnRuleOrderUptoRow.holds Tryz.pinned (OpenSpec.upto fnRuleOrderSpec)

/-- 'laws.FnBrokenCycle', WHERE WHAT IT READS IS OF BULK AT MOST 1048576: true; the input reads as it did. -/
def fnBrokenCycleUptoRow : OpenClaim := { program := "ytfgpbnncdfcjjabgreatdoor", sum := "f8d63cbd6bdaf567920efa5fe0d4e467a70899fbf7539b9eee989a4b871eb257", func := "loop.example/weakmemory/laws.FnBrokenCycle", spec := "fnBrokenCycle", unfollowed := true, recurses := true, named := ["loop.example/weakmemory/impl.relNames"], apart := false, laid := [("loop.example/weakmemory/impl.relNames", laid_loop_example_weakmemory_impl_relNames)], narrowed := true }
def FnBrokenCycleUptoSaid : Prop := fnBrokenCycleUptoRow.holds Tryz.pinned (OpenSpec.upto fnBrokenCycleSpec)

end Rows
end Go.Proofs.YtfgpbnncdfcjjabGreatDoor
