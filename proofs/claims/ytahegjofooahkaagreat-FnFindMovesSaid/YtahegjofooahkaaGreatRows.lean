/-
  No cell of these rows narrows 'for every input' (looked for: loops, veiled, ifaces, maps, wideKeys, modest, calm, conditions, laid).
  DERIVED. THE GIVEN ROWS OF THIS SEAT. 10 by the template 'for every input the law returns true; each argument reads behind the call as it read before'; 0 by the template 'total and deterministic' (their statements: YtahegjofooahkaaGreatTotals.lean).
  GIVEN WITH THE SEED: the statements are not yours to turn. If you find one false, say at which input.
  Laid BY PROGRAM, IN A SANDBOX (cutbox-rows.mjs): the forced cells as the released guide's own fill.sh prints them over the translation d124ee462a22eeca… (all of the seat's roots in one cut). By AI agents, Wed Nov 11 2026. No macro, syntax, notation, axiom, sorry.
-/
import Derived.Test.YtahegjofooahkaaGreatChecked
import GoSem.Claim
import GoSem.ClaimJoined
import GoSem.ClaimMapViews
import Derived.JoinedTies
import Derived.KernelRfl
namespace Go.Proofs.YtahegjofooahkaaGreat
/- THE CELL 'sum', in the pinned program and in every row, IS THE sha256 OF THE DUMP (.gsa) THAT YtahegjofooahkaaGreatProg.lean LOADS. Nothing in Lean hashes anything: it is a label: what it is worth is what the hold of that sum in a sandbox is worth. -/
noncomputable def Tryz.pinned : Pinned := { name := "ytahegjofooahkaagreat", sum := "d124ee462a22eecaabc699aac5b340fe89663f1bad8214dfd4937a59b5709dd8", checked := Tryz.checked }
namespace Rows
def none {H : Type} : Left H := { results := [], args := [] }

/-- 'laws.FnFindMoves': WHATEVER THE INPUT: true; the input reads as it did. -/
def fnFindMovesSpec : ChangeSpec := { name := "fnFindMoves", fn := fun _ => fun
  | [d] => { results := [.lit (.bool true)], args := [d] }
  | _ => none }
def fnFindMovesRow : OpenClaim := { program := "ytahegjofooahkaagreat", sum := "d124ee462a22eecaabc699aac5b340fe89663f1bad8214dfd4937a59b5709dd8", func := "loop.example/weakmemory/laws.FnFindMoves", spec := "fnFindMoves", unfollowed := true, recurses := true, apart := false }
def FnFindMovesSaid : Prop := fnFindMovesRow.holds Tryz.pinned (OpenSpec.ofChange fnFindMovesSpec)

/-- ITS FALSE NEIGHBOUR: 'it returns false'. Refute it at one input. -/
def fnFindMovesWrong : ChangeSpec := { name := "fnFindMoves", fn := fun _ => fun
  | [d] => { results := [.lit (.bool false)], args := [d] }
  | _ => none }
def FnFindMovesWrongFalsely : Prop := fnFindMovesRow.holds Tryz.pinned (OpenSpec.ofChange fnFindMovesWrong)

/-- 'laws.FnExactRunPso': WHATEVER THE INPUT: true; the input reads as it did. -/
def fnExactRunPsoSpec : ChangeSpec := { name := "fnExactRunPso", fn := fun _ => fun
  | [d] => { results := [.lit (.bool true)], args := [d] }
  | _ => none }
def fnExactRunPsoRow : OpenClaim := { program := "ytahegjofooahkaagreat", sum := "d124ee462a22eecaabc699aac5b340fe89663f1bad8214dfd4937a59b5709dd8", func := "loop.example/weakmemory/laws.FnExactRunPso", spec := "fnExactRunPso", unfollowed := true, recurses := true, apart := false }
def FnExactRunPsoSaid : Prop := fnExactRunPsoRow.holds Tryz.pinned (OpenSpec.ofChange fnExactRunPsoSpec)

/-- ITS FALSE NEIGHBOUR: 'it returns false'. Refute it at one input. -/
def fnExactRunPsoWrong : ChangeSpec := { name := "fnExactRunPso", fn := fun _ => fun
  | [d] => { results := [.lit (.bool false)], args := [d] }
  | _ => none }
def FnExactRunPsoWrongFalsely : Prop := fnExactRunPsoRow.holds Tryz.pinned (OpenSpec.ofChange fnExactRunPsoWrong)

/-- 'laws.FnExactRunTso': WHATEVER THE INPUT: true; the input reads as it did. -/
def fnExactRunTsoSpec : ChangeSpec := { name := "fnExactRunTso", fn := fun _ => fun
  | [d] => { results := [.lit (.bool true)], args := [d] }
  | _ => none }
def fnExactRunTsoRow : OpenClaim := { program := "ytahegjofooahkaagreat", sum := "d124ee462a22eecaabc699aac5b340fe89663f1bad8214dfd4937a59b5709dd8", func := "loop.example/weakmemory/laws.FnExactRunTso", spec := "fnExactRunTso", unfollowed := true, recurses := true, apart := false }
def FnExactRunTsoSaid : Prop := fnExactRunTsoRow.holds Tryz.pinned (OpenSpec.ofChange fnExactRunTsoSpec)

/-- ITS FALSE NEIGHBOUR: 'it returns false'. Refute it at one input. -/
def fnExactRunTsoWrong : ChangeSpec := { name := "fnExactRunTso", fn := fun _ => fun
  | [d] => { results := [.lit (.bool false)], args := [d] }
  | _ => none }
def FnExactRunTsoWrongFalsely : Prop := fnExactRunTsoRow.holds Tryz.pinned (OpenSpec.ofChange fnExactRunTsoWrong)

/-- 'laws.FnRunMoves': WHATEVER THE INPUT: true; the input reads as it did. -/
def fnRunMovesSpec : ChangeSpec := { name := "fnRunMoves", fn := fun _ => fun
  | [d] => { results := [.lit (.bool true)], args := [d] }
  | _ => none }
def fnRunMovesRow : OpenClaim := { program := "ytahegjofooahkaagreat", sum := "d124ee462a22eecaabc699aac5b340fe89663f1bad8214dfd4937a59b5709dd8", func := "loop.example/weakmemory/laws.FnRunMoves", spec := "fnRunMoves", unfollowed := true, recurses := true, apart := false }
def FnRunMovesSaid : Prop := fnRunMovesRow.holds Tryz.pinned (OpenSpec.ofChange fnRunMovesSpec)

/-- ITS FALSE NEIGHBOUR: 'it returns false'. Refute it at one input. -/
def fnRunMovesWrong : ChangeSpec := { name := "fnRunMoves", fn := fun _ => fun
  | [d] => { results := [.lit (.bool false)], args := [d] }
  | _ => none }
def FnRunMovesWrongFalsely : Prop := fnRunMovesRow.holds Tryz.pinned (OpenSpec.ofChange fnRunMovesWrong)

/-- 'laws.FnBufferStates': WHATEVER THE INPUT: true; the input reads as it did. -/
def fnBufferStatesSpec : ChangeSpec := { name := "fnBufferStates", fn := fun _ => fun
  | [d] => { results := [.lit (.bool true)], args := [d] }
  | _ => none }
def fnBufferStatesRow : OpenClaim := { program := "ytahegjofooahkaagreat", sum := "d124ee462a22eecaabc699aac5b340fe89663f1bad8214dfd4937a59b5709dd8", func := "loop.example/weakmemory/laws.FnBufferStates", spec := "fnBufferStates", unfollowed := true, recurses := true, apart := false }
def FnBufferStatesSaid : Prop := fnBufferStatesRow.holds Tryz.pinned (OpenSpec.ofChange fnBufferStatesSpec)

/-- ITS FALSE NEIGHBOUR: 'it returns false'. Refute it at one input. -/
def fnBufferStatesWrong : ChangeSpec := { name := "fnBufferStates", fn := fun _ => fun
  | [d] => { results := [.lit (.bool false)], args := [d] }
  | _ => none }
def FnBufferStatesWrongFalsely : Prop := fnBufferStatesRow.holds Tryz.pinned (OpenSpec.ofChange fnBufferStatesWrong)

/-- 'laws.FnFenced': WHATEVER THE INPUT: true; the input reads as it did. -/
def fnFencedSpec : ChangeSpec := { name := "fnFenced", fn := fun _ => fun
  | [d] => { results := [.lit (.bool true)], args := [d] }
  | _ => none }
def fnFencedRow : OpenClaim := { program := "ytahegjofooahkaagreat", sum := "d124ee462a22eecaabc699aac5b340fe89663f1bad8214dfd4937a59b5709dd8", func := "loop.example/weakmemory/laws.FnFenced", spec := "fnFenced", unfollowed := true, recurses := true, apart := false }
def FnFencedSaid : Prop := fnFencedRow.holds Tryz.pinned (OpenSpec.ofChange fnFencedSpec)

/-- ITS FALSE NEIGHBOUR: 'it returns false'. Refute it at one input. -/
def fnFencedWrong : ChangeSpec := { name := "fnFenced", fn := fun _ => fun
  | [d] => { results := [.lit (.bool false)], args := [d] }
  | _ => none }
def FnFencedWrongFalsely : Prop := fnFencedRow.holds Tryz.pinned (OpenSpec.ofChange fnFencedWrong)

/-- 'laws.FnRunPso': WHATEVER THE INPUT: true; the input reads as it did. -/
def fnRunPsoSpec : ChangeSpec := { name := "fnRunPso", fn := fun _ => fun
  | [d] => { results := [.lit (.bool true)], args := [d] }
  | _ => none }
def fnRunPsoRow : OpenClaim := { program := "ytahegjofooahkaagreat", sum := "d124ee462a22eecaabc699aac5b340fe89663f1bad8214dfd4937a59b5709dd8", func := "loop.example/weakmemory/laws.FnRunPso", spec := "fnRunPso", unfollowed := true, recurses := true, apart := false }
def FnRunPsoSaid : Prop := fnRunPsoRow.holds Tryz.pinned (OpenSpec.ofChange fnRunPsoSpec)

/-- ITS FALSE NEIGHBOUR: 'it returns false'. Refute it at one input. -/
def fnRunPsoWrong : ChangeSpec := { name := "fnRunPso", fn := fun _ => fun
  | [d] => { results := [.lit (.bool false)], args := [d] }
  | _ => none }
def FnRunPsoWrongFalsely : Prop := fnRunPsoRow.holds Tryz.pinned (OpenSpec.ofChange fnRunPsoWrong)

/-- 'laws.FnSwapProgram': WHATEVER THE INPUT: true; the input reads as it did. -/
def fnSwapProgramSpec : ChangeSpec := { name := "fnSwapProgram", fn := fun _ => fun
  | [d] => { results := [.lit (.bool true)], args := [d] }
  | _ => none }
def fnSwapProgramRow : OpenClaim := { program := "ytahegjofooahkaagreat", sum := "d124ee462a22eecaabc699aac5b340fe89663f1bad8214dfd4937a59b5709dd8", func := "loop.example/weakmemory/laws.FnSwapProgram", spec := "fnSwapProgram", unfollowed := true, recurses := true, apart := false }
def FnSwapProgramSaid : Prop := fnSwapProgramRow.holds Tryz.pinned (OpenSpec.ofChange fnSwapProgramSpec)

/-- ITS FALSE NEIGHBOUR: 'it returns false'. Refute it at one input. -/
def fnSwapProgramWrong : ChangeSpec := { name := "fnSwapProgram", fn := fun _ => fun
  | [d] => { results := [.lit (.bool false)], args := [d] }
  | _ => none }
def FnSwapProgramWrongFalsely : Prop := fnSwapProgramRow.holds Tryz.pinned (OpenSpec.ofChange fnSwapProgramWrong)

/-- 'laws.FnOneLocation': WHATEVER THE INPUT: true; the input reads as it did. -/
def fnOneLocationSpec : ChangeSpec := { name := "fnOneLocation", fn := fun _ => fun
  | [d] => { results := [.lit (.bool true)], args := [d] }
  | _ => none }
def fnOneLocationRow : OpenClaim := { program := "ytahegjofooahkaagreat", sum := "d124ee462a22eecaabc699aac5b340fe89663f1bad8214dfd4937a59b5709dd8", func := "loop.example/weakmemory/laws.FnOneLocation", spec := "fnOneLocation", unfollowed := true, recurses := true, apart := false }
def FnOneLocationSaid : Prop := fnOneLocationRow.holds Tryz.pinned (OpenSpec.ofChange fnOneLocationSpec)

/-- ITS FALSE NEIGHBOUR: 'it returns false'. Refute it at one input. -/
def fnOneLocationWrong : ChangeSpec := { name := "fnOneLocation", fn := fun _ => fun
  | [d] => { results := [.lit (.bool false)], args := [d] }
  | _ => none }
def FnOneLocationWrongFalsely : Prop := fnOneLocationRow.holds Tryz.pinned (OpenSpec.ofChange fnOneLocationWrong)

/-- 'laws.FnRunTso': WHATEVER THE INPUT: true; the input reads as it did. -/
def fnRunTsoSpec : ChangeSpec := { name := "fnRunTso", fn := fun _ => fun
  | [d] => { results := [.lit (.bool true)], args := [d] }
  | _ => none }
def fnRunTsoRow : OpenClaim := { program := "ytahegjofooahkaagreat", sum := "d124ee462a22eecaabc699aac5b340fe89663f1bad8214dfd4937a59b5709dd8", func := "loop.example/weakmemory/laws.FnRunTso", spec := "fnRunTso", unfollowed := true, recurses := true, apart := false }
def FnRunTsoSaid : Prop := fnRunTsoRow.holds Tryz.pinned (OpenSpec.ofChange fnRunTsoSpec)

/-- ITS FALSE NEIGHBOUR: 'it returns false'. Refute it at one input. -/
def fnRunTsoWrong : ChangeSpec := { name := "fnRunTso", fn := fun _ => fun
  | [d] => { results := [.lit (.bool false)], args := [d] }
  | _ => none }
def FnRunTsoWrongFalsely : Prop := fnRunTsoRow.holds Tryz.pinned (OpenSpec.ofChange fnRunTsoWrong)

/- THE SECOND FORM. 'bulk': how many values and letters a reading holds, each counted each time it is reached (what is shared counts as often as it is met; a slice's spare places count too). A statement '..UptoSaid' is the law's where the arguments, and the package variables that the reading takes, are together of bulk at most 1048576: NARROWER than '..Said'. Prove '..Said' where nothing that the law and all that it calls make is longer than what came in: it says more and counts as full. Else prove '..UptoSaid'. A law counts once. -/
mutual
def uptoBulk {H : Type} : DataW H → Nat
  | .lit (.string bytes) => bytes.length + 1
  | .lit _ => 1
  | .nil => 1
  | .ptr d => uptoBulk d + 1
  | .slice elems spare => uptoBulkAll elems + uptoBulkAll spare + 1
  | .agg parts => uptoBulkAll parts + 1
  | .iface _ d => uptoBulk d + 1
  | .map entries => uptoBulkEntries entries + 1
  | .held _ => 1
def uptoBulkAll {H : Type} : List (DataW H) → Nat
  | [] => 0
  | d :: r => uptoBulk d + uptoBulkAll r
def uptoBulkEntries {H : Type} : List (Lit × DataW H) → Nat
  | [] => 0
  | x :: r => uptoBulkEntry x + uptoBulkEntries r
def uptoBulkEntry {H : Type} : Lit × DataW H → Nat
  | (.string bytes, d) => bytes.length + uptoBulk d + 1
  | (_, d) => uptoBulk d + 1
 end
def uptoSmall : (H : Type) → List (DataW H) → Bool := fun _ ds => decide (uptoBulkAll ds ≤ 1048576)
def OpenSpec.upto (s : _root_.Go.ChangeSpec) : _root_.Go.OpenSpec := { _root_.Go.OpenSpec.ofChange s with cond := some uptoSmall }

/-- 'laws.FnFindMoves', WHERE WHAT IT READS IS OF BULK AT MOST 1048576: true; the input reads as it did. -/
def fnFindMovesUptoRow : OpenClaim := { program := "ytahegjofooahkaagreat", sum := "d124ee462a22eecaabc699aac5b340fe89663f1bad8214dfd4937a59b5709dd8", func := "loop.example/weakmemory/laws.FnFindMoves", spec := "fnFindMoves", unfollowed := true, recurses := true, apart := false, narrowed := true }
def FnFindMovesUptoSaid : Prop := fnFindMovesUptoRow.holds Tryz.pinned (OpenSpec.upto fnFindMovesSpec)

/-- 'laws.FnExactRunPso', WHERE WHAT IT READS IS OF BULK AT MOST 1048576: true; the input reads as it did. -/
def fnExactRunPsoUptoRow : OpenClaim := { program := "ytahegjofooahkaagreat", sum := "d124ee462a22eecaabc699aac5b340fe89663f1bad8214dfd4937a59b5709dd8", func := "loop.example/weakmemory/laws.FnExactRunPso", spec := "fnExactRunPso", unfollowed := true, recurses := true, apart := false, narrowed := true }
def FnExactRunPsoUptoSaid : Prop := fnExactRunPsoUptoRow.holds Tryz.pinned (OpenSpec.upto fnExactRunPsoSpec)

/-- 'laws.FnExactRunTso', WHERE WHAT IT READS IS OF BULK AT MOST 1048576: true; the input reads as it did. -/
def fnExactRunTsoUptoRow : OpenClaim := { program := "ytahegjofooahkaagreat", sum := "d124ee462a22eecaabc699aac5b340fe89663f1bad8214dfd4937a59b5709dd8", func := "loop.example/weakmemory/laws.FnExactRunTso", spec := "fnExactRunTso", unfollowed := true, recurses := true, apart := false, narrowed := true }
def FnExactRunTsoUptoSaid : Prop := fnExactRunTsoUptoRow.holds Tryz.pinned (OpenSpec.upto fnExactRunTsoSpec)

/-- 'laws.FnRunMoves', WHERE WHAT IT READS IS OF BULK AT MOST 1048576: true; the input reads as it did. -/
def fnRunMovesUptoRow : OpenClaim := { program := "ytahegjofooahkaagreat", sum := "d124ee462a22eecaabc699aac5b340fe89663f1bad8214dfd4937a59b5709dd8", func := "loop.example/weakmemory/laws.FnRunMoves", spec := "fnRunMoves", unfollowed := true, recurses := true, apart := false, narrowed := true }
def FnRunMovesUptoSaid : Prop := fnRunMovesUptoRow.holds Tryz.pinned (OpenSpec.upto fnRunMovesSpec)

/-- 'laws.FnBufferStates', WHERE WHAT IT READS IS OF BULK AT MOST 1048576: true; the input reads as it did. -/
def fnBufferStatesUptoRow : OpenClaim := { program := "ytahegjofooahkaagreat", sum := "d124ee462a22eecaabc699aac5b340fe89663f1bad8214dfd4937a59b5709dd8", func := "loop.example/weakmemory/laws.FnBufferStates", spec := "fnBufferStates", unfollowed := true, recurses := true, apart := false, narrowed := true }
def FnBufferStatesUptoSaid : Prop := fnBufferStatesUptoRow.holds Tryz.pinned (OpenSpec.upto fnBufferStatesSpec)

/-- 'laws.FnFenced', WHERE WHAT IT READS IS OF BULK AT MOST 1048576: true; the input reads as it did. -/
def fnFencedUptoRow : OpenClaim := { program := "ytahegjofooahkaagreat", sum := "d124ee462a22eecaabc699aac5b340fe89663f1bad8214dfd4937a59b5709dd8", func := "loop.example/weakmemory/laws.FnFenced", spec := "fnFenced", unfollowed := true, recurses := true, apart := false, narrowed := true }
def FnFencedUptoSaid : Prop := fnFencedUptoRow.holds Tryz.pinned (OpenSpec.upto fnFencedSpec)

/-- 'laws.FnRunPso', WHERE WHAT IT READS IS OF BULK AT MOST 1048576: true; the input reads as it did. -/
def fnRunPsoUptoRow : OpenClaim := { program := "ytahegjofooahkaagreat", sum := "d124ee462a22eecaabc699aac5b340fe89663f1bad8214dfd4937a59b5709dd8", func := "loop.example/weakmemory/laws.FnRunPso", spec := "fnRunPso", unfollowed := true, recurses := true, apart := false, narrowed := true }
def FnRunPsoUptoSaid : Prop := fnRunPsoUptoRow.holds Tryz.pinned (OpenSpec.upto fnRunPsoSpec)

/-- 'laws.FnSwapProgram', WHERE WHAT IT READS IS OF BULK AT MOST 1048576: true; the input reads as it did. -/
def fnSwapProgramUptoRow : OpenClaim := { program := "ytahegjofooahkaagreat", sum := "d124ee462a22eecaabc699aac5b340fe89663f1bad8214dfd4937a59b5709dd8", func := "loop.example/weakmemory/laws.FnSwapProgram", spec := "fnSwapProgram", unfollowed := true, recurses := true, apart := false, narrowed := true }
def FnSwapProgramUptoSaid : Prop := fnSwapProgramUptoRow.holds Tryz.pinned (OpenSpec.upto fnSwapProgramSpec)

/-- 'laws.FnOneLocation', WHERE WHAT IT READS IS OF BULK AT MOST 1048576: true; the input reads as it did. -/
def fnOneLocationUptoRow : OpenClaim := { program := "ytahegjofooahkaagreat", sum := "d124ee462a22eecaabc699aac5b340fe89663f1bad8214dfd4937a59b5709dd8", func := "loop.example/weakmemory/laws.FnOneLocation", spec := "fnOneLocation", unfollowed := true, recurses := true, apart := false, narrowed := true }
def FnOneLocationUptoSaid : Prop := fnOneLocationUptoRow.holds Tryz.pinned (OpenSpec.upto fnOneLocationSpec)

/-- 'laws.FnRunTso', WHERE WHAT IT READS IS OF BULK AT MOST 1048576: true; the input reads as it did. -/
def fnRunTsoUptoRow : OpenClaim := { program := "ytahegjofooahkaagreat", sum := "d124ee462a22eecaabc699aac5b340fe89663f1bad8214dfd4937a59b5709dd8", func := "loop.example/weakmemory/laws.FnRunTso", spec := "fnRunTso", unfollowed := true, recurses := true, apart := false, narrowed := true }
def FnRunTsoUptoSaid : Prop := fnRunTsoUptoRow.holds Tryz.pinned (OpenSpec.upto fnRunTsoSpec)

end Rows
end Go.Proofs.YtahegjofooahkaaGreat
