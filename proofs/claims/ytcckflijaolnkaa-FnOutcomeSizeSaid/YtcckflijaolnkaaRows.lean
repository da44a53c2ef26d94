/-
  No cell of these rows narrows 'for every input' (looked for: loops, veiled, ifaces, maps, wideKeys, modest, calm, conditions, laid).
  DERIVED. THE GIVEN ROWS OF THIS SEAT. 7 by the template 'for every input the law returns true; each argument reads behind the call as it read before'; 0 by the template 'total and deterministic' (their statements: YtcckflijaolnkaaTotals.lean).
  GIVEN WITH THE SEED: the statements are not yours to turn. If you find one false, say at which input.
  Laid BY PROGRAM, IN A SANDBOX (cutbox-rows.mjs): the forced cells as the released guide's own fill.sh prints them over the translation fb050bf7577ff842… (all of the seat's roots in one cut). By AI agents, Wed Nov 11 2026. No macro, syntax, notation, axiom, sorry.
-/
import Derived.Test.YtcckflijaolnkaaChecked
import GoSem.Claim
import GoSem.ClaimJoined
import GoSem.ClaimMapViews
import Derived.JoinedTies
import Derived.KernelRfl
namespace Go.Proofs.Ytcckflijaolnkaa
/- THE CELL 'sum', in the pinned program and in every row, IS THE sha256 OF THE DUMP (.gsa) THAT YtcckflijaolnkaaProg.lean LOADS. Nothing in Lean hashes anything: it is a label: what it is worth is what the hold of that sum in a sandbox is worth. -/
noncomputable def Try.pinned : Pinned := { name := "ytcckflijaolnkaa", sum := "fb050bf7577ff8421472b299c59e09290a019f2b6bc3d0787f65a5cdde82dd4e", checked := Try.checked }
namespace Rows
def none {H : Type} : Left H := { results := [], args := [] }

/-- 'laws.FnExactSeqStates': WHATEVER THE INPUT: true; the input reads as it did. -/
def fnExactSeqStatesSpec : ChangeSpec := { name := "fnExactSeqStates", fn := fun _ => fun
  | [d] => { results := [.lit (.bool true)], args := [d] }
  | _ => none }
def fnExactSeqStatesRow : OpenClaim := { program := "ytcckflijaolnkaa", sum := "fb050bf7577ff8421472b299c59e09290a019f2b6bc3d0787f65a5cdde82dd4e", func := "loop.example/weakmemory/laws.FnExactSeqStates", spec := "fnExactSeqStates", unfollowed := true, recurses := true, apart := false }
def FnExactSeqStatesSaid : Prop := fnExactSeqStatesRow.holds Try.pinned (OpenSpec.ofChange fnExactSeqStatesSpec)

/-- ITS FALSE NEIGHBOUR: 'it returns false'. Refute it at one input. -/
def fnExactSeqStatesWrong : ChangeSpec := { name := "fnExactSeqStates", fn := fun _ => fun
  | [d] => { results := [.lit (.bool false)], args := [d] }
  | _ => none }
def FnExactSeqStatesWrongFalsely : Prop := fnExactSeqStatesRow.holds Try.pinned (OpenSpec.ofChange fnExactSeqStatesWrong)

/-- 'laws.FnExactRunSeq': WHATEVER THE INPUT: true; the input reads as it did. -/
def fnExactRunSeqSpec : ChangeSpec := { name := "fnExactRunSeq", fn := fun _ => fun
  | [d] => { results := [.lit (.bool true)], args := [d] }
  | _ => none }
def fnExactRunSeqRow : OpenClaim := { program := "ytcckflijaolnkaa", sum := "fb050bf7577ff8421472b299c59e09290a019f2b6bc3d0787f65a5cdde82dd4e", func := "loop.example/weakmemory/laws.FnExactRunSeq", spec := "fnExactRunSeq", unfollowed := true, recurses := true, apart := false }
def FnExactRunSeqSaid : Prop := fnExactRunSeqRow.holds Try.pinned (OpenSpec.ofChange fnExactRunSeqSpec)

/-- ITS FALSE NEIGHBOUR: 'it returns false'. Refute it at one input. -/
def fnExactRunSeqWrong : ChangeSpec := { name := "fnExactRunSeq", fn := fun _ => fun
  | [d] => { results := [.lit (.bool false)], args := [d] }
  | _ => none }
def FnExactRunSeqWrongFalsely : Prop := fnExactRunSeqRow.holds Try.pinned (OpenSpec.ofChange fnExactRunSeqWrong)

/-- 'laws.FnRunSchedule': WHATEVER THE INPUT: true; the input reads as it did. -/
def fnRunScheduleSpec : ChangeSpec := { name := "fnRunSchedule", fn := fun _ => fun
  | [d] => { results := [.lit (.bool true)], args := [d] }
  | _ => none }
def fnRunScheduleRow : OpenClaim := { program := "ytcckflijaolnkaa", sum := "fb050bf7577ff8421472b299c59e09290a019f2b6bc3d0787f65a5cdde82dd4e", func := "loop.example/weakmemory/laws.FnRunSchedule", spec := "fnRunSchedule", unfollowed := true, recurses := true, apart := false }
def FnRunScheduleSaid : Prop := fnRunScheduleRow.holds Try.pinned (OpenSpec.ofChange fnRunScheduleSpec)

/-- ITS FALSE NEIGHBOUR: 'it returns false'. Refute it at one input. -/
def fnRunScheduleWrong : ChangeSpec := { name := "fnRunSchedule", fn := fun _ => fun
  | [d] => { results := [.lit (.bool false)], args := [d] }
  | _ => none }
def FnRunScheduleWrongFalsely : Prop := fnRunScheduleRow.holds Try.pinned (OpenSpec.ofChange fnRunScheduleWrong)

/-- 'laws.FnOutcomeSize': WHATEVER THE INPUT: true; the input reads as it did. -/
def fnOutcomeSizeSpec : ChangeSpec := { name := "fnOutcomeSize", fn := fun _ => fun
  | [d] => { results := [.lit (.bool true)], args := [d] }
  | _ => none }
def fnOutcomeSizeRow : OpenClaim := { program := "ytcckflijaolnkaa", sum := "fb050bf7577ff8421472b299c59e09290a019f2b6bc3d0787f65a5cdde82dd4e", func := "loop.example/weakmemory/laws.FnOutcomeSize", spec := "fnOutcomeSize", unfollowed := true, recurses := true, apart := false }
def FnOutcomeSizeSaid : Prop := fnOutcomeSizeRow.holds Try.pinned (OpenSpec.ofChange fnOutcomeSizeSpec)

/-- ITS FALSE NEIGHBOUR: 'it returns false'. Refute it at one input. -/
def fnOutcomeSizeWrong : ChangeSpec := { name := "fnOutcomeSize", fn := fun _ => fun
  | [d] => { results := [.lit (.bool false)], args := [d] }
  | _ => none }
def FnOutcomeSizeWrongFalsely : Prop := fnOutcomeSizeRow.holds Try.pinned (OpenSpec.ofChange fnOutcomeSizeWrong)

/-- 'laws.FnSeqStates': WHATEVER THE INPUT: true; the input reads as it did. -/
def fnSeqStatesSpec : ChangeSpec := { name := "fnSeqStates", fn := fun _ => fun
  | [d] => { results := [.lit (.bool true)], args := [d] }
  | _ => none }
def fnSeqStatesRow : OpenClaim := { program := "ytcckflijaolnkaa", sum := "fb050bf7577ff8421472b299c59e09290a019f2b6bc3d0787f65a5cdde82dd4e", func := "loop.example/weakmemory/laws.FnSeqStates", spec := "fnSeqStates", unfollowed := true, recurses := true, apart := false }
def FnSeqStatesSaid : Prop := fnSeqStatesRow.holds Try.pinned (OpenSpec.ofChange fnSeqStatesSpec)

/-- ITS FALSE NEIGHBOUR: 'it returns false'. Refute it at one input. -/
def fnSeqStatesWrong : ChangeSpec := { name := "fnSeqStates", fn := fun _ => fun
  | [d] => { results := [.lit (.bool false)], args := [d] }
  | _ => none }
def FnSeqStatesWrongFalsely : Prop := fnSeqStatesRow.holds Try.pinned (OpenSpec.ofChange fnSeqStatesWrong)

/-- 'laws.FnSeqAlone': WHATEVER THE INPUT: true; the input reads as it did. -/
def fnSeqAloneSpec : ChangeSpec := { name := "fnSeqAlone", fn := fun _ => fun
  | [d] => { results := [.lit (.bool true)], args := [d] }
  | _ => none }
def fnSeqAloneRow : OpenClaim := { program := "ytcckflijaolnkaa", sum := "fb050bf7577ff8421472b299c59e09290a019f2b6bc3d0787f65a5cdde82dd4e", func := "loop.example/weakmemory/laws.FnSeqAlone", spec := "fnSeqAlone", unfollowed := true, recurses := true, apart := false }
def FnSeqAloneSaid : Prop := fnSeqAloneRow.holds Try.pinned (OpenSpec.ofChange fnSeqAloneSpec)

/-- ITS FALSE NEIGHBOUR: 'it returns false'. Refute it at one input. -/
def fnSeqAloneWrong : ChangeSpec := { name := "fnSeqAlone", fn := fun _ => fun
  | [d] => { results := [.lit (.bool false)], args := [d] }
  | _ => none }
def FnSeqAloneWrongFalsely : Prop := fnSeqAloneRow.holds Try.pinned (OpenSpec.ofChange fnSeqAloneWrong)

/-- 'laws.FnRunSeq': WHATEVER THE INPUT: true; the input reads as it did. -/
def fnRunSeqSpec : ChangeSpec := { name := "fnRunSeq", fn := fun _ => fun
  | [d] => { results := [.lit (.bool true)], args := [d] }
  | _ => none }
def fnRunSeqRow : OpenClaim := { program := "ytcckflijaolnkaa", sum := "fb050bf7577ff8421472b299c59e09290a019f2b6bc3d0787f65a5cdde82dd4e", func := "loop.example/weakmemory/laws.FnRunSeq", spec := "fnRunSeq", unfollowed := true, recurses := true, apart := false }
def FnRunSeqSaid : Prop := fnRunSeqRow.holds Try.pinned (OpenSpec.ofChange fnRunSeqSpec)

/-- ITS FALSE NEIGHBOUR: 'it returns false'. Refute it at one input. -/
def fnRunSeqWrong : ChangeSpec := { name := "fnRunSeq", fn := fun _ => fun
  | [d] => { results := [.lit (.bool false)], args := [d] }
  | _ => none }
def FnRunSeqWrongFalsely : Prop := fnRunSeqRow.holds Try.pinned (OpenSpec.ofChange fnRunSeqWrong)

/- THE SECOND FORM. 'bulk': how many values and letters a reading holds, each counted each time it is reached (what is shared counts as often as it is met; a slice's spare places count too). A statement '..UptoSaid' is the law's where the arguments, and the package variables that the reading takes, are together of bulk at most 1048576: NARROWER than '..Said'. Prove '..Said' where nothing that the law and all that it calls make is longer than what came in: it says more and counts as full. Else prove '..UptoSaid'. A law counts once. -/
mutual
def uptoBulk {H : Type} : DataW H → Nat
  | .lit (.string bytes) => bytes.length + 1
  | .lit _ => 1
  | .nil => 1
  | .ptr d => uptoBulk d + 1
  | .slice elems spare => uptoBulkAll elems + uptoBulkAll spare + 1
  | .agg parts => uptoBulkAll parts + 1
  | .iface _ d => uptoBulk d + 1
  | .map entries => uptoBulkEntries entries + 1
  | .held _ => 1
def uptoBulkAll {H : Type} : List (DataW H) → Nat
  | [] => 0
  | d :: r => uptoBulk d + uptoBulkAll r
def uptoBulkEntries {H : Type} : List (Lit × DataW H) → Nat
  | [] => 0
  | x :: r => uptoBulkEntry x + uptoBulkEntries r
def uptoBulkEntry {H : Type} : Lit × DataW H → Nat
  | (.string bytes, d) => bytes.length + uptoBulk d + 1
  | (_, d) => uptoBulk d + 1
 end
def uptoSmall : (H : Type) → List (DataW H) → Bool := fun _ ds => decide (uptoBulkAll ds ≤ 1048576)
def OpenSpec.upto (s : _root_.Go.ChangeSpec) : _root_.Go.OpenSpec := { _root_.Go.OpenSpec.ofChange s with cond := some uptoSmall }

/-- 'laws.FnExactSeqStates', WHERE WHAT IT READS IS OF BULK AT MOST 1048576: true; the input reads as it did. -/
def fnExactSeqStatesUptoRow : OpenClaim := { program := "ytcckflijaolnkaa", sum := "fb050bf7577ff8421472b299c59e09290a019f2b6bc3d0787f65a5cdde82dd4e", func := "loop.example/weakmemory/laws.FnExactSeqStates", spec := "fnExactSeqStates", unfollowed := true, recurses := true, apart := false, narrowed := true }
def FnExactSeqStatesUptoSaid : Prop := fnExactSeqStatesUptoRow.holds Try.pinned (OpenSpec.upto fnExactSeqStatesSpec)

/-- 'laws.FnExactRunSeq', WHERE WHAT IT READS IS OF BULK AT MOST 1048576: true; the input reads as it did. -/
def fnExactRunSeqUptoRow : OpenClaim := { program := "ytcckflijaolnkaa", sum := "fb050bf7577ff8421472b299c59e09290a019f2b6bc3d0787f65a5cdde82dd4e", func := "loop.example/weakmemory/laws.FnExactRunSeq", spec := "fnExactRunSeq", unfollowed := true, recurses := true, apart := false, narrowed := true }
def FnExactRunSeqUptoSaid : Prop := fnExactRunSeqUptoRow.holds Try.pinned (OpenSpec.upto fnExactRunSeqSpec)

/-- 'laws.FnRunSchedule', WHERE WHAT IT READS IS OF BULK AT MOST 1048576: true; the input reads as it did. -/
def fnRunScheduleUptoRow : OpenClaim := { program := "ytcckflijaolnkaa", sum := "fb050bf7577ff8421472b299c59e09290a019f2b6bc3d0787f65a5cdde82dd4e", func := "loop.example/weakmemory/laws.FnRunSchedule", spec := "fnRunSchedule", unfollowed := true, recurses := true, apart := false, narrowed := true }
def FnRunScheduleUptoSaid : Prop := fnRunScheduleUptoRow.holds Try.pinned (OpenSpec.upto fnRunScheduleSpec)

/-- 'laws.FnOutcomeSize', WHERE WHAT IT READS IS OF BULK AT MOST 1048576: true; the input reads as it did. -/
def fnOutcomeSizeUptoRow : OpenClaim := { program := "ytcckflijaolnkaa", sum := "fb050bf7577ff8421472b299c59e09290a019f2b6bc3d0787f65a5cdde82dd4e", func := "loop.example/weakmemory/laws.FnOutcomeSize", spec := "fnOutcomeSize", unfollowed := true, recurses := true, apart := false, narrowed := true }
def FnOutcomeSizeUptoSaid : Prop := fnOutcomeSizeUptoRow.holds Try.pinned (OpenSpec.upto fnOutcomeSizeSpec)

/-- 'laws.FnSeqStates', WHERE WHAT IT READS IS OF BULK AT MOST 1048576: true; the input reads as it did. -/
def fnSeqStatesUptoRow : OpenClaim := { program := "ytcckflijaolnkaa", sum := "fb050bf7577ff8421472b299c59e09290a019f2b6bc3d0787f65a5cdde82dd4e", func := "loop.example/weakmemory/laws.FnSeqStates", spec := "fnSeqStates", unfollowed := true, recurses := true, apart := false, narrowed := true }
def FnSeqStatesUptoSaid : Prop := fnSeqStatesUptoRow.holds Try.pinned (OpenSpec.upto fnSeqStatesSpec)

/-- 'laws.FnSeqAlone', WHERE WHAT IT READS IS OF BULK AT MOST 1048576: true; the input reads as it did. -/
def fnSeqAloneUptoRow : OpenClaim := { program := "ytcckflijaolnkaa", sum := "fb050bf7577ff8421472b299c59e09290a019f2b6bc3d0787f65a5cdde82dd4e", func := "loop.example/weakmemory/laws.FnSeqAlone", spec := "fnSeqAlone", unfollowed := true, recurses := true, apart := false, narrowed := true }
def FnSeqAloneUptoSaid : Prop := fnSeqAloneUptoRow.holds Try.pinned (OpenSpec.upto fnSeqAloneSpec)

/-- 'laws.FnRunSeq', WHERE WHAT IT READS IS OF BULK AT MOST 1048576: true; the input reads as it did. -/
def fnRunSeqUptoRow : OpenClaim := { program := "ytcckflijaolnkaa", sum := "fb050bf7577ff8421472b299c59e09290a019f2b6bc3d0787f65a5cdde82dd4e", func := "loop.example/weakmemory/laws.FnRunSeq", spec := "fnRunSeq", unfollowed := true, recurses := true, apart := false, narrowed := true }
def FnRunSeqUptoSaid : Prop := fnRunSeqUptoRow.holds Try.pinned (OpenSpec.upto fnRunSeqSpec)

end Rows
end Go.Proofs.Ytcckflijaolnkaa
