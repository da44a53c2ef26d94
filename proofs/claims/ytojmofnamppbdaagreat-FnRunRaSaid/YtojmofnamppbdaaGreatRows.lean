/-
  No cell of these rows narrows 'for every input' (looked for: loops, veiled, ifaces, maps, wideKeys, modest, calm, conditions, laid).
  DERIVED. THE GIVEN ROWS OF THIS SEAT. 8 by the template 'for every input the law returns true; each argument reads behind the call as it read before'; 0 by the template 'total and deterministic' (their statements: YtojmofnamppbdaaGreatTotals.lean).
  GIVEN WITH THE SEED: the statements are not yours to turn. If you find one false, say at which input.
  Laid BY PROGRAM, IN A SANDBOX (cutbox-rows.mjs): the forced cells as the released guide's own fill.sh prints them over the translation 981bbaff143e049e… (all of the seat's roots in one cut). By AI agents, Wed Nov 11 2026. No macro, syntax, notation, axiom, sorry.
-/
import Derived.Test.YtojmofnamppbdaaGreatChecked
import GoSem.Claim
import GoSem.ClaimJoined
import GoSem.ClaimMapViews
import Derived.JoinedTies
import Derived.KernelRfl
namespace Go.Proofs.YtojmofnamppbdaaGreat
/- THE CELL 'sum', in the pinned program and in every row, IS THE sha256 OF THE DUMP (.gsa) THAT YtojmofnamppbdaaGreatProg.lean LOADS. Nothing in Lean hashes anything: it is a label: what it is worth is what the hold of that sum in a sandbox is worth. -/
noncomputable def Tryz.pinned : Pinned := { name := "ytojmofnamppbdaagreat", sum := "981bbaff143e049eda4451af3a6e69b288ebce43f128c7716af7ab1a2c483255", checked := Tryz.checked }
namespace Rows
def none {H : Type} : Left H := { results := [], args := [] }

/-- 'laws.FnRunRa': WHATEVER THE INPUT: true; the input reads as it did. -/
def fnRunRaSpec : ChangeSpec := { name := "fnRunRa", fn := fun _ => fun
  | [d] => { results := [.lit (.bool true)], args := [d] }
  | _ => none }
def fnRunRaRow : OpenClaim := { program := "ytojmofnamppbdaagreat", sum := "981bbaff143e049eda4451af3a6e69b288ebce43f128c7716af7ab1a2c483255", func := "loop.example/weakmemory/laws.FnRunRa", spec := "fnRunRa", unfollowed := true, recurses := true, apart := false }
def FnRunRaSaid : Prop := fnRunRaRow.holds Tryz.pinned (OpenSpec.ofChange fnRunRaSpec)

/-- ITS FALSE NEIGHBOUR: 'it returns false'. Refute it at one input. -/
def fnRunRaWrong : ChangeSpec := { name := "fnRunRa", fn := fun _ => fun
  | [d] => { results := [.lit (.bool false)], args := [d] }
  | _ => none }
def FnRunRaWrongFalsely : Prop := fnRunRaRow.holds Tryz.pinned (OpenSpec.ofChange fnRunRaWrong)

/-- 'laws.FnFindChoices': WHATEVER THE INPUT: true; the input reads as it did. -/
def fnFindChoicesSpec : ChangeSpec := { name := "fnFindChoices", fn := fun _ => fun
  | [d] => { results := [.lit (.bool true)], args := [d] }
  | _ => none }
def fnFindChoicesRow : OpenClaim := { program := "ytojmofnamppbdaagreat", sum := "981bbaff143e049eda4451af3a6e69b288ebce43f128c7716af7ab1a2c483255", func := "loop.example/weakmemory/laws.FnFindChoices", spec := "fnFindChoices", unfollowed := true, recurses := true, apart := false }
def FnFindChoicesSaid : Prop := fnFindChoicesRow.holds Tryz.pinned (OpenSpec.ofChange fnFindChoicesSpec)

/-- ITS FALSE NEIGHBOUR: 'it returns false'. Refute it at one input. -/
def fnFindChoicesWrong : ChangeSpec := { name := "fnFindChoices", fn := fun _ => fun
  | [d] => { results := [.lit (.bool false)], args := [d] }
  | _ => none }
def FnFindChoicesWrongFalsely : Prop := fnFindChoicesRow.holds Tryz.pinned (OpenSpec.ofChange fnFindChoicesWrong)

/-- 'laws.FnExactRaStates': WHATEVER THE INPUT: true; the input reads as it did. -/
def fnExactRaStatesSpec : ChangeSpec := { name := "fnExactRaStates", fn := fun _ => fun
  | [d] => { results := [.lit (.bool true)], args := [d] }
  | _ => none }
def fnExactRaStatesRow : OpenClaim := { program := "ytojmofnamppbdaagreat", sum := "981bbaff143e049eda4451af3a6e69b288ebce43f128c7716af7ab1a2c483255", func := "loop.example/weakmemory/laws.FnExactRaStates", spec := "fnExactRaStates", unfollowed := true, recurses := true, apart := false }
def FnExactRaStatesSaid : Prop := fnExactRaStatesRow.holds Tryz.pinned (OpenSpec.ofChange fnExactRaStatesSpec)

/-- ITS FALSE NEIGHBOUR: 'it returns false'. Refute it at one input. -/
def fnExactRaStatesWrong : ChangeSpec := { name := "fnExactRaStates", fn := fun _ => fun
  | [d] => { results := [.lit (.bool false)], args := [d] }
  | _ => none }
def FnExactRaStatesWrongFalsely : Prop := fnExactRaStatesRow.holds Tryz.pinned (OpenSpec.ofChange fnExactRaStatesWrong)

/-- 'laws.FnExactRunRa': WHATEVER THE INPUT: true; the input reads as it did. -/
def fnExactRunRaSpec : ChangeSpec := { name := "fnExactRunRa", fn := fun _ => fun
  | [d] => { results := [.lit (.bool true)], args := [d] }
  | _ => none }
def fnExactRunRaRow : OpenClaim := { program := "ytojmofnamppbdaagreat", sum := "981bbaff143e049eda4451af3a6e69b288ebce43f128c7716af7ab1a2c483255", func := "loop.example/weakmemory/laws.FnExactRunRa", spec := "fnExactRunRa", unfollowed := true, recurses := true, apart := false }
def FnExactRunRaSaid : Prop := fnExactRunRaRow.holds Tryz.pinned (OpenSpec.ofChange fnExactRunRaSpec)

/-- ITS FALSE NEIGHBOUR: 'it returns false'. Refute it at one input. -/
def fnExactRunRaWrong : ChangeSpec := { name := "fnExactRunRa", fn := fun _ => fun
  | [d] => { results := [.lit (.bool false)], args := [d] }
  | _ => none }
def FnExactRunRaWrongFalsely : Prop := fnExactRunRaRow.holds Tryz.pinned (OpenSpec.ofChange fnExactRunRaWrong)

/-- 'laws.FnRunChoices': WHATEVER THE INPUT: true; the input reads as it did. -/
def fnRunChoicesSpec : ChangeSpec := { name := "fnRunChoices", fn := fun _ => fun
  | [d] => { results := [.lit (.bool true)], args := [d] }
  | _ => none }
def fnRunChoicesRow : OpenClaim := { program := "ytojmofnamppbdaagreat", sum := "981bbaff143e049eda4451af3a6e69b288ebce43f128c7716af7ab1a2c483255", func := "loop.example/weakmemory/laws.FnRunChoices", spec := "fnRunChoices", unfollowed := true, recurses := true, apart := false }
def FnRunChoicesSaid : Prop := fnRunChoicesRow.holds Tryz.pinned (OpenSpec.ofChange fnRunChoicesSpec)

/-- ITS FALSE NEIGHBOUR: 'it returns false'. Refute it at one input. -/
def fnRunChoicesWrong : ChangeSpec := { name := "fnRunChoices", fn := fun _ => fun
  | [d] => { results := [.lit (.bool false)], args := [d] }
  | _ => none }
def FnRunChoicesWrongFalsely : Prop := fnRunChoicesRow.holds Tryz.pinned (OpenSpec.ofChange fnRunChoicesWrong)

/-- 'laws.FnRaFence': WHATEVER THE INPUT: true; the input reads as it did. -/
def fnRaFenceSpec : ChangeSpec := { name := "fnRaFence", fn := fun _ => fun
  | [d] => { results := [.lit (.bool true)], args := [d] }
  | _ => none }
def fnRaFenceRow : OpenClaim := { program := "ytojmofnamppbdaagreat", sum := "981bbaff143e049eda4451af3a6e69b288ebce43f128c7716af7ab1a2c483255", func := "loop.example/weakmemory/laws.FnRaFence", spec := "fnRaFence", unfollowed := true, recurses := true, apart := false }
def FnRaFenceSaid : Prop := fnRaFenceRow.holds Tryz.pinned (OpenSpec.ofChange fnRaFenceSpec)

/-- ITS FALSE NEIGHBOUR: 'it returns false'. Refute it at one input. -/
def fnRaFenceWrong : ChangeSpec := { name := "fnRaFence", fn := fun _ => fun
  | [d] => { results := [.lit (.bool false)], args := [d] }
  | _ => none }
def FnRaFenceWrongFalsely : Prop := fnRaFenceRow.holds Tryz.pinned (OpenSpec.ofChange fnRaFenceWrong)

/-- 'laws.FnRaAlone': WHATEVER THE INPUT: true; the input reads as it did. -/
def fnRaAloneSpec : ChangeSpec := { name := "fnRaAlone", fn := fun _ => fun
  | [d] => { results := [.lit (.bool true)], args := [d] }
  | _ => none }
def fnRaAloneRow : OpenClaim := { program := "ytojmofnamppbdaagreat", sum := "981bbaff143e049eda4451af3a6e69b288ebce43f128c7716af7ab1a2c483255", func := "loop.example/weakmemory/laws.FnRaAlone", spec := "fnRaAlone", unfollowed := true, recurses := true, apart := false }
def FnRaAloneSaid : Prop := fnRaAloneRow.holds Tryz.pinned (OpenSpec.ofChange fnRaAloneSpec)

/-- ITS FALSE NEIGHBOUR: 'it returns false'. Refute it at one input. -/
def fnRaAloneWrong : ChangeSpec := { name := "fnRaAlone", fn := fun _ => fun
  | [d] => { results := [.lit (.bool false)], args := [d] }
  | _ => none }
def FnRaAloneWrongFalsely : Prop := fnRaAloneRow.holds Tryz.pinned (OpenSpec.ofChange fnRaAloneWrong)

/-- 'laws.FnRaOneLocation': WHATEVER THE INPUT: true; the input reads as it did. -/
def fnRaOneLocationSpec : ChangeSpec := { name := "fnRaOneLocation", fn := fun _ => fun
  | [d] => { results := [.lit (.bool true)], args := [d] }
  | _ => none }
def fnRaOneLocationRow : OpenClaim := { program := "ytojmofnamppbdaagreat", sum := "981bbaff143e049eda4451af3a6e69b288ebce43f128c7716af7ab1a2c483255", func := "loop.example/weakmemory/laws.FnRaOneLocation", spec := "fnRaOneLocation", unfollowed := true, recurses := true, apart := false }
def FnRaOneLocationSaid : Prop := fnRaOneLocationRow.holds Tryz.pinned (OpenSpec.ofChange fnRaOneLocationSpec)

/-- ITS FALSE NEIGHBOUR: 'it returns false'. Refute it at one input. -/
def fnRaOneLocationWrong : ChangeSpec := { name := "fnRaOneLocation", fn := fun _ => fun
  | [d] => { results := [.lit (.bool false)], args := [d] }
  | _ => none }
def FnRaOneLocationWrongFalsely : Prop := fnRaOneLocationRow.holds Tryz.pinned (OpenSpec.ofChange fnRaOneLocationWrong)

/- THE SECOND FORM. 'bulk': how many values and letters a reading holds, each counted each time it is reached (what is shared counts as often as it is met; a slice's spare places count too). A statement '..UptoSaid' is the law's where the arguments, and the package variables that the reading takes, are together of bulk at most 1048576: NARROWER than '..Said'. Prove '..Said' where nothing that the law and all that it calls make is longer than what came in: it says more and counts as full. Else prove '..UptoSaid'. A law counts once. -/
mutual
def uptoBulk {H : Type} : DataW H → Nat
  | .lit (.string bytes) => bytes.length + 1
  | .lit _ => 1
  | .nil => 1
  | .ptr d => uptoBulk d + 1
  | .slice elems spare => uptoBulkAll elems + uptoBulkAll spare + 1
  | .agg parts => uptoBulkAll parts + 1
  | .iface _ d => uptoBulk d + 1
  | .map entries => uptoBulkEntries entries + 1
  | .held _ => 1
def uptoBulkAll {H : Type} : List (DataW H) → Nat
  | [] => 0
  | d :: r => uptoBulk d + uptoBulkAll r
def uptoBulkEntries {H : Type} : List (Lit × DataW H) → Nat
  | [] => 0
  | x :: r => uptoBulkEntry x + uptoBulkEntries r
def uptoBulkEntry {H : Type} : Lit × DataW H → Nat
  | (.string bytes, d) => bytes.length + uptoBulk d + 1
  | (_, d) => uptoBulk d + 1
 end
def uptoSmall : (H : Type) → List (DataW H) → Bool := fun _ ds => decide (uptoBulkAll ds ≤ 1048576)
def OpenSpec.upto (s : _root_.Go.ChangeSpec) : _root_.Go.OpenSpec := { _root_.Go.OpenSpec.ofChange s with cond := some uptoSmall }

/-- 'laws.FnRunRa', WHERE WHAT IT READS IS OF BULK AT MOST 1048576: true; the input reads as it did. -/
def fnRunRaUptoRow : OpenClaim := { program := "ytojmofnamppbdaagreat", sum := "981bbaff143e049eda4451af3a6e69b288ebce43f128c7716af7ab1a2c483255", func := "loop.example/weakmemory/laws.FnRunRa", spec := "fnRunRa", unfollowed := true, recurses := true, apart := false, narrowed := true }
def FnRunRaUptoSaid : Prop := fnRunRaUptoRow.holds Tryz.pinned (OpenSpec.upto fnRunRaSpec)

/-- 'laws.FnFindChoices', WHERE WHAT IT READS IS OF BULK AT MOST 1048576: true; the input reads as it did. -/
def fnFindChoicesUptoRow : OpenClaim := { program := "ytojmofnamppbdaagreat", sum := "981bbaff143e049eda4451af3a6e69b288ebce43f128c7716af7ab1a2c483255", func := "loop.example/weakmemory/laws.FnFindChoices", spec := "fnFindChoices", unfollowed := true, recurses := true, apart := false, narrowed := true }
def FnFindChoicesUptoSaid : Prop := fnFindChoicesUptoRow.holds Tryz.pinned (OpenSpec.upto fnFindChoicesSpec)

/-- 'laws.FnExactRaStates', WHERE WHAT IT READS IS OF BULK AT MOST 1048576: true; the input reads as it did. -/
def fnExactRaStatesUptoRow : OpenClaim := { program := "ytojmofnamppbdaagreat", sum := "981bbaff143e049eda4451af3a6e69b288ebce43f128c7716af7ab1a2c483255", func := "loop.example/weakmemory/laws.FnExactRaStates", spec := "fnExactRaStates", unfollowed := true, recurses := true, apart := false, narrowed := true }
def FnExactRaStatesUptoSaid : Prop := fnExactRaStatesUptoRow.holds Tryz.pinned (OpenSpec.upto fnExactRaStatesSpec)

/-- 'laws.FnExactRunRa', WHERE WHAT IT READS IS OF BULK AT MOST 1048576: true; the input reads as it did. -/
def fnExactRunRaUptoRow : OpenClaim := { program := "ytojmofnamppbdaagreat", sum := "981bbaff143e049eda4451af3a6e69b288ebce43f128c7716af7ab1a2c483255", func := "loop.example/weakmemory/laws.FnExactRunRa", spec := "fnExactRunRa", unfollowed := true, recurses := true, apart := false, narrowed := true }
def FnExactRunRaUptoSaid : Prop := fnExactRunRaUptoRow.holds Tryz.pinned (OpenSpec.upto fnExactRunRaSpec)

/-- 'laws.FnRunChoices', WHERE WHAT IT READS IS OF BULK AT MOST 1048576: true; the input reads as it did. -/
def fnRunChoicesUptoRow : OpenClaim := { program := "ytojmofnamppbdaagreat", sum := "981bbaff143e049eda4451af3a6e69b288ebce43f128c7716af7ab1a2c483255", func := "loop.example/weakmemory/laws.FnRunChoices", spec := "fnRunChoices", unfollowed := true, recurses := true, apart := false, narrowed := true }
def FnRunChoicesUptoSaid : Prop := fnRunChoicesUptoRow.holds Tryz.pinned (OpenSpec.upto fnRunChoicesSpec)

/-- 'laws.FnRaFence', WHERE WHAT IT READS IS OF BULK AT MOST 1048576: true; the input reads as it did. -/
def fnRaFenceUptoRow : OpenClaim := { program := "ytojmofnamppbdaagreat", sum := "981bbaff143e049eda4451af3a6e69b288ebce43f128c7716af7ab1a2c483255", func := "loop.example/weakmemory/laws.FnRaFence", spec := "fnRaFence", unfollowed := true, recurses := true, apart := false, narrowed := true }
def FnRaFenceUptoSaid : Prop := fnRaFenceUptoRow.holds Tryz.pinned (OpenSpec.upto fnRaFenceSpec)

/-- 'laws.FnRaAlone', WHERE WHAT IT READS IS OF BULK AT MOST 1048576: true; the input reads as it did. -/
def fnRaAloneUptoRow : OpenClaim := { program := "ytojmofnamppbdaagreat", sum := "981bbaff143e049eda4451af3a6e69b288ebce43f128c7716af7ab1a2c483255", func := "loop.example/weakmemory/laws.FnRaAlone", spec := "fnRaAlone", unfollowed := true, recurses := true, apart := false, narrowed := true }
def FnRaAloneUptoSaid : Prop := fnRaAloneUptoRow.holds Tryz.pinned (OpenSpec.upto fnRaAloneSpec)

/-- 'laws.FnRaOneLocation', WHERE WHAT IT READS IS OF BULK AT MOST 1048576: true; the input reads as it did. -/
def fnRaOneLocationUptoRow : OpenClaim := { program := "ytojmofnamppbdaagreat", sum := "981bbaff143e049eda4451af3a6e69b288ebce43f128c7716af7ab1a2c483255", func := "loop.example/weakmemory/laws.FnRaOneLocation", spec := "fnRaOneLocation", unfollowed := true, recurses := true, apart := false, narrowed := true }
def FnRaOneLocationUptoSaid : Prop := fnRaOneLocationUptoRow.holds Tryz.pinned (OpenSpec.upto fnRaOneLocationSpec)

end Rows
end Go.Proofs.YtojmofnamppbdaaGreat
