/-
  No cell of these rows narrows 'for every input' (looked for: loops, veiled, ifaces, maps, wideKeys, modest, calm, conditions, laid).
  DERIVED. THE GIVEN ROWS OF THIS SEAT. 6 by the template 'for every input the law returns true; each argument reads behind the call as it read before'; 0 by the template 'total and deterministic' (their statements: YtpadkallejfdlaaTotals.lean).
  GIVEN WITH THE SEED: the statements are not yours to turn. If you find one false, say at which input.
  Laid BY PROGRAM, IN A SANDBOX (cutbox-rows.mjs): the forced cells as the released guide's own fill.sh prints them over the translation 15e8e8b1dfd245c0… (all of the seat's roots in one cut). By AI agents, Wed Nov 11 2026. No macro, syntax, notation, axiom, sorry.
-/
import Derived.Test.YtpadkallejfdlaaChecked
import GoSem.Claim
import GoSem.ClaimJoined
import GoSem.ClaimMapViews
import Derived.JoinedTies
import Derived.KernelRfl
namespace Go.Proofs.Ytpadkallejfdlaa
/- THE CELL 'sum', in the pinned program and in every row, IS THE sha256 OF THE DUMP (.gsa) THAT YtpadkallejfdlaaProg.lean LOADS. Nothing in Lean hashes anything: it is a label: what it is worth is what the hold of that sum in a sandbox is worth. -/
noncomputable def Try.pinned : Pinned := { name := "ytpadkallejfdlaa", sum := "15e8e8b1dfd245c0801500dded3e41f7938d8f14e66f2f7a9706a028da3c96d1", checked := Try.checked }
namespace Rows
def none {H : Type} : Left H := { results := [], args := [] }

/-- 'laws.FnExactEventsOf': WHATEVER THE INPUT: true; the input reads as it did. -/
def fnExactEventsOfSpec : ChangeSpec := { name := "fnExactEventsOf", fn := fun _ => fun
  | [d] => { results := [.lit (.bool true)], args := [d] }
  | _ => none }
def fnExactEventsOfRow : OpenClaim := { program := "ytpadkallejfdlaa", sum := "15e8e8b1dfd245c0801500dded3e41f7938d8f14e66f2f7a9706a028da3c96d1", func := "loop.example/weakmemory/laws.FnExactEventsOf", spec := "fnExactEventsOf", unfollowed := true, recurses := true, apart := false }
def FnExactEventsOfSaid : Prop := fnExactEventsOfRow.holds Try.pinned (OpenSpec.ofChange fnExactEventsOfSpec)

/-- ITS FALSE NEIGHBOUR: 'it returns false'. Refute it at one input. -/
def fnExactEventsOfWrong : ChangeSpec := { name := "fnExactEventsOf", fn := fun _ => fun
  | [d] => { results := [.lit (.bool false)], args := [d] }
  | _ => none }
def FnExactEventsOfWrongFalsely : Prop := fnExactEventsOfRow.holds Try.pinned (OpenSpec.ofChange fnExactEventsOfWrong)

/-- 'laws.FnEventsOf': WHATEVER THE INPUT: true; the input reads as it did. -/
def fnEventsOfSpec : ChangeSpec := { name := "fnEventsOf", fn := fun _ => fun
  | [d] => { results := [.lit (.bool true)], args := [d] }
  | _ => none }
def fnEventsOfRow : OpenClaim := { program := "ytpadkallejfdlaa", sum := "15e8e8b1dfd245c0801500dded3e41f7938d8f14e66f2f7a9706a028da3c96d1", func := "loop.example/weakmemory/laws.FnEventsOf", spec := "fnEventsOf", unfollowed := true, recurses := true, apart := false }
def FnEventsOfSaid : Prop := fnEventsOfRow.holds Try.pinned (OpenSpec.ofChange fnEventsOfSpec)

/-- ITS FALSE NEIGHBOUR: 'it returns false'. Refute it at one input. -/
def fnEventsOfWrong : ChangeSpec := { name := "fnEventsOf", fn := fun _ => fun
  | [d] => { results := [.lit (.bool false)], args := [d] }
  | _ => none }
def FnEventsOfWrongFalsely : Prop := fnEventsOfRow.holds Try.pinned (OpenSpec.ofChange fnEventsOfWrong)

/-- 'laws.FnExactAllExecs': WHATEVER THE INPUT: true; the input reads as it did. -/
def fnExactAllExecsSpec : ChangeSpec := { name := "fnExactAllExecs", fn := fun _ => fun
  | [d] => { results := [.lit (.bool true)], args := [d] }
  | _ => none }
def fnExactAllExecsRow : OpenClaim := { program := "ytpadkallejfdlaa", sum := "15e8e8b1dfd245c0801500dded3e41f7938d8f14e66f2f7a9706a028da3c96d1", func := "loop.example/weakmemory/laws.FnExactAllExecs", spec := "fnExactAllExecs", unfollowed := true, recurses := true, apart := false }
def FnExactAllExecsSaid : Prop := fnExactAllExecsRow.holds Try.pinned (OpenSpec.ofChange fnExactAllExecsSpec)

/-- ITS FALSE NEIGHBOUR: 'it returns false'. Refute it at one input. -/
def fnExactAllExecsWrong : ChangeSpec := { name := "fnExactAllExecs", fn := fun _ => fun
  | [d] => { results := [.lit (.bool false)], args := [d] }
  | _ => none }
def FnExactAllExecsWrongFalsely : Prop := fnExactAllExecsRow.holds Try.pinned (OpenSpec.ofChange fnExactAllExecsWrong)

/-- 'laws.FnExactExecValid': WHATEVER THE INPUT: true; the input reads as it did. -/
def fnExactExecValidSpec : ChangeSpec := { name := "fnExactExecValid", fn := fun _ => fun
  | [d1, d2] => { results := [.lit (.bool true)], args := [d1, d2] }
  | _ => none }
def fnExactExecValidRow : OpenClaim := { program := "ytpadkallejfdlaa", sum := "15e8e8b1dfd245c0801500dded3e41f7938d8f14e66f2f7a9706a028da3c96d1", func := "loop.example/weakmemory/laws.FnExactExecValid", spec := "fnExactExecValid", unfollowed := true, recurses := true, apart := false }
def FnExactExecValidSaid : Prop := fnExactExecValidRow.holds Try.pinned (OpenSpec.ofChange fnExactExecValidSpec)

/-- ITS FALSE NEIGHBOUR: 'it returns false'. Refute it at one input. -/
def fnExactExecValidWrong : ChangeSpec := { name := "fnExactExecValid", fn := fun _ => fun
  | [d1, d2] => { results := [.lit (.bool false)], args := [d1, d2] }
  | _ => none }
def FnExactExecValidWrongFalsely : Prop := fnExactExecValidRow.holds Try.pinned (OpenSpec.ofChange fnExactExecValidWrong)

/-- 'laws.FnAllExecs': WHATEVER THE INPUT: true; the input reads as it did. -/
def fnAllExecsSpec : ChangeSpec := { name := "fnAllExecs", fn := fun _ => fun
  | [d] => { results := [.lit (.bool true)], args := [d] }
  | _ => none }
def fnAllExecsRow : OpenClaim := { program := "ytpadkallejfdlaa", sum := "15e8e8b1dfd245c0801500dded3e41f7938d8f14e66f2f7a9706a028da3c96d1", func := "loop.example/weakmemory/laws.FnAllExecs", spec := "fnAllExecs", unfollowed := true, recurses := true, apart := false }
def FnAllExecsSaid : Prop := fnAllExecsRow.holds Try.pinned (OpenSpec.ofChange fnAllExecsSpec)

/-- ITS FALSE NEIGHBOUR: 'it returns false'. Refute it at one input. -/
def fnAllExecsWrong : ChangeSpec := { name := "fnAllExecs", fn := fun _ => fun
  | [d] => { results := [.lit (.bool false)], args := [d] }
  | _ => none }
def FnAllExecsWrongFalsely : Prop := fnAllExecsRow.holds Try.pinned (OpenSpec.ofChange fnAllExecsWrong)

/-- 'laws.FnExecValid': WHATEVER THE INPUT: true; the input reads as it did. -/
def fnExecValidSpec : ChangeSpec := { name := "fnExecValid", fn := fun _ => fun
  | [d] => { results := [.lit (.bool true)], args := [d] }
  | _ => none }
def fnExecValidRow : OpenClaim := { program := "ytpadkallejfdlaa", sum := "15e8e8b1dfd245c0801500dded3e41f7938d8f14e66f2f7a9706a028da3c96d1", func := "loop.example/weakmemory/laws.FnExecValid", spec := "fnExecValid", unfollowed := true, recurses := true, apart := false }
def FnExecValidSaid : Prop := fnExecValidRow.holds Try.pinned (OpenSpec.ofChange fnExecValidSpec)

/-- ITS FALSE NEIGHBOUR: 'it returns false'. Refute it at one input. -/
def fnExecValidWrong : ChangeSpec := { name := "fnExecValid", fn := fun _ => fun
  | [d] => { results := [.lit (.bool false)], args := [d] }
  | _ => none }
def FnExecValidWrongFalsely : Prop := fnExecValidRow.holds Try.pinned (OpenSpec.ofChange fnExecValidWrong)

/- THE SECOND FORM. 'bulk': how many values and letters a reading holds, each counted each time it is reached (what is shared counts as often as it is met; a slice's spare places count too). A statement '..UptoSaid' is the law's where the arguments, and the package variables that the reading takes, are together of bulk at most 1048576: NARROWER than '..Said'. Prove '..Said' where nothing that the law and all that it calls make is longer than what came in: it says more and counts as full. Else prove '..UptoSaid'. A law counts once. -/
mutual
def uptoBulk {H : Type} : DataW H → Nat
  | .lit (.string bytes) => bytes.length + 1
  | .lit _ => 1
  | .nil => 1
  | .ptr d => uptoBulk d + 1
  | .slice elems spare => uptoBulkAll elems + uptoBulkAll spare + 1
  | .agg parts => uptoBulkAll parts + 1
  | .iface _ d => uptoBulk d + 1
  | .map entries => uptoBulkEntries entries + 1
  | .held _ => 1
def uptoBulkAll {H : Type} : List (DataW H) → Nat
  | [] => 0
  | d :: r => uptoBulk d + uptoBulkAll r
def uptoBulkEntries {H : Type} : List (Lit × DataW H) → Nat
  | [] => 0
  | x :: r => uptoBulkEntry x + uptoBulkEntries r
def uptoBulkEntry {H : Type} : Lit × DataW H → Nat
  | (.string bytes, d) => bytes.length + uptoBulk d + 1
  | (_, d) => uptoBulk d + 1
 end
def uptoSmall : (H : Type) → List (DataW H) → Bool := fun _ ds => decide (uptoBulkAll ds ≤ 1048576)
def OpenSpec.upto (s : _root_.Go.ChangeSpec) : _root_.Go.OpenSpec := { _root_.Go.OpenSpec.ofChange s with cond := some uptoSmall }

/-- 'laws.FnExactEventsOf', WHERE WHAT IT READS IS OF BULK AT MOST 1048576: true; the input reads as it did. -/
def fnExactEventsOfUptoRow : OpenClaim := { program := "ytpadkallejfdlaa", sum := "15e8e8b1dfd245c0801500dded3e41f7938d8f14e66f2f7a9706a028da3c96d1", func := "loop.example/weakmemory/laws.FnExactEventsOf", spec := "fnExactEventsOf", unfollowed := true, recurses := true, apart := false, narrowed := true }
def FnExactEventsOfUptoSaid : Prop := fnExactEventsOfUptoRow.holds Try.pinned (OpenSpec.upto fnExactEventsOfSpec)

/-- 'laws.FnEventsOf', WHERE WHAT IT READS IS OF BULK AT MOST 1048576: true; the input reads as it did. -/
def fnEventsOfUptoRow : OpenClaim := { program := "ytpadkallejfdlaa", sum := "15e8e8b1dfd245c0801500dded3e41f7938d8f14e66f2f7a9706a028da3c96d1", func := "loop.example/weakmemory/laws.FnEventsOf", spec := "fnEventsOf", unfollowed := true, recurses := true, apart := false, narrowed := true }
def FnEventsOfUptoSaid : Prop := fnEventsOfUptoRow.holds Try.pinned (OpenSpec.upto fnEventsOfSpec)

/-- 'laws.FnExactAllExecs', WHERE WHAT IT READS IS OF BULK AT MOST 1048576: true; the input reads as it did. -/
def fnExactAllExecsUptoRow : OpenClaim := { program := "ytpadkallejfdlaa", sum := "15e8e8b1dfd245c0801500dded3e41f7938d8f14e66f2f7a9706a028da3c96d1", func := "loop.example/weakmemory/laws.FnExactAllExecs", spec := "fnExactAllExecs", unfollowed := true, recurses := true, apart := false, narrowed := true }
def FnExactAllExecsUptoSaid : Prop := fnExactAllExecsUptoRow.holds Try.pinned (OpenSpec.upto fnExactAllExecsSpec)

/-- 'laws.FnExactExecValid', WHERE WHAT IT READS IS OF BULK AT MOST 1048576: true; the input reads as it did. -/
def fnExactExecValidUptoRow : OpenClaim := { program := "ytpadkallejfdlaa", sum := "15e8e8b1dfd245c0801500dded3e41f7938d8f14e66f2f7a9706a028da3c96d1", func := "loop.example/weakmemory/laws.FnExactExecValid", spec := "fnExactExecValid", unfollowed := true, recurses := true, apart := false, narrowed := true }
def FnExactExecValidUptoSaid : Prop := fnExactExecValidUptoRow.holds Try.pinned (OpenSpec.upto fnExactExecValidSpec)

/-- 'laws.FnAllExecs', WHERE WHAT IT READS IS OF BULK AT MOST 1048576: true; the input reads as it did. -/
def fnAllExecsUptoRow : OpenClaim := { program := "ytpadkallejfdlaa", sum := "15e8e8b1dfd245c0801500dded3e41f7938d8f14e66f2f7a9706a028da3c96d1", func := "loop.example/weakmemory/laws.FnAllExecs", spec := "fnAllExecs", unfollowed := true, recurses := true, apart := false, narrowed := true }
def FnAllExecsUptoSaid : Prop := fnAllExecsUptoRow.holds Try.pinned (OpenSpec.upto fnAllExecsSpec)

/-- 'laws.FnExecValid', WHERE WHAT IT READS IS OF BULK AT MOST 1048576: true; the input reads as it did. -/
def fnExecValidUptoRow : OpenClaim := { program := "ytpadkallejfdlaa", sum := "15e8e8b1dfd245c0801500dded3e41f7938d8f14e66f2f7a9706a028da3c96d1", func := "loop.example/weakmemory/laws.FnExecValid", spec := "fnExecValid", unfollowed := true, recurses := true, apart := false, narrowed := true }
def FnExecValidUptoSaid : Prop := fnExecValidUptoRow.holds Try.pinned (OpenSpec.upto fnExecValidSpec)

end Rows
end Go.Proofs.Ytpadkallejfdlaa
