/-
  NARROWER THAN 'FOR EVERY INPUT', by the rows' own cells (each row's printed sentence says how): FnRelOf: laid · FnExactEvalRelExpr: loops, laid · FnEvalMonotone: laid · FnEvalRelExpr: laid · FnExecText: laid · FnRuleKinds: laid · FnExactBrokenRule: loops, laid.
  DERIVED. THE GIVEN ROWS OF THIS SEAT. 7 by the template 'for every input the law returns true; each argument reads behind the call as it read before'; 0 by the template 'total and deterministic' (their statements: YtfgpbnncdfcjjaaGreatDoorTotals.lean).
  GIVEN WITH THE SEED: the statements are not yours to turn. If you find one false, say at which input.
  Laid BY PROGRAM, IN A SANDBOX (cutbox-rows.mjs): the forced cells as the released guide's own fill.sh prints them over the translation 4a358aae24431ca1… (all of the seat's roots in one cut). By AI agents, Wed Nov 11 2026. No macro, syntax, notation, axiom, sorry.
-/
import Derived.Test.YtfgpbnncdfcjjaaGreatDoorChecked
import GoSem.Claim
import GoSem.ClaimJoined
import GoSem.ClaimMapViews
import Derived.JoinedTies
import Derived.KernelRfl
namespace Go.Proofs.YtfgpbnncdfcjjaaGreatDoor
/- THE CELL 'sum', in the pinned program and in every row, IS THE sha256 OF THE DUMP (.gsa) THAT YtfgpbnncdfcjjaaGreatDoorProg.lean LOADS. Nothing in Lean hashes anything: it is a label: what it is worth is what the hold of that sum in a sandbox is worth. -/
noncomputable def Tryz.pinned : Pinned := { name := "ytfgpbnncdfcjjaagreatdoor", sum := "4a358aae24431ca1c5bd69ac6fe0eba5d929d6b1e81912927ce1b25a1f34869b", checked := Tryz.checked }
namespace Rows
def none {H : Type} : Left H := { results := [], args := [] }

/- WHAT THE LISTED PACKAGE-LEVEL VARIABLES READ AS WHEN THE CALL BEGINS. Each datum BY PROGRAM (the guide's laid-datum.mjs) off the statement by which the dump's own 'gosem.cut.vars' lays the variable. In a bare row this is a premise. The card (YtfgpbnncdfcjjaaGreatDoorCards.lean) ties it to the program's text. -/
def laid_loop_example_weakmemory_impl_relNames {H : Type} : DataW H := .agg [.lit (.string [112, 111]), .lit (.string [108, 111, 99]), .lit (.string [101, 120, 116]), .lit (.string [114, 102]), .lit (.string [99, 111]), .lit (.string [102, 114]), .lit (.string [102, 101, 110, 99, 101]), .lit (.string [119, 114]), .lit (.string [119, 119]), .lit (.string [105, 100])]
def laid_math_bits_deBruijn32tab {H : Type} : DataW H := .agg [.lit (.int .u8 0), .lit (.int .u8 1), .lit (.int .u8 28), .lit (.int .u8 2), .lit (.int .u8 29), .lit (.int .u8 14), .lit (.int .u8 24), .lit (.int .u8 3), .lit (.int .u8 30), .lit (.int .u8 22), .lit (.int .u8 20), .lit (.int .u8 15), .lit (.int .u8 25), .lit (.int .u8 17), .lit (.int .u8 4), .lit (.int .u8 8), .lit (.int .u8 31), .lit (.int .u8 27), .lit (.int .u8 13), .lit (.int .u8 23), .lit (.int .u8 21), .lit (.int .u8 19), .lit (.int .u8 16), .lit (.int .u8 7), .lit (.int .u8 26), .lit (.int .u8 12), .lit (.int .u8 18), .lit (.int .u8 6), .lit (.int .u8 11), .lit (.int .u8 5), .lit (.int .u8 10), .lit (.int .u8 9)]
def laid_math_bits_deBruijn64tab {H : Type} : DataW H := .agg [.lit (.int .u8 0), .lit (.int .u8 1), .lit (.int .u8 56), .lit (.int .u8 2), .lit (.int .u8 57), .lit (.int .u8 49), .lit (.int .u8 28), .lit (.int .u8 3), .lit (.int .u8 61), .lit (.int .u8 58), .lit (.int .u8 42), .lit (.int .u8 50), .lit (.int .u8 38), .lit (.int .u8 29), .lit (.int .u8 17), .lit (.int .u8 4), .lit (.int .u8 62), .lit (.int .u8 47), .lit (.int .u8 59), .lit (.int .u8 36), .lit (.int .u8 45), .lit (.int .u8 43), .lit (.int .u8 51), .lit (.int .u8 22), .lit (.int .u8 53), .lit (.int .u8 39), .lit (.int .u8 33), .lit (.int .u8 30), .lit (.int .u8 24), .lit (.int .u8 18), .lit (.int .u8 12), .lit (.int .u8 5), .lit (.int .u8 63), .lit (.int .u8 55), .lit (.int .u8 48), .lit (.int .u8 27), .lit (.int .u8 60), .lit (.int .u8 41), .lit (.int .u8 37), .lit (.int .u8 16), .lit (.int .u8 46), .lit (.int .u8 35), .lit (.int .u8 44), .lit (.int .u8 21), .lit (.int .u8 52), .lit (.int .u8 32), .lit (.int .u8 23), .lit (.int .u8 11), .lit (.int .u8 54), .lit (.int .u8 26), .lit (.int .u8 40), .lit (.int .u8 15), .lit (.int .u8 34), .lit (.int .u8 20), .lit (.int .u8 31), .lit (.int .u8 10), .lit (.int .u8 25), .lit (.int .u8 14), .lit (.int .u8 19), .lit (.int .u8 9), .lit (.int .u8 13), .lit (.int .u8 8), .lit (.int .u8 7), .lit (.int .u8 6)]
def laid_internal_strconv_uint64pow10 {H : Type} : DataW H := .agg [.lit (.int .u64 1), .lit (.int .u64 10), .lit (.int .u64 100), .lit (.int .u64 1000), .lit (.int .u64 10000), .lit (.int .u64 100000), .lit (.int .u64 1000000), .lit (.int .u64 10000000), .lit (.int .u64 100000000), .lit (.int .u64 1000000000), .lit (.int .u64 10000000000), .lit (.int .u64 100000000000), .lit (.int .u64 1000000000000), .lit (.int .u64 10000000000000), .lit (.int .u64 100000000000000), .lit (.int .u64 1000000000000000), .lit (.int .u64 10000000000000000), .lit (.int .u64 100000000000000000), .lit (.int .u64 1000000000000000000), .lit (.int .u64 10000000000000000000)]

/-- 'laws.FnRelOf': WHATEVER THE INPUT: true; the input reads as it did. -/
def fnRelOfSpec : ChangeSpec := { name := "fnRelOf", vars := ["loop.example/weakmemory/impl.relNames"], fn := fun _ => fun
  | [d, g1] => { results := [.lit (.bool true)], args := [d], vars := [g1] }
  | _ => none }
def fnRelOfRow : OpenClaim := { program := "ytfgpbnncdfcjjaagreatdoor", sum := "4a358aae24431ca1c5bd69ac6fe0eba5d929d6b1e81912927ce1b25a1f34869b", func := "loop.example/weakmemory/laws.FnRelOf", spec := "fnRelOf", unfollowed := true, recurses := true, named := ["loop.example/weakmemory/impl.relNames"], apart := false, laid := [("loop.example/weakmemory/impl.relNames", laid_loop_example_weakmemory_impl_relNames)] }
def FnRelOfSaid : Prop := fnRelOfRow.holds Tryz.pinned (OpenSpec.ofChange fnRelOfSpec)

/-- ITS FALSE NEIGHBOUR: 'it returns false'. Refute it at one input. -/
def fnRelOfWrong : ChangeSpec := { name := "fnRelOf", vars := ["loop.example/weakmemory/impl.relNames"], fn := fun _ => fun
  | [d, g1] => { results := [.lit (.bool false)], args := [d], vars := [g1] }
  | _ => none }
def FnRelOfWrongFalsely : Prop := fnRelOfRow.holds Tryz.pinned (OpenSpec.ofChange fnRelOfWrong)

/-- 'laws.FnExactEvalRelExpr': WHATEVER THE INPUT: true; the input reads as it did. -/
def fnExactEvalRelExprSpec : ChangeSpec := { name := "fnExactEvalRelExpr", vars := ["loop.example/weakmemory/impl.relNames"], fn := fun _ => fun
  | [d1, d2, d3, g1] => { results := [.lit (.bool true)], args := [d1, d2, d3], vars := [g1] }
  | _ => none }
def fnExactEvalRelExprRow : OpenClaim := { program := "ytfgpbnncdfcjjaagreatdoor", sum := "4a358aae24431ca1c5bd69ac6fe0eba5d929d6b1e81912927ce1b25a1f34869b", func := "loop.example/weakmemory/laws.FnExactEvalRelExpr", spec := "fnExactEvalRelExpr", unfollowed := true, recurses := true, named := ["loop.example/weakmemory/impl.relNames"], loops := true, apart := false, laid := [("loop.example/weakmemory/impl.relNames", laid_loop_example_weakmemory_impl_relNames)] }
def FnExactEvalRelExprSaid : Prop := fnExactEvalRelExprRow.holds Tryz.pinned (OpenSpec.ofChange fnExactEvalRelExprSpec)

/-- ITS FALSE NEIGHBOUR: 'it returns false'. Refute it at one input. -/
def fnExactEvalRelExprWrong : ChangeSpec := { name := "fnExactEvalRelExpr", vars := ["loop.example/weakmemory/impl.relNames"], fn := fun _ => fun
  | [d1, d2, d3, g1] => { results := [.lit (.bool false)], args := [d1, d2, d3], vars := [g1] }
  | _ => none }
def FnExactEvalRelExprWrongFalsely : Prop := fnExactEvalRelExprRow.holds Tryz.pinned (OpenSpec.ofChange fnExactEvalRelExprWrong)

/-- 'laws.FnEvalMonotone': WHATEVER THE INPUT: true; the input reads as it did. -/
def fnEvalMonotoneSpec : ChangeSpec := { name := "fnEvalMonotone", vars := ["loop.example/weakmemory/impl.relNames"], fn := fun _ => fun
  | [d1, d2, g1] => { results := [.lit (.bool true)], args := [d1, d2], vars := [g1] }
  | _ => none }
def fnEvalMonotoneRow : OpenClaim := { program := "ytfgpbnncdfcjjaagreatdoor", sum := "4a358aae24431ca1c5bd69ac6fe0eba5d929d6b1e81912927ce1b25a1f34869b", func := "loop.example/weakmemory/laws.FnEvalMonotone", spec := "fnEvalMonotone", unfollowed := true, recurses := true, named := ["loop.example/weakmemory/impl.relNames"], apart := false, laid := [("loop.example/weakmemory/impl.relNames", laid_loop_example_weakmemory_impl_relNames)] }
def FnEvalMonotoneSaid : Prop := fnEvalMonotoneRow.holds Tryz.pinned (OpenSpec.ofChange fnEvalMonotoneSpec)

/-- ITS FALSE NEIGHBOUR: 'it returns false'. Refute it at one input. -/
def fnEvalMonotoneWrong : ChangeSpec := { name := "fnEvalMonotone", vars := ["loop.example/weakmemory/impl.relNames"], fn := fun _ => fun
  | [d1, d2, g1] => { results := [.lit (.bool false)], args := [d1, d2], vars := [g1] }
  | _ => none }
def FnEvalMonotoneWrongFalsely : Prop := fnEvalMonotoneRow.holds Tryz.pinned (OpenSpec.ofChange fnEvalMonotoneWrong)

/-- 'laws.FnEvalRelExpr': WHATEVER THE INPUT: true; the input reads as it did. -/
def fnEvalRelExprSpec : ChangeSpec := { name := "fnEvalRelExpr", vars := ["loop.example/weakmemory/impl.relNames"], fn := fun _ => fun
  | [d, g1] => { results := [.lit (.bool true)], args := [d], vars := [g1] }
  | _ => none }
def fnEvalRelExprRow : OpenClaim := { program := "ytfgpbnncdfcjjaagreatdoor", sum := "4a358aae24431ca1c5bd69ac6fe0eba5d929d6b1e81912927ce1b25a1f34869b", func := "loop.example/weakmemory/laws.FnEvalRelExpr", spec := "fnEvalRelExpr", unfollowed := true, recurses := true, named := ["loop.example/weakmemory/impl.relNames"], apart := false, laid := [("loop.example/weakmemory/impl.relNames", laid_loop_example_weakmemory_impl_relNames)] }
def FnEvalRelExprSaid : Prop := fnEvalRelExprRow.holds Tryz.pinned (OpenSpec.ofChange fnEvalRelExprSpec)

/-- ITS FALSE NEIGHBOUR: 'it returns false'. Refute it at one input. -/
def fnEvalRelExprWrong : ChangeSpec := { name := "fnEvalRelExpr", vars := ["loop.example/weakmemory/impl.relNames"], fn := fun _ => fun
  | [d, g1] => { results := [.lit (.bool false)], args := [d], vars := [g1] }
  | _ => none }
def FnEvalRelExprWrongFalsely : Prop := fnEvalRelExprRow.holds Tryz.pinned (OpenSpec.ofChange fnEvalRelExprWrong)

/-- 'laws.FnExecText': WHATEVER THE INPUT: true; the input reads as it did. -/
def fnExecTextSpec : ChangeSpec := { name := "fnExecText", fn := fun _ => fun
  | [d] => { results := [.lit (.bool true)], args := [d] }
  | _ => none }
def fnExecTextRow : OpenClaim := { program := "ytfgpbnncdfcjjaagreatdoor", sum := "4a358aae24431ca1c5bd69ac6fe0eba5d929d6b1e81912927ce1b25a1f34869b", func := "loop.example/weakmemory/laws.FnExecText", spec := "fnExecText", inPlace := ["internal/abi.NoEscape", "internal/bytealg.MakeNoZero"], unfollowed := true, recurses := true, named := ["internal/strconv.uint64pow10", "math/bits.deBruijn32tab", "math/bits.deBruijn64tab"], apart := false, laid := [("math/bits.deBruijn32tab", laid_math_bits_deBruijn32tab), ("math/bits.deBruijn64tab", laid_math_bits_deBruijn64tab), ("internal/strconv.uint64pow10", laid_internal_strconv_uint64pow10)] }
def FnExecTextSaid : Prop := fnExecTextRow.holds Tryz.pinned (OpenSpec.ofChange fnExecTextSpec)

/-- ITS FALSE NEIGHBOUR: 'it returns false'. Refute it at one input. -/
def fnExecTextWrong : ChangeSpec := { name := "fnExecText", fn := fun _ => fun
  | [d] => { results := [.lit (.bool false)], args := [d] }
  | _ => none }
def FnExecTextWrongFalsely : Prop := fnExecTextRow.holds Tryz.pinned (OpenSpec.ofChange fnExecTextWrong)

/-- 'laws.FnRuleKinds': WHATEVER THE INPUT: true; the input reads as it did. -/
def fnRuleKindsSpec : ChangeSpec := { name := "fnRuleKinds", vars := ["loop.example/weakmemory/impl.relNames"], fn := fun _ => fun
  | [d, g1] => { results := [.lit (.bool true)], args := [d], vars := [g1] }
  | _ => none }
def fnRuleKindsRow : OpenClaim := { program := "ytfgpbnncdfcjjaagreatdoor", sum := "4a358aae24431ca1c5bd69ac6fe0eba5d929d6b1e81912927ce1b25a1f34869b", func := "loop.example/weakmemory/laws.FnRuleKinds", spec := "fnRuleKinds", unfollowed := true, recurses := true, named := ["loop.example/weakmemory/impl.relNames"], apart := false, laid := [("loop.example/weakmemory/impl.relNames", laid_loop_example_weakmemory_impl_relNames)] }
def FnRuleKindsSaid : Prop := fnRuleKindsRow.holds Tryz.pinned (OpenSpec.ofChange fnRuleKindsSpec)

/-- ITS FALSE NEIGHBOUR: 'it returns false'. Refute it at one input. -/
def fnRuleKindsWrong : ChangeSpec := { name := "fnRuleKinds", vars := ["loop.example/weakmemory/impl.relNames"], fn := fun _ => fun
  | [d, g1] => { results := [.lit (.bool false)], args := [d], vars := [g1] }
  | _ => none }
def FnRuleKindsWrongFalsely : Prop := fnRuleKindsRow.holds Tryz.pinned (OpenSpec.ofChange fnRuleKindsWrong)

/-- 'laws.FnExactBrokenRule': WHATEVER THE INPUT: true; the input reads as it did. -/
def fnExactBrokenRuleSpec : ChangeSpec := { name := "fnExactBrokenRule", vars := ["loop.example/weakmemory/impl.relNames"], fn := fun _ => fun
  | [d1, d2, d3, g1] => { results := [.lit (.bool true)], args := [d1, d2, d3], vars := [g1] }
  | _ => none }
def fnExactBrokenRuleRow : OpenClaim := { program := "ytfgpbnncdfcjjaagreatdoor", sum := "4a358aae24431ca1c5bd69ac6fe0eba5d929d6b1e81912927ce1b25a1f34869b", func := "loop.example/weakmemory/laws.FnExactBrokenRule", spec := "fnExactBrokenRule", unfollowed := true, recurses := true, named := ["loop.example/weakmemory/impl.relNames"], loops := true, apart := false, laid := [("loop.example/weakmemory/impl.relNames", laid_loop_example_weakmemory_impl_relNames)] }
def FnExactBrokenRuleSaid : Prop := fnExactBrokenRuleRow.holds Tryz.pinned (OpenSpec.ofChange fnExactBrokenRuleSpec)

/-- ITS FALSE NEIGHBOUR: 'it returns false'. Refute it at one input. -/
def fnExactBrokenRuleWrong : ChangeSpec := { name := "fnExactBrokenRule", vars := ["loop.example/weakmemory/impl.relNames"], fn := fun _ => fun
  | [d1, d2, d3, g1] => { results := [.lit (.bool false)], args := [d1, d2, d3], vars := [g1] }
  | _ => none }
def FnExactBrokenRuleWrongFalsely : Prop := fnExactBrokenRuleRow.holds Tryz.pinned (OpenSpec.ofChange fnExactBrokenRuleWrong)

/- THE SECOND FORM. 'bulk': how many values and letters a reading holds, each counted each time it is reached (what is shared counts as often as it is met; a slice's spare places count too). A statement '..UptoSaid' is the law's where the arguments, and the package variables that the reading takes, are together of bulk at most 1048576: NARROWER than '..Said'. Prove '..Said' where nothing that the law and all that it calls make is longer than what came in: it says more and counts as full. Else prove '..UptoSaid'. A law counts once. -/
mutual
def uptoBulk {H : Type} : DataW H → Nat
  | .lit (.string bytes) => bytes.length + 1
  | .lit _ => 1
  | .nil => 1
  | .ptr d => uptoBulk d + 1
  | .slice elems spare => uptoBulkAll elems + uptoBulkAll spare + 1
  | .agg parts => uptoBulkAll parts + 1
  | .iface _ d => uptoBulk d + 1
  | .map entries => uptoBulkEntries entries + 1
  | .held _ => 1
def uptoBulkAll {H : Type} : List (DataW H) → Nat
  | [] => 0
  | d :: r => uptoBulk d + uptoBulkAll r
def uptoBulkEntries {H : Type} : List (Lit × DataW H) → Nat
  | [] => 0
  | x :: r => uptoBulkEntry x + uptoBulkEntries r
def uptoBulkEntry {H : Type} : Lit × DataW H → Nat
  | (.string bytes, d) => bytes.length + uptoBulk d + 1
  | (_, d) => uptoBulk d + 1
 end
def uptoSmall : (H : Type) → List (DataW H) → Bool := fun _ ds => decide (uptoBulkAll ds ≤ 1048576)
def OpenSpec.upto (s : _root_.Go.ChangeSpec) : _root_.Go.OpenSpec := { _root_.Go.OpenSpec.ofChange s with cond := some uptoSmall }

/-- 'laws.FnRelOf', WHERE WHAT IT READS IS OF BULK AT MOST 1048576: true; the input reads as it did. -/
def fnRelOfUptoRow : OpenClaim := { program := "ytfgpbnncdfcjjaagreatdoor", sum := "4a358aae24431ca1c5bd69ac6fe0eba5d929d6b1e81912927ce1b25a1f34869b", func := "loop.example/weakmemory/laws.FnRelOf", spec := "fnRelOf", unfollowed := true, recurses := true, named := ["loop.example/weakmemory/impl.relNames"], apart := false, laid := [("loop.example/weakmemory/impl.relNames", laid_loop_example_weakmemory_impl_relNames)], narrowed := true }
def FnRelOfUptoSaid : Prop := fnRelOfUptoRow.holds Tryz.pinned (OpenSpec.upto fnRelOfSpec)

/-- 'laws.FnExactEvalRelExpr', WHERE WHAT IT READS IS OF BULK AT MOST 1048576: true; the input reads as it did. -/
def fnExactEvalRelExprUptoRow : OpenClaim := { program := "ytfgpbnncdfcjjaagreatdoor", sum := "4a358aae24431ca1c5bd69ac6fe0eba5d929d6b1e81912927ce1b25a1f34869b", func := "loop.example/weakmemory/laws.FnExactEvalRelExpr", spec := "fnExactEvalRelExpr", unfollowed := true, recurses := true, named := ["loop.example/weakmemory/impl.relNames"], loops := true, apart := false, laid := [("loop.example/weakmemory/impl.relNames", laid_loop_example_weakmemory_impl_relNames)], narrowed := true }
def FnExactEvalRelExprUptoSaid : Prop := fnExactEvalRelExprUptoRow.holds Tryz.pinned (OpenSpec.upto fnExactEvalRelExprSpec)

/-- 'laws.FnEvalMonotone', WHERE WHAT IT READS IS OF BULK AT MOST 1048576: true; the input reads as it did. -/
def fnEvalMonotoneUptoRow : OpenClaim := { program := "ytfgpbnncdfcjjaagreatdoor", sum := "4a358aae24431ca1c5bd69ac6fe0eba5d929d6b1e81912927ce1b25a1f34869b", func := "loop.example/weakmemory/laws.FnEvalMonotone", spec := "fnEvalMonotone", unfollowed := true, recurses := true, named := ["loop.example/weakmemory/impl.relNames"], apart := false, laid := [("loop.example/weakmemory/impl.relNames", laid_loop_example_weakmemory_impl_relNames)], narrowed := true }
def FnEvalMonotoneUptoSaid : Prop := fnEvalMonotoneUptoRow.holds Tryz.pinned (OpenSpec.upto fnEvalMonotoneSpec)

/-- 'laws.FnEvalRelExpr', WHERE WHAT IT READS IS OF BULK AT MOST 1048576: true; the input reads as it did. -/
def fnEvalRelExprUptoRow : OpenClaim := { program := "ytfgpbnncdfcjjaagreatdoor", sum := "4a358aae24431ca1c5bd69ac6fe0eba5d929d6b1e81912927ce1b25a1f34869b", func := "loop.example/weakmemory/laws.FnEvalRelExpr", spec := "fnEvalRelExpr", unfollowed := true, recurses := true, named := ["loop.example/weakmemory/impl.relNames"], apart := false, laid := [("loop.example/weakmemory/impl.relNames", laid_loop_example_weakmemory_impl_relNames)], narrowed := true }
def FnEvalRelExprUptoSaid : Prop := fnEvalRelExprUptoRow.holds Tryz.pinned (OpenSpec.upto fnEvalRelExprSpec)

/-- 'laws.FnExecText', WHERE WHAT IT READS IS OF BULK AT MOST 1048576: true; the input reads as it did. -/
def fnExecTextUptoRow : OpenClaim := { program := "ytfgpbnncdfcjjaagreatdoor", sum := "4a358aae24431ca1c5bd69ac6fe0eba5d929d6b1e81912927ce1b25a1f34869b", func := "loop.example/weakmemory/laws.FnExecText", spec := "fnExecText", inPlace := ["internal/abi.NoEscape", "internal/bytealg.MakeNoZero"], unfollowed := true, recurses := true, named := ["internal/strconv.uint64pow10", "math/bits.deBruijn32tab", "math/bits.deBruijn64tab"], apart := false, laid := [("math/bits.deBruijn32tab", laid_math_bits_deBruijn32tab), ("math/bits.deBruijn64tab", laid_math_bits_deBruijn64tab), ("internal/strconv.uint64pow10", laid_internal_strconv_uint64pow10)], narrowed := true }
def FnExecTextUptoSaid : Prop := fnExecTextUptoRow.holds Tryz.pinned (OpenSpec.upto fnExecTextSpec)

/-- 'laws.FnRuleKinds', WHERE WHAT IT READS IS OF BULK AT MOST 1048576: true; the input reads as it did. -/
def fnRuleKindsUptoRow : OpenClaim := { program := "ytfgpbnncdfcjjaagreatdoor", sum := "4a358aae24431ca1c5bd69ac6fe0eba5d929d6b1e81912927ce1b25a1f34869b", func := "loop.example/weakmemory/laws.FnRuleKinds", spec := "fnRuleKinds", unfollowed := true, recurses := true, named := ["loop.example/weakmemory/impl.relNames"], apart := false, laid := [("loop.example/weakmemory/impl.relNames", laid_loop_example_weakmemory_impl_relNames)], narrowed := true }
def FnRuleKindsUptoSaid : Prop := fnRuleKindsUptoRow.holds Tryz.pinned (OpenSpec.upto fnRuleKindsSpec)

/-- 'laws.FnExactBrokenRule', WHERE WHAT IT READS IS OF BULK AT MOST 1048576: true; the input reads as it did. -/
def fnExactBrokenRuleUptoRow : OpenClaim := { program := "ytfgpbnncdfcjjaagreatdoor", sum := "4a358aae24431ca1c5bd69ac6fe0eba5d929d6b1e81912927ce1b25a1f34869b", func := "loop.example/weakmemory/laws.FnExactBrokenRule", spec := "fnExactBrokenRule", unfollowed := true, recurses := true, named := ["loop.example/weakmemory/impl.relNames"], loops := true, apart := false, laid := [("loop.example/weakmemory/impl.relNames", laid_loop_example_weakmemory_impl_relNames)], narrowed := true }
def FnExactBrokenRuleUptoSaid : Prop := fnExactBrokenRuleUptoRow.holds Tryz.pinned (OpenSpec.upto fnExactBrokenRuleSpec)

end Rows
end Go.Proofs.YtfgpbnncdfcjjaaGreatDoor
