/-
  NARROWER THAN 'FOR EVERY INPUT', by the rows' own cells (each row's printed sentence says how): FnExactRelExprValid: loops, laid · FnRelExprSame: laid · FnExactFormatRelExpr: loops, laid · FnExactModelValid: loops, laid · FnExactParseRelExpr: laid · FnRelExprText: laid · FnExactFormatModel: loops, laid · FnModelRules: laid · FnExactParseModel: laid · FnModelText: laid.
  DERIVED. THE GIVEN ROWS OF THIS SEAT. 10 by the template 'for every input the law returns true; each argument reads behind the call as it read before'; 0 by the template 'total and deterministic' (their statements: YtapelogbceoojaaDoorTotals.lean).
  GIVEN WITH THE SEED: the statements are not yours to turn. If you find one false, say at which input.
  Laid BY PROGRAM, IN A SANDBOX (cutbox-rows.mjs): the forced cells as the released guide's own fill.sh prints them over the translation a62286150d4b21ba… (all of the seat's roots in one cut). By AI agents, Wed Nov 11 2026. No macro, syntax, notation, axiom, sorry.
-/
import Derived.Test.YtapelogbceoojaaDoorChecked
import GoSem.PinnedTables
import GoSem.Claim
import GoSem.ClaimJoined
import GoSem.ClaimMapViews
import Derived.JoinedTies
import Derived.KernelRfl
namespace Go.Proofs.YtapelogbceoojaaDoor
/- THE CELL 'sum', in the pinned program and in every row, IS THE sha256 OF THE DUMP (.gsa) THAT YtapelogbceoojaaDoorProg.lean LOADS. Nothing in Lean hashes anything: it is a label: what it is worth is what the hold of that sum in a sandbox is worth. -/
noncomputable def Tryd.pinned : Pinned := { name := "ytapelogbceoojaadoor", sum := "a62286150d4b21ba0674a8a8f6ba3d67a55621c8fdb4e752ca13b56dba779c56", checked := Tryd.checked }
namespace Rows
def none {H : Type} : Left H := { results := [], args := [] }

/- WHAT THE LISTED PACKAGE-LEVEL VARIABLES READ AS WHEN THE CALL BEGINS. Each datum BY PROGRAM (the guide's laid-datum.mjs) off the statement by which the dump's own 'gosem.cut.vars' lays the variable. In a bare row this is a premise. The card (YtapelogbceoojaaDoorCards.lean) ties it to the program's text. -/
def laid_loop_example_weakmemory_impl_relNames {H : Type} : DataW H := .agg [.lit (.string [112, 111]), .lit (.string [108, 111, 99]), .lit (.string [101, 120, 116]), .lit (.string [114, 102]), .lit (.string [99, 111]), .lit (.string [102, 114]), .lit (.string [102, 101, 110, 99, 101]), .lit (.string [119, 114]), .lit (.string [119, 119]), .lit (.string [105, 100])]
def laid_loop_example_weakmemory_impl_ruleWords {H : Type} : DataW H := .agg [.lit (.string []), .lit (.string [97, 99, 121, 99, 108, 105, 99]), .lit (.string [105, 114, 114, 101, 102]), .lit (.string [101, 109, 112, 116, 121])]
def laid_unicode_utf8_acceptRanges {H : Type} : DataW H := .agg [.agg [.lit (.int .u8 128), .lit (.int .u8 191)], .agg [.lit (.int .u8 160), .lit (.int .u8 191)], .agg [.lit (.int .u8 128), .lit (.int .u8 159)], .agg [.lit (.int .u8 144), .lit (.int .u8 191)], .agg [.lit (.int .u8 128), .lit (.int .u8 143)], .agg [.lit (.int .u8 0), .lit (.int .u8 0)], .agg [.lit (.int .u8 0), .lit (.int .u8 0)], .agg [.lit (.int .u8 0), .lit (.int .u8 0)], .agg [.lit (.int .u8 0), .lit (.int .u8 0)], .agg [.lit (.int .u8 0), .lit (.int .u8 0)], .agg [.lit (.int .u8 0), .lit (.int .u8 0)], .agg [.lit (.int .u8 0), .lit (.int .u8 0)], .agg [.lit (.int .u8 0), .lit (.int .u8 0)], .agg [.lit (.int .u8 0), .lit (.int .u8 0)], .agg [.lit (.int .u8 0), .lit (.int .u8 0)], .agg [.lit (.int .u8 0), .lit (.int .u8 0)]]
/-- One of Go's own tables, pinned by name: the form's constant. -/
def laid_unicode_utf8_first : DataW Unit := Go.Pinned.utf8First

/-- 'laws.FnExactRelExprValid': WHATEVER THE INPUT: true; the input reads as it did. -/
def fnExactRelExprValidSpec : ChangeSpec := { name := "fnExactRelExprValid", vars := ["loop.example/weakmemory/impl.relNames"], fn := fun _ => fun
  | [d, g1] => { results := [.lit (.bool true)], args := [d], vars := [g1] }
  | _ => none }
def fnExactRelExprValidRow : OpenClaim := { program := "ytapelogbceoojaadoor", sum := "a62286150d4b21ba0674a8a8f6ba3d67a55621c8fdb4e752ca13b56dba779c56", func := "loop.example/weakmemory/laws.FnExactRelExprValid", spec := "fnExactRelExprValid", recurses := true, named := ["loop.example/weakmemory/impl.relNames"], loops := true, apart := false, laid := [("loop.example/weakmemory/impl.relNames", laid_loop_example_weakmemory_impl_relNames)] }
def FnExactRelExprValidSaid : Prop := fnExactRelExprValidRow.holds Tryd.pinned (OpenSpec.ofChange fnExactRelExprValidSpec)

/-- ITS FALSE NEIGHBOUR: 'it returns false'. Refute it at one input. -/
def fnExactRelExprValidWrong : ChangeSpec := { name := "fnExactRelExprValid", vars := ["loop.example/weakmemory/impl.relNames"], fn := fun _ => fun
  | [d, g1] => { results := [.lit (.bool false)], args := [d], vars := [g1] }
  | _ => none }
def FnExactRelExprValidWrongFalsely : Prop := fnExactRelExprValidRow.holds Tryd.pinned (OpenSpec.ofChange fnExactRelExprValidWrong)

/-- 'laws.FnRelExprSame': WHATEVER THE INPUT: true; the input reads as it did. -/
def fnRelExprSameSpec : ChangeSpec := { name := "fnRelExprSame", vars := ["loop.example/weakmemory/impl.relNames"], fn := fun _ => fun
  | [d, g1] => { results := [.lit (.bool true)], args := [d], vars := [g1] }
  | _ => none }
def fnRelExprSameRow : OpenClaim := { program := "ytapelogbceoojaadoor", sum := "a62286150d4b21ba0674a8a8f6ba3d67a55621c8fdb4e752ca13b56dba779c56", func := "loop.example/weakmemory/laws.FnRelExprSame", spec := "fnRelExprSame", unfollowed := true, recurses := true, named := ["loop.example/weakmemory/impl.relNames"], apart := false, laid := [("loop.example/weakmemory/impl.relNames", laid_loop_example_weakmemory_impl_relNames)] }
def FnRelExprSameSaid : Prop := fnRelExprSameRow.holds Tryd.pinned (OpenSpec.ofChange fnRelExprSameSpec)

/-- ITS FALSE NEIGHBOUR: 'it returns false'. Refute it at one input. -/
def fnRelExprSameWrong : ChangeSpec := { name := "fnRelExprSame", vars := ["loop.example/weakmemory/impl.relNames"], fn := fun _ => fun
  | [d, g1] => { results := [.lit (.bool false)], args := [d], vars := [g1] }
  | _ => none }
def FnRelExprSameWrongFalsely : Prop := fnRelExprSameRow.holds Tryd.pinned (OpenSpec.ofChange fnRelExprSameWrong)

/-- 'laws.FnExactFormatRelExpr': WHATEVER THE INPUT: true; the input reads as it did. -/
def fnExactFormatRelExprSpec : ChangeSpec := { name := "fnExactFormatRelExpr", vars := ["loop.example/weakmemory/impl.relNames"], fn := fun _ => fun
  | [d, g1] => { results := [.lit (.bool true)], args := [d], vars := [g1] }
  | _ => none }
def fnExactFormatRelExprRow : OpenClaim := { program := "ytapelogbceoojaadoor", sum := "a62286150d4b21ba0674a8a8f6ba3d67a55621c8fdb4e752ca13b56dba779c56", func := "loop.example/weakmemory/laws.FnExactFormatRelExpr", spec := "fnExactFormatRelExpr", recurses := true, named := ["loop.example/weakmemory/impl.relNames"], loops := true, apart := false, laid := [("loop.example/weakmemory/impl.relNames", laid_loop_example_weakmemory_impl_relNames)] }
def FnExactFormatRelExprSaid : Prop := fnExactFormatRelExprRow.holds Tryd.pinned (OpenSpec.ofChange fnExactFormatRelExprSpec)

/-- ITS FALSE NEIGHBOUR: 'it returns false'. Refute it at one input. -/
def fnExactFormatRelExprWrong : ChangeSpec := { name := "fnExactFormatRelExpr", vars := ["loop.example/weakmemory/impl.relNames"], fn := fun _ => fun
  | [d, g1] => { results := [.lit (.bool false)], args := [d], vars := [g1] }
  | _ => none }
def FnExactFormatRelExprWrongFalsely : Prop := fnExactFormatRelExprRow.holds Tryd.pinned (OpenSpec.ofChange fnExactFormatRelExprWrong)

/-- 'laws.FnExactModelValid': WHATEVER THE INPUT: true; the input reads as it did. -/
def fnExactModelValidSpec : ChangeSpec := { name := "fnExactModelValid", vars := ["loop.example/weakmemory/impl.relNames"], fn := fun _ => fun
  | [d, g1] => { results := [.lit (.bool true)], args := [d], vars := [g1] }
  | _ => none }
def fnExactModelValidRow : OpenClaim := { program := "ytapelogbceoojaadoor", sum := "a62286150d4b21ba0674a8a8f6ba3d67a55621c8fdb4e752ca13b56dba779c56", func := "loop.example/weakmemory/laws.FnExactModelValid", spec := "fnExactModelValid", unfollowed := true, recurses := true, named := ["loop.example/weakmemory/impl.relNames"], loops := true, apart := false, laid := [("loop.example/weakmemory/impl.relNames", laid_loop_example_weakmemory_impl_relNames)] }
def FnExactModelValidSaid : Prop := fnExactModelValidRow.holds Tryd.pinned (OpenSpec.ofChange fnExactModelValidSpec)

/-- ITS FALSE NEIGHBOUR: 'it returns false'. Refute it at one input. -/
def fnExactModelValidWrong : ChangeSpec := { name := "fnExactModelValid", vars := ["loop.example/weakmemory/impl.relNames"], fn := fun _ => fun
  | [d, g1] => { results := [.lit (.bool false)], args := [d], vars := [g1] }
  | _ => none }
def FnExactModelValidWrongFalsely : Prop := fnExactModelValidRow.holds Tryd.pinned (OpenSpec.ofChange fnExactModelValidWrong)

/-- 'laws.FnExactParseRelExpr': WHATEVER THE INPUT: true; the input reads as it did. -/
def fnExactParseRelExprSpec : ChangeSpec := { name := "fnExactParseRelExpr", vars := ["loop.example/weakmemory/impl.relNames"], fn := fun _ => fun
  | [d, g1] => { results := [.lit (.bool true)], args := [d], vars := [g1] }
  | _ => none }
def fnExactParseRelExprRow : OpenClaim := { program := "ytapelogbceoojaadoor", sum := "a62286150d4b21ba0674a8a8f6ba3d67a55621c8fdb4e752ca13b56dba779c56", func := "loop.example/weakmemory/laws.FnExactParseRelExpr", spec := "fnExactParseRelExpr", recurses := true, named := ["loop.example/weakmemory/impl.relNames"], apart := false, laid := [("loop.example/weakmemory/impl.relNames", laid_loop_example_weakmemory_impl_relNames)] }
def FnExactParseRelExprSaid : Prop := fnExactParseRelExprRow.holds Tryd.pinned (OpenSpec.ofChange fnExactParseRelExprSpec)

/-- ITS FALSE NEIGHBOUR: 'it returns false'. Refute it at one input. -/
def fnExactParseRelExprWrong : ChangeSpec := { name := "fnExactParseRelExpr", vars := ["loop.example/weakmemory/impl.relNames"], fn := fun _ => fun
  | [d, g1] => { results := [.lit (.bool false)], args := [d], vars := [g1] }
  | _ => none }
def FnExactParseRelExprWrongFalsely : Prop := fnExactParseRelExprRow.holds Tryd.pinned (OpenSpec.ofChange fnExactParseRelExprWrong)

/-- 'laws.FnRelExprText': WHATEVER THE INPUT: true; the input reads as it did. -/
def fnRelExprTextSpec : ChangeSpec := { name := "fnRelExprText", vars := ["loop.example/weakmemory/impl.relNames"], fn := fun _ => fun
  | [d1, d2, g1] => { results := [.lit (.bool true)], args := [d1, d2], vars := [g1] }
  | _ => none }
def fnRelExprTextRow : OpenClaim := { program := "ytapelogbceoojaadoor", sum := "a62286150d4b21ba0674a8a8f6ba3d67a55621c8fdb4e752ca13b56dba779c56", func := "loop.example/weakmemory/laws.FnRelExprText", spec := "fnRelExprText", unfollowed := true, recurses := true, named := ["loop.example/weakmemory/impl.relNames"], apart := false, laid := [("loop.example/weakmemory/impl.relNames", laid_loop_example_weakmemory_impl_relNames)] }
def FnRelExprTextSaid : Prop := fnRelExprTextRow.holds Tryd.pinned (OpenSpec.ofChange fnRelExprTextSpec)

/-- ITS FALSE NEIGHBOUR: 'it returns false'. Refute it at one input. -/
def fnRelExprTextWrong : ChangeSpec := { name := "fnRelExprText", vars := ["loop.example/weakmemory/impl.relNames"], fn := fun _ => fun
  | [d1, d2, g1] => { results := [.lit (.bool false)], args := [d1, d2], vars := [g1] }
  | _ => none }
def FnRelExprTextWrongFalsely : Prop := fnRelExprTextRow.holds Tryd.pinned (OpenSpec.ofChange fnRelExprTextWrong)

/-- 'laws.FnExactFormatModel': WHATEVER THE INPUT: true; the input reads as it did. -/
def fnExactFormatModelSpec : ChangeSpec := { name := "fnExactFormatModel", vars := ["loop.example/weakmemory/impl.ruleWords", "loop.example/weakmemory/impl.relNames"], fn := fun _ => fun
  | [d, g1, g2] => { results := [.lit (.bool true)], args := [d], vars := [g1, g2] }
  | _ => none }
def fnExactFormatModelRow : OpenClaim := { program := "ytapelogbceoojaadoor", sum := "a62286150d4b21ba0674a8a8f6ba3d67a55621c8fdb4e752ca13b56dba779c56", func := "loop.example/weakmemory/laws.FnExactFormatModel", spec := "fnExactFormatModel", inPlace := ["internal/abi.NoEscape", "internal/bytealg.MakeNoZero"], unfollowed := true, recurses := true, named := ["loop.example/weakmemory/impl.ruleWords", "loop.example/weakmemory/impl.relNames"], loops := true, apart := false, laid := [("loop.example/weakmemory/impl.relNames", laid_loop_example_weakmemory_impl_relNames), ("loop.example/weakmemory/impl.ruleWords", laid_loop_example_weakmemory_impl_ruleWords)] }
def FnExactFormatModelSaid : Prop := fnExactFormatModelRow.holds Tryd.pinned (OpenSpec.ofChange fnExactFormatModelSpec)

/-- ITS FALSE NEIGHBOUR: 'it returns false'. Refute it at one input. -/
def fnExactFormatModelWrong : ChangeSpec := { name := "fnExactFormatModel", vars := ["loop.example/weakmemory/impl.ruleWords", "loop.example/weakmemory/impl.relNames"], fn := fun _ => fun
  | [d, g1, g2] => { results := [.lit (.bool false)], args := [d], vars := [g1, g2] }
  | _ => none }
def FnExactFormatModelWrongFalsely : Prop := fnExactFormatModelRow.holds Tryd.pinned (OpenSpec.ofChange fnExactFormatModelWrong)

/-- 'laws.FnModelRules': WHATEVER THE INPUT: true; the input reads as it did. -/
def fnModelRulesSpec : ChangeSpec := { name := "fnModelRules", vars := ["loop.example/weakmemory/impl.ruleWords", "loop.example/weakmemory/impl.relNames"], fn := fun _ => fun
  | [d, g1, g2] => { results := [.lit (.bool true)], args := [d], vars := [g1, g2] }
  | _ => none }
def fnModelRulesRow : OpenClaim := { program := "ytapelogbceoojaadoor", sum := "a62286150d4b21ba0674a8a8f6ba3d67a55621c8fdb4e752ca13b56dba779c56", func := "loop.example/weakmemory/laws.FnModelRules", spec := "fnModelRules", inPlace := ["internal/abi.NoEscape", "internal/bytealg.MakeNoZero"], unfollowed := true, recurses := true, named := ["loop.example/weakmemory/impl.ruleWords", "loop.example/weakmemory/impl.relNames"], apart := false, laid := [("loop.example/weakmemory/impl.relNames", laid_loop_example_weakmemory_impl_relNames), ("loop.example/weakmemory/impl.ruleWords", laid_loop_example_weakmemory_impl_ruleWords)] }
def FnModelRulesSaid : Prop := fnModelRulesRow.holds Tryd.pinned (OpenSpec.ofChange fnModelRulesSpec)

/-- ITS FALSE NEIGHBOUR: 'it returns false'. Refute it at one input. -/
def fnModelRulesWrong : ChangeSpec := { name := "fnModelRules", vars := ["loop.example/weakmemory/impl.ruleWords", "loop.example/weakmemory/impl.relNames"], fn := fun _ => fun
  | [d, g1, g2] => { results := [.lit (.bool false)], args := [d], vars := [g1, g2] }
  | _ => none }
def FnModelRulesWrongFalsely : Prop := fnModelRulesRow.holds Tryd.pinned (OpenSpec.ofChange fnModelRulesWrong)

/-- 'laws.FnExactParseModel': WHATEVER THE INPUT: true; the input reads as it did. -/
def fnExactParseModelSpec : ChangeSpec := { name := "fnExactParseModel", vars := ["loop.example/weakmemory/impl.ruleWords", "loop.example/weakmemory/impl.relNames"], fn := fun _ => fun
  | [d, g1, g2] => { results := [.lit (.bool true)], args := [d], vars := [g1, g2] }
  | _ => none }
def fnExactParseModelRow : OpenClaim := { program := "ytapelogbceoojaadoor", sum := "a62286150d4b21ba0674a8a8f6ba3d67a55621c8fdb4e752ca13b56dba779c56", func := "loop.example/weakmemory/laws.FnExactParseModel", spec := "fnExactParseModel", inPlace := ["internal/bytealg.CountString", "internal/bytealg.IndexByteString", "internal/bytealg.IndexString", "internal/abi.NoEscape", "internal/bytealg.MakeNoZero"], unfollowed := true, recurses := true, named := ["loop.example/weakmemory/impl.ruleWords", "unicode/utf8.first", "unicode/utf8.acceptRanges", "internal/bytealg.MaxLen", "loop.example/weakmemory/impl.relNames"], apart := false, laid := [("unicode/utf8.acceptRanges", laid_unicode_utf8_acceptRanges), ("loop.example/weakmemory/impl.relNames", laid_loop_example_weakmemory_impl_relNames), ("loop.example/weakmemory/impl.ruleWords", laid_loop_example_weakmemory_impl_ruleWords), ("unicode/utf8.first", laid_unicode_utf8_first)] }
def FnExactParseModelSaid : Prop := fnExactParseModelRow.holds Tryd.pinned (OpenSpec.ofChange fnExactParseModelSpec)

/-- ITS FALSE NEIGHBOUR: 'it returns false'. Refute it at one input. -/
def fnExactParseModelWrong : ChangeSpec := { name := "fnExactParseModel", vars := ["loop.example/weakmemory/impl.ruleWords", "loop.example/weakmemory/impl.relNames"], fn := fun _ => fun
  | [d, g1, g2] => { results := [.lit (.bool false)], args := [d], vars := [g1, g2] }
  | _ => none }
def FnExactParseModelWrongFalsely : Prop := fnExactParseModelRow.holds Tryd.pinned (OpenSpec.ofChange fnExactParseModelWrong)

/-- 'laws.FnModelText': WHATEVER THE INPUT: true; the input reads as it did. -/
def fnModelTextSpec : ChangeSpec := { name := "fnModelText", vars := ["loop.example/weakmemory/impl.ruleWords", "loop.example/weakmemory/impl.relNames"], fn := fun _ => fun
  | [d1, d2, g1, g2] => { results := [.lit (.bool true)], args := [d1, d2], vars := [g1, g2] }
  | _ => none }
def fnModelTextRow : OpenClaim := { program := "ytapelogbceoojaadoor", sum := "a62286150d4b21ba0674a8a8f6ba3d67a55621c8fdb4e752ca13b56dba779c56", func := "loop.example/weakmemory/laws.FnModelText", spec := "fnModelText", inPlace := ["internal/abi.NoEscape", "internal/bytealg.MakeNoZero", "internal/bytealg.CountString", "internal/bytealg.IndexByteString", "internal/bytealg.IndexString"], unfollowed := true, recurses := true, named := ["loop.example/weakmemory/impl.ruleWords", "loop.example/weakmemory/impl.relNames", "unicode/utf8.first", "unicode/utf8.acceptRanges", "internal/bytealg.MaxLen"], apart := false, laid := [("unicode/utf8.acceptRanges", laid_unicode_utf8_acceptRanges), ("loop.example/weakmemory/impl.relNames", laid_loop_example_weakmemory_impl_relNames), ("loop.example/weakmemory/impl.ruleWords", laid_loop_example_weakmemory_impl_ruleWords), ("unicode/utf8.first", laid_unicode_utf8_first)] }
def FnModelTextSaid : Prop := fnModelTextRow.holds Tryd.pinned (OpenSpec.ofChange fnModelTextSpec)

/-- ITS FALSE NEIGHBOUR: 'it returns false'. Refute it at one input. -/
def fnModelTextWrong : ChangeSpec := { name := "fnModelText", vars := ["loop.example/weakmemory/impl.ruleWords", "loop.example/weakmemory/impl.relNames"], fn := fun _ => fun
  | [d1, d2, g1, g2] => { results := [.lit (.bool false)], args := [d1, d2], vars := [g1, g2] }
  | _ => none }
def FnModelTextWrongFalsely : Prop := fnModelTextRow.holds Tryd.pinned (OpenSpec.ofChange fnModelTextWrong)

/- THE SECOND FORM. 'bulk': how many values and letters a reading holds, each counted each time it is reached (what is shared counts as often as it is met; a slice's spare places count too). A statement '..UptoSaid' is the law's where the arguments, and the package variables that the reading takes, are together of bulk at most 1048576: NARROWER than '..Said'. Prove '..Said' where nothing that the law and all that it calls make is longer than what came in: it says more and counts as full. Else prove '..UptoSaid'. A law counts once. -/
mutual
def uptoBulk {H : Type} : DataW H → Nat
  | .lit (.string bytes) => bytes.length + 1
  | .lit _ => 1
  | .nil => 1
  | .ptr d => uptoBulk d + 1
  | .slice elems spare => uptoBulkAll elems + uptoBulkAll spare + 1
  | .agg parts => uptoBulkAll parts + 1
  | .iface _ d => uptoBulk d + 1
  | .map entries => uptoBulkEntries entries + 1
  | .held _ => 1
def uptoBulkAll {H : Type} : List (DataW H) → Nat
  | [] => 0
  | d :: r => uptoBulk d + uptoBulkAll r
def uptoBulkEntries {H : Type} : List (Lit × DataW H) → Nat
  | [] => 0
  | x :: r => uptoBulkEntry x + uptoBulkEntries r
def uptoBulkEntry {H : Type} : Lit × DataW H → Nat
  | (.string bytes, d) => bytes.length + uptoBulk d + 1
  | (_, d) => uptoBulk d + 1
 end
def uptoSmall : (H : Type) → List (DataW H) → Bool := fun _ ds => decide (uptoBulkAll ds ≤ 1048576)
def OpenSpec.upto (s : _root_.Go.ChangeSpec) : _root_.Go.OpenSpec := { _root_.Go.OpenSpec.ofChange s with cond := some uptoSmall }

/-- 'laws.FnExactRelExprValid', WHERE WHAT IT READS IS OF BULK AT MOST 1048576: true; the input reads as it did. -/
def fnExactRelExprValidUptoRow : OpenClaim := { program := "ytapelogbceoojaadoor", sum := "a62286150d4b21ba0674a8a8f6ba3d67a55621c8fdb4e752ca13b56dba779c56", func := "loop.example/weakmemory/laws.FnExactRelExprValid", spec := "fnExactRelExprValid", recurses := true, named := ["loop.example/weakmemory/impl.relNames"], loops := true, apart := false, laid := [("loop.example/weakmemory/impl.relNames", laid_loop_example_weakmemory_impl_relNames)], narrowed := true }
def FnExactRelExprValidUptoSaid : Prop := fnExactRelExprValidUptoRow.holds Tryd.pinned (OpenSpec.upto fnExactRelExprValidSpec)

/-- 'laws.FnRelExprSame', WHERE WHAT IT READS IS OF BULK AT MOST 1048576: true; the input reads as it did. -/
def fnRelExprSameUptoRow : OpenClaim := { program := "ytapelogbceoojaadoor", sum := "a62286150d4b21ba0674a8a8f6ba3d67a55621c8fdb4e752ca13b56dba779c56", func := "loop.example/weakmemory/laws.FnRelExprSame", spec := "fnRelExprSame", unfollowed := true, recurses := true, named := ["loop.example/weakmemory/impl.relNames"], apart := false, laid := [("loop.example/weakmemory/impl.relNames", laid_loop_example_weakmemory_impl_relNames)], narrowed := true }
def FnRelExprSameUptoSaid : Prop := fnRelExprSameUptoRow.holds Tryd.pinned (OpenSpec.upto fnRelExprSameSpec)

/-- 'laws.FnExactFormatRelExpr', WHERE WHAT IT READS IS OF BULK AT MOST 1048576: true; the input reads as it did. -/
def fnExactFormatRelExprUptoRow : OpenClaim := { program := "ytapelogbceoojaadoor", sum := "a62286150d4b21ba0674a8a8f6ba3d67a55621c8fdb4e752ca13b56dba779c56", func := "loop.example/weakmemory/laws.FnExactFormatRelExpr", spec := "fnExactFormatRelExpr", recurses := true, named := ["loop.example/weakmemory/impl.relNames"], loops := true, apart := false, laid := [("loop.example/weakmemory/impl.relNames", laid_loop_example_weakmemory_impl_relNames)], narrowed := true }
def FnExactFormatRelExprUptoSaid : Prop := fnExactFormatRelExprUptoRow.holds Tryd.pinned (OpenSpec.upto fnExactFormatRelExprSpec)

/-- 'laws.FnExactModelValid', WHERE WHAT IT READS IS OF BULK AT MOST 1048576: true; the input reads as it did. -/
def fnExactModelValidUptoRow : OpenClaim := { program := "ytapelogbceoojaadoor", sum := "a62286150d4b21ba0674a8a8f6ba3d67a55621c8fdb4e752ca13b56dba779c56", func := "loop.example/weakmemory/laws.FnExactModelValid", spec := "fnExactModelValid", unfollowed := true, recurses := true, named := ["loop.example/weakmemory/impl.relNames"], loops := true, apart := false, laid := [("loop.example/weakmemory/impl.relNames", laid_loop_example_weakmemory_impl_relNames)], narrowed := true }
def FnExactModelValidUptoSaid : Prop := fnExactModelValidUptoRow.holds Tryd.pinned (OpenSpec.upto fnExactModelValidSpec)

/-- 'laws.FnExactParseRelExpr', WHERE WHAT IT READS IS OF BULK AT MOST 1048576: true; the input reads as it did. -/
def fnExactParseRelExprUptoRow : OpenClaim := { program := "ytapelogbceoojaadoor", sum := "a62286150d4b21ba0674a8a8f6ba3d67a55621c8fdb4e752ca13b56dba779c56", func := "loop.example/weakmemory/laws.FnExactParseRelExpr", spec := "fnExactParseRelExpr", recurses := true, named := ["loop.example/weakmemory/impl.relNames"], apart := false, laid := [("loop.example/weakmemory/impl.relNames", laid_loop_example_weakmemory_impl_relNames)], narrowed := true }
def FnExactParseRelExprUptoSaid : Prop := fnExactParseRelExprUptoRow.holds Tryd.pinned (OpenSpec.upto fnExactParseRelExprSpec)

/-- 'laws.FnRelExprText', WHERE WHAT IT READS IS OF BULK AT MOST 1048576: true; the input reads as it did. -/
def fnRelExprTextUptoRow : OpenClaim := { program := "ytapelogbceoojaadoor", sum := "a62286150d4b21ba0674a8a8f6ba3d67a55621c8fdb4e752ca13b56dba779c56", func := "loop.example/weakmemory/laws.FnRelExprText", spec := "fnRelExprText", unfollowed := true, recurses := true, named := ["loop.example/weakmemory/impl.relNames"], apart := false, laid := [("loop.example/weakmemory/impl.relNames", laid_loop_example_weakmemory_impl_relNames)], narrowed := true }
def FnRelExprTextUptoSaid : Prop := fnRelExprTextUptoRow.holds Tryd.pinned (OpenSpec.upto fnRelExprTextSpec)

/-- 'laws.FnExactFormatModel', WHERE WHAT IT READS IS OF BULK AT MOST 1048576: true; the input reads as it did. -/
def fnExactFormatModelUptoRow : OpenClaim := { program := "ytapelogbceoojaadoor", sum := "a62286150d4b21ba0674a8a8f6ba3d67a55621c8fdb4e752ca13b56dba779c56", func := "loop.example/weakmemory/laws.FnExactFormatModel", spec := "fnExactFormatModel", inPlace := ["internal/abi.NoEscape", "internal/bytealg.MakeNoZero"], unfollowed := true, recurses := true, named := ["loop.example/weakmemory/impl.ruleWords", "loop.example/weakmemory/impl.relNames"], loops := true, apart := false, laid := [("loop.example/weakmemory/impl.relNames", laid_loop_example_weakmemory_impl_relNames), ("loop.example/weakmemory/impl.ruleWords", laid_loop_example_weakmemory_impl_ruleWords)], narrowed := true }
def FnExactFormatModelUptoSaid : Prop := fnExactFormatModelUptoRow.holds Tryd.pinned (OpenSpec.upto fnExactFormatModelSpec)

/-- 'laws.FnModelRules', WHERE WHAT IT READS IS OF BULK AT MOST 1048576: true; the input reads as it did. -/
def fnModelRulesUptoRow : OpenClaim := { program := "ytapelogbceoojaadoor", sum := "a62286150d4b21ba0674a8a8f6ba3d67a55621c8fdb4e752ca13b56dba779c56", func := "loop.example/weakmemory/laws.FnModelRules", spec := "fnModelRules", inPlace := ["internal/abi.NoEscape", "internal/bytealg.MakeNoZero"], unfollowed := true, recurses := true, named := ["loop.example/weakmemory/impl.ruleWords", "loop.example/weakmemory/impl.relNames"], apart := false, laid := [("loop.example/weakmemory/impl.relNames", laid_loop_example_weakmemory_impl_relNames), ("loop.example/weakmemory/impl.ruleWords", laid_loop_example_weakmemory_impl_ruleWords)], narrowed := true }
def FnModelRulesUptoSaid : Prop := fnModelRulesUptoRow.holds Tryd.pinned (OpenSpec.upto fnModelRulesSpec)

/-- 'laws.FnExactParseModel', WHERE WHAT IT READS IS OF BULK AT MOST 1048576: true; the input reads as it did. -/
def fnExactParseModelUptoRow : OpenClaim := { program := "ytapelogbceoojaadoor", sum := "a62286150d4b21ba0674a8a8f6ba3d67a55621c8fdb4e752ca13b56dba779c56", func := "loop.example/weakmemory/laws.FnExactParseModel", spec := "fnExactParseModel", inPlace := ["internal/bytealg.CountString", "internal/bytealg.IndexByteString", "internal/bytealg.IndexString", "internal/abi.NoEscape", "internal/bytealg.MakeNoZero"], unfollowed := true, recurses := true, named := ["loop.example/weakmemory/impl.ruleWords", "unicode/utf8.first", "unicode/utf8.acceptRanges", "internal/bytealg.MaxLen", "loop.example/weakmemory/impl.relNames"], apart := false, laid := [("unicode/utf8.acceptRanges", laid_unicode_utf8_acceptRanges), ("loop.example/weakmemory/impl.relNames", laid_loop_example_weakmemory_impl_relNames), ("loop.example/weakmemory/impl.ruleWords", laid_loop_example_weakmemory_impl_ruleWords), ("unicode/utf8.first", laid_unicode_utf8_first)], narrowed := true }
def FnExactParseModelUptoSaid : Prop := fnExactParseModelUptoRow.holds Tryd.pinned (OpenSpec.upto fnExactParseModelSpec)

/-- 'laws.FnModelText', WHERE WHAT IT READS IS OF BULK AT MOST 1048576: true; the input reads as it did. -/
def fnModelTextUptoRow : OpenClaim := { program := "ytapelogbceoojaadoor", sum := "a62286150d4b21ba0674a8a8f6ba3d67a55621c8fdb4e752ca13b56dba779c56", func := "loop.example/weakmemory/laws.FnModelText", spec := "fnModelText", inPlace := ["internal/abi.NoEscape", "internal/bytealg.MakeNoZero", "internal/bytealg.CountString", "internal/bytealg.IndexByteString", "internal/bytealg.IndexString"], unfollowed := true, recurses := true, named := ["loop.example/weakmemory/impl.ruleWords", "loop.example/weakmemory/impl.relNames", "unicode/utf8.first", "unicode/utf8.acceptRanges", "internal/bytealg.MaxLen"], apart := false, laid := [("unicode/utf8.acceptRanges", laid_unicode_utf8_acceptRanges), ("loop.example/weakmemory/impl.relNames", laid_loop_example_weakmemory_impl_relNames), ("loop.example/weakmemory/impl.ruleWords", laid_loop_example_weakmemory_impl_ruleWords), ("unicode/utf8.first", laid_unicode_utf8_first)], narrowed := true }
def FnModelTextUptoSaid : Prop := fnModelTextUptoRow.holds Tryd.pinned (OpenSpec.upto fnModelTextSpec)

end Rows
end Go.Proofs.YtapelogbceoojaaDoor
