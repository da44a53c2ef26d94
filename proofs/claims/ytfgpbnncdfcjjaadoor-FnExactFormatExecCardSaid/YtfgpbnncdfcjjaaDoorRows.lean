/-
  NARROWER THAN 'FOR EVERY INPUT', by the rows' own cells (each row's printed sentence says how): FnExactRelOf: laid · FnFirstWrites: laid · FnOrderTotal: laid · FnReadsFrom: laid · FnExactFormatExec: laid.
  DERIVED. THE GIVEN ROWS OF THIS SEAT. 5 by the template 'for every input the law returns true; each argument reads behind the call as it read before'; 0 by the template 'total and deterministic' (their statements: YtfgpbnncdfcjjaaDoorTotals.lean).
  GIVEN WITH THE SEED: the statements are not yours to turn. If you find one false, say at which input.
  Laid BY PROGRAM, IN A SANDBOX (cutbox-rows.mjs): the forced cells as the released guide's own fill.sh prints them over the translation 73a604b960600c33… (all of the seat's roots in one cut). By AI agents, Wed Nov 11 2026. No macro, syntax, notation, axiom, sorry.
-/
import Derived.Test.YtfgpbnncdfcjjaaDoorChecked
import GoSem.Claim
import GoSem.ClaimJoined
import GoSem.ClaimMapViews
import Derived.JoinedTies
import Derived.KernelRfl
namespace Go.Proofs.YtfgpbnncdfcjjaaDoor
/- THE CELL 'sum', in the pinned program and in every row, IS THE sha256 OF THE DUMP (.gsa) THAT YtfgpbnncdfcjjaaDoorProg.lean LOADS. Nothing in Lean hashes anything: it is a label: what it is worth is what the hold of that sum in a sandbox is worth. -/
noncomputable def Tryd.pinned : Pinned := { name := "ytfgpbnncdfcjjaadoor", sum := "73a604b960600c330e3474226c11cde55deaf7cabb058ff17eda4af3b00956c1", checked := Tryd.checked }
namespace Rows
def none {H : Type} : Left H := { results := [], args := [] }

/- WHAT THE LISTED PACKAGE-LEVEL VARIABLES READ AS WHEN THE CALL BEGINS. Each datum BY PROGRAM (the guide's laid-datum.mjs) off the statement by which the dump's own 'gosem.cut.vars' lays the variable. In a bare row this is a premise. The card (YtfgpbnncdfcjjaaDoorCards.lean) ties it to the program's text. -/
def laid_loop_example_weakmemory_impl_relNames {H : Type} : DataW H := .agg [.lit (.string [112, 111]), .lit (.string [108, 111, 99]), .lit (.string [101, 120, 116]), .lit (.string [114, 102]), .lit (.string [99, 111]), .lit (.string [102, 114]), .lit (.string [102, 101, 110, 99, 101]), .lit (.string [119, 114]), .lit (.string [119, 119]), .lit (.string [105, 100])]
def laid_math_bits_deBruijn32tab {H : Type} : DataW H := .agg [.lit (.int .u8 0), .lit (.int .u8 1), .lit (.int .u8 28), .lit (.int .u8 2), .lit (.int .u8 29), .lit (.int .u8 14), .lit (.int .u8 24), .lit (.int .u8 3), .lit (.int .u8 30), .lit (.int .u8 22), .lit (.int .u8 20), .lit (.int .u8 15), .lit (.int .u8 25), .lit (.int .u8 17), .lit (.int .u8 4), .lit (.int .u8 8), .lit (.int .u8 31), .lit (.int .u8 27), .lit (.int .u8 13), .lit (.int .u8 23), .lit (.int .u8 21), .lit (.int .u8 19), .lit (.int .u8 16), .lit (.int .u8 7), .lit (.int .u8 26), .lit (.int .u8 12), .lit (.int .u8 18), .lit (.int .u8 6), .lit (.int .u8 11), .lit (.int .u8 5), .lit (.int .u8 10), .lit (.int .u8 9)]
def laid_math_bits_deBruijn64tab {H : Type} : DataW H := .agg [.lit (.int .u8 0), .lit (.int .u8 1), .lit (.int .u8 56), .lit (.int .u8 2), .lit (.int .u8 57), .lit (.int .u8 49), .lit (.int .u8 28), .lit (.int .u8 3), .lit (.int .u8 61), .lit (.int .u8 58), .lit (.int .u8 42), .lit (.int .u8 50), .lit (.int .u8 38), .lit (.int .u8 29), .lit (.int .u8 17), .lit (.int .u8 4), .lit (.int .u8 62), .lit (.int .u8 47), .lit (.int .u8 59), .lit (.int .u8 36), .lit (.int .u8 45), .lit (.int .u8 43), .lit (.int .u8 51), .lit (.int .u8 22), .lit (.int .u8 53), .lit (.int .u8 39), .lit (.int .u8 33), .lit (.int .u8 30), .lit (.int .u8 24), .lit (.int .u8 18), .lit (.int .u8 12), .lit (.int .u8 5), .lit (.int .u8 63), .lit (.int .u8 55), .lit (.int .u8 48), .lit (.int .u8 27), .lit (.int .u8 60), .lit (.int .u8 41), .lit (.int .u8 37), .lit (.int .u8 16), .lit (.int .u8 46), .lit (.int .u8 35), .lit (.int .u8 44), .lit (.int .u8 21), .lit (.int .u8 52), .lit (.int .u8 32), .lit (.int .u8 23), .lit (.int .u8 11), .lit (.int .u8 54), .lit (.int .u8 26), .lit (.int .u8 40), .lit (.int .u8 15), .lit (.int .u8 34), .lit (.int .u8 20), .lit (.int .u8 31), .lit (.int .u8 10), .lit (.int .u8 25), .lit (.int .u8 14), .lit (.int .u8 19), .lit (.int .u8 9), .lit (.int .u8 13), .lit (.int .u8 8), .lit (.int .u8 7), .lit (.int .u8 6)]
def laid_internal_strconv_uint64pow10 {H : Type} : DataW H := .agg [.lit (.int .u64 1), .lit (.int .u64 10), .lit (.int .u64 100), .lit (.int .u64 1000), .lit (.int .u64 10000), .lit (.int .u64 100000), .lit (.int .u64 1000000), .lit (.int .u64 10000000), .lit (.int .u64 100000000), .lit (.int .u64 1000000000), .lit (.int .u64 10000000000), .lit (.int .u64 100000000000), .lit (.int .u64 1000000000000), .lit (.int .u64 10000000000000), .lit (.int .u64 100000000000000), .lit (.int .u64 1000000000000000), .lit (.int .u64 10000000000000000), .lit (.int .u64 100000000000000000), .lit (.int .u64 1000000000000000000), .lit (.int .u64 10000000000000000000)]

/-- 'laws.FnExactRelOf': WHATEVER THE INPUT: true; the input reads as it did. -/
def fnExactRelOfSpec : ChangeSpec := { name := "fnExactRelOf", vars := ["loop.example/weakmemory/impl.relNames"], fn := fun _ => fun
  | [d1, d2, d3, g1] => { results := [.lit (.bool true)], args := [d1, d2, d3], vars := [g1] }
  | _ => none }
def fnExactRelOfRow : OpenClaim := { program := "ytfgpbnncdfcjjaadoor", sum := "73a604b960600c330e3474226c11cde55deaf7cabb058ff17eda4af3b00956c1", func := "loop.example/weakmemory/laws.FnExactRelOf", spec := "fnExactRelOf", unfollowed := true, recurses := true, named := ["loop.example/weakmemory/impl.relNames"], apart := false, laid := [("loop.example/weakmemory/impl.relNames", laid_loop_example_weakmemory_impl_relNames)] }
def FnExactRelOfSaid : Prop := fnExactRelOfRow.holds Tryd.pinned (OpenSpec.ofChange fnExactRelOfSpec)

/-- ITS FALSE NEIGHBOUR: 'it returns false'. Refute it at one input. -/
def fnExactRelOfWrong : ChangeSpec := { name := "fnExactRelOf", vars := ["loop.example/weakmemory/impl.relNames"], fn := fun _ => fun
  | [d1, d2, d3, g1] => { results := [.lit (.bool false)], args := [d1, d2, d3], vars := [g1] }
  | _ => none }
def FnExactRelOfWrongFalsely : Prop := fnExactRelOfRow.holds Tryd.pinned (OpenSpec.ofChange fnExactRelOfWrong)

/-- 'laws.FnFirstWrites': WHATEVER THE INPUT: true; the input reads as it did. -/
def fnFirstWritesSpec : ChangeSpec := { name := "fnFirstWrites", vars := ["loop.example/weakmemory/impl.relNames"], fn := fun _ => fun
  | [d, g1] => { results := [.lit (.bool true)], args := [d], vars := [g1] }
  | _ => none }
def fnFirstWritesRow : OpenClaim := { program := "ytfgpbnncdfcjjaadoor", sum := "73a604b960600c330e3474226c11cde55deaf7cabb058ff17eda4af3b00956c1", func := "loop.example/weakmemory/laws.FnFirstWrites", spec := "fnFirstWrites", unfollowed := true, recurses := true, named := ["loop.example/weakmemory/impl.relNames"], apart := false, laid := [("loop.example/weakmemory/impl.relNames", laid_loop_example_weakmemory_impl_relNames)] }
def FnFirstWritesSaid : Prop := fnFirstWritesRow.holds Tryd.pinned (OpenSpec.ofChange fnFirstWritesSpec)

/-- ITS FALSE NEIGHBOUR: 'it returns false'. Refute it at one input. -/
def fnFirstWritesWrong : ChangeSpec := { name := "fnFirstWrites", vars := ["loop.example/weakmemory/impl.relNames"], fn := fun _ => fun
  | [d, g1] => { results := [.lit (.bool false)], args := [d], vars := [g1] }
  | _ => none }
def FnFirstWritesWrongFalsely : Prop := fnFirstWritesRow.holds Tryd.pinned (OpenSpec.ofChange fnFirstWritesWrong)

/-- 'laws.FnOrderTotal': WHATEVER THE INPUT: true; the input reads as it did. -/
def fnOrderTotalSpec : ChangeSpec := { name := "fnOrderTotal", vars := ["loop.example/weakmemory/impl.relNames"], fn := fun _ => fun
  | [d, g1] => { results := [.lit (.bool true)], args := [d], vars := [g1] }
  | _ => none }
def fnOrderTotalRow : OpenClaim := { program := "ytfgpbnncdfcjjaadoor", sum := "73a604b960600c330e3474226c11cde55deaf7cabb058ff17eda4af3b00956c1", func := "loop.example/weakmemory/laws.FnOrderTotal", spec := "fnOrderTotal", unfollowed := true, recurses := true, named := ["loop.example/weakmemory/impl.relNames"], apart := false, laid := [("loop.example/weakmemory/impl.relNames", laid_loop_example_weakmemory_impl_relNames)] }
def FnOrderTotalSaid : Prop := fnOrderTotalRow.holds Tryd.pinned (OpenSpec.ofChange fnOrderTotalSpec)

/-- ITS FALSE NEIGHBOUR: 'it returns false'. Refute it at one input. -/
def fnOrderTotalWrong : ChangeSpec := { name := "fnOrderTotal", vars := ["loop.example/weakmemory/impl.relNames"], fn := fun _ => fun
  | [d, g1] => { results := [.lit (.bool false)], args := [d], vars := [g1] }
  | _ => none }
def FnOrderTotalWrongFalsely : Prop := fnOrderTotalRow.holds Tryd.pinned (OpenSpec.ofChange fnOrderTotalWrong)

/-- 'laws.FnReadsFrom': WHATEVER THE INPUT: true; the input reads as it did. -/
def fnReadsFromSpec : ChangeSpec := { name := "fnReadsFrom", vars := ["loop.example/weakmemory/impl.relNames"], fn := fun _ => fun
  | [d, g1] => { results := [.lit (.bool true)], args := [d], vars := [g1] }
  | _ => none }
def fnReadsFromRow : OpenClaim := { program := "ytfgpbnncdfcjjaadoor", sum := "73a604b960600c330e3474226c11cde55deaf7cabb058ff17eda4af3b00956c1", func := "loop.example/weakmemory/laws.FnReadsFrom", spec := "fnReadsFrom", unfollowed := true, recurses := true, named := ["loop.example/weakmemory/impl.relNames"], apart := false, laid := [("loop.example/weakmemory/impl.relNames", laid_loop_example_weakmemory_impl_relNames)] }
def FnReadsFromSaid : Prop := fnReadsFromRow.holds Tryd.pinned (OpenSpec.ofChange fnReadsFromSpec)

/-- ITS FALSE NEIGHBOUR: 'it returns false'. Refute it at one input. -/
def fnReadsFromWrong : ChangeSpec := { name := "fnReadsFrom", vars := ["loop.example/weakmemory/impl.relNames"], fn := fun _ => fun
  | [d, g1] => { results := [.lit (.bool false)], args := [d], vars := [g1] }
  | _ => none }
def FnReadsFromWrongFalsely : Prop := fnReadsFromRow.holds Tryd.pinned (OpenSpec.ofChange fnReadsFromWrong)

/-- 'laws.FnExactFormatExec': WHATEVER THE INPUT: true; the input reads as it did. -/
def fnExactFormatExecSpec : ChangeSpec := { name := "fnExactFormatExec", fn := fun _ => fun
  | [d1, d2] => { results := [.lit (.bool true)], args := [d1, d2] }
  | _ => none }
def fnExactFormatExecRow : OpenClaim := { program := "ytfgpbnncdfcjjaadoor", sum := "73a604b960600c330e3474226c11cde55deaf7cabb058ff17eda4af3b00956c1", func := "loop.example/weakmemory/laws.FnExactFormatExec", spec := "fnExactFormatExec", inPlace := ["internal/abi.NoEscape", "internal/bytealg.MakeNoZero"], unfollowed := true, recurses := true, named := ["internal/strconv.uint64pow10", "math/bits.deBruijn32tab", "math/bits.deBruijn64tab"], apart := false, laid := [("math/bits.deBruijn32tab", laid_math_bits_deBruijn32tab), ("math/bits.deBruijn64tab", laid_math_bits_deBruijn64tab), ("internal/strconv.uint64pow10", laid_internal_strconv_uint64pow10)] }
def FnExactFormatExecSaid : Prop := fnExactFormatExecRow.holds Tryd.pinned (OpenSpec.ofChange fnExactFormatExecSpec)

/-- ITS FALSE NEIGHBOUR: 'it returns false'. Refute it at one input. -/
def fnExactFormatExecWrong : ChangeSpec := { name := "fnExactFormatExec", fn := fun _ => fun
  | [d1, d2] => { results := [.lit (.bool false)], args := [d1, d2] }
  | _ => none }
def FnExactFormatExecWrongFalsely : Prop := fnExactFormatExecRow.holds Tryd.pinned (OpenSpec.ofChange fnExactFormatExecWrong)

/- THE SECOND FORM. 'bulk': how many values and letters a reading holds, each counted each time it is reached (what is shared counts as often as it is met; a slice's spare places count too). A statement '..UptoSaid' is the law's where the arguments, and the package variables that the reading takes, are together of bulk at most 1048576: NARROWER than '..Said'. Prove '..Said' where nothing that the law and all that it calls make is longer than what came in: it says more and counts as full. Else prove '..UptoSaid'. A law counts once. -/
mutual
def uptoBulk {H : Type} : DataW H → Nat
  | .lit (.string bytes) => bytes.length + 1
  | .lit _ => 1
  | .nil => 1
  | .ptr d => uptoBulk d + 1
  | .slice elems spare => uptoBulkAll elems + uptoBulkAll spare + 1
  | .agg parts => uptoBulkAll parts + 1
  | .iface _ d => uptoBulk d + 1
  | .map entries => uptoBulkEntries entries + 1
  | .held _ => 1
def uptoBulkAll {H : Type} : List (DataW H) → Nat
  | [] => 0
  | d :: r => uptoBulk d + uptoBulkAll r
def uptoBulkEntries {H : Type} : List (Lit × DataW H) → Nat
  | [] => 0
  | x :: r => uptoBulkEntry x + uptoBulkEntries r
def uptoBulkEntry {H : Type} : Lit × DataW H → Nat
  | (.string bytes, d) => bytes.length + uptoBulk d + 1
  | (_, d) => uptoBulk d + 1
 end
def uptoSmall : (H : Type) → List (DataW H) → Bool := fun _ ds => decide (uptoBulkAll ds ≤ 1048576)
def OpenSpec.upto (s : _root_.Go.ChangeSpec) : _root_.Go.OpenSpec := { _root_.Go.OpenSpec.ofChange s with cond := some uptoSmall }

/-- 'laws.FnExactRelOf', WHERE WHAT IT READS IS OF BULK AT MOST 1048576: true; the input reads as it did. -/
def fnExactRelOfUptoRow : OpenClaim := { program := "ytfgpbnncdfcjjaadoor", sum := "73a604b960600c330e3474226c11cde55deaf7cabb058ff17eda4af3b00956c1", func := "loop.example/weakmemory/laws.FnExactRelOf", spec := "fnExactRelOf", unfollowed := true, recurses := true, named := ["loop.example/weakmemory/impl.relNames"], apart := false, laid := [("loop.example/weakmemory/impl.relNames", laid_loop_example_weakmemory_impl_relNames)], narrowed := true }
def FnExactRelOfUptoSaid : Prop := fnExactRelOfUptoRow.holds Tryd.pinned (OpenSpec.upto fnExactRelOfSpec)

/-- 'laws.FnFirstWrites', WHERE WHAT IT READS IS OF BULK AT MOST 1048576: true; the input reads as it did. -/
def fnFirstWritesUptoRow : OpenClaim := { program := "ytfgpbnncdfcjjaadoor", sum := "73a604b960600c330e3474226c11cde55deaf7cabb058ff17eda4af3b00956c1", func := "loop.example/weakmemory/laws.FnFirstWrites", spec := "fnFirstWrites", unfollowed := true, recurses := true, named := ["loop.example/weakmemory/impl.relNames"], apart := false, laid := [("loop.example/weakmemory/impl.relNames", laid_loop_example_weakmemory_impl_relNames)], narrowed := true }
def FnFirstWritesUptoSaid : Prop := fnFirstWritesUptoRow.holds Tryd.pinned (OpenSpec.upto fnFirstWritesSpec)

/-- 'laws.FnOrderTotal', WHERE WHAT IT READS IS OF BULK AT MOST 1048576: true; the input reads as it did. -/
def fnOrderTotalUptoRow : OpenClaim := { program := "ytfgpbnncdfcjjaadoor", sum := "73a604b960600c330e3474226c11cde55deaf7cabb058ff17eda4af3b00956c1", func := "loop.example/weakmemory/laws.FnOrderTotal", spec := "fnOrderTotal", unfollowed := true, recurses := true, named := ["loop.example/weakmemory/impl.relNames"], apart := false, laid := [("loop.example/weakmemory/impl.relNames", laid_loop_example_weakmemory_impl_relNames)], narrowed := true }
def FnOrderTotalUptoSaid : Prop := fnOrderTotalUptoRow.holds Tryd.pinned (OpenSpec.upto fnOrderTotalSpec)

/-- 'laws.FnReadsFrom', WHERE WHAT IT READS IS OF BULK AT MOST 1048576: true; the input reads as it did. -/
def fnReadsFromUptoRow : OpenClaim := { program := "ytfgpbnncdfcjjaadoor", sum := "73a604b960600c330e3474226c11cde55deaf7cabb058ff17eda4af3b00956c1", func := "loop.example/weakmemory/laws.FnReadsFrom", spec := "fnReadsFrom", unfollowed := true, recurses := true, named := ["loop.example/weakmemory/impl.relNames"], apart := false, laid := [("loop.example/weakmemory/impl.relNames", laid_loop_example_weakmemory_impl_relNames)], narrowed := true }
def FnReadsFromUptoSaid : Prop := fnReadsFromUptoRow.holds Tryd.pinned (OpenSpec.upto fnReadsFromSpec)

/-- 'laws.FnExactFormatExec', WHERE WHAT IT READS IS OF BULK AT MOST 1048576: true; the input reads as it did. -/
def fnExactFormatExecUptoRow : OpenClaim := { program := "ytfgpbnncdfcjjaadoor", sum := "73a604b960600c330e3474226c11cde55deaf7cabb058ff17eda4af3b00956c1", func := "loop.example/weakmemory/laws.FnExactFormatExec", spec := "fnExactFormatExec", inPlace := ["internal/abi.NoEscape", "internal/bytealg.MakeNoZero"], unfollowed := true, recurses := true, named := ["internal/strconv.uint64pow10", "math/bits.deBruijn32tab", "math/bits.deBruijn64tab"], apart := false, laid := [("math/bits.deBruijn32tab", laid_math_bits_deBruijn32tab), ("math/bits.deBruijn64tab", laid_math_bits_deBruijn64tab), ("internal/strconv.uint64pow10", laid_internal_strconv_uint64pow10)], narrowed := true }
def FnExactFormatExecUptoSaid : Prop := fnExactFormatExecUptoRow.holds Tryd.pinned (OpenSpec.upto fnExactFormatExecSpec)

end Rows
end Go.Proofs.YtfgpbnncdfcjjaaDoor
