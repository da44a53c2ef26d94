/-
  DERIVED. GIVEN WITH THE SEED: THE CARDS: each row of YtfgpbnncdfcjjaaDoorRows.lean that lists a variable, with what it lists TIED to the program's text (the seventh form; the later family's looks); each row that meets fmt, with fmt's text TOLD by the authors' own Lean function (tested against real Go, not proved from fmt's source: count such statements apart). THE CARD IS WHAT COUNTS. Prove the row's statement (the work); the ties are given (YtfgpbnncdfcjjaaDoorTie.lean); close each card by the builder's one call (the guide's Derived/Test/ToyasCard.lean, 'card_holds'). Laid BY PROGRAM, IN A SANDBOX (cutbox-door.mjs). By AI agents, Wed Nov 11 2026. No macro, syntax, notation, axiom, sorry.
-/
import Derived.Test.YtfgpbnncdfcjjaaDoorRows
import GoSem.ClaimSeven
namespace Go.Proofs.YtfgpbnncdfcjjaaDoor
namespace Rows

/-- THE TIED CARD OF 'laws.FnExactRelOf'. -/
def fnExactRelOfCard : Claim7 := { stood := { row := fnExactRelOfRow, standIns := [], harness := (true, "722468f6ba34770a66521822159b272abe843200be2eccfd87c9e647d33560e4"), looks := false }, kinds := [], alts := [], laidByText := true, laidKinds := [.widerDeep], laidTests := true, laidLooks := .later }
def FnExactRelOfCardSaid : Prop := Claim7.holds Tryd.pinned (.plain (OpenSpec.ofChange fnExactRelOfSpec)) fnExactRelOfCard

/-- THE TIED CARD OF 'laws.FnFirstWrites'. -/
def fnFirstWritesCard : Claim7 := { stood := { row := fnFirstWritesRow, standIns := [], harness := (true, "722468f6ba34770a66521822159b272abe843200be2eccfd87c9e647d33560e4"), looks := false }, kinds := [], alts := [], laidByText := true, laidKinds := [.widerDeep], laidTests := true, laidLooks := .later }
def FnFirstWritesCardSaid : Prop := Claim7.holds Tryd.pinned (.plain (OpenSpec.ofChange fnFirstWritesSpec)) fnFirstWritesCard

/-- THE TIED CARD OF 'laws.FnOrderTotal'. -/
def fnOrderTotalCard : Claim7 := { stood := { row := fnOrderTotalRow, standIns := [], harness := (true, "722468f6ba34770a66521822159b272abe843200be2eccfd87c9e647d33560e4"), looks := false }, kinds := [], alts := [], laidByText := true, laidKinds := [.widerDeep], laidTests := true, laidLooks := .later }
def FnOrderTotalCardSaid : Prop := Claim7.holds Tryd.pinned (.plain (OpenSpec.ofChange fnOrderTotalSpec)) fnOrderTotalCard

/-- THE TIED CARD OF 'laws.FnReadsFrom'. -/
def fnReadsFromCard : Claim7 := { stood := { row := fnReadsFromRow, standIns := [], harness := (true, "722468f6ba34770a66521822159b272abe843200be2eccfd87c9e647d33560e4"), looks := false }, kinds := [], alts := [], laidByText := true, laidKinds := [.widerDeep], laidTests := true, laidLooks := .later }
def FnReadsFromCardSaid : Prop := Claim7.holds Tryd.pinned (.plain (OpenSpec.ofChange fnReadsFromSpec)) fnReadsFromCard

/-- THE TIED CARD OF 'laws.FnExactFormatExec'. -/
def fnExactFormatExecCard : Claim7 := { stood := { row := fnExactFormatExecRow, standIns := [], harness := (true, "722468f6ba34770a66521822159b272abe843200be2eccfd87c9e647d33560e4"), looks := false }, kinds := [], alts := [], laidByText := true, laidKinds := [.data, .data, .data], laidTests := true, laidLooks := .later }
def FnExactFormatExecCardSaid : Prop := Claim7.holds Tryd.pinned (.plain (OpenSpec.ofChange fnExactFormatExecSpec)) fnExactFormatExecCard

/-- THE SECOND FORM's CARD OF 'laws.FnExactRelOf'. -/
def fnExactRelOfUptoCard : Claim7 := { stood := { row := fnExactRelOfUptoRow, standIns := [], harness := (true, "722468f6ba34770a66521822159b272abe843200be2eccfd87c9e647d33560e4"), looks := false }, kinds := [], alts := [], laidByText := true, laidKinds := [.widerDeep], laidTests := true, laidLooks := .later }
def FnExactRelOfUptoCardSaid : Prop := Claim7.holds Tryd.pinned (.plain (OpenSpec.upto fnExactRelOfSpec)) fnExactRelOfUptoCard

/-- THE SECOND FORM's CARD OF 'laws.FnFirstWrites'. -/
def fnFirstWritesUptoCard : Claim7 := { stood := { row := fnFirstWritesUptoRow, standIns := [], harness := (true, "722468f6ba34770a66521822159b272abe843200be2eccfd87c9e647d33560e4"), looks := false }, kinds := [], alts := [], laidByText := true, laidKinds := [.widerDeep], laidTests := true, laidLooks := .later }
def FnFirstWritesUptoCardSaid : Prop := Claim7.holds Tryd.pinned (.plain (OpenSpec.upto fnFirstWritesSpec)) fnFirstWritesUptoCard

/-- THE SECOND FORM's CARD OF 'laws.FnOrderTotal'. -/
def fnOrderTotalUptoCard : Claim7 := { stood := { row := fnOrderTotalUptoRow, standIns := [], harness := (true, "722468f6ba34770a66521822159b272abe843200be2eccfd87c9e647d33560e4"), looks := false }, kinds := [], alts := [], laidByText := true, laidKinds := [.widerDeep], laidTests := true, laidLooks := .later }
def FnOrderTotalUptoCardSaid : Prop := Claim7.holds Tryd.pinned (.plain (OpenSpec.upto fnOrderTotalSpec)) fnOrderTotalUptoCard

/-- THE SECOND FORM's CARD OF 'laws.FnReadsFrom'. -/
def fnReadsFromUptoCard : Claim7 := { stood := { row := fnReadsFromUptoRow, standIns := [], harness := (true, "722468f6ba34770a66521822159b272abe843200be2eccfd87c9e647d33560e4"), looks := false }, kinds := [], alts := [], laidByText := true, laidKinds := [.widerDeep], laidTests := true, laidLooks := .later }
def FnReadsFromUptoCardSaid : Prop := Claim7.holds Tryd.pinned (.plain (OpenSpec.upto fnReadsFromSpec)) fnReadsFromUptoCard

/-- THE SECOND FORM's CARD OF 'laws.FnExactFormatExec'. -/
def fnExactFormatExecUptoCard : Claim7 := { stood := { row := fnExactFormatExecUptoRow, standIns := [], harness := (true, "722468f6ba34770a66521822159b272abe843200be2eccfd87c9e647d33560e4"), looks := false }, kinds := [], alts := [], laidByText := true, laidKinds := [.data, .data, .data], laidTests := true, laidLooks := .later }
def FnExactFormatExecUptoCardSaid : Prop := Claim7.holds Tryd.pinned (.plain (OpenSpec.upto fnExactFormatExecSpec)) fnExactFormatExecUptoCard
end Rows
end Go.Proofs.YtfgpbnncdfcjjaaDoor
