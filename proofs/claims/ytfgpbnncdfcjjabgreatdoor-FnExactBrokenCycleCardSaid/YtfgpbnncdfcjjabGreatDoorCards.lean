/-
  DERIVED. GIVEN WITH THE SEED: THE CARDS: each row of YtfgpbnncdfcjjabGreatDoorRows.lean that lists a variable, with what it lists TIED to the program's text (the seventh form; the later family's looks); each row that meets fmt, with fmt's text TOLD by the authors' own Lean function (tested against real Go, not proved from fmt's source: count such statements apart). THE CARD IS WHAT COUNTS. Prove the row's statement (the work); the ties are given (YtfgpbnncdfcjjabGreatDoorTie.lean); close each card by the builder's one call (the guide's Derived/Test/ToyasCard.lean, 'card_holds'). Laid BY PROGRAM, IN A SANDBOX (cutbox-door.mjs). By AI agents, Wed Nov 11 2026. No macro, syntax, notation, axiom, sorry.
-/
import Derived.Test.YtfgpbnncdfcjjabGreatDoorRows
import GoSem.ClaimSeven
namespace Go.Proofs.YtfgpbnncdfcjjabGreatDoor
namespace Rows

/-- THE TIED CARD OF 'laws.FnExactBrokenCycle'. -/
def fnExactBrokenCycleCard : Claim7 := { stood := { row := fnExactBrokenCycleRow, standIns := [], harness := (true, "5faab30a62f4683260ed2f54c716ac3e3403367c45d8074e8ba316d72a5d9ef1"), looks := false }, kinds := [], alts := [], laidByText := true, laidKinds := [.widerDeep], laidTests := true, laidLooks := .later }
def FnExactBrokenCycleCardSaid : Prop := Claim7.holds Tryz.pinned (.plain (OpenSpec.ofChange fnExactBrokenCycleSpec)) fnExactBrokenCycleCard

/-- THE TIED CARD OF 'laws.FnBrokenRule'. -/
def fnBrokenRuleCard : Claim7 := { stood := { row := fnBrokenRuleRow, standIns := [], harness := (true, "5faab30a62f4683260ed2f54c716ac3e3403367c45d8074e8ba316d72a5d9ef1"), looks := false }, kinds := [], alts := [], laidByText := true, laidKinds := [.widerDeep], laidTests := true, laidLooks := .later }
def FnBrokenRuleCardSaid : Prop := Claim7.holds Tryz.pinned (.plain (OpenSpec.ofChange fnBrokenRuleSpec)) fnBrokenRuleCard

/-- THE TIED CARD OF 'laws.FnRuleOrder'. -/
def fnRuleOrderCard : Claim7 := { stood := { row := fnRuleOrderRow, standIns := [], harness := (true, "5faab30a62f4683260ed2f54c716ac3e3403367c45d8074e8ba316d72a5d9ef1"), looks := false }, kinds := [], alts := [], laidByText := true, laidKinds := [.widerDeep], laidTests := true, laidLooks := .later }
def FnRuleOrderCardSaid : Prop := Claim7.holds Tryz.pinned (.plain (OpenSpec.ofChange fnRuleOrderSpec)) fnRuleOrderCard

/-- THE TIED CARD OF 'laws.FnBrokenCycle'. -/
def fnBrokenCycleCard : Claim7 := { stood := { row := fnBrokenCycleRow, standIns := [], harness := (true, "5faab30a62f4683260ed2f54c716ac3e3403367c45d8074e8ba316d72a5d9ef1"), looks := false }, kinds := [], alts := [], laidByText := true, laidKinds := [.widerDeep], laidTests := true, laidLooks := .later }
def FnBrokenCycleCardSaid : Prop := Claim7.holds Tryz.pinned (.plain (OpenSpec.ofChange fnBrokenCycleSpec)) fnBrokenCycleCard

/-- THE SECOND FORM's CARD OF 'laws.FnExactBrokenCycle'. -/
def fnExactBrokenCycleUptoCard : Claim7 := { stood := { row := fnExactBrokenCycleUptoRow, standIns := [], harness := (true, "5faab30a62f4683260ed2f54c716ac3e3403367c45d8074e8ba316d72a5d9ef1"), looks := false }, kinds := [], alts := [], laidByText := true, laidKinds := [.widerDeep], laidTests := true, laidLooks := .later }
def FnExactBrokenCycleUptoCardSaid : Prop := Claim7.holds Tryz.pinned (.plain (OpenSpec.upto fnExactBrokenCycleSpec)) fnExactBrokenCycleUptoCard

/-- THE SECOND FORM's CARD OF 'laws.FnBrokenRule'. -/
def fnBrokenRuleUptoCard : Claim7 := { stood := { row := fnBrokenRuleUptoRow, standIns := [], harness := (true, "5faab30a62f4683260ed2f54c716ac3e3403367c45d8074e8ba316d72a5d9ef1"), looks := false }, kinds := [], alts := [], laidByText := true, laidKinds := [.widerDeep], laidTests := true, laidLooks := .later }
def FnBrokenRuleUptoCardSaid : Prop := Claim7.holds Tryz.pinned (.plain (OpenSpec.upto fnBrokenRuleSpec)) fnBrokenRuleUptoCard

/-- THE SECOND FORM's CARD OF 'laws.FnRuleOrder'. -/
def fnRuleOrderUptoCard : Claim7 := { stood := { row := fnRuleOrderUptoRow, standIns := [], harness := (true, "5faab30a62f4683260ed2f54c716ac3e3403367c45d8074e8ba316d72a5d9ef1"), looks := false }, kinds := [], alts := [], laidByText := true, laidKinds := [.widerDeep], laidTests := true, laidLooks := .later }
def FnRuleOrderUptoCardSaid : Prop := Claim7.holds Tryz.pinned (.plain (OpenSpec.upto fnRuleOrderSpec)) fnRuleOrderUptoCard

/-- THE SECOND FORM's CARD OF 'laws.FnBrokenCycle'. -/
def fnBrokenCycleUptoCard : Claim7 := { stood := { row := fnBrokenCycleUptoRow, standIns := [], harness := (true, "5faab30a62f4683260ed2f54c716ac3e3403367c45d8074e8ba316d72a5d9ef1"), looks := false }, kinds := [], alts := [], laidByText := true, laidKinds := [.widerDeep], laidTests := true, laidLooks := .later }
def FnBrokenCycleUptoCardSaid : Prop := Claim7.holds Tryz.pinned (.plain (OpenSpec.upto fnBrokenCycleSpec)) fnBrokenCycleUptoCard
end Rows
end Go.Proofs.YtfgpbnncdfcjjabGreatDoor
