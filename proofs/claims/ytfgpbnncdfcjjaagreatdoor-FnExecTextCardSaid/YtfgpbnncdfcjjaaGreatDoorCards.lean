/-
  DERIVED. GIVEN WITH THE SEED: THE CARDS: each row of YtfgpbnncdfcjjaaGreatDoorRows.lean that lists a variable, with what it lists TIED to the program's text (the seventh form; the later family's looks); each row that meets fmt, with fmt's text TOLD by the authors' own Lean function (tested against real Go, not proved from fmt's source: count such statements apart). THE CARD IS WHAT COUNTS. Prove the row's statement (the work); the ties are given (YtfgpbnncdfcjjaaGreatDoorTie.lean); close each card by the builder's one call (the guide's Derived/Test/ToyasCard.lean, 'card_holds'). Laid BY PROGRAM, IN A SANDBOX (cutbox-door.mjs). By AI agents, Wed Nov 11 2026. No macro, syntax, notation, axiom, sorry.
-/
import Derived.Test.YtfgpbnncdfcjjaaGreatDoorRows
import GoSem.ClaimSeven
namespace Go.Proofs.YtfgpbnncdfcjjaaGreatDoor
namespace Rows

/-- THE TIED CARD OF 'laws.FnRelOf'. -/
def fnRelOfCard : Claim7 := { stood := { row := fnRelOfRow, standIns := [], harness := (true, "2a2771ea3a45cfe4094d4942d93a766d222bc7745466fcf0afa3e74931723221"), looks := false }, kinds := [], alts := [], laidByText := true, laidKinds := [.widerDeep], laidTests := true, laidLooks := .later }
def FnRelOfCardSaid : Prop := Claim7.holds Tryz.pinned (.plain (OpenSpec.ofChange fnRelOfSpec)) fnRelOfCard

/-- THE TIED CARD OF 'laws.FnExactEvalRelExpr'. -/
def fnExactEvalRelExprCard : Claim7 := { stood := { row := fnExactEvalRelExprRow, standIns := [], harness := (true, "2a2771ea3a45cfe4094d4942d93a766d222bc7745466fcf0afa3e74931723221"), looks := false }, kinds := [], alts := [], laidByText := true, laidKinds := [.widerDeep], laidTests := true, laidLooks := .later }
def FnExactEvalRelExprCardSaid : Prop := Claim7.holds Tryz.pinned (.plain (OpenSpec.ofChange fnExactEvalRelExprSpec)) fnExactEvalRelExprCard

/-- THE TIED CARD OF 'laws.FnEvalMonotone'. -/
def fnEvalMonotoneCard : Claim7 := { stood := { row := fnEvalMonotoneRow, standIns := [], harness := (true, "2a2771ea3a45cfe4094d4942d93a766d222bc7745466fcf0afa3e74931723221"), looks := false }, kinds := [], alts := [], laidByText := true, laidKinds := [.widerDeep], laidTests := true, laidLooks := .later }
def FnEvalMonotoneCardSaid : Prop := Claim7.holds Tryz.pinned (.plain (OpenSpec.ofChange fnEvalMonotoneSpec)) fnEvalMonotoneCard

/-- THE TIED CARD OF 'laws.FnEvalRelExpr'. -/
def fnEvalRelExprCard : Claim7 := { stood := { row := fnEvalRelExprRow, standIns := [], harness := (true, "2a2771ea3a45cfe4094d4942d93a766d222bc7745466fcf0afa3e74931723221"), looks := false }, kinds := [], alts := [], laidByText := true, laidKinds := [.widerDeep], laidTests := true, laidLooks := .later }
def FnEvalRelExprCardSaid : Prop := Claim7.holds Tryz.pinned (.plain (OpenSpec.ofChange fnEvalRelExprSpec)) fnEvalRelExprCard

/-- THE TIED CARD OF 'laws.FnExecText'. -/
def fnExecTextCard : Claim7 := { stood := { row := fnExecTextRow, standIns := [], harness := (true, "2a2771ea3a45cfe4094d4942d93a766d222bc7745466fcf0afa3e74931723221"), looks := false }, kinds := [], alts := [], laidByText := true, laidKinds := [.data, .data, .data], laidTests := true, laidLooks := .later }
def FnExecTextCardSaid : Prop := Claim7.holds Tryz.pinned (.plain (OpenSpec.ofChange fnExecTextSpec)) fnExecTextCard

/-- THE TIED CARD OF 'laws.FnRuleKinds'. -/
def fnRuleKindsCard : Claim7 := { stood := { row := fnRuleKindsRow, standIns := [], harness := (true, "2a2771ea3a45cfe4094d4942d93a766d222bc7745466fcf0afa3e74931723221"), looks := false }, kinds := [], alts := [], laidByText := true, laidKinds := [.widerDeep], laidTests := true, laidLooks := .later }
def FnRuleKindsCardSaid : Prop := Claim7.holds Tryz.pinned (.plain (OpenSpec.ofChange fnRuleKindsSpec)) fnRuleKindsCard

/-- THE TIED CARD OF 'laws.FnExactBrokenRule'. -/
def fnExactBrokenRuleCard : Claim7 := { stood := { row := fnExactBrokenRuleRow, standIns := [], harness := (true, "2a2771ea3a45cfe4094d4942d93a766d222bc7745466fcf0afa3e74931723221"), looks := false }, kinds := [], alts := [], laidByText := true, laidKinds := [.widerDeep], laidTests := true, laidLooks := .later }
def FnExactBrokenRuleCardSaid : Prop := Claim7.holds Tryz.pinned (.plain (OpenSpec.ofChange fnExactBrokenRuleSpec)) fnExactBrokenRuleCard

/-- THE SECOND FORM's CARD OF 'laws.FnRelOf'. -/
def fnRelOfUptoCard : Claim7 := { stood := { row := fnRelOfUptoRow, standIns := [], harness := (true, "2a2771ea3a45cfe4094d4942d93a766d222bc7745466fcf0afa3e74931723221"), looks := false }, kinds := [], alts := [], laidByText := true, laidKinds := [.widerDeep], laidTests := true, laidLooks := .later }
def FnRelOfUptoCardSaid : Prop := Claim7.holds Tryz.pinned (.plain (OpenSpec.upto fnRelOfSpec)) fnRelOfUptoCard

/-- THE SECOND FORM's CARD OF 'laws.FnExactEvalRelExpr'. -/
def fnExactEvalRelExprUptoCard : Claim7 := { stood := { row := fnExactEvalRelExprUptoRow, standIns := [], harness := (true, "2a2771ea3a45cfe4094d4942d93a766d222bc7745466fcf0afa3e74931723221"), looks := false }, kinds := [], alts := [], laidByText := true, laidKinds := [.widerDeep], laidTests := true, laidLooks := .later }
def FnExactEvalRelExprUptoCardSaid : Prop := Claim7.holds Tryz.pinned (.plain (OpenSpec.upto fnExactEvalRelExprSpec)) fnExactEvalRelExprUptoCard

/-- THE SECOND FORM's CARD OF 'laws.FnEvalMonotone'. -/
def fnEvalMonotoneUptoCard : Claim7 := { stood := { row := fnEvalMonotoneUptoRow, standIns := [], harness := (true, "2a2771ea3a45cfe4094d4942d93a766d222bc7745466fcf0afa3e74931723221"), looks := false }, kinds := [], alts := [], laidByText := true, laidKinds := [.widerDeep], laidTests := true, laidLooks := .later }
def FnEvalMonotoneUptoCardSaid : Prop := Claim7.holds Tryz.pinned (.plain (OpenSpec.upto fnEvalMonotoneSpec)) fnEvalMonotoneUptoCard

/-- THE SECOND FORM's CARD OF 'laws.FnEvalRelExpr'. -/
def fnEvalRelExprUptoCard : Claim7 := { stood := { row := fnEvalRelExprUptoRow, standIns := [], harness := (true, "2a2771ea3a45cfe4094d4942d93a766d222bc7745466fcf0afa3e74931723221"), looks := false }, kinds := [], alts := [], laidByText := true, laidKinds := [.widerDeep], laidTests := true, laidLooks := .later }
def FnEvalRelExprUptoCardSaid : Prop := Claim7.holds Tryz.pinned (.plain (OpenSpec.upto fnEvalRelExprSpec)) fnEvalRelExprUptoCard

/-- THE SECOND FORM's CARD OF 'laws.FnExecText'. -/
def fnExecTextUptoCard : Claim7 := { stood := { row := fnExecTextUptoRow, standIns := [], harness := (true, "2a2771ea3a45cfe4094d4942d93a766d222bc7745466fcf0afa3e74931723221"), looks := false }, kinds := [], alts := [], laidByText := true, laidKinds := [.data, .data, .data], laidTests := true, laidLooks := .later }
def FnExecTextUptoCardSaid : Prop := Claim7.holds Tryz.pinned (.plain (OpenSpec.upto fnExecTextSpec)) fnExecTextUptoCard

/-- THE SECOND FORM's CARD OF 'laws.FnRuleKinds'. -/
def fnRuleKindsUptoCard : Claim7 := { stood := { row := fnRuleKindsUptoRow, standIns := [], harness := (true, "2a2771ea3a45cfe4094d4942d93a766d222bc7745466fcf0afa3e74931723221"), looks := false }, kinds := [], alts := [], laidByText := true, laidKinds := [.widerDeep], laidTests := true, laidLooks := .later }
def FnRuleKindsUptoCardSaid : Prop := Claim7.holds Tryz.pinned (.plain (OpenSpec.upto fnRuleKindsSpec)) fnRuleKindsUptoCard

/-- THE SECOND FORM's CARD OF 'laws.FnExactBrokenRule'. -/
def fnExactBrokenRuleUptoCard : Claim7 := { stood := { row := fnExactBrokenRuleUptoRow, standIns := [], harness := (true, "2a2771ea3a45cfe4094d4942d93a766d222bc7745466fcf0afa3e74931723221"), looks := false }, kinds := [], alts := [], laidByText := true, laidKinds := [.widerDeep], laidTests := true, laidLooks := .later }
def FnExactBrokenRuleUptoCardSaid : Prop := Claim7.holds Tryz.pinned (.plain (OpenSpec.upto fnExactBrokenRuleSpec)) fnExactBrokenRuleUptoCard
end Rows
end Go.Proofs.YtfgpbnncdfcjjaaGreatDoor
