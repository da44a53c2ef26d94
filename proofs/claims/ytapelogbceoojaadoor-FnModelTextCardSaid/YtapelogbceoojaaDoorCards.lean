/-
  DERIVED. GIVEN WITH THE SEED: THE CARDS: each row of YtapelogbceoojaaDoorRows.lean that lists a variable, with what it lists TIED to the program's text (the seventh form; the later family's looks); each row that meets fmt, with fmt's text TOLD by the authors' own Lean function (tested against real Go, not proved from fmt's source: count such statements apart). THE CARD IS WHAT COUNTS. Prove the row's statement (the work); the ties are given (YtapelogbceoojaaDoorTie.lean); close each card by the builder's one call (the guide's Derived/Test/ToyasCard.lean, 'card_holds'). Laid BY PROGRAM, IN A SANDBOX (cutbox-door.mjs). By AI agents, Wed Nov 11 2026. No macro, syntax, notation, axiom, sorry.
-/
import Derived.Test.YtapelogbceoojaaDoorRows
import GoSem.ClaimSeven
namespace Go.Proofs.YtapelogbceoojaaDoor
namespace Rows

/-- THE TIED CARD OF 'laws.FnExactRelExprValid'. -/
def fnExactRelExprValidCard : Claim7 := { stood := { row := fnExactRelExprValidRow, standIns := [], harness := (true, "4d7f0148a343a89241c4b7baf0f815017e16117ebca2f1e1c69446dad36fa9ef"), looks := false }, kinds := [], alts := [], laidByText := true, laidKinds := [.widerDeep], laidTests := true, laidLooks := .later }
def FnExactRelExprValidCardSaid : Prop := Claim7.holds Tryd.pinned (.plain (OpenSpec.ofChange fnExactRelExprValidSpec)) fnExactRelExprValidCard

/-- THE TIED CARD OF 'laws.FnRelExprSame'. -/
def fnRelExprSameCard : Claim7 := { stood := { row := fnRelExprSameRow, standIns := [], harness := (true, "4d7f0148a343a89241c4b7baf0f815017e16117ebca2f1e1c69446dad36fa9ef"), looks := false }, kinds := [], alts := [], laidByText := true, laidKinds := [.widerDeep], laidTests := true, laidLooks := .later }
def FnRelExprSameCardSaid : Prop := Claim7.holds Tryd.pinned (.plain (OpenSpec.ofChange fnRelExprSameSpec)) fnRelExprSameCard

/-- THE TIED CARD OF 'laws.FnExactFormatRelExpr'. -/
def fnExactFormatRelExprCard : Claim7 := { stood := { row := fnExactFormatRelExprRow, standIns := [], harness := (true, "4d7f0148a343a89241c4b7baf0f815017e16117ebca2f1e1c69446dad36fa9ef"), looks := false }, kinds := [], alts := [], laidByText := true, laidKinds := [.widerDeep], laidTests := true, laidLooks := .later }
def FnExactFormatRelExprCardSaid : Prop := Claim7.holds Tryd.pinned (.plain (OpenSpec.ofChange fnExactFormatRelExprSpec)) fnExactFormatRelExprCard

/-- THE TIED CARD OF 'laws.FnExactModelValid'. -/
def fnExactModelValidCard : Claim7 := { stood := { row := fnExactModelValidRow, standIns := [], harness := (true, "4d7f0148a343a89241c4b7baf0f815017e16117ebca2f1e1c69446dad36fa9ef"), looks := false }, kinds := [], alts := [], laidByText := true, laidKinds := [.widerDeep], laidTests := true, laidLooks := .later }
def FnExactModelValidCardSaid : Prop := Claim7.holds Tryd.pinned (.plain (OpenSpec.ofChange fnExactModelValidSpec)) fnExactModelValidCard

/-- THE TIED CARD OF 'laws.FnExactParseRelExpr'. -/
def fnExactParseRelExprCard : Claim7 := { stood := { row := fnExactParseRelExprRow, standIns := [], harness := (true, "4d7f0148a343a89241c4b7baf0f815017e16117ebca2f1e1c69446dad36fa9ef"), looks := false }, kinds := [], alts := [], laidByText := true, laidKinds := [.widerDeep], laidTests := true, laidLooks := .later }
def FnExactParseRelExprCardSaid : Prop := Claim7.holds Tryd.pinned (.plain (OpenSpec.ofChange fnExactParseRelExprSpec)) fnExactParseRelExprCard

/-- THE TIED CARD OF 'laws.FnRelExprText'. -/
def fnRelExprTextCard : Claim7 := { stood := { row := fnRelExprTextRow, standIns := [], harness := (true, "4d7f0148a343a89241c4b7baf0f815017e16117ebca2f1e1c69446dad36fa9ef"), looks := false }, kinds := [], alts := [], laidByText := true, laidKinds := [.widerDeep], laidTests := true, laidLooks := .later }
def FnRelExprTextCardSaid : Prop := Claim7.holds Tryd.pinned (.plain (OpenSpec.ofChange fnRelExprTextSpec)) fnRelExprTextCard

/-- THE TIED CARD OF 'laws.FnExactFormatModel'. -/
def fnExactFormatModelCard : Claim7 := { stood := { row := fnExactFormatModelRow, standIns := [], harness := (true, "4d7f0148a343a89241c4b7baf0f815017e16117ebca2f1e1c69446dad36fa9ef"), looks := false }, kinds := [], alts := [], laidByText := true, laidKinds := [.widerDeep, .widerDeep], laidTests := true, laidLooks := .later }
def FnExactFormatModelCardSaid : Prop := Claim7.holds Tryd.pinned (.plain (OpenSpec.ofChange fnExactFormatModelSpec)) fnExactFormatModelCard

/-- THE TIED CARD OF 'laws.FnModelRules'. -/
def fnModelRulesCard : Claim7 := { stood := { row := fnModelRulesRow, standIns := [], harness := (true, "4d7f0148a343a89241c4b7baf0f815017e16117ebca2f1e1c69446dad36fa9ef"), looks := false }, kinds := [], alts := [], laidByText := true, laidKinds := [.widerDeep, .widerDeep], laidTests := true, laidLooks := .later }
def FnModelRulesCardSaid : Prop := Claim7.holds Tryd.pinned (.plain (OpenSpec.ofChange fnModelRulesSpec)) fnModelRulesCard

/-- THE TIED CARD OF 'laws.FnExactParseModel'. -/
def fnExactParseModelCard : Claim7 := { stood := { row := fnExactParseModelRow, standIns := [], harness := (true, "4d7f0148a343a89241c4b7baf0f815017e16117ebca2f1e1c69446dad36fa9ef"), looks := false }, kinds := [], alts := [], laidByText := true, laidKinds := [.data, .widerDeep, .widerDeep, .pinned], laidTests := true, laidLooks := .later }
def FnExactParseModelCardSaid : Prop := Claim7.holds Tryd.pinned (.plain (OpenSpec.ofChange fnExactParseModelSpec)) fnExactParseModelCard

/-- THE TIED CARD OF 'laws.FnModelText'. -/
def fnModelTextCard : Claim7 := { stood := { row := fnModelTextRow, standIns := [], harness := (true, "4d7f0148a343a89241c4b7baf0f815017e16117ebca2f1e1c69446dad36fa9ef"), looks := false }, kinds := [], alts := [], laidByText := true, laidKinds := [.data, .widerDeep, .widerDeep, .pinned], laidTests := true, laidLooks := .later }
def FnModelTextCardSaid : Prop := Claim7.holds Tryd.pinned (.plain (OpenSpec.ofChange fnModelTextSpec)) fnModelTextCard

/-- THE SECOND FORM's CARD OF 'laws.FnExactRelExprValid'. -/
def fnExactRelExprValidUptoCard : Claim7 := { stood := { row := fnExactRelExprValidUptoRow, standIns := [], harness := (true, "4d7f0148a343a89241c4b7baf0f815017e16117ebca2f1e1c69446dad36fa9ef"), looks := false }, kinds := [], alts := [], laidByText := true, laidKinds := [.widerDeep], laidTests := true, laidLooks := .later }
def FnExactRelExprValidUptoCardSaid : Prop := Claim7.holds Tryd.pinned (.plain (OpenSpec.upto fnExactRelExprValidSpec)) fnExactRelExprValidUptoCard

/-- THE SECOND FORM's CARD OF 'laws.FnRelExprSame'. -/
def fnRelExprSameUptoCard : Claim7 := { stood := { row := fnRelExprSameUptoRow, standIns := [], harness := (true, "4d7f0148a343a89241c4b7baf0f815017e16117ebca2f1e1c69446dad36fa9ef"), looks := false }, kinds := [], alts := [], laidByText := true, laidKinds := [.widerDeep], laidTests := true, laidLooks := .later }
def FnRelExprSameUptoCardSaid : Prop := Claim7.holds Tryd.pinned (.plain (OpenSpec.upto fnRelExprSameSpec)) fnRelExprSameUptoCard

/-- THE SECOND FORM's CARD OF 'laws.FnExactFormatRelExpr'. -/
def fnExactFormatRelExprUptoCard : Claim7 := { stood := { row := fnExactFormatRelExprUptoRow, standIns := [], harness := (true, "4d7f0148a343a89241c4b7baf0f815017e16117ebca2f1e1c69446dad36fa9ef"), looks := false }, kinds := [], alts := [], laidByText := true, laidKinds := [.widerDeep], laidTests := true, laidLooks := .later }
def FnExactFormatRelExprUptoCardSaid : Prop := Claim7.holds Tryd.pinned (.plain (OpenSpec.upto fnExactFormatRelExprSpec)) fnExactFormatRelExprUptoCard

/-- THE SECOND FORM's CARD OF 'laws.FnExactModelValid'. -/
def fnExactModelValidUptoCard : Claim7 := { stood := { row := fnExactModelValidUptoRow, standIns := [], harness := (true, "4d7f0148a343a89241c4b7baf0f815017e16117ebca2f1e1c69446dad36fa9ef"), looks := false }, kinds := [], alts := [], laidByText := true, laidKinds := [.widerDeep], laidTests := true, laidLooks := .later }
def FnExactModelValidUptoCardSaid : Prop := Claim7.holds Tryd.pinned (.plain (OpenSpec.upto fnExactModelValidSpec)) fnExactModelValidUptoCard

/-- THE SECOND FORM's CARD OF 'laws.FnExactParseRelExpr'. -/
def fnExactParseRelExprUptoCard : Claim7 := { stood := { row := fnExactParseRelExprUptoRow, standIns := [], harness := (true, "4d7f0148a343a89241c4b7baf0f815017e16117ebca2f1e1c69446dad36fa9ef"), looks := false }, kinds := [], alts := [], laidByText := true, laidKinds := [.widerDeep], laidTests := true, laidLooks := .later }
def FnExactParseRelExprUptoCardSaid : Prop := Claim7.holds Tryd.pinned (.plain (OpenSpec.upto fnExactParseRelExprSpec)) fnExactParseRelExprUptoCard

/-- THE SECOND FORM's CARD OF 'laws.FnRelExprText'. -/
def fnRelExprTextUptoCard : Claim7 := { stood := { row := fnRelExprTextUptoRow, standIns := [], harness := (true, "4d7f0148a343a89241c4b7baf0f815017e16117ebca2f1e1c69446dad36fa9ef"), looks := false }, kinds := [], alts := [], laidByText := true, laidKinds := [.widerDeep], laidTests := true, laidLooks := .later }
def FnRelExprTextUptoCardSaid : Prop := Claim7.holds Tryd.pinned (.plain (OpenSpec.upto fnRelExprTextSpec)) fnRelExprTextUptoCard

/-- THE SECOND FORM's CARD OF 'laws.FnExactFormatModel'. -/
def fnExactFormatModelUptoCard : Claim7 := { stood := { row := fnExactFormatModelUptoRow, standIns := [], harness := (true, "4d7f0148a343a89241c4b7baf0f815017e16117ebca2f1e1c69446dad36fa9ef"), looks := false }, kinds := [], alts := [], laidByText := true, laidKinds := [.widerDeep, .widerDeep], laidTests := true, laidLooks := .later }
def FnExactFormatModelUptoCardSaid : Prop := Claim7.holds Tryd.pinned (.plain (OpenSpec.upto fnExactFormatModelSpec)) fnExactFormatModelUptoCard

/-- THE SECOND FORM's CARD OF 'laws.FnModelRules'. -/
def fnModelRulesUptoCard : Claim7 := { stood := { row := fnModelRulesUptoRow, standIns := [], harness := (true, "4d7f0148a343a89241c4b7baf0f815017e16117ebca2f1e1c69446dad36fa9ef"), looks := false }, kinds := [], alts := [], laidByText := true, laidKinds := [.widerDeep, .widerDeep], laidTests := true, laidLooks := .later }
def FnModelRulesUptoCardSaid : Prop := Claim7.holds Tryd.pinned (.plain (OpenSpec.upto fnModelRulesSpec)) fnModelRulesUptoCard

/-- THE SECOND FORM's CARD OF 'laws.FnExactParseModel'. -/
def fnExactParseModelUptoCard : Claim7 := { stood := { row := fnExactParseModelUptoRow, standIns := [], harness := (true, "4d7f0148a343a89241c4b7baf0f815017e16117ebca2f1e1c69446dad36fa9ef"), looks := false }, kinds := [], alts := [], laidByText := true, laidKinds := [.data, .widerDeep, .widerDeep, .pinned], laidTests := true, laidLooks := .later }
def FnExactParseModelUptoCardSaid : Prop := Claim7.holds Tryd.pinned (.plain (OpenSpec.upto fnExactParseModelSpec)) fnExactParseModelUptoCard

/-- THE SECOND FORM's CARD OF 'laws.FnModelText'. -/
def fnModelTextUptoCard : Claim7 := { stood := { row := fnModelTextUptoRow, standIns := [], harness := (true, "4d7f0148a343a89241c4b7baf0f815017e16117ebca2f1e1c69446dad36fa9ef"), looks := false }, kinds := [], alts := [], laidByText := true, laidKinds := [.data, .widerDeep, .widerDeep, .pinned], laidTests := true, laidLooks := .later }
def FnModelTextUptoCardSaid : Prop := Claim7.holds Tryd.pinned (.plain (OpenSpec.upto fnModelTextSpec)) fnModelTextUptoCard
end Rows
end Go.Proofs.YtapelogbceoojaaDoor
