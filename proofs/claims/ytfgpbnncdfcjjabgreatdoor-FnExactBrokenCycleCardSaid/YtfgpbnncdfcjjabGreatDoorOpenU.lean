/-
  An argument that is a slice of rules, opened.
-/
import Derived.Test.YtfgpbnncdfcjjabGreatDoorOpenE
import Derived.Test.YtfgpbnncdfcjjabGreatDoorRE
namespace Go.Proofs.YtfgpbnncdfcjjabGreatDoor
open Go.RowKit Go.ChangeShapes Go.WideShapes Go.ChangeAt Go.Deep
set_option linter.unusedVariables false
set_option maxRecDepth 100000
variable {H : Type} {enc : TypeId × Value → H} {w : World} {base : Nat} {spare : Nat → Bool} {held : Bool}

theorem Tryz.cellsRule : Tryz.prog.cellsOf 70 = 4 := by kernel_rfl

theorem rule_of_trod (fuel : Nat) (cs : List Value) (x : DataW H × List MemPlace) (h : DataW.trod enc Tryz.prog w base spare held fuel 70 cs = some x) :
    ∃ r : RU, RepU w (fun j => cs.getD j undef) r := by
  obtain ⟨xs, n, hn, _, hlen, hxs, hf⟩ := DataW.trod_struct Tryz.underlying70 h
  rw [Tryz.cellsRule] at hlen
  match cs, hlen with
  | [c0, c1, c2, c3], _ =>
    have l0 : xs.length = 2 := hxs
    have h0 : DataW.trod enc Tryz.prog w base spare held n 3 [c0] = xs[0]? := by simpa [Tryz.cellsInt] using hf 0 _ rfl
    have h1 : DataW.trod enc Tryz.prog w base spare held n 68 [c1, c2, c3] = xs[1]? := by simpa [Tryz.cellsRE] using hf 1 _ rfl
    rw [List.getElem?_eq_getElem (by omega)] at h0 h1
    obtain ⟨kind, e0, _, _⟩ := DataW.trod_int Tryz.underlying3 h0
    obtain ⟨e, _, he⟩ := re_of_trod n _ _ h1
    simp only [List.cons.injEq, and_true] at e0
    subst e0
    exact ⟨⟨kind, e⟩, rfl, he.congr fun j hj => by match j, hj with
      | 0, _ => rfl
      | 1, _ => rfl
      | 2, _ => rfl⟩

/-- An argument of type []Rule. -/
theorem open_rules {v : Value} {d : DataW H} {ps : List MemPlace} (h : DataW.Trod enc Tryz.prog w base spare held 27 v d ps) {W : World} {r : Reach} {b : Nat} (hok : Value.okWide Tryz.prog W r b 27 v) : ∃ rs : List RU, SlR 4 RepU w v rs := by
  obtain ⟨fuel, hf⟩ := h
  obtain ⟨A, c, rs, e, hk⟩ := slR_of_trod (k := 4) (R := RepU) Tryz.underlying27 Tryz.cellsRule (by omega) hf (fun m cs' x' hm hl hx => rule_of_trod m cs' x' hx)
  rw [slice_of_cells Tryz.underlying27 hok e]
  exact ⟨rs, hk⟩
end Go.Proofs.YtfgpbnncdfcjjabGreatDoor
