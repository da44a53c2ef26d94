/-
  The walks of DrawRelExprValid, DrawFormatRelExpr, DrawRelExprSame.
-/
import Derived.Test.YtfgpbnncdfcjjaaGreatDoorMut2
import Derived.Deep.RegionWith
namespace Go.Proofs.YtfgpbnncdfcjjaaGreatDoor
open Go.RowKit
set_option linter.unusedVariables false
set_option maxRecDepth 100000

/-- One expression that was drawn. -/
def RetDr (w : World) (e : Ending) (w' : World) : Prop :=
  ∃ (x : RE) (A : Option Addr) (c : Nat), e = .returned (.agg #[.int .i64 x.op, .string x.name, .slice A x.kids.length c]) ∧ RepK (above w.heap.size w') A c x ∧ cntE x ≤ 100 ∧ x.name.size ≤ 300 ∧ Below w.heap.size w w'

theorem le_res3 {V : World} {R B : Nat} (h : B ≤ R) (v0 v1 v2 : Value) (m : Nat) (hm : m ≤ R + 1) : Le (above (R + 1) V) (above m (((V.setCell ⟨B, 0, none⟩ v0).setCell ⟨B, 1, none⟩ v1).setCell ⟨B, 2, none⟩ v2)) :=
  (((Le.above_setCell _ _ (p := ⟨B, 0, none⟩) (by show B < R + 1; omega) _).trans (Le.above_setCell _ _ (p := ⟨B, 1, none⟩) (by show B < R + 1; omega) _)).trans (Le.above_setCell _ _ (p := ⟨B, 2, none⟩) (by show B < R + 1; omega) _)).trans (Le.above_mono hm _)
theorem cntE_kids' (e : RE) : cntE e = 1 + cntL e.kids := by obtain ⟨op, name, kids⟩ := e; rw [cntE]; rfl
theorem cnt_kids (xs : List RE) : xs.length ≤ cntL xs := by
  induction xs with
  | nil => simp [cntL]
  | cons e es ih => rw [cntL, List.length_cons]; have := cntE_kids' e; omega
theorem OwE.rep_above {w : World} {A : Option Addr} {c R : Nat} {x : RE} {F : List Nat} (h : OwE w (.slice A x.kids.length c) x.kids F) (hn : x.name.size ≤ 300) (hF : ∀ b ∈ F, R + 1 ≤ b) : RepK (above (R + 1) w) A c x := ⟨by omega, h.rep hF⟩

/-- Two expressions that were drawn. -/
def RetDr2 (w : World) (e : Ending) (w' : World) : Prop :=
  ∃ (x y : RE) (A A' : Option Addr) (c c' : Nat), e = .returned (.tuple #[.agg #[.int .i64 x.op, .string x.name, .slice A x.kids.length c], .agg #[.int .i64 y.op, .string y.name, .slice A' y.kids.length c']]) ∧ RepK (above w.heap.size w') A c x ∧ RepK (above w.heap.size w') A' c' y ∧ Below w.heap.size w w'

end Go.Proofs.YtfgpbnncdfcjjaaGreatDoor
