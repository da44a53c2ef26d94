/-
  For every two candidates that can be read, FnExactExecSame answers true and leaves its arguments as they were. No condition.
-/
import Derived.Test.YtedmbekmhjojpaaLawX
import Derived.Test.YtedmbekmhjojpaaOpenX
namespace Go.Proofs.Ytedmbekmhjojpaa
open Go.RowKit Go.ChangeShapes Go.WideShapes Go.ChangeAt
set_option linter.unusedVariables false

theorem Try.own : ownKnob Try.prog.godebug = none := by kernel_rfl
theorem Try.laidOut : laidOutB Try.prog = true := by kernel_rfl

set_option maxRecDepth 100000 in
theorem execSame_lifted (os : Os) (started : os.Started) (H : Type) (enc : TypeId × Value → H) :
    ReturnsInHanded {} Try.checked os 4 .any (Rows.fnExactExecSameSpec.pre6 enc Try.prog Try.f4 Rows.fnExactExecSameRow.domain false) (Rows.fnExactExecSameSpec.post enc Try.prog Try.f4 false true false false) := by
  refine returnsInHanded_of_change (C := Try.checked) Try.own started (by kernel_rfl) Try.func4
    (ChangeSpec.witness6 (enc := enc) (C := Try.checked) false ⟨#[], #[.agg #[.slice none 0 0, .slice none 0 0], .agg #[.slice none 0 0, .slice none 0 0]], []⟩ 8 (by kernel_rfl) (by kernel_rfl) (by kernel_rfl) (by kernel_rfl)) ?_
  intro W base args ds gs before hval0 hW _ _
  refine law_post Try.laidOut rfl rfl Try.underlying4 ?_ ?_ ?_ W args ds gs before hW
  · intro ds hds
    match ds, hds with
    | [d0, d1], _ => rfl
  · intro t ht
    rw [Try.params4] at ht
    simp only [List.mem_cons, List.not_mem_nil, or_false, or_self] at ht
    subst ht
    exact ⟨by kernel_rfl, of_decide_eq_true (by kernel_rfl)⟩
  · intro W args ds ps hA
    rw [Try.params4] at hA
    obtain ⟨v0, v1, d0, d1, p0, p1, rfl, rfl, rfl, h0, h1⟩ := trodAll_two hA
    obtain ⟨x, A, c, B, d, rfl, hx⟩ := open_x h0
    obtain ⟨y, A', c', B', d', rfl, hy⟩ := open_x h1
    exact lawX_walk x y W A B A' B' c d c' d' hx hy

theorem execSame_holds : Rows.FnExactExecSameSaid :=
  OpenClaim.holds_of_wide 4 Try.f4 rfl rfl rfl rfl rfl rfl rfl ⟨rfl, rfl, rfl, rfl, rfl⟩ rfl rfl rfl rfl rfl (by kernel_rfl) Try.func4 (by kernel_rfl)
    (of_decide_eq_true (by kernel_rfl)) (by unfold Func.isWrapper; first | (rw [if_pos (by decide +kernel)]; kernel_rfl) | (rw [if_neg (by decide +kernel)]; exact ⟨rfl, rfl⟩))
    (fun os started H enc _ => execSame_lifted os started H enc)

end Go.Proofs.Ytedmbekmhjojpaa
