/-
  For every slice of bytes that can be read, FnRunRa answers true and leaves its argument as it was. No condition.
-/
import Derived.Test.YtojmofnamppbdaaGreatLawVr
import Derived.Test.YtojmofnamppbdaaGreatOpenB
import Derived.Test.YtojmofnamppbdaaGreatShut
namespace Go.Proofs.YtojmofnamppbdaaGreat.fnRunRa
open Go.RowKit Go.ChangeShapes Go.WideShapes Go.ChangeAt
set_option linter.unusedVariables false
set_option maxRecDepth 100000
theorem own:ownKnob Tryz.prog.godebug=none:=by kernel_rfl
theorem laidOut:laidOutB Tryz.prog=true:=by kernel_rfl
theorem param (t:TypeId) (ht:t∈Tryz.f3.params.toList):Tryz.prog.readableRec t=true∧t<Tryz.prog.types.size:=by
 rw [Tryz.params3] at ht
 simp only [List.mem_cons,List.not_mem_nil,or_false] at ht
 rcases ht with rfl
 all_goals exact⟨by kernel_rfl,of_decide_eq_true (by kernel_rfl)⟩
theorem lifted (os:Os) (started:os.Started) (H:Type) (enc:TypeId×Value→H):
  ReturnsInHanded {} Tryz.checked os 3 .any (Rows.fnRunRaSpec.pre6 enc Tryz.prog Tryz.f3 Rows.fnRunRaRow.domain false) (Rows.fnRunRaSpec.post enc Tryz.prog Tryz.f3 false true false false):=by
 refine returnsInHanded_of_change (C:=Tryz.checked) own started (by kernel_rfl) Tryz.func3
  (ChangeSpec.witness6 (enc:=enc) (C:=Tryz.checked) false ⟨#[],#[.slice none 0 0],[]⟩ 8 (by kernel_rfl) (by kernel_rfl) (by kernel_rfl) (by kernel_rfl)) ?_
 intro W base args ds gs before hval hW _ _
 refine law_post_at (s:=Rows.fnRunRaSpec) laidOut rfl rfl Tryz.underlying4 ?_ param W args ds gs before ?_ hW
 ·intro ds hds
  match ds,hds with
  | [d0],_=>rfl
 ·intro ps hA
  rw [Tryz.params3] at hA
  obtain⟨v0,d0,rfl,rfl,h0⟩:=trodAll_one hA
  obtain⟨A,n,c,rfl,hb,hnc,hN⟩:=open_bytes h0 (hval 0 _ _ (by kernel_rfl) rfl)
  exact lawVr_walk W A n c hb hnc hN
theorem said:Rows.FnRunRaSaid:=
 OpenClaim.holds_of_wide 3 Tryz.f3 rfl rfl rfl rfl rfl rfl rfl ⟨rfl,rfl,rfl,rfl,rfl⟩ rfl rfl rfl rfl rfl (by kernel_rfl) Tryz.func3 (by kernel_rfl)
  (of_decide_eq_true (by kernel_rfl)) (by unfold Func.isWrapper; first | (rw [if_pos (by decide +kernel)]; kernel_rfl) | (rw [if_neg (by decide +kernel)]; exact⟨rfl,rfl⟩))
  (fun os started H enc _=>lifted os started H enc)
end Go.Proofs.YtojmofnamppbdaaGreat.fnRunRa
