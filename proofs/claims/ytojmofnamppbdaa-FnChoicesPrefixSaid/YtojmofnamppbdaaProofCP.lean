/-
  For any two slices of bytes that can be read, FnChoicesPrefix answers true and leaves its argument as it was. No condition.
-/
import Derived.Test.YtojmofnamppbdaaLawCP
import Derived.Test.YtojmofnamppbdaaOpenB
import Derived.Test.YtojmofnamppbdaaShut
namespace Go.Proofs.Ytojmofnamppbdaa.fnChoicesPrefix
open Go.RowKit Go.ChangeShapes Go.WideShapes Go.ChangeAt
set_option linter.unusedVariables false
set_option maxRecDepth 100000
theorem own:ownKnob Try.prog.godebug=none:=by kernel_rfl
theorem laidOut:laidOutB Try.prog=true:=by kernel_rfl
theorem param (t:TypeId) (ht:t∈Try.f4.params.toList):Try.prog.readableRec t=true∧t<Try.prog.types.size:=by
 rw [Try.params4] at ht
 simp only [List.mem_cons,List.not_mem_nil,or_false] at ht
 rcases ht with rfl | rfl
 all_goals exact⟨by kernel_rfl,of_decide_eq_true (by kernel_rfl)⟩
theorem lifted (os:Os) (started:os.Started) (H:Type) (enc:TypeId×Value→H):
  ReturnsInHanded {} Try.checked os 4 .any (Rows.fnChoicesPrefixSpec.pre6 enc Try.prog Try.f4 Rows.fnChoicesPrefixRow.domain false) (Rows.fnChoicesPrefixSpec.post enc Try.prog Try.f4 false true false false):=by
 refine returnsInHanded_of_change (C:=Try.checked) own started (by kernel_rfl) Try.func4
  (ChangeSpec.witness6 (enc:=enc) (C:=Try.checked) false ⟨#[],#[.slice none 0 0,.slice none 0 0],[]⟩ 8 (by kernel_rfl) (by kernel_rfl) (by kernel_rfl) (by kernel_rfl)) ?_
 intro W base args ds gs before hval hW _ _
 refine law_post_at (s:=Rows.fnChoicesPrefixSpec) laidOut rfl rfl Try.underlying4 ?_ param W args ds gs before ?_ hW
 ·intro ds hds
  match ds,hds with
  | [d0,d1],_=>rfl
 ·intro ps hA
  rw [Try.params4] at hA
  obtain⟨v0,v1,d0,d1,p0,p1,rfl,rfl,rfl,h0,h1⟩:=trodAll_two hA
  obtain⟨A,n,c,rfl,hb,hnc,hN⟩:=open_bytes h0 (hval 0 _ _ (by kernel_rfl) rfl)
  obtain⟨A',n',c',rfl,hb',_,_⟩:=open_bytes h1 (hval 1 _ _ (by kernel_rfl) rfl)
  exact lawCP_walk W A n c hb hnc hN A' n' c' hb'
theorem said:Rows.FnChoicesPrefixSaid:=
 OpenClaim.holds_of_wide 4 Try.f4 rfl rfl rfl rfl rfl rfl rfl ⟨rfl,rfl,rfl,rfl,rfl⟩ rfl rfl rfl rfl rfl (by kernel_rfl) Try.func4 (by kernel_rfl)
  (of_decide_eq_true (by kernel_rfl)) (by unfold Func.isWrapper; first | (rw [if_pos (by decide +kernel)]; kernel_rfl) | (rw [if_neg (by decide +kernel)]; exact⟨rfl,rfl⟩))
  (fun os started H enc _=>lifted os started H enc)
end Go.Proofs.Ytojmofnamppbdaa.fnChoicesPrefix
