/-
  An argument that is a slice of integers, opened.
-/
import Derived.Test.YtojmofnamppbdaaOpenP
import Derived.Test.YtojmofnamppbdaaInts
namespace Go.Proofs.Ytojmofnamppbdaa
open Go.RowKit Go.ChangeShapes Go.WideShapes Go.ChangeAt Go.Deep
set_option linter.unusedVariables false
set_option maxRecDepth 100000
variable {H:Type} {enc:TypeId×Value→H} {w:World} {base:Nat} {spare:Nat→Bool} {held:Bool}
theorem open_ints {v:Value} {d:DataW H} {ps:List MemPlace} (h:DataW.Trod enc Try.prog w base spare held 23 v d ps) {W:World} {r:Reach} {b:Nat} (hok:Value.okWide Try.prog W r b 23 v):∃ A c,∃ xs:List Int,v=.slice A xs.length c∧Ints w A c xs:=by
 obtain⟨fuel,hf⟩:=h
 obtain⟨A,c,xs,e,hk⟩:=slR_of_trod (k:=1) (R:=RInt) Try.underlying23 Try.cellsIntP (by omega) hf fun n cs' x' _ _ hx=>by
  obtain⟨n,e,_,_⟩:=DataW.trod_int Try.underlying3 hx
  exact⟨n,by rw [e]; rfl⟩
 rw [slice_of_cells Try.underlying23 hok e]
 exact⟨A,c,xs,rfl,hk⟩
end Go.Proofs.Ytojmofnamppbdaa
