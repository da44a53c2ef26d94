/-
  Outcomes with views against those of one memory.
-/
import Derived.Test.YtojmofnamppbdaaGreatSqV
import Derived.Test.YtojmofnamppbdaaGreatWmA
import Derived.Test.YtojmofnamppbdaaGreatVsZ
namespace Go.Proofs.YtojmofnamppbdaaGreat
open Go.RowKit
set_option linter.unusedVariables false
set_option maxRecDepth 100000
theorem OwI2.formV {w:World} {v:Value} {L:List (List Int)} {F:List Nat} (h:OwI2 w v L F):∃ A c,v=.slice A L.length c:=by
 obtain⟨A,c,e,_⟩:=OwRow.slice h
 exact⟨A,c,e⟩
theorem outV_eq {p:Prg} {L M:List (List Int)} (hp:PrgOk p) (h:IsOutV p L) (k:IsOut p M) (he:∀ y,OutV p y→OutS p y):L=M:=
 asc_uniq L M h.asc k.asc fun x=>by
  rw [h.iff hp,k.iff hp]
  exact⟨he x,fun h=>ra_sc hp h⟩
end Go.Proofs.YtojmofnamppbdaaGreat
