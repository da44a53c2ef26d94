/-
  Marks: ints and slices of ints of one's own.
-/
import Derived.Test.YtojmofnamppbdaaGreatRwS
import Derived.Test.YtojmofnamppbdaaGreatWInsP
namespace Go.Proofs.YtojmofnamppbdaaGreat
open Go.RowKit
set_option linter.unusedVariables false
set_option maxRecDepth 100000
abbrev OwI1 (w:World) (v:Value) (xs:List Int) (F:List Nat):Prop:=OwRow 1 3 (flat QInt) w v xs F
def PI1:OwP (List Int):=sub 1 3 (flat QInt)
theorem pi1_loc:OwLoc 1 PI1:=sub_loc (flat_loc qint_congr)
abbrev OwI2 (w:World) (v:Value) (xs:List (List Int)) (F:List Nat):Prop:=OwRow 1 31 PI1 w v xs F
theorem OwI1.ints {w:World} {B:Nat} {v:Value} {xs:List Int} {F:List Nat} (h:OwI1 w v xs F) (hF:∀ b∈F,B≤b):SlR 1 RInt (above B w) v xs:=h.slR (fun cs x F' _ h=>h.1) hF
theorem OwI2.intss {w:World} {B:Nat} {v:Value} {xs:List (List Int)} {F:List Nat} (h:OwI2 w v xs F) (hF:∀ b∈F,B≤b):SlR 1 RInts (above B w) v xs:=
 h.slR (fun cs x F' hF' h=>by
  have h':=OwI1.ints h hF'
  obtain⟨A,c,e,_⟩:=h'.slice
  exact⟨A,c,e,by unfold Ints; rw [← e]; exact h'⟩) hF
end Go.Proofs.YtojmofnamppbdaaGreat
