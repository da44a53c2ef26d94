/-
  Sorting outcomes: slices.Compare, slices.SortFunc at rows of ints of one's own; slices.CompactFunc. slices.CompactFunc at outcomes; impl.sortedOutcomes.
-/
import Derived.Test.YtojmofnamppbdaaMcA
import Derived.Test.YtojmofnamppbdaaSl
import Derived.Test.YtojmofnamppbdaaPlM
import Derived.Test.YtojmofnamppbdaaInts
import Derived.Lib.SliceRun
import Derived.Deep.RegionWith
import Derived.Shelf.SlSortCmp.NoneTotal
namespace Go.Proofs.Ytojmofnamppbdaa
open Go.RowKit
set_option linter.unusedVariables false
set_option maxRecDepth 100000
abbrev OA (a:World):Type:={o:OE // Ints a (some ⟨o.g,0,none⟩) o.c o.x}
instance (a:World):Inhabited (OA a):=⟨⟨⟨0,0,[]⟩,⟨_,_,rfl,by simp,fun i hi=>absurd hi (Nat.not_lt_zero _)⟩⟩⟩
end Go.Proofs.Ytojmofnamppbdaa
namespace Go.Proofs.Ytojmofnamppbdaa
open Go.RowKit
set_option linter.unusedVariables false
set_option maxRecDepth 100000
def kpO (g:Nat→OE) (j:Nat):Prop:=j=0∨(g j).x≠(g (j-1)).x
instance (g:Nat→OE) (j:Nat):Decidable (kpO g j):=by unfold kpO; infer_instance
end Go.Proofs.Ytojmofnamppbdaa
