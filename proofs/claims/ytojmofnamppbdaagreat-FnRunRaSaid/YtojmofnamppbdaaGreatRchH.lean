/-
  What a search through the states of a machine hands back.
-/
import Derived.Test.YtojmofnamppbdaaGreatMcA
import Derived.Test.YtojmofnamppbdaaGreatSoC
namespace Go.Proofs.YtojmofnamppbdaaGreat
open Go.RowKit
set_option linter.unusedVariables false
set_option maxRecDepth 100000
theorem Tryz.infoMach:(Tryz.prog.info? 55).map (fun i=>(i.zero,i.size,i.bytes))=some (some .nilIface,1,16):=by kernel_rfl
theorem snoc_cases {α:Type} (l:List α):l=[]∨∃ L b,l=L++[b]:=by
 rcases List.eq_nil_or_concat l with h | ⟨L,b,h⟩
 ·exact .inl h
 ·exact .inr ⟨L,b,by rw [h,List.concat_eq_append]⟩
def RetRe {σ:Type} (M:Mach σ) (W:World) (e:Ending) (W':World):Prop:=
 ∃ (v:Value) (os:List OE) (V:List σ),e=.returned (.tuple #[v,.int .i64 (V.length:Int)])∧Dfs M.succ M.s0 V []∧RowOf 1 QOE W' (W.heap.size+1) 31 v os∧Below W.heap.size W W'∧Asc (os.map OE.x)∧(∀ y,y∈os.map OE.x↔∃ s∈V,M.done s=true∧M.out s=y)
  ∧ (∀ o∈os,RowI W' (W.heap.size+1) o.v o.x∧¬ v.ownBlock=some o.g)∧(os.map OE.g).Nodup
end Go.Proofs.YtojmofnamppbdaaGreat
