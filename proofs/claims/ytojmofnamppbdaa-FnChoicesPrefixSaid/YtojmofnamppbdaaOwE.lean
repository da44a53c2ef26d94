/-
  Lists of outcomes that are owned.
-/
import Derived.Test.YtojmofnamppbdaaOwMP
import Derived.Test.YtojmofnamppbdaaSoC
namespace Go.Proofs.Ytojmofnamppbdaa
open Go.RowKit
set_option linter.unusedVariables false
set_option maxRecDepth 100000
theorem rowI_one {w:World} {B g n c:Nat} {xs:List Int} (h:RowI w B (.slice (some ⟨g,0,none⟩) n c) xs):OwI1 w (.slice (some ⟨g,0,none⟩) xs.length c) xs [g]∧n=xs.length:=by
 obtain⟨cs,⟨hl,h1⟩,h2⟩:=h
 rcases h1 with ⟨e,_⟩ | ⟨g',cap,cur,e,hb,hg,hn,hm,hc,ht⟩
 ·cases e
 ·injection e with e1 e2 e3
  injection e1 with e1
  injection e1 with e1
  subst e1 e3
  refine⟨?_,e2⟩
  have hcap:xs.length≤c:=hn
  have gg:∀ j,j<xs.length→cur.getD j undef=cs.getD j undef:=fun j hj=>by
   rw [← ht,List.getD_eq_getElem?_getD,List.getElem?_take,if_pos (by omega),Array.getElem?_toList]
   simp [Array.getD,show j<cur.size by omega]
  have gs:∀ i,i<cur.size→cur[i]?=some (cur.getD i undef):=fun i h=>by simp [Array.getD,h]
  have h:=OwRow.made (k:=1) (e:=3) (P:=flat QInt) (xs:=xs) (g:=g) (c:=c) (N:=c*1) (G:=fun j=>cur.getD j undef) (fun _=>[]) ⟨cur,hg,hc,fun i hi=>gs i (by omega)⟩ hcap (by omega) (by unfold maxLen at hm; omega) (fun i hi=>⟨by
   have h3:=h2 i hi
   have h4:cs.getD (i*1+0) undef=.int .i64 xs[i]:=h3
   rw [show i*1+0=i by omega,← gg i hi] at h4
   show cur.getD (i*1+0) undef=.int .i64 xs[i]
   rw [show i*1+0=i by omega]
   exact h4,rfl⟩)
  have he:((List.range xs.length).map (fun _=>([]:List Nat))).flatten=[]:=by
   rw [List.flatten_eq_nil_iff]
   intro l hl
   obtain⟨_,_,rfl⟩:=List.mem_map.1 hl
   rfl
  rw [he] at h
  exact h
end Go.Proofs.Ytojmofnamppbdaa
