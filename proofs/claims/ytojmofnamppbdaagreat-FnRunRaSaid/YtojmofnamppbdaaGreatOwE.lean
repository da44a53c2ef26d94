/-
  Lists of outcomes that are owned.
-/
import Derived.Test.YtojmofnamppbdaaGreatOwMP
import Derived.Test.YtojmofnamppbdaaGreatSoC
namespace Go.Proofs.YtojmofnamppbdaaGreat
open Go.RowKit
set_option linter.unusedVariables false
set_option maxRecDepth 100000
theorem rowI_one {w:World} {B g n c:Nat} {xs:List Int} (h:RowI w B (.slice (some ⟨g,0,none⟩) n c) xs):OwI1 w (.slice (some ⟨g,0,none⟩) xs.length c) xs [g]∧n=xs.length:=by
 obtain⟨cs,⟨hl,h1⟩,h2⟩:=h
 rcases h1 with ⟨e,_⟩ | ⟨g',cap,cur,e,hb,hg,hn,hm,hc,ht⟩
 ·cases e
 ·injection e with e1 e2 e3
  injection e1 with e1
  injection e1 with e1
  subst e1 e3
  refine⟨?_,e2⟩
  have hcap:xs.length≤c:=hn
  have gg:∀ j,j<xs.length→cur.getD j undef=cs.getD j undef:=fun j hj=>by
   rw [← ht,List.getD_eq_getElem?_getD,List.getElem?_take,if_pos (by omega),Array.getElem?_toList]
   simp [Array.getD,show j<cur.size by omega]
  have gs:∀ i,i<cur.size→cur[i]?=some (cur.getD i undef):=fun i h=>by simp [Array.getD,h]
  have h:=OwRow.made (k:=1) (e:=3) (P:=flat QInt) (xs:=xs) (g:=g) (c:=c) (N:=c*1) (G:=fun j=>cur.getD j undef) (fun _=>[]) ⟨cur,hg,hc,fun i hi=>gs i (by omega)⟩ hcap (by omega) (by unfold maxLen at hm; omega) (fun i hi=>⟨by
   have h3:=h2 i hi
   have h4:cs.getD (i*1+0) undef=.int .i64 xs[i]:=h3
   rw [show i*1+0=i by omega,← gg i hi] at h4
   show cur.getD (i*1+0) undef=.int .i64 xs[i]
   rw [show i*1+0=i by omega]
   exact h4,rfl⟩)
  have he:((List.range xs.length).map (fun _=>([]:List Nat))).flatten=[]:=by
   rw [List.flatten_eq_nil_iff]
   intro l hl
   obtain⟨_,_,rfl⟩:=List.mem_map.1 hl
   rfl
  rw [he] at h
  exact h
theorem map_gO {β:Type} (os:List OE) (f:OE→β):(List.range os.length).map (fun i=>f (gO os i))=os.map f:=by
 refine List.ext_getElem (by simp) fun i h1 h2=>?_
 simp only [List.getElem_map,List.getElem_range]
 rw [gO_get (by simpa using h2)]
theorem flatten_one {α:Type} (l:List α):(l.map fun x=>[x]).flatten=l:=by
 induction l with
 | nil=>rfl
 | cons a l ih=>simp [ih]
theorem outs_ow {w:World} {base:Nat} {v:Value} {os:List OE} (h:RowOf 1 QOE w base 31 v os) (hr:∀ o∈os,RowI w base o.v o.x∧¬ v.ownBlock=some o.g) (hn:(os.map OE.g).Nodup):∃ F,OwI2 w v (os.map OE.x) F∧F.Nodup∧∀ b∈F,base≤b:=by
 obtain⟨cs,h1,h2⟩:=h
 have hw:RowW 1 31 PI1 w base v (os.map OE.x) cs (fun i=>[(gO os i).g]):=by
  refine⟨by rw [List.length_map]; exact h1,fun i hi=>?_,?_,fun i hi b hb=>?_⟩
  ·have hi':i<os.length:=by simpa using hi
   have h3:=h2 i hi'
   have hro:=(hr _ (List.getElem_mem hi')).1
   rw [gO_get hi',List.getElem_map]
   obtain⟨k1,_⟩:=rowI_one (g:=os[i].g) hro
   show OwRow 1 _ _ w (cs.getD (i*1+0) undef) _ _
   rw [show cs.getD (i*1+0) undef=os[i].v from h3]
   exact k1
  ·rw [List.length_map]
   have:=map_gO os (fun o=>[o.g])
   show (((List.range os.length).map (fun i=>[(gO os i).g])).flatten).Nodup
   rw [this,show os.map (fun o=>[o.g])=(os.map OE.g).map (fun x=>[x]) by rw [List.map_map]; rfl,flatten_one]
   exact hn
  ·have hi':i<os.length:=by simpa using hi
   rw [gO_get hi'] at hb
   have hb':b=os[i].g:=by simpa using hb
   subst hb'
   obtain⟨k1,k2⟩:=hr _ (List.getElem_mem hi')
   exact⟨(k1.own_lt (g:=os[i].g) rfl).1,k2⟩
 exact hw.ow pi1_loc
theorem OwI2.intss0 {w:World} {A:Option Addr} {c n:Nat} {xs:List (List Int)} {F:List Nat} (h:OwI2 w (.slice A n c) xs F):Intss w A c xs:=by
 have h1:=OwI2.intss (B:=0) h (fun _ _=>Nat.zero_le _)
 obtain⟨A',c',e,_⟩:=OwRow.slice h
 injection e with e1 e2 e3
 subst e1 e2 e3
 exact Intss.le (w:=above 0 w) h1 (Le.above _ _)
end Go.Proofs.YtojmofnamppbdaaGreat
