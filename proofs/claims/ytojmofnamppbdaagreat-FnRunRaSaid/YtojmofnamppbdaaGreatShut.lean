/-
  From a walk that answers true and turns nothing that was there to a law's statement; and how slices are opened. No program in sight.
-/
import Derived.Test.YtojmofnamppbdaaGreatLib
import Derived.ProofKit
import Derived.OpenShut
import Derived.Deep.Slices
import Derived.Deep.Fields
namespace Go.Proofs.YtojmofnamppbdaaGreat
open Go.RowKit Go.ChangeShapes Go.WideShapes Go.ChangeAt Go.Deep
set_option linter.unusedVariables false
set_option maxRecDepth 100000
section
variable {H:Type} {enc:TypeId×Value→H} {P:Program}
theorem trodAll_below (hl:laidOutB P=true) {W W':World} (hb:Below W.heap.size W W'):∀ (ts:List TypeId) (hr:∀ t∈ts,P.readableRec t=true∧t<P.types.size) (vs:List Value) (ds:List (DataW H)) (ps:List MemPlace),
  DataW.TrodAll enc P W 0 (fun _=>true) true ts vs ds ps→(∀ x∈ps,x.block<W.heap.size)→DataW.TrodAll enc P W' 0 (fun b=>decide (b<W.heap.size)) true ts vs ds ps:=by
 intro ts
 induction ts with
 | nil=>
  intro _ vs ds ps h _
  obtain⟨rfl,rfl,rfl⟩:=trodAll_nil h
  exact trodAll_mk0
 | cons t ts ih=>
  intro hr vs ds ps h hlt
  obtain⟨v,vs',d,ds',p,q,rfl,rfl,rfl,hd,hrest⟩:=trodAll_cons h
  exact trodAll_cons_mk (Below.trod hl (hr t (by simp)).1 (hr t (by simp)).2 hd hb fun x hx=>hlt x (by simp [hx])) (ih (fun t' ht'=>hr t' (by simp [ht'])) vs' ds' q hrest fun x hx=>hlt x (by simp [hx]))
theorem trodAll_length:∀ (ts:List TypeId) {w:World} {base:Nat} {spare:Nat→Bool} {held:Bool} (vs:List Value) (ds:List (DataW H)) (ps:List MemPlace),DataW.TrodAll enc P w base spare held ts vs ds ps→vs.length=ts.length∧ds.length=ts.length:=by
 intro ts
 induction ts with
 | nil=>
  intro w base spare held vs ds ps h
  obtain⟨rfl,rfl,rfl⟩:=trodAll_nil h
  exact⟨rfl,rfl⟩
 | cons t ts ih=>
  intro w base spare held vs ds ps h
  obtain⟨v,vs',d,ds',p,q,rfl,rfl,rfl,hd,hrest⟩:=trodAll_cons h
  have:=ih vs' ds' q hrest
  simp [this.1,this.2]
theorem law_post_at {f:FuncId} {fn:Func} {s:ChangeSpec} {tb:TypeId} (hl:laidOutB P=true) (hs:s.vars=[]) (hres:fn.resultTypes=#[tb]) (hbool:P.underlying tb=some .bool)
  (hfn:∀ ds:List (DataW H),ds.length=fn.params.toList.length→s.fn H (ds++[])={ results:=[.lit (.bool true)],args:=ds })
  (hr:∀ t∈fn.params.toList,P.readableRec t=true∧t<P.types.size)
  (W:World) (args:Array Value) (ds gs:List (DataW H)) (before:List MemPlace)
  (walk:∀ (ps:List MemPlace),DataW.TrodAll enc P W 0 (fun _=>true) true fn.params.toList args.toList ds ps →
   Calls P f args W fun e W'=>e=.returned (.bool true)∧Below W.heap.size W W')
  (hW:DataW.Whole enc P fn.params.toList s.vars false W args.toList ds gs before):
  Calls P f args W fun e W'=>∃ v,e=.returned v∧s.post enc P fn false true false false W args v W':=by
 have hW':=hW
 obtain⟨p,q,hA,hV,rfl,_,_⟩:=hW
 rw [hs] at hV
 obtain⟨rfl,rfl⟩:=trodVars_none hV
 simp only [List.append_nil] at hW'
 have hlt:∀ x∈p,x.block<W.heap.size:=fun x hx=>hW'.lt x hx
 refine (walk p hA).mono fun e W' ⟨he,hb⟩=>?_
 subst he
 have hfn':=hfn ds (trodAll_length _ _ _ _ hA).2
 refine⟨_,rfl,ds,[],p,[],p,[],hW',?_,?_,?_,hb.frame _,fun h=>by cases h⟩
 ·rw [hfn',hres]
  exact trodAll_mk1 (shut_bool hbool true)
 ·rw [hfn']
  exact trodAll_below hl hb _ hr _ _ _ hA hlt
 ·rw [hfn',hs]
  rfl
end
section
variable {H:Type} {enc:TypeId×Value→H} {P:Program} {w:World} {base:Nat} {spare:Nat→Bool} {held:Bool}
theorem slR_of_trod {α:Type} {k:Nat} {R:World→(Nat→Value)→α→Prop} {t e:TypeId} {fuel:Nat} {cs:List Value} {x:DataW H×List MemPlace} (ht:P.underlying t=some (.slice e)) (hk:P.cellsOf e=k) (hk0:0<k)
  (h:DataW.trod enc P w base spare held fuel t cs=some x)
  (hel:∀ (n:Nat) (cs':List Value) (x':DataW H×List MemPlace),n<fuel→cs'.length=k→DataW.trod enc P w base spare held n e cs'=some x'→∃ y,R w (fun j=>cs'.getD j undef) y):
  ∃ A c,∃ ys:List α,cs=[.slice A ys.length c]∧SlR k R w (.slice A ys.length c) ys:=by
 rcases DataW.trod_slice ht h with ⟨rfl,_⟩ | ⟨a,len,cap,elems,rest,n,hn,rfl,_,_,hlc,hcm,hlen,hcell,_⟩
 ·exact⟨none,0,[],rfl,none,0,rfl,by simp,fun i hi=>absurd hi (Nat.not_lt_zero _)⟩
 ·have key:∀ i:Fin len,∃ y,∃ b o,some a=some (⟨b,o,none⟩:Addr)∧∃ cs:Nat→Value,(∀ j,j<k→w.cell? ⟨b,o+i*k+j,none⟩=some (cs j))∧R w cs y:=by
   intro i
   have h1:=hcell i i.2
   rw [hk,List.getElem?_eq_getElem (by omega)] at h1
   obtain⟨cs',h2,h3⟩:=Option.bind_eq_some_iff.1 h1
   obtain⟨_,hl,hat⟩:=World.cells?_some h2
   obtain⟨y,hy⟩:=hel n cs' _ (by omega) hl h3
   have hcj:∀ j,j<k→w.cell? (a.add (i*k+j))=some (cs'.getD j undef):=fun j hj=>by
    have:=hat j hj
    rw [Go.Deep.add_add] at this
    rw [this]
    simp [List.getElem?_eq_getElem (show j<cs'.length by omega)]
   obtain⟨b,o,sp⟩:=a
   have hsp:sp=none:=by
    by_cases h0:(i:Nat)*k+0=0
    ·have:=hcj 0 hk0
     rw [h0] at this
     exact World.cell?_spot this
    ·by_cases hi0:(i:Nat)=0
     ·exact absurd (by rw [hi0]; simp) h0
     ·have h4:=hcell 0 (by omega)
      rw [hk,List.getElem?_eq_getElem (by omega)] at h4
      obtain⟨cs0,h5,_⟩:=Option.bind_eq_some_iff.1 h4
      obtain⟨_,hl0,hat0⟩:=World.cells?_some h5
      have h6:=hat0 0 (by omega)
      rw [List.getElem?_eq_getElem (by omega)] at h6
      simp only [Nat.zero_mul,Addr.add,if_true] at h6
      exact World.cell?_spot h6
   subst hsp
   refine⟨y,b,o,rfl,_,fun j hj=>?_,hy⟩
   have:=hcj j hj
   rw [← this]
   congr 1
   unfold Addr.add
   split
   ·rename_i h0
    rw [Nat.add_assoc,h0]
    rfl
   ·simp [Nat.add_assoc]
  refine⟨some a,cap,List.ofFn fun i=>Classical.choose (key i),by rw [List.length_ofFn],some a,cap,by rw [List.length_ofFn],?_,fun i hi=>?_⟩
  ·rw [List.length_ofFn]
   unfold maxLen at hcm
   omega
  ·have hi':i<len:=by simpa using hi
   have:=Classical.choose_spec (key ⟨i,hi'⟩)
   simpa only [List.getElem_ofFn] using this
end
end Go.Proofs.YtojmofnamppbdaaGreat
