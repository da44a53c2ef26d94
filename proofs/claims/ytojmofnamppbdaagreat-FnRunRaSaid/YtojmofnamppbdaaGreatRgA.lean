/-
  Regions that draw their order: one walk of each operation, in any world, serves every order. No program in sight. A region that draws its order, each operation walked once, over any relation between worlds (XReg's law for operations that write into what the region has made).
-/
import Derived.Test.YtojmofnamppbdaaGreatLib
import Derived.Test.YtojmofnamppbdaaGreatOwA
import Derived.StillTail
import Derived.Deep.AppendLies
import Derived.Maps.AppendAt
namespace Go.Proofs.YtojmofnamppbdaaGreat
open Go.RowKit
set_option linter.unusedVariables false
def depsB (ops:Array Oper) (k j:Nat):Bool:=match ops[k]? with
 | some o=>o.after.any fun e=>Region.binds .any e && decide (e.on=j)
 | none=>false
def seqL (ops:Array Oper):List Nat→Array Bool→Bool
 | [],listed=>(Region.ready .any ops listed).isEmpty
 | k::ks,listed=>decide (Region.ready .any ops listed=[k]) && seqL ops ks (listed.setIfInBounds k true)
def relB (ops:Array Oper) (hs tl:List Nat):Bool:=
 (List.range ops.size).all (fun k=>match ops[k]? with
  | some o=>o.guard.isNone && o.after.all (fun e=>!Region.binds .any e || (decide (e.on<k) && (!hs.contains k || hs.contains e.on)))
  | none=>false)
 && (List.range ops.size).all (fun k=>!hs.contains k || match ops[k]? with
  | some o=>o.dst.isSome && (List.range ops.size).all (fun j=>decide (j=k) || !hs.contains j || match ops[j]? with | some o'=>decide (o'.dst≠o.dst) | none=>true)
  | none=>false)
 && (tl.isEmpty || (List.range ops.size).all (fun k=>!hs.contains k || (List.range ops.size).any fun j=>decide (k<j) && (hs.contains j || decide (tl.head?=some j)) && depsB ops j k))
 && (List.range tl.length).all (fun m=>decide (m=0) || depsB ops (tl.getD m 0) (tl.getD (m-1) 0))
 && (List.range ops.size).all (fun k=>hs.contains k || tl.contains k)
 && tl.all (fun k=>!hs.contains k)
 && decide ((List.range ops.size).countP (fun k=>hs.contains k)+tl.length=ops.size)
 && seqL ops tl ((List.range ops.size).map (fun i=>hs.contains i)).toArray
def blkV:Value→Option Nat
 | .slice (some a) _ _=>some a.block
 | .pointer (some a)=>some a.block
 | _=>none
section
variable {P:Program} {ops:Array Oper} {cl:Nat→Nat} {a0:Act} {R:World→World→Prop} {w0:World} {T:Nat→World→Value→Prop} {hs tl:List Nat}
structure RInv (ops:Array Oper) (hs:List Nat) (cl:Nat→Nat) (a0:Act) (R:World→World→Prop) (w0:World) (T:Nat→World→Value→Prop) (listed:Array Bool) (a:Act) (w:World):Prop where
 size:a.tmps.size=a0.tmps.size
 defers:a.defers=a0.defers
 world:R w0 w
 old:∀ d,(∀ i o,hs.contains i=true→ops[i]?=some o→o.dst≠some d)→a.tmps.getD d undef=a0.tmps.getD d undef
 new:∀ i o d,hs.contains i=true→ops[i]?=some o→listed.getD i false=true→o.dst=some d→T d w (a.tmps.getD d undef)
 sep:∀ i j o o' d d',hs.contains i=true→hs.contains j=true→ops[i]?=some o→ops[j]?=some o'→listed.getD i false=true→listed.getD j false=true→o.dst=some d→o'.dst=some d'→cl d≠0→cl d'≠0→cl d≠cl d'→∀ b,blkV (a.tmps.getD d undef)=some b→blkV (a.tmps.getD d' undef)≠some b
theorem all_range {m:Nat} {p:Nat→Bool} (h:(List.range m).all p=true) {k:Nat} (hk:k<m):p k=true:=List.all_eq_true.1 h k (List.mem_range.2 hk)
structure RelSpec (ops:Array Oper) (hs tl:List Nat):Prop where
 guard:∀ (k:Nat) (o:Oper),ops[k]?=some o→o.guard=none
 back:∀ (k:Nat) (o:Oper),ops[k]?=some o→∀ e∈o.after,Region.binds .any e=true→e.on<k
 backh:∀ (k:Nat) (o:Oper),hs.contains k=true→ops[k]?=some o→∀ e∈o.after,Region.binds .any e=true→hs.contains e.on=true
 dst:∀ (k:Nat) (o:Oper),hs.contains k=true→ops[k]?=some o→∃ d,o.dst=some d
 apart:∀ (k j:Nat) (o o':Oper),hs.contains k=true→hs.contains j=true→j≠k→ops[k]?=some o→ops[j]?=some o'→o'.dst≠o.dst
 used:tl≠[]→∀ k,k<ops.size→hs.contains k=true→∃ j,k<j∧(hs.contains j=true∨tl.head?=some j)∧∃ o:Oper,ops[j]?=some o∧∃ e∈o.after,Region.binds .any e=true∧e.on=k
 tail:∀ m (h:m<tl.length),0<m→∃ o:Oper,ops[tl[m]]?=some o∧∃ e∈o.after,Region.binds .any e=true∧e.on=tl[m-1]
 all:∀ k,k<ops.size→hs.contains k=true∨k∈tl
 no:∀ k∈tl,hs.contains k=false
 cnt:(List.range ops.size).countP (fun k=>hs.contains k)+tl.length=ops.size
 seq:seqL ops tl ((List.range ops.size).map (fun i=>hs.contains i)).toArray=true
theorem depsB_spec {k j:Nat} (h:depsB ops k j=true):∃ o:Oper,ops[k]?=some o∧∃ e∈o.after,Region.binds .any e=true∧e.on=j:=by
 unfold depsB at h
 split at h
 ·rename_i o ho
  obtain⟨i,hi,he⟩:=Array.any_eq_true.1 h
  rw [Bool.and_eq_true,decide_eq_true_iff] at he
  exact⟨o,ho,_,Array.getElem_mem hi,he.1,he.2⟩
 ·cases h
theorem relB_spec (h:relB ops hs tl=true):RelSpec ops hs tl:=by
 unfold relB at h
 simp only [Bool.and_eq_true,decide_eq_true_eq,Bool.or_eq_true] at h
 obtain⟨⟨⟨⟨⟨⟨⟨h2,h3⟩,h4⟩,h5⟩,h7⟩,h8⟩,h9⟩,h6⟩:=h
 have hlt:∀ {k:Nat} {o:Oper},ops[k]?=some o→k<ops.size:=fun h=>(Array.getElem?_eq_some_iff.1 h).elim fun h _=>h
 have hedge:∀ (k:Nat) (o:Oper),ops[k]?=some o→∀ e∈o.after,Region.binds .any e=true→e.on<k∧(hs.contains k=true→hs.contains e.on=true):=fun k o ho e he hb=>by
  have h:=all_range h2 (hlt ho)
  simp only [ho,Bool.and_eq_true] at h
  obtain⟨i,hi,rfl⟩:=Array.getElem_of_mem he
  have:=Array.all_eq_true.1 h.2 i hi
  rw [hb] at this
  simp only [Bool.not_true,Bool.false_or,Bool.and_eq_true,decide_eq_true_eq,Bool.or_eq_true,Bool.not_eq_true'] at this
  exact⟨this.1,fun hk=>this.2.resolve_left (by rw [hk]; simp)⟩
 refine⟨fun k o ho=>?_,fun k o ho e he hb=>(hedge k o ho e he hb).1,fun k o hk ho e he hb=>(hedge k o ho e he hb).2 hk,fun k o hk ho=>?_,fun k j o o' hk hj hne ho ho'=>?_,fun hn k hks hk=>?_,fun m hm h0=>?_,fun k hk=>?_,fun k hk=>?_,h9,h6⟩
 ·have h:=all_range h2 (hlt ho)
  simp only [ho,Bool.and_eq_true] at h
  simpa using h.1
 ·have h:=all_range h3 (hlt ho)
  rw [hk] at h
  simp only [ho,Bool.not_true,Bool.false_or,Bool.and_eq_true] at h
  exact Option.isSome_iff_exists.1 h.1
 ·have h:=all_range h3 (hlt ho)
  rw [hk] at h
  simp only [ho,Bool.not_true,Bool.false_or,Bool.and_eq_true] at h
  have:=all_range h.2 (hlt ho')
  rw [hj] at this
  simp only [ho',Bool.not_true,Bool.or_false,Bool.or_eq_true,decide_eq_true_eq] at this
  exact this.resolve_left hne
 ·have h4:=h4.resolve_left (by cases tl with | nil=>exact absurd rfl hn | cons a l=>simp)
  have h:=all_range h4 hks
  rw [hk] at h
  simp only [Bool.not_true,Bool.false_or] at h
  obtain⟨j,hj,hd⟩:=List.any_eq_true.1 h
  simp only [Bool.and_eq_true,decide_eq_true_eq,Bool.or_eq_true] at hd
  exact⟨j,hd.1.1,hd.1.2,depsB_spec hd.2⟩
 ·have h:=all_range h5 hm
  simp only [Bool.or_eq_true,decide_eq_true_eq] at h
  have h:=h.resolve_left (by omega)
  rw [List.getD_eq_getElem?_getD,List.getD_eq_getElem?_getD,List.getElem?_eq_getElem hm,List.getElem?_eq_getElem (show m-1<tl.length by omega)] at h
  exact depsB_spec h
 ·have h:=all_range h7 hk
  simp only [Bool.or_eq_true] at h
  exact h.imp id (fun h=>by simpa using h)
 ·have:=List.all_eq_true.1 h8 k hk
  simpa using this
def cntUp (listed:Array Bool):Nat:=listed.toList.count true
theorem cntUp_set {listed:Array Bool} {i:Nat} (h:listed.getD i true=false):cntUp (listed.setIfInBounds i true)=cntUp listed+1:=by
 have hi:i<listed.size:=by
  rcases Nat.lt_or_ge i listed.size with h' | h'
  ·exact h'
  ·simp [Array.getElem?_eq_none h'] at h
 have hv:listed.toList[i]'(by simpa using hi)=false:=by
  simp [hi] at h
  simpa using h
 unfold cntUp
 have key:∀ (l:List Bool) (i:Nat) (hi:i<l.length),l[i]=false→(l.set i true).count true=l.count true+1:=fun l=>by
  induction l with
  | nil=>intro i hi; simp at hi
  | cons b l ih=>
   intro i hi hb
   cases i with
   | zero=>
    simp only [List.getElem_cons_zero] at hb
    subst hb
    simp
   | succ i=>
    simp only [List.getElem_cons_succ] at hb
    have:=ih i (by simpa using hi) hb
    simp only [List.set_cons_succ,List.count_cons,this]
    omega
 rw [Array.toList_setIfInBounds]
 exact key _ _ (by simpa using hi) hv
theorem cntUp_of {listed:Array Bool} (h1:∀ i,i<listed.size→hs.contains i=true→listed.getD i false=true) (h2:∀ i,hs.contains i=false→listed.getD i false=false):cntUp listed=(List.range listed.size).countP (fun k=>hs.contains k)∧listed=((List.range listed.size).map (fun i=>hs.contains i)).toArray:=by
 have he:listed=((List.range listed.size).map (fun i=>hs.contains i)).toArray:=by
  refine Array.ext (by simp) fun i hi hi'=>?_
  simp only [List.getElem_toArray,List.getElem_map,List.getElem_range]
  cases h:hs.contains i
  ·have:=h2 i h
   simp only [Array.getD_eq_getD_getElem?,Array.getElem?_eq_getElem hi,Option.getD_some] at this
   rw [this]
  ·have:=h1 i hi h
   simp only [Array.getD_eq_getD_getElem?,Array.getElem?_eq_getElem hi,Option.getD_some] at this
   rw [this]
 refine⟨?_,he⟩
 have key:∀ (s:Nat) (f:Nat→Bool),((List.range s).map f).count true=(List.range s).countP f:=fun s f=>by
  rw [List.count,List.countP_map]
  congr 1
  funext x
  simp
 unfold cntUp
 rw [he]
 simp only []
 rw [key]
 simp
theorem some_ready (hsp:RelSpec ops hs tl) {listed:Array Bool} (hz:listed.size=ops.size):(∀ i,i<ops.size→hs.contains i=true→listed.getD i false=true)∨∃ i,hs.contains i=true∧i∈Region.ready .any ops listed:=by
 have key:∀ m,m≤ops.size→(∀ i,i<m→hs.contains i=true→listed.getD i false=true)∨∃ i,hs.contains i=true∧i∈Region.ready .any ops listed:=fun m=>by
  induction m with
  | zero=>exact fun _=>.inl fun i hi=>absurd hi (Nat.not_lt_zero _)
  | succ m ih=>
   intro hm
   rcases ih (by omega) with h | h
   ·cases hc:hs.contains m
    ·left
     intro i hi hci
     by_cases e:i=m
     ·rw [e,hc] at hci; cases hci
     ·exact h i (by omega) hci
    ·cases hb:listed.getD m false
     ·right
      have hmz:m<ops.size:=by omega
      refine⟨m,hc,mem_ready.2 ⟨?_,_,Array.getElem?_eq_getElem hmz,fun e he hbd=>h _ (hsp.back m _ (Array.getElem?_eq_getElem hmz) e he hbd) (hsp.backh m _ hc (Array.getElem?_eq_getElem hmz) e he hbd)⟩⟩
      have hmz':m<listed.size:=by omega
      simp only [Array.getD_eq_getD_getElem?,Array.getElem?_eq_getElem hmz',Option.getD_some] at hb ⊢
      exact hb
     ·left
      intro i hi hci
      by_cases e:i=m
      ·rw [e]; exact hb
      ·exact h i (by omega) hci
   ·exact .inr h
 exact key ops.size (Nat.le_refl _)
def Closed (ops:Array Oper) (listed:Array Bool):Prop:=∀ i o,ops[i]?=some o→listed.getD i false=true→∀ e∈o.after,Region.binds .any e=true→listed.getD e.on false=true
theorem getD_setT {listed:Array Bool} {i j:Nat} (h:(listed.setIfInBounds i true).getD j false=true):j=i∨listed.getD j false=true:=by
 by_cases e:j=i
 ·exact .inl e
 ·right
  rw [getD_set_ne false (fun e'=>e e'.symm)] at h
  exact h
theorem getD_setT' {listed:Array Bool} {i j:Nat} (h:listed.getD j false=true):(listed.setIfInBounds i true).getD j false=true:=by
 by_cases e:i=j
 ·subst e
  have hi:i<listed.size:=by
   rcases Nat.lt_or_ge i listed.size with h' | h'
   ·exact h'
   ·simp [Array.getElem?_eq_none h'] at h
  simp [hi]
 ·rw [getD_set_ne false e]
  exact h
theorem all_listed (hsp:RelSpec ops hs tl) {listed:Array Bool} (hc:Closed ops listed) {i:Nat} (hi:i∈Region.ready .any ops listed) (hin:hs.contains i=false) (htl:∀ j,hs.contains j=false→listed.getD j false=false):∀ k,k<ops.size→hs.contains k=true→listed.getD k false=true:=by
 obtain⟨h0,o,ho,hall⟩:=mem_ready.1 hi
 have hiz:i<ops.size:=(Array.getElem?_eq_some_iff.1 ho).elim fun h _=>h
 have hit:=(hsp.all i hiz).resolve_left (by rw [hin]; simp)
 have hi':tl.head?=some i:=by
  obtain⟨m,hm,hmi⟩:=List.getElem_of_mem hit
  rcases Nat.eq_zero_or_pos m with h | h
  ·subst h
   rw [List.head?_eq_getElem?,List.getElem?_eq_getElem hm,hmi]
  ·obtain⟨o',ho',e,he,hb,hon⟩:=hsp.tail m hm h
   rw [hmi,ho] at ho'
   injection ho' with ho'
   subst ho'
   have h1:=hall e he hb
   rw [htl _ (by rw [hon]; exact hsp.no _ (List.getElem_mem _))] at h1
   cases h1
 have hne:tl≠[]:=fun e=>by rw [e] at hi'; cases hi'
 have key:∀ m,∀ k,ops.size-m≤k→k<ops.size→hs.contains k=true→listed.getD k false=true:=fun m=>by
  induction m with
  | zero=>intro k h1 h2; omega
  | succ m ih=>
   intro k h1 h2 hk
   obtain⟨j,hkj,hji,o',ho',e',he',hb',hon⟩:=hsp.used hne k h2 hk
   have hjz:j<ops.size:=(Array.getElem?_eq_some_iff.1 ho').elim fun h _=>h
   rw [← hon]
   rcases hji with hji | hji
   ·exact hc j o' ho' (ih j (by omega) hjz hji) e' he' hb'
   ·rw [hi'] at hji
    injection hji with hji
    subst hji
    rw [ho] at ho'
    injection ho' with ho'
    subst ho'
    exact hall e' he' hb'
 intro k hk
 exact key ops.size k (by omega) hk
theorem wpAny_of_seqL {Q:Exit→Act→World→Prop}:∀ (tl:List Nat) (listed:Array Bool) (a:Act) (w:World),seqL ops tl listed=true→wpList P ops Q (tl.filterMap (ops[·]?)) a w→wpAny P .any ops Q tl.length listed a w
 | [],listed,a,w,hB,h=>⟨by simpa [seqL] using hB,h⟩
 | k::ks,listed,a,w,hB,h=>by
  simp only [seqL,Bool.and_eq_true,decide_eq_true_eq] at hB
  refine⟨fun h1=>(by rw [hB.1] at h1; cases h1),fun i hi=>?_⟩
  have hi0:=hi
  rw [hB.1] at hi
  have hik:i=k:=by simpa using hi
  subst hik
  obtain⟨_,o,h0,_⟩:=mem_ready.1 hi0
  rw [List.filterMap_cons_some h0] at h
  have hw:wpOp P ops Q i (wpList P ops Q (ks.filterMap (ops[·]?))) a w:=by unfold wpOp; simp only [h0]; exact h
  exact wpOp_mono (fun a' w' h'=>wpAny_of_seqL ks _ a' w' hB.2 h') hw
theorem wanted_of {o:Oper} (h:o.guard=none) (y:Nat→Option Bool):Region.wanted o y=true:=by unfold Region.wanted; rw [h]
theorem wpAny_of_rel {Q:Exit→Act→World→Prop} (hsp:RelSpec ops hs tl) (hRt:∀ a b c,R a b→R b c→R a c) (hT:∀ d w w' v,R w w'→T d w v→T d w' v) (hF:∀ d w v b,T d w v→cl d≠0→blkV v=some b→b<w.heap.size)
  (hsz:∀ i o d,hs.contains i=true→ops[i]?=some o→o.dst=some d→d<a0.tmps.size)
  (hstep:∀ i o d,hs.contains i=true→ops[i]?=some o→o.dst=some d→∀ a w,a.tmps.size=a0.tmps.size→a.defers=a0.defers→R w0 w→(∀ d,(∀ i o,hs.contains i=true→ops[i]?=some o→o.dst≠some d)→a.tmps.getD d undef=a0.tmps.getD d undef) →
   (∀ e∈o.after,Region.binds .any e=true→∀ o' d',ops[e.on]?=some o'→o'.dst=some d'→T d' w (a.tmps.getD d' undef)) →
   (∀ e∈o.after,Region.binds .any e=true→∀ e'∈o.after,Region.binds .any e'=true→∀ o1 o2 d1 d2,ops[e.on]?=some o1→ops[e'.on]?=some o2→o1.dst=some d1→o2.dst=some d2→cl d1≠0→cl d2≠0→cl d1≠cl d2→∀ b,blkV (a.tmps.getD d1 undef)=some b→blkV (a.tmps.getD d2 undef)≠some b) →
   wpList P ops (fun x a' w'=>x=.normal∧a'.defers=a.defers∧R w w'∧T d w' (a'.tmps.getD d undef)∧(cl d≠0→∀ b,blkV (a'.tmps.getD d undef)=some b→w.heap.size≤b∨∃ e∈o.after,Region.binds .any e=true∧∃ o' d',ops[e.on]?=some o'∧o'.dst=some d'∧cl d'=cl d∧blkV (a.tmps.getD d' undef)=some b)) [o] a w)
  (hend:∀ a w,a.tmps.size=a0.tmps.size→a.defers=a0.defers→R w0 w→(∀ d,(∀ i o,hs.contains i=true→ops[i]?=some o→o.dst≠some d)→a.tmps.getD d undef=a0.tmps.getD d undef) →
   (∀ i o d,hs.contains i=true→ops[i]?=some o→o.dst=some d→T d w (a.tmps.getD d undef)) →
   (∀ i j o o' d d',hs.contains i=true→hs.contains j=true→ops[i]?=some o→ops[j]?=some o'→o.dst=some d→o'.dst=some d'→cl d≠0→cl d'≠0→cl d≠cl d'→∀ b,blkV (a.tmps.getD d undef)=some b→blkV (a.tmps.getD d' undef)≠some b)→wpList P ops Q (tl.filterMap (ops[·]?)) a w):
  ∀ (fuel:Nat) (listed:Array Bool) (a:Act) (w:World),listed.size=ops.size→fuel+cntUp listed=ops.size→Closed ops listed→(∀ j,hs.contains j=false→listed.getD j false=false)→RInv ops hs cl a0 R w0 T listed a w→wpAny P .any ops Q fuel listed a w:=by
 have hfin:∀ (fuel:Nat) (listed:Array Bool) (a:Act) (w:World),listed.size=ops.size→fuel+cntUp listed=ops.size→(∀ j,hs.contains j=false→listed.getD j false=false)→RInv ops hs cl a0 R w0 T listed a w→(∀ i,i<ops.size→hs.contains i=true→listed.getD i false=true)→wpAny P .any ops Q fuel listed a w:=fun fuel listed a w hz hf htl inv hall=>by
  have hlt:∀ {k:Nat} {o:Oper},ops[k]?=some o→k<ops.size:=fun h=>(Array.getElem?_eq_some_iff.1 h).elim fun h _=>h
  obtain⟨h1,h2⟩:=cntUp_of (hs:=hs) (listed:=listed) (by rw [hz]; exact hall) htl
  have he:=hend a w inv.size inv.defers inv.world inv.old (fun i o d hi ho hd=>inv.new i o d hi ho (hall i (hlt ho) hi) hd) (fun i j o o' d d' hi hj ho ho' hd hd'=>inv.sep i j o o' d d' hi hj ho ho' (hall i (hlt ho) hi) (hall j (hlt ho') hj) hd hd')
  have hc:=hsp.cnt
  rw [hz] at h1
  rw [show fuel=tl.length by omega]
  exact wpAny_of_seqL tl listed a w (by rw [h2,hz]; exact hsp.seq) he
 intro fuel
 induction fuel with
 | zero=>
  intro listed a w hz hf hc htl inv
  rcases some_ready hsp hz with hall | ⟨i,hi,hr⟩
  ·exact hfin 0 listed a w hz hf htl inv hall
  ·obtain⟨h0,o,ho,_⟩:=mem_ready.1 hr
   have h1:cntUp listed=listed.size:=by omega
   have h2:∀ b∈listed.toList,b=true:=by
    have:=List.count_eq_length.1 (show listed.toList.count true=listed.toList.length by simpa [cntUp] using h1)
    exact fun b hb=>(this b hb).symm
   have hiz:i<listed.size:=by rw [hz]; exact (Array.getElem?_eq_some_iff.1 ho).elim fun h _=>h
   have:=h2 listed[i] (by simp)
   simp [hiz] at h0
   rw [this] at h0
   cases h0
 | succ fuel ih=>
  intro listed a w hz hf hc htl inv
  rcases some_ready hsp hz with hall | ⟨i0,hi0,hr0⟩
  ·exact hfin (fuel+1) listed a w hz hf htl inv hall
  ·refine⟨fun h=>(by rw [h] at hr0; cases hr0),fun i hi=>?_⟩
   obtain⟨hun,o,ho,hdeps⟩:=mem_ready.1 hi
   have hin:hs.contains i=true:=by
    cases h:hs.contains i
    ·obtain⟨h',o0,ho0,_⟩:=mem_ready.1 hr0
     have hz0:i0<ops.size:=(Array.getElem?_eq_some_iff.1 ho0).elim fun h _=>h
     have:=all_listed hsp hc hi h htl i0 hz0 hi0
     have hz':i0<listed.size:=by omega
     simp [hz'] at this h'
     rw [this] at h'
     cases h'
    ·rfl
   obtain⟨d,hd⟩:=hsp.dst i o hin ho
   have hst:=hstep i o d hin ho hd a w inv.size inv.defers inv.world inv.old (fun e he hb o' d' ho' hd'=>inv.new _ o' d' (hsp.backh i o hin ho e he hb) ho' (hdeps e he hb) hd') (fun e he hb e' he' hb' o1 o2 d1 d2 ho1 ho2 hd1 hd2=>inv.sep _ _ o1 o2 d1 d2 (hsp.backh i o hin ho e he hb) (hsp.backh i o hin ho e' he' hb') ho1 ho2 (hdeps e he hb) (hdeps e' he' hb') hd1 hd2)
   unfold wpOp
   simp only [ho]
   have hw:Region.wanted o (yielded ops a.tmps)=true:=wanted_of (hsp.guard i o ho) _
   rw [if_pos hw]
   unfold wpList at hst
   rw [if_pos hw] at hst
   rcases hst with hst | ⟨_,a',w',hx,_⟩
   ·left
    have hget:∀ v d',d≠d'→(a.put o.dst v).tmps.getD d' undef=a.tmps.getD d' undef:=fun v d' hne=>by
     rw [hd]
     simp only [Act.put,Array.getD_eq_getD_getElem?]
     rw [Array.getElem?_setIfInBounds_ne hne]
    have hlast:∀ v w',R w w'→(T d w' ((a.put o.dst v).tmps.getD d undef)∧(cl d≠0→∀ b,blkV ((a.put o.dst v).tmps.getD d undef)=some b→w.heap.size≤b∨∃ e∈o.after,Region.binds .any e=true∧∃ o' d',ops[e.on]?=some o'∧o'.dst=some d'∧cl d'=cl d∧blkV (a.tmps.getD d' undef)=some b))→wpAny P .any ops Q fuel (listed.setIfInBounds i true) (a.put o.dst v) w':=fun v w' hR ⟨hTd,hFd⟩=>by
     have hsepn:cl d≠0→∀ j oj d',hs.contains j=true→ops[j]?=some oj→listed.getD j false=true→oj.dst=some d'→cl d'≠0→cl d≠cl d'→∀ b,blkV ((a.put o.dst v).tmps.getD d undef)=some b→blkV (a.tmps.getD d' undef)≠some b:=fun hc0 j oj d' hj hoj hlj hd' hc' hne b hb hb'=>by
      rcases hFd hc0 b hb with h | ⟨e,he,hbd,o2,d2,ho2,hd2,hc2,hb2⟩
      ·have:=hF d' w _ b (inv.new j oj d' hj hoj hlj hd') hc' hb'
       omega
      ·exact inv.sep e.on j o2 oj d2 d' (hsp.backh i o hin ho e he hbd) hj ho2 hoj (hdeps e he hbd) hlj hd2 hd' (by rw [hc2]; exact hc0) hc' (by rw [hc2]; exact hne) b hb2 hb'
     refine ih _ _ _ (by simpa using hz) (by rw [cntUp_set hun]; omega) (fun j oj hoj hlj e he hb=>?_) (fun j hj=>?_) ⟨?_,?_,hRt _ _ _ inv.world hR,fun d' hd'=>?_,fun j oj d' hj hoj hlj hd'=>?_,fun i1 j1 o1 o2 d1 d2 hi1 hj1 ho1 ho2 hl1 hl2 hd1 hd2 hc1 hc2 hne b hb=>?_⟩
     ·rcases getD_setT hlj with rfl | hlj
      ·rw [ho] at hoj
       injection hoj with hoj
       subst hoj
       exact getD_setT' (hdeps e he hb)
      ·exact getD_setT' (hc j oj hoj hlj e he hb)
     ·rw [getD_set_ne false (fun e=>by rw [← e,hin] at hj; cases hj)]
      exact htl j hj
     ·rw [hd]
      simp only [Act.put,Array.size_setIfInBounds]
      exact inv.size
     ·rw [hd]
      exact inv.defers
     ·have hne:d≠d':=fun e=>hd' i o hin ho (by rw [hd,e])
      have:=inv.old d' hd'
      rw [← this,hd]
      simp only [Act.put,Array.getD_eq_getD_getElem?]
      rw [Array.getElem?_setIfInBounds_ne hne]
     ·by_cases e:j=i
      ·subst e
       rw [ho] at hoj
       injection hoj with hoj
       subst hoj
       rw [hd] at hd'
       injection hd' with hd'
       subst hd'
       exact hTd
      ·have hne:d≠d':=fun e'=>hsp.apart j i oj o hj hin (fun e''=>e e''.symm) hoj ho (by rw [hd,hd',e'])
       have hlj:=(getD_setT hlj).resolve_left e
       have:=hT d' _ _ _ hR (inv.new j oj d' hj hoj hlj hd')
       rw [hget v d' hne]
       exact this
     ·have hdi:∀ (i2:Nat) (o3:Oper) (d3:Nat),hs.contains i2=true→ops[i2]?=some o3→o3.dst=some d3→i2≠i→d≠d3:=fun i2 o3 d3 h2 h3 h4 h5 e'=>hsp.apart i2 i o3 o h2 hin (fun e''=>h5 e''.symm) h3 ho (by rw [hd,h4,e'])
      have hii:∀ (i2:Nat) (o3:Oper) (d3:Nat),ops[i2]?=some o3→o3.dst=some d3→i2=i→d3=d:=fun i2 o3 d3 h3 h4 h5=>by
       subst h5
       rw [ho] at h3
       injection h3 with h3
       subst h3
       rw [hd] at h4
       injection h4 with h4
       exact h4.symm
      by_cases e1:i1=i
      ·have f1:=hii i1 o1 d1 ho1 hd1 e1
       subst f1
       by_cases e2:j1=i
       ·exact absurd (hii j1 o2 d2 ho2 hd2 e2).symm (fun e=>hne (by rw [e]))
       ·rw [hget v d2 (hdi j1 o2 d2 hj1 ho2 hd2 e2)]
        exact hsepn hc1 j1 o2 d2 hj1 ho2 ((getD_setT hl2).resolve_left e2) hd2 hc2 hne b hb
      ·rw [hget v d1 (hdi i1 o1 d1 hi1 ho1 hd1 e1)] at hb
       by_cases e2:j1=i
       ·have f2:=hii j1 o2 d2 ho2 hd2 e2
        subst f2
        exact fun hb'=>hsepn hc2 i1 o1 d1 hi1 ho1 ((getD_setT hl1).resolve_left e1) hd1 hc1 (fun e=>hne e.symm) b hb' hb
       ·rw [hget v d2 (hdi j1 o2 d2 hj1 ho2 hd2 e2)]
        exact inv.sep i1 j1 o1 o2 d1 d2 hi1 hj1 ho1 ho2 ((getD_setT hl1).resolve_left e1) ((getD_setT hl2).resolve_left e2) hd1 hd2 hc1 hc2 hne b hb
    unfold Oper.wp at hst ⊢
    generalize (execOp a.eval o).run P w=r at hst
    cases r with
    | ok nx w'=>
     cases nx with
     | value v=>exact hlast v w' hst.2.2.1 hst.2.2.2
     | skip=>exact hlast undef w' hst.2.2.1 hst.2.2.2
     | defer df=>
      have h:=congrArg List.length hst.2.1
      rw [hd] at h
      simp [Act.put] at h
     | enter f args=>
      simp only [Oper.upon] at hst ⊢
      refine hst.mono fun e w'' he=>?_
      cases e with
      | returned v=>exact hlast v w'' he.2.2.1 he.2.2.2
      | panicked c=>exact absurd he.1 (by simp)
      | outgrown=>
       obtain⟨a',w',hx,_⟩:=he
       cases hx
     | row row args=>
      simp only [Oper.upon] at hst ⊢
      exact Rows.mono hst (fun v w'' he=>hlast v w'' he.2.2.1 he.2.2.2)
     | _=>exact hst.elim
    | halt hx w'=>
     cases hx <;> first | exact hst.elim | exact absurd hst.1 (by simp)
   ·cases hx
end
def Nx (w w':World):Prop:=Below w.heap.size w w'
theorem Nx.refl (w:World):Nx w w:=Below.refl _ _
theorem Nx.sz {w w':World} (h:Nx w.drew w'):w.heap.size≤w'.heap.size:=by
 unfold Nx at h
 have h1:=Below.size h
 exact h1
theorem Nx.trans {a b c:World} (h:Nx a b) (k:Nx b c):Nx a c:=Below.trans h (Below.mono k (Below.size h))
def fillL (D:List Nat) (xs:Nat→Value):Nat→List Value→List Value
 | _,[]=>[]
 | i,v::vs=>(if D.contains i=true then xs i else v)::fillL D xs (i+1) vs
theorem fillL_length (D:List Nat) (xs:Nat→Value):∀ (i:Nat) (ts:List Value),(fillL D xs i ts).length=ts.length
 | _,[]=>rfl
 | i,v::vs=>by simp [fillL,fillL_length D xs (i+1) vs]
theorem fillL_get (D:List Nat) (xs:Nat→Value):∀ (k i:Nat) (ts:List Value),(fillL D xs k ts)[i]?=ts[i]?.map fun v=>if D.contains (k+i)=true then xs (k+i) else v
 | k,i,[]=>by simp [fillL]
 | k,0,v::vs=>by simp [fillL]
 | k,i+1,v::vs=>by
  rw [fillL,List.getElem?_cons_succ,fillL_get D xs (k+1) i vs,List.getElem?_cons_succ,show k+1+i=k+(i+1) by omega]
def shpA (D:List Nat) (xs:Nat→Value) (ts:List Value) (df:List Deferred):Act:=⟨(fillL D xs 0 ts).toArray,df⟩
theorem shpA_of {D:List Nat} {ts:List Value} {df:List Deferred} {a:Act} (hz:a.tmps.size=ts.length) (hd:a.defers=df) (ho:∀ d,¬ d∈D→a.tmps.getD d undef=ts.toArray.getD d undef):a=shpA D (fun d=>a.tmps.getD d undef) ts df:=by
 obtain⟨t,d⟩:=a
 simp only at hz hd ho
 subst hd
 unfold shpA
 congr 1
 refine Array.ext (by rw [hz]; simp [fillL_length]) fun i h1 h2=>?_
 have h3:i<ts.length:=by omega
 have h4:=fillL_get D (fun d=>t.getD d undef) 0 i ts
 rw [List.getElem?_eq_getElem (by rw [fillL_length]; exact h3),List.getElem?_eq_getElem h3,Option.map_some,Nat.zero_add] at h4
 injection h4 with h4
 refine Eq.trans ?_ (List.getElem_toArray (xs:=fillL D (fun d=>t.getD d undef) 0 ts) h2).symm
 rw [h4]
 split
 ·simp
 ·rename_i hn
  have:=ho i (fun hm=>hn (by simpa using hm))
  simpa [h1,h3] using this
def RelPost (T:Nat→World→Value→Prop) (cl:Nat→Nat) (dd:List Nat) (xs:Nat→Value) (d:Option Nat) (w:World) (df:List Deferred) (x:Exit) (a:Act) (w':World):Prop:=x=.normal∧a.defers=df∧Nx w w'∧∀ d',d=some d'→T d' w' (a.tmps.getD d' undef)∧(cl d'≠0→∀ b,blkV (a.tmps.getD d' undef)=some b→w.heap.size≤b∨∃ d2∈dd,cl d2=cl d'∧blkV (xs d2)=some b)
theorem RelPost.mk {T:Nat→World→Value→Prop} {cl:Nat→Nat} {dd:List Nat} {xs:Nat→Value} {d:Nat} {w w':World} {df:List Deferred} {ts:Array Value} (h:Nx w w') (v:Value) (hv:ts.getD d undef=v) (k:T d w' v) (hc:cl d=0):RelPost T cl dd xs (some d) w df .normal ⟨ts,df⟩ w':=
 ⟨rfl,rfl,h,fun d' e=>by injection e with e; subst e; simp only; rw [hv]; exact⟨k,fun h=>absurd hc h⟩⟩
theorem RelPost.own {T:Nat→World→Value→Prop} {cl:Nat→Nat} {dd:List Nat} {xs:Nat→Value} {d:Nat} {w w':World} {df:List Deferred} {ts:Array Value} (h:Nx w w') (v:Value) (hv:ts.getD d undef=v) (k:T d w' v) (hc:∀ b,blkV v=some b→w.heap.size≤b∨∃ d2∈dd,cl d2=cl d∧blkV (xs d2)=some b):RelPost T cl dd xs (some d) w df .normal ⟨ts,df⟩ w':=
 ⟨rfl,rfl,h,fun d' e=>by injection e with e; subst e; simp only; rw [hv]; exact⟨k,fun _=>hc⟩⟩
def depD (ops:Array Oper) (o:Oper):List Nat:=(o.after.toList.filter (Region.binds .any)).filterMap fun e=>(ops[e.on]?).bind (·.dst)
def relSteps (P:Program) (ops:Array Oper) (T:Nat→World→Value→Prop) (cl:Nat→Nat) (D:List Nat) (ts:List Value) (df:List Deferred) (w0:World):List Oper→Prop
 | []=>True
 | o::os=>(∀ xs w,Nx w0 w→(∀ d∈depD ops o,T d w (xs d))→(∀ d∈depD ops o,∀ d'∈depD ops o,cl d≠0→cl d'≠0→cl d≠cl d'→∀ b,blkV (xs d)=some b→blkV (xs d')≠some b)→wpList P ops (RelPost T cl (depD ops o) xs o.dst w df) [o] (shpA D xs ts df) w)∧relSteps P ops T cl D ts df w0 os
theorem relSteps_get {P:Program} {ops:Array Oper} {T:Nat→World→Value→Prop} {cl:Nat→Nat} {D:List Nat} {ts:List Value} {df:List Deferred} {w0:World}:∀ {l:List Oper} {i:Nat} {o:Oper},relSteps P ops T cl D ts df w0 l→l[i]?=some o →
  ∀ xs w,Nx w0 w→(∀ d∈depD ops o,T d w (xs d))→(∀ d∈depD ops o,∀ d'∈depD ops o,cl d≠0→cl d'≠0→cl d≠cl d'→∀ b,blkV (xs d)=some b→blkV (xs d')≠some b)→wpList P ops (RelPost T cl (depD ops o) xs o.dst w df) [o] (shpA D xs ts df) w
 | [],i,o,_,h=>by simp at h
 | o'::l,0,o,h,e=>by
  simp only [List.getElem?_cons_zero,Option.some.injEq] at e
  subst e
  exact h.1
 | o'::l,i+1,o,h,e=>relSteps_get h.2 (by simpa using e)
def TEq (f:Nat→Value) (d:Nat) (w:World) (v:Value):Prop:=v=f d
theorem teq_nx {f:Nat→Value}:∀ d w w' v,Nx w w'→TEq f d w v→TEq f d w' v:=fun _ _ _ _ _ h=>h
theorem teq_blk {f:Nat→Value}:∀ d w v b,TEq f d w v→(fun _=>0:Nat→Nat) d≠0→blkV v=some b→b<w.heap.size:=fun _ _ _ _ _ h=>absurd rfl h
theorem nx_below {w w':World} (h:Nx w.drew w'):Below w.heap.size w w':=(Below.refl w.heap.size w).drew.trans (show Below w.drew.heap.size w.drew w' from h)
theorem getD_repl (m i:Nat):(Array.replicate m false).getD i false=false:=by
 rw [Array.getD_eq_getD_getElem?,Array.getElem?_replicate]
 split <;> rfl
theorem wp_region_rel {P:Program} {id:Nat} {Q:Exit→Act→World→Prop} {l:List Oper} {ts:List Value} {df:List Deferred} {w:World} (hs tl:List Nat) (T:Nat→World→Value→Prop) (cl:Nat→Nat) (D:List Nat) (hm:P.follows .mixedOrders=true)
  (hB:relB l.toArray hs tl=true) (hD:(hs.filterMap (l[·]?)).filterMap (·.dst)=D) (hz:D.all (fun d=>decide (d<ts.length))=true) (hT:∀ d w w' v,Nx w w'→T d w v→T d w' v) (hF:∀ d w v b,T d w v→cl d≠0→blkV v=some b→b<w.heap.size)
  (hstep:relSteps P l.toArray T cl D ts df w.drew (hs.filterMap (l[·]?)))
  (hend:∀ xs w',Nx w.drew w'→(∀ d∈D,T d w' (xs d))→(∀ d∈D,∀ d'∈D,cl d≠0→cl d'≠0→cl d≠cl d'→∀ b,blkV (xs d)=some b→blkV (xs d')≠some b)→wpList P l.toArray Q (tl.filterMap (l[·]?)) (shpA D xs ts df) w'):(Code.region id l.toArray true).wp P Q ⟨ts.toArray,df⟩ w:=by
 have hsp:=relB_spec hB
 have hgetl:(fun i:Nat=>l.toArray[i]?)=(fun i:Nat=>l[i]?):=by funext i; simp
 have hmemD:∀ i o d,hs.contains i=true→l.toArray[i]?=some o→o.dst=some d→d∈D:=fun i o d hi ho hd=>by
  rw [← hD]
  exact List.mem_filterMap.2 ⟨o,List.mem_filterMap.2 ⟨i,by simpa using hi,by simpa using ho⟩,hd⟩
 have hofD:∀ d∈D,∃ i o,hs.contains i=true∧l.toArray[i]?=some o∧o.dst=some d:=fun d hd=>by
  rw [← hD] at hd
  obtain⟨o,ho,he⟩:=List.mem_filterMap.1 hd
  obtain⟨i,hi,ho⟩:=List.mem_filterMap.1 ho
  exact⟨i,o,by simpa using hi,by simpa using ho,he⟩
 refine wp_region_any hm (wpAny_of_rel (R:=Nx) (w0:=w.drew) (a0:=⟨ts.toArray,df⟩) (T:=T) (hs:=hs) (tl:=tl) hsp (cl:=cl) (fun _ _ _=>Nx.trans) hT hF (fun i o d hi ho hd=>?_) (fun i o d hi ho hd a w' h1 h2 h3 h4 h5 h5s=>?_) (fun a w' h1 h2 h3 h4 h5 h6=>?_) _ _ _ _ (by simp) ?_ (fun i o ho hl=>?_) (fun j hj=>?_) ⟨rfl,rfl,Nx.refl _,fun _ _=>rfl,fun i o d hi ho hl=>?_,fun i j o o' d d' hi hj ho ho' hl=>?_⟩)
 ·have:=List.all_eq_true.1 hz d (hmemD i o d hi ho hd)
  simpa using this
 ·have hsh:=shpA_of (D:=D) (ts:=ts) (df:=df) (a:=a) (by simpa using h1) h2 (fun d' hd'=>h4 d' fun i' o' hi' ho' e=>hd' (hmemD i' o' d' hi' ho' e))
  obtain⟨i',hi'⟩:=List.getElem?_of_mem (List.mem_filterMap.2 ⟨i,by simpa using hi,(by simpa using ho:l[i]?=some o)⟩:o∈hs.filterMap (l[·]?))
  have:=relSteps_get hstep hi' (fun d=>a.tmps.getD d undef) w' h3 (fun d' hd'=>by
   unfold depD at hd'
   obtain⟨e,he,hed⟩:=List.mem_filterMap.1 hd'
   obtain⟨he1,he2⟩:=List.mem_filter.1 he
   obtain⟨o'',ho'',hd''⟩:=Option.bind_eq_some_iff.1 hed
   exact h5 e (by simpa using he1) he2 o'' d' ho'' hd'') (fun d1 hd1 d2 hd2=>by
   unfold depD at hd1 hd2
   obtain⟨e,he,hed⟩:=List.mem_filterMap.1 hd1
   obtain⟨he1,he2⟩:=List.mem_filter.1 he
   obtain⟨o1,ho1,hd1⟩:=Option.bind_eq_some_iff.1 hed
   obtain⟨e',he',hed'⟩:=List.mem_filterMap.1 hd2
   obtain⟨he1',he2'⟩:=List.mem_filter.1 he'
   obtain⟨o2,ho2,hd2⟩:=Option.bind_eq_some_iff.1 hed'
   exact h5s e (by simpa using he1) he2 e' (by simpa using he1') he2' o1 o2 d1 d2 ho1 ho2 hd1 hd2)
  rw [← hsh] at this
  rw [hd] at this
  unfold wpList at this ⊢
  have hw:Region.wanted o (yielded l.toArray a.tmps)=true:=wanted_of (hsp.guard i o ho) _
  rw [if_pos hw] at this ⊢
  have hp:∀ x a' w'',RelPost T cl (depD l.toArray o) (fun d=>a.tmps.getD d undef) (some d) w' df x a' w''→x=.normal∧a'.defers=a.defers∧Nx w' w''∧T d w'' (a'.tmps.getD d undef)∧(cl d≠0→∀ b,blkV (a'.tmps.getD d undef)=some b→w'.heap.size≤b∨∃ e∈o.after,Region.binds .any e=true∧∃ o' d',l.toArray[e.on]?=some o'∧o'.dst=some d'∧cl d'=cl d∧blkV (a.tmps.getD d' undef)=some b):=fun x a' w'' ⟨k1,k2,k3,k4⟩=>⟨k1,by rw [k2,h2],k3,(k4 d rfl).1,fun hc b hb=>by
   rcases (k4 d rfl).2 hc b hb with h | ⟨d2,hd2,h6,h7⟩
   ·exact .inl h
   ·unfold depD at hd2
    obtain⟨e,he,hed⟩:=List.mem_filterMap.1 hd2
    obtain⟨he1,he2⟩:=List.mem_filter.1 he
    obtain⟨o'',ho'',hd''⟩:=Option.bind_eq_some_iff.1 hed
    exact .inr ⟨e,by simpa using he1,he2,o'',d2,ho'',hd'',h6,h7⟩⟩
  rcases this with this | ⟨_,a',w'',hx,_⟩
  ·left
   unfold Oper.wp at this ⊢
   generalize (execOp a.eval o).run P w'=r at this
   cases r with
   | ok nx w'=>
    cases nx <;> simp only [Oper.upon] at this ⊢ <;>
     first
      | exact hp _ _ _ this
      | exact Calls.mono this (fun e w'' he=>by
        cases e with
        | returned v=>exact hp _ _ _ he
        | panicked c=>exact absurd he.1 (by simp)
        | outgrown=>exact he.elim fun a' he=>he.elim fun w'' he=>absurd he.1 (by simp))
      | exact Rows.mono this (fun _ _ he=>hp _ _ _ he)
   | halt x w'=>cases x <;> simp only [Oper.upon] at this ⊢ <;> first | exact this | exact absurd this.1 (by simp)
  ·cases hx
 ·have hsh:=shpA_of (D:=D) (ts:=ts) (df:=df) (a:=a) (by simpa using h1) h2 (fun d' hd'=>h4 d' fun i' o' hi' ho' e=>hd' (hmemD i' o' d' hi' ho' e))
  have:=hend (fun d=>a.tmps.getD d undef) w' h3 (fun d' hd'=>by
   obtain⟨i,o,hi,ho,he⟩:=hofD d' hd'
   exact h5 i o d' hi ho he) (fun d1 hd1 d2 hd2 c1 c2 hne=>by
   obtain⟨i,o,hi,ho,he⟩:=hofD d1 hd1
   obtain⟨j,o',hj,ho',he'⟩:=hofD d2 hd2
   exact h6 i j o o' d1 d2 hi hj ho ho' he he' c1 c2 hne)
  rw [← hsh,← hgetl] at this
  exact this
 ·have:cntUp (Array.replicate l.toArray.size false)=0:=by
   unfold cntUp
   rw [List.count_eq_zero]
   intro h
   simp at h
  rw [this]
  omega
 ·rw [getD_repl] at hl
  cases hl
 ·exact getD_repl _ _
 ·rw [getD_repl] at hl
  cases hl
 ·rw [getD_repl] at hl
  cases hl
end Go.Proofs.YtojmofnamppbdaaGreat
namespace Go.Proofs.YtojmofnamppbdaaGreat
open Go.RowKit
set_option linter.unusedVariables false
set_option maxRecDepth 100000
def RelPostR (R:World→World→Prop) (T:Nat→World→Value→Prop) (cl:Nat→Nat) (dd:List Nat) (xs:Nat→Value) (d:Option Nat) (w:World) (df:List Deferred) (x:Exit) (a:Act) (w':World):Prop:=x=.normal∧a.defers=df∧R w w'∧∀ d',d=some d'→T d' w' (a.tmps.getD d' undef)∧(cl d'≠0→∀ b,blkV (a.tmps.getD d' undef)=some b→w.heap.size≤b∨∃ d2∈dd,cl d2=cl d'∧blkV (xs d2)=some b)
theorem RelPostR.mk {R:World→World→Prop} {T:Nat→World→Value→Prop} {cl:Nat→Nat} {dd:List Nat} {xs:Nat→Value} {d:Nat} {w w':World} {df:List Deferred} {ts:Array Value} (h:R w w') (v:Value) (hv:ts.getD d undef=v) (k:T d w' v) (hc:cl d=0):RelPostR R T cl dd xs (some d) w df .normal ⟨ts,df⟩ w':=
 ⟨rfl,rfl,h,fun d' e=>by injection e with e; subst e; simp only; rw [hv]; exact⟨k,fun h=>absurd hc h⟩⟩
def relStepsR (R:World→World→Prop) (P:Program) (ops:Array Oper) (T:Nat→World→Value→Prop) (cl:Nat→Nat) (D:List Nat) (ts:List Value) (df:List Deferred) (w0:World):List Oper→Prop
 | []=>True
 | o::os=>(∀ xs w,R w0 w→(∀ d∈depD ops o,T d w (xs d))→(∀ d∈depD ops o,∀ d'∈depD ops o,cl d≠0→cl d'≠0→cl d≠cl d'→∀ b,blkV (xs d)=some b→blkV (xs d')≠some b)→wpList P ops (RelPostR R T cl (depD ops o) xs o.dst w df) [o] (shpA D xs ts df) w)∧relStepsR R P ops T cl D ts df w0 os
theorem relStepsR_get {R:World→World→Prop} {P:Program} {ops:Array Oper} {T:Nat→World→Value→Prop} {cl:Nat→Nat} {D:List Nat} {ts:List Value} {df:List Deferred} {w0:World}:∀ {l:List Oper} {i:Nat} {o:Oper},relStepsR R P ops T cl D ts df w0 l→l[i]?=some o →
  ∀ xs w,R w0 w→(∀ d∈depD ops o,T d w (xs d))→(∀ d∈depD ops o,∀ d'∈depD ops o,cl d≠0→cl d'≠0→cl d≠cl d'→∀ b,blkV (xs d)=some b→blkV (xs d')≠some b)→wpList P ops (RelPostR R T cl (depD ops o) xs o.dst w df) [o] (shpA D xs ts df) w
 | [],i,o,_,h=>by simp at h
 | o'::l,0,o,h,e=>by
  simp only [List.getElem?_cons_zero,Option.some.injEq] at e
  subst e
  exact h.1
 | o'::l,i+1,o,h,e=>relStepsR_get h.2 (by simpa using e)
theorem wp_region_relR {R:World→World→Prop} (hRr:∀ w,R w w) (hRt:∀ a b c,R a b→R b c→R a c) {P:Program} {id:Nat} {Q:Exit→Act→World→Prop} {l:List Oper} {ts:List Value} {df:List Deferred} {w:World} (hs tl:List Nat) (T:Nat→World→Value→Prop) (cl:Nat→Nat) (D:List Nat) (hm:P.follows .mixedOrders=true)
  (hB:relB l.toArray hs tl=true) (hD:(hs.filterMap (l[·]?)).filterMap (·.dst)=D) (hz:D.all (fun d=>decide (d<ts.length))=true) (hT:∀ d w w' v,R w w'→T d w v→T d w' v) (hF:∀ d w v b,T d w v→cl d≠0→blkV v=some b→b<w.heap.size)
  (hstep:relStepsR R P l.toArray T cl D ts df w.drew (hs.filterMap (l[·]?)))
  (hend:∀ xs w',R w.drew w'→(∀ d∈D,T d w' (xs d))→(∀ d∈D,∀ d'∈D,cl d≠0→cl d'≠0→cl d≠cl d'→∀ b,blkV (xs d)=some b→blkV (xs d')≠some b)→wpList P l.toArray Q (tl.filterMap (l[·]?)) (shpA D xs ts df) w'):(Code.region id l.toArray true).wp P Q ⟨ts.toArray,df⟩ w:=by
 have hsp:=relB_spec hB
 have hgetl:(fun i:Nat=>l.toArray[i]?)=(fun i:Nat=>l[i]?):=by funext i; simp
 have hmemD:∀ i o d,hs.contains i=true→l.toArray[i]?=some o→o.dst=some d→d∈D:=fun i o d hi ho hd=>by
  rw [← hD]
  exact List.mem_filterMap.2 ⟨o,List.mem_filterMap.2 ⟨i,by simpa using hi,by simpa using ho⟩,hd⟩
 have hofD:∀ d∈D,∃ i o,hs.contains i=true∧l.toArray[i]?=some o∧o.dst=some d:=fun d hd=>by
  rw [← hD] at hd
  obtain⟨o,ho,he⟩:=List.mem_filterMap.1 hd
  obtain⟨i,hi,ho⟩:=List.mem_filterMap.1 ho
  exact⟨i,o,by simpa using hi,by simpa using ho,he⟩
 refine wp_region_any hm (wpAny_of_rel (R:=R) (w0:=w.drew) (a0:=⟨ts.toArray,df⟩) (T:=T) (hs:=hs) (tl:=tl) hsp (cl:=cl) hRt hT hF (fun i o d hi ho hd=>?_) (fun i o d hi ho hd a w' h1 h2 h3 h4 h5 h5s=>?_) (fun a w' h1 h2 h3 h4 h5 h6=>?_) _ _ _ _ (by simp) ?_ (fun i o ho hl=>?_) (fun j hj=>?_) ⟨rfl,rfl,hRr _,fun _ _=>rfl,fun i o d hi ho hl=>?_,fun i j o o' d d' hi hj ho ho' hl=>?_⟩)
 ·have:=List.all_eq_true.1 hz d (hmemD i o d hi ho hd)
  simpa using this
 ·have hsh:=shpA_of (D:=D) (ts:=ts) (df:=df) (a:=a) (by simpa using h1) h2 (fun d' hd'=>h4 d' fun i' o' hi' ho' e=>hd' (hmemD i' o' d' hi' ho' e))
  obtain⟨i',hi'⟩:=List.getElem?_of_mem (List.mem_filterMap.2 ⟨i,by simpa using hi,(by simpa using ho:l[i]?=some o)⟩:o∈hs.filterMap (l[·]?))
  have:=relStepsR_get hstep hi' (fun d=>a.tmps.getD d undef) w' h3 (fun d' hd'=>by
   unfold depD at hd'
   obtain⟨e,he,hed⟩:=List.mem_filterMap.1 hd'
   obtain⟨he1,he2⟩:=List.mem_filter.1 he
   obtain⟨o'',ho'',hd''⟩:=Option.bind_eq_some_iff.1 hed
   exact h5 e (by simpa using he1) he2 o'' d' ho'' hd'') (fun d1 hd1 d2 hd2=>by
   unfold depD at hd1 hd2
   obtain⟨e,he,hed⟩:=List.mem_filterMap.1 hd1
   obtain⟨he1,he2⟩:=List.mem_filter.1 he
   obtain⟨o1,ho1,hd1⟩:=Option.bind_eq_some_iff.1 hed
   obtain⟨e',he',hed'⟩:=List.mem_filterMap.1 hd2
   obtain⟨he1',he2'⟩:=List.mem_filter.1 he'
   obtain⟨o2,ho2,hd2⟩:=Option.bind_eq_some_iff.1 hed'
   exact h5s e (by simpa using he1) he2 e' (by simpa using he1') he2' o1 o2 d1 d2 ho1 ho2 hd1 hd2)
  rw [← hsh] at this
  rw [hd] at this
  unfold wpList at this ⊢
  have hw:Region.wanted o (yielded l.toArray a.tmps)=true:=wanted_of (hsp.guard i o ho) _
  rw [if_pos hw] at this ⊢
  have hp:∀ x a' w'',RelPostR R T cl (depD l.toArray o) (fun d=>a.tmps.getD d undef) (some d) w' df x a' w''→x=.normal∧a'.defers=a.defers∧R w' w''∧T d w'' (a'.tmps.getD d undef)∧(cl d≠0→∀ b,blkV (a'.tmps.getD d undef)=some b→w'.heap.size≤b∨∃ e∈o.after,Region.binds .any e=true∧∃ o' d',l.toArray[e.on]?=some o'∧o'.dst=some d'∧cl d'=cl d∧blkV (a.tmps.getD d' undef)=some b):=fun x a' w'' ⟨k1,k2,k3,k4⟩=>⟨k1,by rw [k2,h2],k3,(k4 d rfl).1,fun hc b hb=>by
   rcases (k4 d rfl).2 hc b hb with h | ⟨d2,hd2,h6,h7⟩
   ·exact .inl h
   ·unfold depD at hd2
    obtain⟨e,he,hed⟩:=List.mem_filterMap.1 hd2
    obtain⟨he1,he2⟩:=List.mem_filter.1 he
    obtain⟨o'',ho'',hd''⟩:=Option.bind_eq_some_iff.1 hed
    exact .inr ⟨e,by simpa using he1,he2,o'',d2,ho'',hd'',h6,h7⟩⟩
  rcases this with this | ⟨_,a',w'',hx,_⟩
  ·left
   unfold Oper.wp at this ⊢
   generalize (execOp a.eval o).run P w'=r at this
   cases r with
   | ok nx w'=>
    cases nx <;> simp only [Oper.upon] at this ⊢ <;>
     first
      | exact hp _ _ _ this
      | exact Calls.mono this (fun e w'' he=>by
        cases e with
        | returned v=>exact hp _ _ _ he
        | panicked c=>exact absurd he.1 (by simp)
        | outgrown=>exact he.elim fun a' he=>he.elim fun w'' he=>absurd he.1 (by simp))
      | exact Rows.mono this (fun _ _ he=>hp _ _ _ he)
   | halt x w'=>cases x <;> simp only [Oper.upon] at this ⊢ <;> first | exact this | exact absurd this.1 (by simp)
  ·cases hx
 ·have hsh:=shpA_of (D:=D) (ts:=ts) (df:=df) (a:=a) (by simpa using h1) h2 (fun d' hd'=>h4 d' fun i' o' hi' ho' e=>hd' (hmemD i' o' d' hi' ho' e))
  have:=hend (fun d=>a.tmps.getD d undef) w' h3 (fun d' hd'=>by
   obtain⟨i,o,hi,ho,he⟩:=hofD d' hd'
   exact h5 i o d' hi ho he) (fun d1 hd1 d2 hd2 c1 c2 hne=>by
   obtain⟨i,o,hi,ho,he⟩:=hofD d1 hd1
   obtain⟨j,o',hj,ho',he'⟩:=hofD d2 hd2
   exact h6 i j o o' d1 d2 hi hj ho ho' he he' c1 c2 hne)
  rw [← hsh,← hgetl] at this
  exact this
 ·have:cntUp (Array.replicate l.toArray.size false)=0:=by
   unfold cntUp
   rw [List.count_eq_zero]
   intro h
   simp at h
  rw [this]
  omega
 ·rw [getD_repl] at hl
  cases hl
 ·exact getD_repl _ _
 ·rw [getD_repl] at hl
  cases hl
 ·rw [getD_repl] at hl
  cases hl
def RTl (B:Nat) (T:Nat→World→Value→Prop) (w w':World):Prop:=Below B w w'∧w.heap.size≤w'.heap.size∧∀ d v,T d w v→T d w' v
theorem RTl.refl (B:Nat) (T:Nat→World→Value→Prop) (w:World):RTl B T w w:=⟨Below.refl _ _,Nat.le_refl _,fun _ _ h=>h⟩
theorem RTl.trans {B:Nat} {T:Nat→World→Value→Prop} (a b c:World) (h:RTl B T a b) (k:RTl B T b c):RTl B T a c:=⟨h.1.trans k.1,Nat.le_trans h.2.1 k.2.1,fun d v hv=>k.2.2 d v (h.2.2 d v hv)⟩
theorem RTl.nx {B:Nat} {T:Nat→World→Value→Prop} (hT:∀ d w w' v,Nx w w'→T d w v→T d w' v) {w w':World} (hB:B≤w.heap.size) (h:Nx w w'):RTl B T w w':=⟨Below.mono (show Below w.heap.size w w' from h) hB,Below.size (show Below w.heap.size w w' from h),fun d v=>hT d w w' v h⟩
theorem run_append_keep {P:Program} (w:World) (t ty:TypeId) (base:Nat) (e:TypeId) (i:TypeInfo) (z:Value) (bytes:Nat) (ht:P.underlying t=some (.slice e)) (hi:P.info? e=some i) (hz:i.zero=some z)
  (hsize:i.size=1) (hby:i.bytes=bytes) (hzs:z.cells.size=1)
  (v:Value) (n:Nat) (xs:List Value) (hown:w.ownsRow base e 1 v n xs) (a:Addr) (m c:Nat) (news:List Value) (hl:news.length=m) (hnews:∀ j u,news[j]?=some u→w.cell? (a.add j)=some u) (h1:∀ u∈news,u.oneCell'=true)
  (hm:0<m) (h63:n+m≤maxLen) (hbytes:(n+m)*bytes≤140737488355328) (hbase:base≤w.heap.size):
  ∃ v' w',(Builtin.append_ #[t,t] ty #[v,.slice (some a) m c]).run P w=.ok v' w'∧w'.ownsRow base e 1 v' (n+m) (xs++news)∧w.grownBy w' v.ownBlock∧(v'.ownBlock=v.ownBlock∨v'.ownBlock=some w.heap.size) ∧
   ∀ g,v.ownBlock=some g→w'.heap[g]?=w.heap[g]?∨∃ cur cur',w.heap[g]?=some (.cells cur e (0,0))∧w'.heap[g]?=some (.cells cur' e (0,0))∧cur'.size=cur.size∧cur'.toList.take (n+m)=xs++news∧cur.toList.take n=xs:=by
 obtain⟨v',w',hr,h2,h3,h4⟩:=run_append_own (P:=P) w base t ty e i z 1 bytes ht hi hz hsize hby hzs (by omega) v n xs hown a m c news (by rw [hl,Nat.mul_one]) hnews h1 h63 hbytes hbase
 have hat:v'.ownBlock=v.ownBlock∨v'.ownBlock=some w.heap.size:=by
  obtain⟨v'',w'',hr',_,_,_,h5⟩:=run_append_own_at (P:=P) w base t ty e i z 1 bytes ht hi hz hsize hby hzs (by omega) v n xs hown a m c news (by rw [hl,Nat.mul_one]) hnews h1 h63 hbytes hbase
  rw [hr] at hr'
  injection hr' with e1 e2
  rw [e1]
  exact h5
 refine⟨v',w',hr,h2,h3,hat,fun g hg=>?_⟩
 rcases hown.2 with ⟨rfl,_⟩ | ⟨g',cap,cur,rfl,hbg,hgc,hnc,hcm,hcs,htake⟩
 ·cases hg
 ·simp only [Value.ownBlock,Option.some.injEq] at hg
  subst hg
  rw [Nat.mul_one] at hcs htake
  have hxl:xs.length=n:=by have:=hown.1; omega
  by_cases hroom:n+m≤cap
  ·have hr':=run_append_room (P:=P) w t ty e i ht hi g' n cap cur hgc a m c news (by rw [hl,hsize,Nat.mul_one]) hnews h1 hroom (by rw [hsize,hl]; omega)
   rw [hr] at hr'
   injection hr' with e1 e2
   subst e2
   refine .inr ⟨cur,_,hgc,setRow_heap w g' cur _ e _ hgc,?_,?_,htake⟩
   ·rw [hsize]
    simp only [List.size_toArray,List.length_append,List.length_take,List.length_drop,Array.length_toList]
    omega
   ·rw [hsize,Nat.mul_one]
    simp only [htake]
    rw [List.take_left' (by rw [List.length_append]; omega)]
  ·left
   have holds:∀ j u,xs[j]?=some u→w.cell? ((⟨g',0,none⟩:Addr).add j)=some u:=hown.cells (g:=g') rfl
   have hr':=run_append_grow (P:=P) w t ty e i z ht hi hz ⟨g',0,none⟩ n cap xs (by rw [hsize]; exact hown.1) holds a m c news (by rw [hl,hsize,Nat.mul_one]) hnews (by omega) (by simp only [maxLen] at h63; omega) (growslice_fits (by omega) (by rw [hby]; exact hbytes))
   rw [hr] at hr'
   injection hr' with e1 e2
   subst e2
   have hlt:g'<w.heap.size:=by
    rcases Nat.lt_or_ge g' w.heap.size with h | h
    ·exact h
    ·rw [Array.getElem?_eq_none h] at hgc; cases hgc
   exact heap_alloc_old w.drew _ hlt
theorem owns_kept {w w':World} {n m:Nat} {e:TypeId} {v:Value} {xs news:List Value} (hg:w.grownBy w' v.ownBlock) (hk:∀ g,v.ownBlock=some g→w'.heap[g]?=w.heap[g]?∨∃ cur cur',w.heap[g]?=some (.cells cur e (0,0))∧w'.heap[g]?=some (.cells cur' e (0,0))∧cur'.size=cur.size∧cur'.toList.take (n+m)=xs++news∧cur.toList.take n=xs) (hxl:xs.length=n)
  {base' j:Nat} {u:Value} {ys:List Value} (hu:w.ownsRow base' e 1 u j ys) (hj:j≤n∨(j=n+m∧ys=xs++news)):w'.ownsRow base' e 1 u j ys:=by
 refine⟨hu.1,?_⟩
 rcases hu.2 with h | ⟨g,cap,cur,rfl,hbg,hgc,hnc,hcm,hcs,htake⟩
 ·exact .inl h
 ·right
  have hlt:g<w.heap.size:=by
   rcases Nat.lt_or_ge g w.heap.size with h | h
   ·exact h
   ·rw [Array.getElem?_eq_none h] at hgc; cases hgc
  rw [Nat.mul_one] at htake
  by_cases hb:v.ownBlock=some g
  ·rcases hk g hb with h | ⟨cur1,cur',h1,h2,h3,h4,h5⟩
   ·exact⟨g,cap,cur,rfl,hbg,by rw [h]; exact hgc,hnc,hcm,hcs,by rw [Nat.mul_one]; exact htake⟩
   ·rw [hgc] at h1
    injection h1 with h1
    injection h1 with h1
    subst h1
    refine⟨g,cap,cur',rfl,hbg,h2,hnc,hcm,by rw [h3]; exact hcs,?_⟩
    rw [Nat.mul_one]
    rcases hj with hj | ⟨hj,hys⟩
    ·have e1:cur'.toList.take j=(xs++news).take j:=by rw [← h4,List.take_take,Nat.min_eq_left (by omega)]
     rw [e1,List.take_append_of_le_length (by omega),← h5,List.take_take,Nat.min_eq_left hj,htake]
    ·rw [hj,h4,hys]
  ·exact⟨g,cap,cur,rfl,hbg,(hg.block g hlt (fun e=>hb e.symm)).trans hgc,hnc,hcm,hcs,by rw [Nat.mul_one]; exact htake⟩
theorem cell_kept {w w':World} {n m:Nat} {e:TypeId} {v:Value} {xs news:List Value} (hg:w.grownBy w' v.ownBlock) (hk:∀ g,v.ownBlock=some g→w'.heap[g]?=w.heap[g]?∨∃ cur cur',w.heap[g]?=some (.cells cur e (0,0))∧w'.heap[g]?=some (.cells cur' e (0,0))∧cur'.size=cur.size∧cur'.toList.take (n+m)=xs++news∧cur.toList.take n=xs) (hxl:xs.length=n)
  {b j:Nat} {u:Value} (hc:w.cell? ⟨b,j,none⟩=some u) (hj:j<n∨news[j-n]?=some u):w'.cell? ⟨b,j,none⟩=some u:=by
 have hlt:=World.block_lt_of_cell? _ _ hc
 by_cases hb:v.ownBlock=some b
 ·rcases hk b hb with h | ⟨cur1,cur',h1,h2,h3,h4,h5⟩
  ·rw [World.cell?_of_block (w:=w) h]; exact hc
  ·rw [cell_of_row w b j cur1 e (0,0) h1] at hc
   rw [cell_of_row w' b j cur' e (0,0) h2]
   have e1:∀ i,i<n+m→cur'[i]?=(xs++news)[i]?:=fun i hi=>by rw [← h4,List.getElem?_take,if_pos hi,Array.getElem?_toList]
   have e2:∀ i,i<n→cur1[i]?=xs[i]?:=fun i hi=>by rw [← h5,List.getElem?_take,if_pos hi,Array.getElem?_toList]
   by_cases hjn:j<n
   ·rw [e1 j (by omega),List.getElem?_append_left (by omega),← e2 j hjn]
    exact hc
   ·have hj':news[j-n]?=some u:=hj.resolve_left hjn
    have hjm:j-n<news.length:=(List.getElem?_eq_some_iff.1 hj').1
    have hsz:j<cur1.size:=(Array.getElem?_eq_some_iff.1 hc).1
    have hjc:j<n+m:=by
     have hl:(xs++news).length≤n+m:=by rw [← h4,List.length_take]; omega
     rw [List.length_append] at hl
     omega
    rw [e1 j hjc,List.getElem?_append_right (by omega),hxl]
    exact hj'
 ·rw [World.cell?_of_block (w:=w) (hg.block b hlt (fun e=>hb e.symm))]; exact hc
theorem wpList_append_keep {P:Program} {w:World} {ops:Array Oper} {rest:List Oper} {o:Oper} {act:Act} {Q:Exit→Act→World→Prop} (hgd:o.guard=none) (s x:Operand) (t:TypeId)
  (ho:o.op=.call { callee:=.builtin .append,args:=#[s,x],argTypes:=#[t,t] })
  (base:Nat) (e:TypeId) (i:TypeInfo) (z:Value) (bytes:Nat) (ht:P.underlying t=some (.slice e)) (hi:P.info? e=some i) (hz:i.zero=some z)
  (hsize:i.size=1) (hby:i.bytes=bytes) (hzs:z.cells.size=1)
  (v:Value) (n:Nat) (xs:List Value) (hs:act.eval s=v) (hown:w.ownsRow base e 1 v n xs) (a:Addr) (m c:Nat) (news:List Value) (hx:act.eval x=.slice (some a) m c) (hl:news.length=m) (hnews:∀ j u,news[j]?=some u→w.cell? (a.add j)=some u) (h1:∀ u∈news,u.oneCell'=true)
  (hm:0<m) (h63:n+m≤maxLen) (hbytes:(n+m)*bytes≤140737488355328) (hbase:base≤w.heap.size)
  (h:∀ v' w',w'.ownsRow base e 1 v' (n+m) (xs++news)→w.grownBy w' v.ownBlock→(v'.ownBlock=v.ownBlock∨v'.ownBlock=some w.heap.size)→(∀ g,v.ownBlock=some g→w'.heap[g]?=w.heap[g]?∨∃ cur cur',w.heap[g]?=some (.cells cur e (0,0))∧w'.heap[g]?=some (.cells cur' e (0,0))∧cur'.size=cur.size∧cur'.toList.take (n+m)=xs++news∧cur.toList.take n=xs)→wpList P ops Q rest (act.put o.dst v') w'):wpList P ops Q (o::rest) act w:=
 wpList_plain hgd fun _ hK=>by
  obtain⟨v',w',hr,h2,h3,h5,h4⟩:=run_append_keep (P:=P) w t o.type base e i z bytes ht hi hz hsize hby hzs v n xs hown a m c news hl hnews h1 hm h63 hbytes hbase
  unfold Oper.wp execOp
  simp only [ho,resolve,invoke,builtin,Sem.run_bind,Sem.run_pure,Result.andThen_ok,List.map_toArray,List.map_cons,List.map_nil,hs,hx,hr]
  exact hK _ _ (h v' w' h2 h3 h5 h4)
end Go.Proofs.YtojmofnamppbdaaGreat
