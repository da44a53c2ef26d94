/-
  The machine with views, in plain words: states, choices, outcomes. No program in sight. Views: fences change nothing but how far the threads are; there are few states. No program in sight. Views: there are few states. No program in sight. Views: nobody gets stuck; fences change no outcome; one memory within views; a thread alone. No program in sight. Views: the texts that tell states apart. No program in sight. Views: nobody gets stuck; what is done has no choices; every choice brings the end nearer. No program in sight. States with views by what is seen of them: what reading, writing and locking do. No program in sight.
-/
import Derived.Test.YtojmofnamppbdaaGreatPlM
namespace Go.Proofs.YtojmofnamppbdaaGreat
set_option linter.unusedVariables false
structure Msg where
 val:Int
 lock:Bool
 view:List Nat
deriving DecidableEq
structure VSt where
 s:St
 lists:List (List Msg)
 own:List (List Nat)
deriving DecidableEq
def m0V:Msg:=⟨0,false,[0,0,0]⟩
def lstV (s:VSt) (l:Nat):List Msg:=s.lists.getD l []
def gM (l:List Msg) (k:Nat):Msg:=l.getD k m0V
def ownV (s:VSt) (t:Nat):List Nat:=s.own.getD t [0,0,0]
def atV (v:List Nat) (l:Nat):Nat:=v.getD l 0
def bumpV (l k:Nat) (v:List Nat):List Nat:=v.set l (if k≤atV v l then atV v l+1 else atV v l)
def joinV (u v:List Nat):List Nat:=u.zipWith max v
def bumpM (l k:Nat) (m:Msg):Msg:=⟨m.val,m.lock,bumpV l k m.view⟩
def lockM (ms:List Msg) (k:Nat):List Msg:=ms.set k ⟨(gM ms k).val,true,(gM ms k).view⟩
def putV (s:VSt) (t l k:Nat) (v:Int):VSt:=
 let own:=(s.own.map (bumpV l k)).set t ((bumpV l k (ownV s t)).set l k)
 let lists:=s.lists.map fun ms=>ms.map (bumpM l k)
 let ms:=lists.getD l []
 ⟨s.s,lists.set l (ms.take k++⟨v,false,(bumpV l k (ownV s t)).set l k⟩::ms.drop k),own⟩
def canV (p:Prg) (s:VSt) (t k:Nat):Bool:=
 let x:=insS p s.s t
 let ms:=lstV s x.loc.toNat
 let v:=atV (ownV s t) x.loc.toNat
 onS p s.s t && (if x.op=4 then decide (k=0) else if x.op=1 then decide (v≤k) && decide (k<ms.length) else if x.op=5 then decide (v≤k) && decide (k<ms.length) && !(gM ms k).lock
  else decide (v<k) && decide (k≤ms.length) && !(gM ms (k-1)).lock)
def mostV (s:VSt):Nat:=(s.lists.map List.length).foldr max 0+1
def mvV (p:Prg) (s:VSt):List Nat:=(List.range (3*mostV s)).filter fun c=>decide (c % 3<p.length) && canV p s (c % 3) (c / 3)
def rdV (s:VSt) (t:Nat) (x:Ins) (k:Nat):VSt:=
 let m:=gM (lstV s x.loc.toNat) k
 ⟨⟨s.s.pc.set t (pcS s.s t+1),if rdB x=true then s.s.regs.set (rgI t x) m.val else s.s.regs,s.s.mem⟩,s.lists,if rdB x=true then s.own.set t (joinV (ownV s t) m.view) else s.own⟩
def doV (s:VSt) (t:Nat) (x:Ins) (k:Nat):VSt:=
 if x.op=5 then
  let u:=putV (rdV s t x k) t x.loc.toNat (k+1) x.val
  ⟨u.s,u.lists.set x.loc.toNat (lockM (lstV u x.loc.toNat) k),u.own⟩
 else if wrB x=true then putV (rdV s t x k) t x.loc.toNat k (valS s.s t x) else rdV s t x k
def nxV (p:Prg) (s:VSt) (c:Nat):VSt:=doV s (c % 3) (insS p s.s (c % 3)) (c / 3)
def sucV (p:Prg) (s:VSt):List VSt:=(mvV p s).map (nxV p s)
def vt0 (p:Prg):VSt:=⟨st0 p,[[m0V],[m0V],[m0V]],List.replicate p.length [0,0,0]⟩
def doneV (p:Prg) (s:VSt):Bool:=doneS p s.s
def lastV (ms:List Msg):Int:=(gM ms (ms.length-1)).val
def outV (s:VSt):List Int:=s.s.regs++s.lists.map lastV
def wrnV (p:Prg) (s:VSt) (l:Nat):Nat:=wSum (fun t=>cntT (l:Int) true ((thrP p t).take (pcS s.s t))) (List.range p.length)
def ViewOk (ls:List (List Msg)) (v:List Nat):Prop:=v.length=3∧∀ l,l<3→atV v l<(ls.getD l []).length
structure VO1 (p:Prg) (s:VSt) (N:Nat→Nat):Prop where
 ok:StOk p s.s
 len:s.lists.length=3
 pos:∀ l,l<3→(lstV s l).length=N l
 vals:∀ ms∈s.lists,∀ m∈ms,In03 m.val∧ViewOk s.lists m.view
 ownl:s.own.length=p.length
 owns:∀ v∈s.own,ViewOk s.lists v
abbrev VOk (p:Prg) (s:VSt):Prop:=VO1 p s fun l=>1+wrnV p s l
theorem bump_len {l k:Nat} {v:List Nat}:(bumpV l k v).length=v.length:=by unfold bumpV; rw [List.length_set]
theorem at_set {v:List Nat} {l j x:Nat} (h:l<v.length):atV (v.set l x) j=if j=l then x else atV v j:=by
 unfold atV
 simp only [List.getD_eq_getElem?_getD]
 by_cases e:j=l
 ·subst e
  rw [if_pos rfl,List.getElem?_set_self h]
  rfl
 ·rw [if_neg e,List.getElem?_set_ne (fun h=>e h.symm)]
theorem bump_at {l k j:Nat} {v:List Nat} (h:l<v.length):atV (bumpV l k v) j=if j=l then (if k≤atV v l then atV v l+1 else atV v l) else atV v j:=at_set h
theorem join_len {u v:List Nat} (h:u.length=3) (k:v.length=3):(joinV u v).length=3:=by unfold joinV; rw [List.length_zipWith]; omega
theorem join_at {u v:List Nat} (h:u.length=3) (k:v.length=3) (l:Nat) (hl:l<3):atV (joinV u v) l=max (atV u l) (atV v l):=by
 unfold atV joinV
 simp only [List.getD_eq_getElem?_getD]
 rw [List.getElem?_eq_getElem (by rw [List.length_zipWith]; omega),List.getElem?_eq_getElem (by omega),List.getElem?_eq_getElem (by omega),List.getElem_zipWith]
 rfl
theorem ViewOk.join {ls:List (List Msg)} {u v:List Nat} (h:ViewOk ls u) (k:ViewOk ls v):ViewOk ls (joinV u v):=
 ⟨join_len h.1 k.1,fun l hl=>by
  rw [join_at h.1 k.1 l hl]
  have h1:=h.2 l hl
  have h2:=k.2 l hl
  omega⟩
def insL (ls:List (List Msg)) (l k:Nat) (m:Msg):List (List Msg):=
 (ls.map fun ms=>ms.map (bumpM l k)).set l (((ls.map fun ms=>ms.map (bumpM l k)).getD l []).take k++m::((ls.map fun ms=>ms.map (bumpM l k)).getD l []).drop k)
theorem ins_lists (s:VSt) (t l k:Nat) (v:Int):(putV s t l k v).lists=insL s.lists l k ⟨v,false,(bumpV l k (ownV s t)).set l k⟩:=rfl
theorem getD_map {ls:List (List Msg)} {f:Msg→Msg} {l:Nat}:(ls.map fun ms=>ms.map f).getD l []=(ls.getD l []).map f:=by
 simp only [List.getD_eq_getElem?_getD,List.getElem?_map]
 cases ls[l]? <;> simp
theorem insL_get {ls:List (List Msg)} {l k j:Nat} {m:Msg} (hl:l<ls.length):(insL ls l k m).getD j []=if j=l then ((ls.getD l []).map (bumpM l k)).take k++m::((ls.getD l []).map (bumpM l k)).drop k else (ls.getD j []).map (bumpM l k):=by
 unfold insL
 rw [getD_map]
 by_cases e:j=l
 ·subst e
  rw [if_pos rfl,List.getD_eq_getElem?_getD,List.getElem?_set_self (by rw [List.length_map]; exact hl)]
  rfl
 ·rw [if_neg e,List.getD_eq_getElem?_getD,List.getElem?_set_ne (fun h=>e h.symm),← List.getD_eq_getElem?_getD,getD_map]
theorem insL_len {ls:List (List Msg)} {l k:Nat} {m:Msg}:(insL ls l k m).length=ls.length:=by unfold insL; rw [List.length_set,List.length_map]
theorem insL_lens {ls:List (List Msg)} {l k j:Nat} {m:Msg} (hl:l<ls.length) (hk:k≤(ls.getD l []).length):((insL ls l k m).getD j []).length=(ls.getD j []).length+if j=l then 1 else 0:=by
 rw [insL_get hl]
 by_cases e:j=l
 ·subst e
  rw [if_pos rfl,if_pos rfl,List.length_append,List.length_cons,List.length_take,List.length_drop,List.length_map]
  omega
 ·rw [if_neg e,if_neg e,List.length_map]
  rfl
theorem ViewOk.bump {ls:List (List Msg)} {l k:Nat} {m:Msg} {v:List Nat} (hl:l<3) (hls:ls.length=3) (hk:k≤(ls.getD l []).length) (h:ViewOk ls v):ViewOk (insL ls l k m) (bumpV l k v):=
 ⟨by rw [bump_len]; exact h.1,fun j hj=>by
  rw [bump_at (by rw [h.1]; exact hl),insL_lens (by omega) hk]
  have h1:=h.2 j hj
  by_cases e:j=l
  ·subst e
   rw [if_pos rfl,if_pos rfl]
   split <;> omega
  ·rw [if_neg e,if_neg e]
   omega⟩
theorem ViewOk.place {ls:List (List Msg)} {l k:Nat} {m:Msg} {v:List Nat} (hl:l<3) (hls:ls.length=3) (hk:k≤(ls.getD l []).length) (h:ViewOk ls v):ViewOk (insL ls l k m) ((bumpV l k v).set l k):=
 ⟨by rw [List.length_set,bump_len]; exact h.1,fun j hj=>by
  have hb:=h.bump (m:=m) hl hls hk
  rw [at_set (by rw [bump_len,h.1]; exact hl)]
  by_cases e:j=l
  ·subst e
   rw [if_pos rfl,insL_lens (by omega) hk,if_pos rfl]
   omega
  ·rw [if_neg e]
   exact hb.2 j hj⟩
theorem own_ok {p:Prg} {s:VSt} {N:Nat→Nat} (h:VO1 p s N) {t:Nat} (ht:t<p.length):ViewOk s.lists (ownV s t):=by
 unfold ownV
 rw [List.getD_eq_getElem?_getD,List.getElem?_eq_getElem (by rw [h.ownl]; exact ht)]
 exact h.owns _ (List.getElem_mem _)
theorem insL_mem {ls:List (List Msg)} {l k:Nat} {m x:Msg} (hl:l<ls.length) {ms:List Msg} (hms:ms∈insL ls l k m) (hx:x∈ms):x=m∨∃ ms'∈ls,∃ y∈ms',x=bumpM l k y:=by
 obtain⟨j,hj,rfl⟩:=List.getElem_of_mem hms
 rw [insL_len] at hj
 have e:(insL ls l k m)[j]'(by rw [insL_len]; exact hj)=(insL ls l k m).getD j []:=by rw [List.getD_eq_getElem?_getD,List.getElem?_eq_getElem (by rw [insL_len]; exact hj)]; rfl
 rw [e,insL_get hl] at hx
 have hgd:∀ i,i<ls.length→ls.getD i []∈ls:=fun i hi=>by rw [List.getD_eq_getElem?_getD,List.getElem?_eq_getElem hi]; exact List.getElem_mem hi
 split at hx
 ·rcases List.mem_append.1 hx with hx | hx
  ·obtain⟨y,hy,rfl⟩:=List.mem_map.1 (List.mem_of_mem_take hx)
   exact .inr ⟨_,hgd l hl,y,hy,rfl⟩
  ·rcases List.mem_cons.1 hx with rfl | hx
   ·exact .inl rfl
   ·obtain⟨y,hy,rfl⟩:=List.mem_map.1 (List.mem_of_mem_drop hx)
    exact .inr ⟨_,hgd l hl,y,hy,rfl⟩
 ·obtain⟨y,hy,rfl⟩:=List.mem_map.1 hx
  exact .inr ⟨_,hgd j hj,y,hy,rfl⟩
theorem VO1.put {p:Prg} {s:VSt} {N:Nat→Nat} (h:VO1 p s N) {t l k:Nat} {v:Int} (ht:t<p.length) (hl:l<3) (hk:k≤N l) (hv:In03 v):VO1 p (putV s t l k v) fun j=>N j+if j=l then 1 else 0:=by
 have hk':k≤(s.lists.getD l []).length:=by have:=h.pos l hl; unfold lstV at this; omega
 have ho:=own_ok h ht
 refine⟨h.ok,by rw [ins_lists,insL_len]; exact h.len,fun j hj=>?_,fun ms hms m hm=>?_,?_,fun u hu=>?_⟩
 ·show ((putV s t l k v).lists.getD j []).length=_
  rw [ins_lists,insL_lens (by rw [h.len]; exact hl) hk']
  have:=h.pos j hj
  unfold lstV at this
  omega
 ·rw [ins_lists] at hms ⊢
  rcases insL_mem (by rw [h.len]; exact hl) hms hm with rfl | ⟨ms',h1,y,h2,rfl⟩
  ·exact⟨hv,ho.place hl h.len hk'⟩
  ·obtain⟨h3,h4⟩:=h.vals ms' h1 y h2
   exact⟨h3,h4.bump hl h.len hk'⟩
 ·show ((s.own.map (bumpV l k)).set t _).length=_
  rw [List.length_set,List.length_map]
  exact h.ownl
 ·rw [ins_lists]
  have hu:u∈(s.own.map (bumpV l k)).set t ((bumpV l k (ownV s t)).set l k):=hu
  rcases List.mem_or_eq_of_mem_set hu with hu | rfl
  ·obtain⟨w,hw,rfl⟩:=List.mem_map.1 hu
   exact (h.owns w hw).bump hl h.len hk'
  ·exact ho.place hl h.len hk'
theorem wSum_app {α:Type} (f:α→Nat):∀ a b:List α,wSum f (a++b)=wSum f a+wSum f b
 | [],b=>by simp [wSum]
 | x::a,b=>by
  have:=wSum_app f a b
  simp only [List.cons_append,wSum] at this ⊢
  omega
theorem wSum_upd {f g:Nat→Nat} {t d:Nat} (hd:g t=f t+d) (hs:∀ u,u≠t→g u=f u):∀ n,wSum g (List.range n)=wSum f (List.range n)+if t<n then d else 0
 | 0=>by simp [wSum]
 | n+1=>by
  have ih:=wSum_upd hd hs n
  rw [List.range_succ,wSum_app,wSum_app]
  simp only [wSum]
  by_cases e:n=t
  ·subst e
   rw [if_neg (Nat.lt_irrefl _)] at ih
   rw [if_pos (Nat.lt_succ_self _)]
   omega
  ·have:=hs n e
   by_cases h:t<n
   ·rw [if_pos h] at ih
    rw [if_pos (by omega)]
    omega
   ·rw [if_neg h] at ih
    rw [if_neg (by omega)]
    omega
theorem pcV_set {p:Prg} {s:St} (hs:StOk p s) {t:Nat} (ht:t<p.length) (regs mem:List Int) (u:Nat):pcS ⟨s.pc.set t (pcS s t+1),regs,mem⟩ u=if u=t then pcS s t+1 else pcS s u:=by
 unfold pcS
 simp only [List.getD_eq_getElem?_getD]
 by_cases e:u=t
 ·subst e
  rw [if_pos rfl,List.getElem?_set_self (by rw [hs.pcl]; exact ht)]
  rfl
 ·rw [if_neg e,List.getElem?_set_ne (fun h=>e h.symm)]
theorem do_pc {p:Prg} {s:VSt} {N:Nat→Nat} (hs:VO1 p s N) {t k:Nat} {x:Ins} (ht:t<p.length) (u:Nat):pcS (doV s t x k).s u=if u=t then pcS s.s t+1 else pcS s.s u:=by
 unfold doV
 split
 ·exact pcV_set hs.ok ht _ _ u
 ·split
  ·exact pcV_set hs.ok ht _ _ u
  ·exact pcV_set hs.ok ht _ _ u
theorem wrn_next {p:Prg} {s:VSt} {N:Nat→Nat} (hs:VO1 p s N) {t k:Nat} (ht:t<p.length) (hlt:pcS s.s t<(thrP p t).length) (l:Nat):
  wrnV p (doV s t (insS p s.s t) k) l=wrnV p s l+if hitB (l:Int) true (insS p s.s t)=true then 1 else 0:=by
 unfold wrnV
 rw [wSum_upd (t:=t) (d:=if hitB (l:Int) true (insS p s.s t)=true then 1 else 0) (f:=fun t=>cntT (l:Int) true ((thrP p t).take (pcS s.s t))) ?_ ?_ p.length,if_pos ht]
 ·show cntT _ _ ((thrP p t).take (pcS (doV s t (insS p s.s t) k).s t))=_
  rw [do_pc hs ht,if_pos rfl,cntT_take_succ _ _ _ _ hlt,ins_get hlt]
 ·intro u hu
  show cntT _ _ ((thrP p u).take (pcS (doV s t (insS p s.s t) k).s u))=_
  rw [do_pc hs ht,if_neg hu]
theorem gM_ok {p:Prg} {s:VSt} {N:Nat→Nat} (h:VO1 p s N) {l k:Nat} (hl:l<3) (hk:k<N l):In03 (gM (lstV s l) k).val∧ViewOk s.lists (gM (lstV s l) k).view:=by
 have h1:=h.pos l hl
 have h2:lstV s l∈s.lists:=by
  unfold lstV
  rw [List.getD_eq_getElem?_getD,List.getElem?_eq_getElem (by rw [h.len]; exact hl)]
  exact List.getElem_mem _
 unfold gM
 rw [List.getD_eq_getElem?_getD,List.getElem?_eq_getElem (by omega)]
 exact h.vals _ h2 _ (List.getElem_mem _)
theorem VO1.read {p:Prg} {s:VSt} {N:Nat→Nat} (h:VO1 p s N) {t k:Nat} {x:Ins} (ht:t<p.length) (hlt:pcS s.s t<(thrP p t).length) (hx:InsOk x) (hk:rdB x=true→k<N x.loc.toNat):VO1 p (rdV s t x k) N:=by
 have hl:x.loc.toNat<3:=by have:=hx.loc; omega
 have hrk:=fun hr=>gM_ok h hl (hk hr)
 refine⟨⟨?_,fun u=>?_,?_,?_,h.ok.meml,h.ok.memb⟩,h.len,h.pos,h.vals,?_,fun v hv=>?_⟩
 ·show (s.s.pc.set t _).length=_
  rw [List.length_set]; exact h.ok.pcl
 ·show pcS ⟨s.s.pc.set t _,_,_⟩ u≤_
  rw [pcV_set h.ok ht]
  split
  ·rename_i e; subst e; omega
  ·exact h.ok.pcb u
 ·show (if rdB x=true then s.s.regs.set _ _ else s.s.regs).length=_
  split
  ·rw [List.length_set]; exact h.ok.regl
  ·exact h.ok.regl
 ·intro v hv
  have hv:v∈(if rdB x=true then s.s.regs.set (rgI t x) (gM (lstV s x.loc.toNat) k).val else s.s.regs):=hv
  split at hv
  ·rename_i hr
   exact set_03 h.ok.regb (hrk hr).1 v hv
  ·exact h.ok.regb v hv
 ·show (if rdB x=true then s.own.set _ _ else s.own).length=_
  split
  ·rw [List.length_set]; exact h.ownl
  ·exact h.ownl
 ·have hv:v∈(if rdB x=true then s.own.set t (joinV (ownV s t) (gM (lstV s x.loc.toNat) k).view) else s.own):=hv
  show ViewOk s.lists v
  split at hv
  ·rename_i hr
   rcases List.mem_or_eq_of_mem_set hv with hv | rfl
   ·exact h.owns v hv
   ·exact (own_ok h ht).join (hrk hr).2
  ·exact h.owns v hv
theorem VO1.lock {p:Prg} {s:VSt} {N:Nat→Nat} (h:VO1 p s N) {l k:Nat} (hl:l<3) (hk:k<N l):VO1 p ⟨s.s,s.lists.set l (lockM (lstV s l) k),s.own⟩ N:=by
 have hg:=gM_ok h hl hk
 have hlen:∀ j,((s.lists.set l (lockM (lstV s l) k)).getD j []).length=(s.lists.getD j []).length:=fun j=>by
  by_cases e:j=l
  ·subst e
   rw [List.getD_eq_getElem?_getD,List.getElem?_set_self (by rw [h.len]; exact hl)]
   show (lockM (lstV s j) k).length=_
   unfold lockM
   rw [List.length_set]
   rfl
  ·simp only [List.getD_eq_getElem?_getD]
   rw [List.getElem?_set_ne (fun h=>e h.symm)]
 have hvw:∀ v,ViewOk s.lists v→ViewOk (s.lists.set l (lockM (lstV s l) k)) v:=fun v hv=>⟨hv.1,fun j hj=>by rw [hlen]; exact hv.2 j hj⟩
 refine⟨h.ok,by rw [List.length_set]; exact h.len,fun j hj=>(hlen j).trans (h.pos j hj),fun ms hms m hm=>?_,h.ownl,fun v hv=>hvw v (h.owns v hv)⟩
 rcases List.mem_or_eq_of_mem_set hms with hms | rfl
 ·obtain⟨h1,h2⟩:=h.vals ms hms m hm
  exact⟨h1,hvw _ h2⟩
 ·unfold lockM at hm
  rcases List.mem_or_eq_of_mem_set hm with hm | rfl
  ·have h2:lstV s l∈s.lists:=by
    unfold lstV
    rw [List.getD_eq_getElem?_getD,List.getElem?_eq_getElem (by rw [h.len]; exact hl)]
    exact List.getElem_mem _
   obtain⟨h3,h4⟩:=h.vals _ h2 m hm
   exact⟨h3,hvw _ h4⟩
  ·exact⟨hg.1,hvw _ hg.2⟩
theorem VOk.start (p:Prg):VOk p (vt0 p):=by
 have hz:∀ l,wrnV p (vt0 p) l=0:=fun l=>by
  unfold wrnV
  have key:∀ n,wSum (fun t=>cntT (l:Int) true ((thrP p t).take (pcS (vt0 p).s t))) (List.range n)=0:=fun n=>by
   induction n with
   | zero=>rfl
   | succ n ih=>
    rw [List.range_succ,wSum_app,ih]
    have hpc:pcS (vt0 p).s n=0:=by
     show (List.replicate p.length 0).getD n 0=0
     rw [List.getD_eq_getElem?_getD]
     rcases Nat.lt_or_ge n p.length with h | h
     ·simp [h]
     ·rw [List.getElem?_eq_none (by simpa using h)]; rfl
    simp only [wSum,hpc,List.take_zero]
    rfl
  exact key _
 have hv:ViewOk (vt0 p).lists [0,0,0]:=⟨rfl,fun l hl=>by
  match l,hl with
  | 0,_=>exact Nat.one_pos
  | 1,_=>exact Nat.one_pos
  | 2,_=>exact Nat.one_pos⟩
 refine⟨StOk.start p,rfl,fun l hl=>?_,fun ms hms m hm=>?_,by simp [vt0],fun v h=>?_⟩
 ·rw [hz]
  match l,hl with
  | 0,_=>rfl
  | 1,_=>rfl
  | 2,_=>rfl
 ·have:m=m0V:=by
   simp only [vt0,List.mem_cons,List.not_mem_nil,or_false,or_self] at hms
   subst hms
   simpa using hm
  subst this
  exact⟨⟨by decide,by decide⟩,hv⟩
 ·have:=List.eq_of_mem_replicate h
  subst this
  exact hv
theorem mem_mvV {p:Prg} {s:VSt} {c:Nat} (h:c∈mvV p s):c % 3<p.length∧canV p s (c % 3) (c / 3)=true:=by
 unfold mvV at h
 rw [List.mem_filter,Bool.and_eq_true,decide_eq_true_iff] at h
 exact h.2
theorem can_cases {p:Prg} {s:VSt} {t k:Nat} (hp:PrgOk p) (h:canV p s t k=true):pcS s.s t<(thrP p t).length∧InsOk (insS p s.s t) ∧
  (((insS p s.s t).op=4∧k=0)∨((insS p s.s t).op=1∧atV (ownV s t) (insS p s.s t).loc.toNat≤k∧k<(lstV s (insS p s.s t).loc.toNat).length) ∨
   ((insS p s.s t).op=5∧atV (ownV s t) (insS p s.s t).loc.toNat≤k∧k<(lstV s (insS p s.s t).loc.toNat).length∧(gM (lstV s (insS p s.s t).loc.toNat) k).lock=false) ∨
   (((insS p s.s t).op=2∨(insS p s.s t).op=3)∧atV (ownV s t) (insS p s.s t).loc.toNat<k∧k≤(lstV s (insS p s.s t).loc.toNat).length∧(gM (lstV s (insS p s.s t).loc.toNat) (k-1)).lock=false)):=by
 unfold canV at h
 rw [Bool.and_eq_true] at h
 have hlt:pcS s.s t<(thrP p t).length:=of_decide_eq_true h.1
 have hx:=ins_ok hp hlt
 refine⟨hlt,hx,?_⟩
 have h2:=h.2
 have hop:=hx.op
 split at h2
 ·rename_i e; exact .inl ⟨e,of_decide_eq_true h2⟩
 ·rename_i e4
  split at h2
  ·rename_i e1
   rw [Bool.and_eq_true,decide_eq_true_iff,decide_eq_true_iff] at h2
   exact .inr (.inl ⟨e1,h2⟩)
  ·rename_i e1
   split at h2
   ·rename_i e5
    rw [Bool.and_eq_true,Bool.and_eq_true,decide_eq_true_iff,decide_eq_true_iff,Bool.not_eq_true'] at h2
    exact .inr (.inr (.inl ⟨e5,h2.1.1,h2.1.2,h2.2⟩))
   ·rename_i e5
    rw [Bool.and_eq_true,Bool.and_eq_true,decide_eq_true_iff,decide_eq_true_iff,Bool.not_eq_true'] at h2
    exact .inr (.inr (.inr ⟨by omega,h2.1.1,h2.1.2,h2.2⟩))
theorem VOk.doV {p:Prg} {s:VSt} (hp:PrgOk p) (hs:VOk p s) {t k:Nat} (ht:t<p.length) (hc:canV p s t k=true):VOk p (doV s t (insS p s.s t) k):=by
 obtain⟨hlt,hx,hcs⟩:=can_cases hp hc
 have hl:(insS p s.s t).loc.toNat<3:=by have:=hx.loc; omega
 have hw:=wrn_next (k:=k) hs ht hlt
 have hpos:=hs.pos _ hl
 have key:∀ N,VO1 p (Go.Proofs.YtojmofnamppbdaaGreat.doV s t (insS p s.s t) k) N→(∀ l,l<3→N l=1+wrnV p s l+if hitB (l:Int) true (insS p s.s t)=true then 1 else 0)→VOk p (Go.Proofs.YtojmofnamppbdaaGreat.doV s t (insS p s.s t) k):=fun N h he=>⟨h.ok,h.len,fun l hl=>by rw [h.pos l hl,he l hl,hw l]; omega,h.vals,h.ownl,h.owns⟩
 have hloc:∀ l:Nat,((insS p s.s t).loc=(l:Int))↔l=(insS p s.s t).loc.toNat:=fun l=>by have:=hx.loc; omega
 have hval:=val_03 (t:=t) hs.ok hx
 rcases hcs with ⟨e,rfl⟩ | ⟨e,h1,h2⟩ | ⟨e,h1,h2,h3⟩ | ⟨e,h1,h2,h3⟩
 ·have hr:rdB (insS p s.s t)=false:=by simp [rdB,e]
  have hwr:wrB (insS p s.s t)=false:=by simp [wrB,e]
  refine key _ (by unfold Go.Proofs.YtojmofnamppbdaaGreat.doV; rw [if_neg (by omega),if_neg (by rw [hwr]; decide)]; exact hs.read ht hlt hx (fun h=>by rw [hr] at h; cases h)) fun l hl=>?_
  simp [hitB,hwr]
 ·have hwr:wrB (insS p s.s t)=false:=by simp [wrB,e]
  refine key _ (by unfold Go.Proofs.YtojmofnamppbdaaGreat.doV; rw [if_neg (by omega),if_neg (by rw [hwr]; decide)]; exact hs.read ht hlt hx (fun _=>by omega)) fun l hl=>?_
  simp [hitB,hwr]
 ·have hwr:wrB (insS p s.s t)=true:=by simp [wrB,e]
  have hrd:=hs.read ht hlt hx (k:=k) (fun _=>by omega)
  have hput:=hrd.put (l:=(insS p s.s t).loc.toNat) (k:=k+1) (v:=(insS p s.s t).val) ht hl (by omega) (by have:=hx.val; exact this)
  refine key _ (by unfold Go.Proofs.YtojmofnamppbdaaGreat.doV; rw [if_pos e]; exact hput.lock hl (by simp; omega)) fun l hl=>?_
  by_cases el:l=(insS p s.s t).loc.toNat
  ·have:hitB (l:Int) true (insS p s.s t)=true:=by unfold hitB; rw [decide_eq_true ((hloc l).2 el),if_pos rfl,hwr]; rfl
   rw [if_pos this,if_pos el]
  ·have:¬ hitB (l:Int) true (insS p s.s t)=true:=fun h=>by
    unfold hitB at h
    rw [Bool.and_eq_true,decide_eq_true_iff] at h
    exact el ((hloc l).1 h.1)
   rw [if_neg this,if_neg el]
 ·have hwr:wrB (insS p s.s t)=true:=by rcases e with e | e <;> simp [wrB,e]
  have hr:rdB (insS p s.s t)=false:=by rcases e with e | e <;> simp [rdB,e]
  have hrd:=hs.read ht hlt hx (k:=k) (fun h=>by rw [hr] at h; cases h)
  have hput:=hrd.put (l:=(insS p s.s t).loc.toNat) (k:=k) (v:=valS s.s t (insS p s.s t)) ht hl (by omega) hval
  refine key _ (by unfold Go.Proofs.YtojmofnamppbdaaGreat.doV; rw [if_neg (by omega),if_pos hwr]; exact hput) fun l hl=>?_
  by_cases el:l=(insS p s.s t).loc.toNat
  ·have:hitB (l:Int) true (insS p s.s t)=true:=by unfold hitB; rw [decide_eq_true ((hloc l).2 el),if_pos rfl,hwr]; rfl
   rw [if_pos this,if_pos el]
  ·have:¬ hitB (l:Int) true (insS p s.s t)=true:=fun h=>by
    unfold hitB at h
    rw [Bool.and_eq_true,decide_eq_true_iff] at h
    exact el ((hloc l).1 h.1)
   rw [if_neg this,if_neg el]
theorem VOk.next {p:Prg} {s:VSt} (hp:PrgOk p) (hs:VOk p s) {c:Nat} (hc:c∈mvV p s):VOk p (nxV p s c):=by
 obtain⟨h1,h2⟩:=mem_mvV hc
 exact hs.doV hp h1 h2
theorem reachV_ok {p:Prg} (hp:PrgOk p) {s:VSt} (h:Reach (sucV p) (vt0 p) s):VOk p s:=by
 induction h with
 | start=>exact VOk.start p
 | next _ ht ih=>
  obtain⟨c,hc,rfl⟩:=List.mem_map.1 ht
  exact ih.next hp hc
end Go.Proofs.YtojmofnamppbdaaGreat
namespace Go.Proofs.YtojmofnamppbdaaGreat
set_option linter.unusedVariables false
def ffP (p:Prg):Prg:=p.map (List.filter nf)
theorem ff_len (p:Prg):(ffP p).length=p.length:=by unfold ffP; rw [List.length_map]
theorem ff_thr (p:Prg) (t:Nat):thrP (ffP p) t=(thrP p t).filter nf:=by
 unfold thrP ffP
 simp only [List.getD_eq_getElem?_getD,List.getElem?_map]
 cases p[t]? <;> simp
theorem cnt_filter (loc:Int) (b:Bool) (t:List Ins):cntT loc b (t.filter nf)=cntT loc b t:=by
 unfold cntT
 rw [List.countP_filter]
 congr 1
 funext x
 unfold hitB nf wrB rdB
 by_cases h:x.op=4
 ·cases b <;> simp [h]
 ·simp [h]
theorem wSum_map {α β:Type} (f:β→Nat) (g:α→β):∀ l:List α,wSum f (l.map g)=wSum (fun x=>f (g x)) l
 | []=>rfl
 | x::l=>by
  have:=wSum_map f g l
  simp only [List.map_cons,wSum] at this ⊢
  omega
theorem ff_cnt (loc:Int) (b:Bool) (p:Prg):cntP loc b (ffP p)=cntP loc b p:=by
 unfold cntP ffP
 rw [wSum_map]
 congr 1
 funext t
 exact cnt_filter loc b t
theorem ff_exN (p:Prg):exN (ffP p)=exN p:=by
 unfold exN exL
 simp only [ff_cnt]
theorem ff_ok {p:Prg} (hp:PrgOk p):PrgOk (ffP p):=by
 refine⟨⟨by rw [ff_len]; exact hp.1.1,fun t ht=>?_,?_⟩,by rw [ff_len]; exact hp.2.1,by rw [ff_exN]; exact hp.2.2⟩
 ·unfold ffP at ht
  obtain⟨u,hu,rfl⟩:=List.mem_map.1 ht
  obtain⟨h1,h2⟩:=hp.1.2.1 u hu
  exact⟨Nat.le_trans (List.length_filter_le _ _) h1,fun x hx=>h2 x (List.mem_filter.1 hx).1⟩
 ·have h:=hp.1.2.2
  unfold evN ffP at *
  rw [wSum_map]
  have e:(fun t:List Ins=>cntE' (t.filter nf))=cntE':=by
   funext t
   unfold cntE'
   rw [List.countP_filter]
   congr 1
   funext x
   simp
  rw [e]
  exact h
theorem ff_nf {p:Prg} {t:Nat} {x:Ins} (h:x∈thrP (ffP p) t):x.op≠4:=by
 rw [ff_thr,List.mem_filter] at h
 have:=h.2
 unfold nf at this
 simpa using this
def ffC (p:Prg) (s:St) (t:Nat):Nat:=((thrP p t).take (pcS s t)).countP nf
def ffV (p:Prg) (s:VSt):VSt:=⟨⟨(List.range p.length).map (ffC p s.s),s.s.regs,s.s.mem⟩,s.lists,s.own⟩
theorem ff_pc {p:Prg} {s:VSt} {t:Nat} (ht:t<p.length):pcS (ffV p s).s t=ffC p s.s t:=by
 unfold pcS ffV
 simp only [List.getD_eq_getElem?_getD,List.getElem?_map]
 rw [List.getElem?_range ht]
 rfl
theorem filter_at:∀ (l:List Ins) (i:Nat) (h:i<l.length),nf l[i]=true→(l.filter nf)[(l.take i).countP nf]?=some l[i]
 | [],i,h,_=>by simp at h
 | x::l,0,h,hn=>by
  have hn:nf x=true:=hn
  rw [List.take_zero,List.filter_cons_of_pos hn]
  rfl
 | x::l,i+1,h,hn=>by
  have ih:=filter_at l i (by simpa using h) (by simpa using hn)
  rw [List.take_succ_cons]
  by_cases hx:nf x=true
  ·rw [List.filter_cons_of_pos hx,List.countP_cons_of_pos hx,List.getElem?_cons_succ,ih]
   simp
  ·rw [List.filter_cons_of_neg hx,List.countP_cons_of_neg hx,ih]
   simp
theorem ff_ins {p:Prg} {s:VSt} {t:Nat} (ht:t<p.length) (hlt:pcS s.s t<(thrP p t).length) (hn:(insS p s.s t).op≠4):pcS (ffV p s).s t<(thrP (ffP p) t).length∧insS (ffP p) (ffV p s).s t=insS p s.s t:=by
 have hnf:nf (thrP p t)[pcS s.s t]=true:=by
  rw [← ins_get hlt]
  unfold nf
  simp [hn]
 have h:=filter_at (thrP p t) (pcS s.s t) hlt hnf
 have hl:ffC p s.s t<((thrP p t).filter nf).length:=by
  rcases Nat.lt_or_ge (ffC p s.s t) ((thrP p t).filter nf).length with hl | hl
  ·exact hl
  ·unfold ffC at hl
   rw [List.getElem?_eq_none hl] at h
   cases h
 refine⟨by rw [ff_pc ht,ff_thr]; exact hl,?_⟩
 unfold insS
 rw [ff_pc ht,ff_thr,List.getD_eq_getElem?_getD]
 unfold ffC
 rw [h,List.getD_eq_getElem?_getD,List.getElem?_eq_getElem hlt]
theorem vst_eq {s u:VSt} (h1:s.s.pc=u.s.pc) (h2:s.s.regs=u.s.regs) (h3:s.s.mem=u.s.mem) (h4:s.lists=u.lists) (h5:s.own=u.own):s=u:=by
 obtain⟨⟨a,b,c⟩,d,e⟩:=s
 obtain⟨⟨a',b',c'⟩,d',e'⟩:=u
 simp only at h1 h2 h3 h4 h5
 subst h1 h2 h3 h4 h5
 rfl
theorem ffC_next {p:Prg} {s:VSt} {N:Nat→Nat} (hs:VO1 p s N) {t k:Nat} {x:Ins} (ht:t<p.length) (hlt:pcS s.s t<(thrP p t).length) (u:Nat):
  ffC p (doV s t x k).s u=if u=t then ffC p s.s t+(if (insS p s.s t).op=4 then 0 else 1) else ffC p s.s u:=by
 unfold ffC
 rw [do_pc hs ht]
 by_cases e:u=t
 ·subst e
  rw [if_pos rfl,if_pos rfl,countP_take_succ _ _ _ hlt,← ins_get hlt]
  unfold nf
  by_cases h4:(insS p s.s u).op=4 <;> simp [h4]
 ·rw [if_neg e,if_neg e]
theorem do_ff {s:VSt} {pc:List Nat} {t k:Nat} {x:Ins} (hv:pc.length=s.s.pc.length):
  (doV ⟨⟨pc,s.s.regs,s.s.mem⟩,s.lists,s.own⟩ t x k).s.regs=(doV s t x k).s.regs∧(doV ⟨⟨pc,s.s.regs,s.s.mem⟩,s.lists,s.own⟩ t x k).s.mem=(doV s t x k).s.mem∧(doV ⟨⟨pc,s.s.regs,s.s.mem⟩,s.lists,s.own⟩ t x k).lists=(doV s t x k).lists∧(doV ⟨⟨pc,s.s.regs,s.s.mem⟩,s.lists,s.own⟩ t x k).own=(doV s t x k).own∧(doV ⟨⟨pc,s.s.regs,s.s.mem⟩,s.lists,s.own⟩ t x k).s.pc=pc.set t (pc.getD t 0+1):=by
 unfold doV
 split
 ·exact⟨rfl,rfl,rfl,rfl,rfl⟩
 ·split
  ·exact⟨rfl,rfl,rfl,rfl,rfl⟩
  ·exact⟨rfl,rfl,rfl,rfl,rfl⟩
theorem ff_do {p:Prg} {s:VSt} {N:Nat→Nat} (hs:VO1 p s N) {t k:Nat} (ht:t<p.length) (hlt:pcS s.s t<(thrP p t).length) (hn:(insS p s.s t).op≠4):
  ffV p (doV s t (insS p s.s t) k)=doV (ffV p s) t (insS p s.s t) k:=by
 have hd:=do_ff (s:=s) (pc:=(List.range p.length).map (ffC p s.s)) (t:=t) (k:=k) (x:=insS p s.s t) (by rw [List.length_map,List.length_range,hs.ok.pcl])
 refine vst_eq ?_ hd.1.symm hd.2.1.symm hd.2.2.1.symm hd.2.2.2.1.symm
 show (List.range p.length).map (ffC p (doV s t (insS p s.s t) k).s)=(doV (ffV p s) t (insS p s.s t) k).s.pc
 rw [show (doV (ffV p s) t (insS p s.s t) k).s.pc=_ from hd.2.2.2.2]
 apply List.ext_getElem
 ·simp
 ·intro i h1 h2
  have hi:i<p.length:=by simpa using h1
  rw [List.getElem_map,List.getElem_range,ffC_next hs ht hlt,if_neg hn,List.getElem_set]
  by_cases e:t=i
  ·subst e
   rw [if_pos rfl,if_pos rfl]
   have:=ff_pc (p:=p) (s:=s) ht
   unfold pcS ffV at this
   rw [this]
  ·rw [if_neg (fun h=>e h.symm),if_neg e,List.getElem_map,List.getElem_range]
theorem ff_fence {p:Prg} {s:VSt} {N:Nat→Nat} (hs:VO1 p s N) {t k:Nat} (ht:t<p.length) (hlt:pcS s.s t<(thrP p t).length) (hn:(insS p s.s t).op=4):
  ffV p (doV s t (insS p s.s t) k)=ffV p s:=by
 have hr:rdB (insS p s.s t)=false:=by simp [rdB,hn]
 have hw:wrB (insS p s.s t)=false:=by simp [wrB,hn]
 have e:doV s t (insS p s.s t) k=⟨⟨s.s.pc.set t (pcS s.s t+1),s.s.regs,s.s.mem⟩,s.lists,s.own⟩:=by
  unfold doV
  rw [if_neg (by omega),if_neg (by rw [hw]; decide)]
  unfold rdV
  simp [hr]
 refine vst_eq ?_ ?_ ?_ ?_ ?_
 ·show (List.range p.length).map (ffC p (doV s t (insS p s.s t) k).s)=(List.range p.length).map (ffC p s.s)
  apply List.map_congr_left
  intro u _
  rw [ffC_next hs ht hlt]
  by_cases eu:u=t
  ·subst eu; rw [if_pos rfl,if_pos hn]
   rfl
  ·rw [if_neg eu]
 all_goals (show _=_; rw [e]; rfl)
theorem ff_can {p:Prg} {s:VSt} {t k:Nat} (ht:t<p.length) (hlt:pcS s.s t<(thrP p t).length) (hn:(insS p s.s t).op≠4):canV (ffP p) (ffV p s) t k=canV p s t k:=by
 obtain⟨h1,h2⟩:=ff_ins ht hlt hn
 unfold canV
 rw [h2]
 have e1:onS (ffP p) (ffV p s).s t=true:=by unfold onS; rw [decide_eq_true_iff]; exact h1
 have e2:onS p s.s t=true:=by unfold onS; rw [decide_eq_true_iff]; exact hlt
 rw [e1,e2]
 rfl
theorem ff_start {p:Prg}:ffV p (vt0 p)=vt0 (ffP p):=by
 refine vst_eq ?_ ?_ rfl rfl ?_
 ·show (List.range p.length).map (ffC p (st0 p))=List.replicate (ffP p).length 0
  rw [ff_len,List.eq_replicate_iff]
  refine⟨by simp,fun b hb=>?_⟩
  obtain⟨t,ht,rfl⟩:=List.mem_map.1 hb
  rw [List.mem_range] at ht
  unfold ffC pcS st0
  simp [ht]
 ·show List.replicate (p.length*3) 0=List.replicate ((ffP p).length*3) 0
  rw [ff_len]
 ·show List.replicate p.length [0,0,0]=List.replicate (ffP p).length [0,0,0]
  rw [ff_len]
theorem mem_mvV_iff {p:Prg} {s:VSt} {c:Nat}:c∈mvV p s↔c<3*mostV s∧c % 3<p.length∧canV p s (c % 3) (c / 3)=true:=by
 unfold mvV
 rw [List.mem_filter,List.mem_range,Bool.and_eq_true,decide_eq_true_iff]
theorem ff_reach {p:Prg} (hp:PrgOk p) {s:VSt} (h:Reach (sucV p) (vt0 p) s):Reach (sucV (ffP p)) (vt0 (ffP p)) (ffV p s):=by
 induction h with
 | start=>rw [ff_start]; exact .start
 | next hs ht ih=>
  obtain⟨c,hc,rfl⟩:=List.mem_map.1 ht
  rename_i u
  have hok:=reachV_ok hp hs
  obtain⟨h0,h1,h2⟩:=mem_mvV_iff.1 hc
  obtain⟨hlt,_,_⟩:=can_cases hp h2
  unfold nxV
  by_cases hn:(insS p u.s (c % 3)).op=4
  ·rw [ff_fence hok h1 hlt hn]
   exact ih
  ·rw [ff_do hok h1 hlt hn]
   refine .next ih (List.mem_map.2 ⟨c,mem_mvV_iff.2 ⟨h0,by rw [ff_len]; exact h1,by rw [ff_can h1 hlt hn]; exact h2⟩,?_⟩)
   unfold nxV
   rw [(ff_ins h1 hlt hn).2]
end Go.Proofs.YtojmofnamppbdaaGreat
namespace Go.Proofs.YtojmofnamppbdaaGreat
set_option linter.unusedVariables false
def faD (W:Nat):Nat→Nat
 | 0=>1
 | r+1=>(W-r)*faD W r
theorem faD_shift (W:Nat):∀ r,faD (W+1) (r+1)=(W+1)*faD W r
 | 0=>by simp [faD]
 | r+1=>by
  have ih:=faD_shift W r
  rw [faD,ih,faD,show W+1-(r+1)=W-r by omega]
  exact Nat.mul_left_comm _ _ _
theorem faD_full:∀ W,faD W W=fact W
 | 0=>rfl
 | W+1=>by rw [faD_shift,faD_full W,fact]
theorem faD_pos (W:Nat):∀ r,r≤W→0<faD W r
 | 0,_=>Nat.one_pos
 | r+1,h=>Nat.mul_pos (by omega) (faD_pos W r (by omega))
def cntN (p:Prg) (s:St) (b:Bool) (l:Nat):Nat:=wSum (fun t=>cntT (l:Int) b ((thrP p t).take (pcS s t))) (List.range p.length)
theorem wrn_cnt (p:Prg) (s:VSt) (l:Nat):wrnV p s l=cntN p s.s true l:=rfl
theorem wSum_le {α:Type} {f g:α→Nat}:∀ {l:List α},(∀ x∈l,f x≤g x)→wSum f l≤wSum g l
 | [],_=>Nat.le_refl _
 | x::l,h=>by
  have h1:=h x (by simp)
  have h2:=wSum_le (l:=l) fun y hy=>h y (by simp [hy])
  simp only [wSum]
  omega
theorem wSum_eq {α:Type} {f g:α→Nat} {l:List α} (h:∀ x∈l,f x=g x):wSum f l=wSum g l:=
 Nat.le_antisymm (wSum_le fun x hx=>Nat.le_of_eq (h x hx)) (wSum_le fun x hx=>Nat.le_of_eq (h x hx).symm)
theorem prg_range (p:Prg):p=(List.range p.length).map (thrP p):=by
 apply List.ext_getElem
 ·simp
 ·intro i h1 h2
  rw [List.getElem_map,List.getElem_range]
  unfold thrP
  rw [List.getD_eq_getElem?_getD,List.getElem?_eq_getElem h1]
  rfl
theorem wSum_prg (f:List Ins→Nat) (p:Prg):wSum f p=wSum (fun t=>f (thrP p t)) (List.range p.length):=by
 have h:=wSum_map f (thrP p) (List.range p.length)
 rw [← prg_range] at h
 exact h
theorem cntN_le (p:Prg) (s:St) (b:Bool) (l:Nat):cntN p s b l≤cntP (l:Int) b p:=by
 unfold cntN cntP
 rw [wSum_prg]
 refine wSum_le fun t _=>?_
 unfold cntT
 exact List.Sublist.countP_le (List.take_sublist _ _)
def wtL (p:Prg) (s:St) (l:Nat):Nat:=(cntP (l:Int) true p+1) ^ (cntP (l:Int) false p-cntN p s false l)*faD (cntP (l:Int) true p) (cntP (l:Int) true p-cntN p s true l)
def wtV (p:Prg) (s:St):Nat:=wtL p s 0*wtL p s 1*wtL p s 2
theorem wtL_pos (p:Prg) (s:St) (l:Nat):0<wtL p s l:=Nat.mul_pos (Nat.pow_pos (Nat.succ_pos _)) (faD_pos _ _ (Nat.sub_le _ _))
theorem wtV_pos (p:Prg) (s:St):0<wtV p s:=Nat.mul_pos (Nat.mul_pos (wtL_pos p s 0) (wtL_pos p s 1)) (wtL_pos p s 2)
theorem cntN_start (p:Prg) (b:Bool) (l:Nat):cntN p (st0 p) b l=0:=by
 unfold cntN
 have key:∀ n,wSum (fun t=>cntT (l:Int) b ((thrP p t).take (pcS (st0 p) t))) (List.range n)=0:=fun n=>by
  induction n with
  | zero=>rfl
  | succ n ih=>
   rw [List.range_succ,wSum_app,ih]
   have hpc:pcS (st0 p) n=0:=by
    show (List.replicate p.length 0).getD n 0=0
    rw [List.getD_eq_getElem?_getD]
    rcases Nat.lt_or_ge n p.length with h | h
    ·simp [h]
    ·rw [List.getElem?_eq_none (by simpa using h)]; rfl
   simp only [wSum,hpc,List.take_zero]
   rfl
 exact key _
theorem wtV_start (p:Prg):wtV p (st0 p)=exN p:=by
 unfold wtV wtL exN exL
 simp only [cntN_start,Nat.sub_zero,faD_full]
 rfl
theorem cntN_next {p:Prg} {s u:St} {t:Nat} (ht:t<p.length) (hlt:pcS s t<(thrP p t).length) (hu:∀ j,pcS u j=if j=t then pcS s t+1 else pcS s j) (b:Bool) (l:Nat):
  cntN p u b l=cntN p s b l+if hitB (l:Int) b (insS p s t)=true then 1 else 0:=by
 unfold cntN
 rw [wSum_upd (t:=t) (d:=if hitB (l:Int) b (insS p s t)=true then 1 else 0) (f:=fun t=>cntT (l:Int) b ((thrP p t).take (pcS s t))) ?_ ?_ p.length,if_pos ht]
 ·show cntT _ _ ((thrP p t).take (pcS u t))=_
  rw [hu,if_pos rfl,cntT_take_succ _ _ _ _ hlt,ins_get hlt]
 ·intro j hj
  show cntT _ _ ((thrP p j).take (pcS u j))=_
  rw [hu,if_neg hj]
theorem hit_iff {x:Ins} {l:Nat} {b:Bool} (hx:InsOk x):hitB (l:Int) b x=true↔l=x.loc.toNat∧(if b=true then wrB x else rdB x)=true:=by
 unfold hitB
 rw [Bool.and_eq_true,decide_eq_true_iff]
 have:=hx.loc
 constructor
 ·rintro ⟨h1,h2⟩; exact⟨by omega,h2⟩
 ·rintro ⟨h1,h2⟩; exact⟨by omega,h2⟩
theorem wt_step {p:Prg} {s u:St} {t:Nat} (ht:t<p.length) (hlt:pcS s t<(thrP p t).length) (hu:∀ j,pcS u j=if j=t then pcS s t+1 else pcS s j) (hx:InsOk (insS p s t)) (h4:(insS p s t).op≠4):
  (1+cntN p s true (insS p s t).loc.toNat)*wtV p u≤wtV p s:=by
 obtain⟨l,hl⟩:∃ l,l=(insS p s t).loc.toNat:=⟨_,rfl⟩
 have hl3:l<3:=by have:=hx.loc; omega
 have hstep:=fun b j=>cntN_next ht hlt hu b j
 have hsame:∀ j,j≠l→wtL p u j=wtL p s j:=fun j hj=>by
  have h:∀ b,cntN p u b j=cntN p s b j:=fun b=>by
   rw [hstep,if_neg (fun h=>hj (by rw [hl]; exact ((hit_iff hx).1 h).1))]
   rfl
  unfold wtL
  rw [h,h]
 have hw:=cntN_le p u true l
 have hr:=cntN_le p u false l
 have hws:=cntN_le p s true l
 have hkey:(1+cntN p s true l)*wtL p u l≤wtL p s l:=by
  have ew:=hstep true l
  have er:=hstep false l
  have hop:=hx.op
  obtain⟨W,hW⟩:∃ W,W=cntP (l:Int) true p:=⟨_,rfl⟩
  obtain⟨R,hR⟩:∃ R,R=cntP (l:Int) false p:=⟨_,rfl⟩
  obtain⟨a,ha⟩:∃ a,a=cntN p s true l:=⟨_,rfl⟩
  obtain⟨r,hrr⟩:∃ r,r=cntN p s false l:=⟨_,rfl⟩
  unfold wtL
  rw [← hW] at hw hws ⊢
  rw [← hR] at hr ⊢
  rw [← ha] at ew hws ⊢
  rw [← hrr] at er ⊢
  by_cases hb:wrB (insS p s t)=true
  ·rw [if_pos ((hit_iff hx).2 ⟨hl,by rw [if_pos rfl]; exact hb⟩)] at ew
   rw [ew] at hw ⊢
   have e1:W-a=(W-(a+1))+1:=by omega
   rw [e1,faD,show W-(W-(a+1))=a+1 by omega]
   have h1:(W+1) ^ (R-cntN p u false l)≤(W+1) ^ (R-r):=Nat.pow_le_pow_right (by omega) (by rw [er]; split <;> omega)
   calc (1+a)*((W+1) ^ (R-cntN p u false l)*faD W (W-(a+1)))≤(1+a)*((W+1) ^ (R-r)*faD W (W-(a+1))):=Nat.mul_le_mul_left _ (Nat.mul_le_mul_right _ h1)
    _=(W+1) ^ (R-r)*((a+1)*faD W (W-(a+1))):=by rw [Nat.mul_left_comm,Nat.add_comm 1 a]
  ·have hb1:rdB (insS p s t)=true:=by
    unfold wrB at hb
    unfold rdB
    simp at hb ⊢
    omega
   rw [if_neg (fun h=>hb (by have:=((hit_iff hx).1 h).2; rwa [if_pos rfl] at this))] at ew
   rw [if_pos ((hit_iff hx).2 ⟨hl,by rw [if_neg (by decide)]; exact hb1⟩)] at er
   rw [er] at hr ⊢
   rw [ew,Nat.add_zero]
   have e1:R-r=(R-(r+1))+1:=by omega
   rw [e1,Nat.pow_succ]
   calc (1+a)*((W+1) ^ (R-(r+1))*faD W (W-a))≤(W+1)*((W+1) ^ (R-(r+1))*faD W (W-a)):=Nat.mul_le_mul_right _ (by omega)
    _=(W+1) ^ (R-(r+1))*(W+1)*faD W (W-a):=by rw [← Nat.mul_assoc,Nat.mul_comm (W+1)]
 rw [← hl]
 unfold wtV
 match l,hl3 with
 | 0,_=>
  rw [hsame 1 (by omega),hsame 2 (by omega),← Nat.mul_assoc,← Nat.mul_assoc]
  exact Nat.mul_le_mul_right _ (Nat.mul_le_mul_right _ hkey)
 | 1,_=>
  rw [hsame 0 (by omega),hsame 2 (by omega),← Nat.mul_assoc,Nat.mul_left_comm]
  exact Nat.mul_le_mul_right _ (Nat.mul_le_mul_left _ hkey)
 | 2,_=>
  rw [hsame 0 (by omega),hsame 1 (by omega),Nat.mul_left_comm]
  exact Nat.mul_le_mul_left _ hkey
theorem cntN_congr {p:Prg} {u v:St} (h:∀ j,pcS u j=pcS v j) (b:Bool) (l:Nat):cntN p u b l=cntN p v b l:=by
 unfold cntN
 exact wSum_eq fun t _=>by rw [h]
theorem wtV_congr {p:Prg} {u v:St} (h:∀ j,pcS u j=pcS v j):wtV p u=wtV p v:=by
 unfold wtV wtL
 simp only [cntN_congr h]
def pcN (s:St) (t:Nat):St:=⟨s.pc.set t (pcS s t+1),s.regs,s.mem⟩
theorem part3 (g:Nat→Nat):∀ L:List Nat,wSum (fun c=>g (c % 3)) L=(L.filter fun c=>decide (c % 3=0)).length*g 0+(L.filter fun c=>decide (c % 3=1)).length*g 1+(L.filter fun c=>decide (c % 3=2)).length*g 2
 | []=>by simp [wSum]
 | c::L=>by
  have ih:=part3 g L
  have h3:c % 3=0∨c % 3=1∨c % 3=2:=by omega
  simp only [wSum] at ih ⊢
  rcases h3 with h | h | h
  ·simp only [List.filter_cons,h,decide_true,if_true,decide_false,List.length_cons,Nat.add_mul,Nat.one_mul,show ¬ (0:Nat)=1 by omega,show ¬ (0:Nat)=2 by omega,Bool.false_eq_true,if_false] at ih ⊢
   omega
  ·simp only [List.filter_cons,h,decide_true,if_true,decide_false,List.length_cons,Nat.add_mul,Nat.one_mul,show ¬ (1:Nat)=0 by omega,show ¬ (1:Nat)=2 by omega,Bool.false_eq_true,if_false] at ih ⊢
   omega
  ·simp only [List.filter_cons,h,decide_true,if_true,decide_false,List.length_cons,Nat.add_mul,Nat.one_mul,show ¬ (2:Nat)=0 by omega,show ¬ (2:Nat)=1 by omega,Bool.false_eq_true,if_false] at ih ⊢
   omega
theorem mvV_nodup (p:Prg) (s:VSt):(mvV p s).Nodup:=by unfold mvV; exact List.Pairwise.filter _ List.nodup_range
theorem thr_choices {p:Prg} {s:VSt} (hp:PrgOk p) (hs:VOk p s) (hf:∀ t,∀ x∈thrP p t,x.op≠4) (t:Nat):((mvV p s).filter fun c=>decide (c % 3=t)).length*wtV p (pcN s.s t)≤wtV p s.s:=by
 by_cases hex:∃ c,c∈(mvV p s).filter fun c=>decide (c % 3=t)
 ·obtain⟨c0,hc0⟩:=hex
  rw [List.mem_filter,decide_eq_true_iff] at hc0
  obtain⟨hc0,rfl⟩:=hc0
  obtain⟨ht,hcan⟩:=mem_mvV hc0
  obtain⟨t,htt⟩:∃ t,t=c0 % 3:=⟨_,rfl⟩
  rw [← htt] at ht hcan ⊢
  obtain⟨hlt,hx,_⟩:=can_cases hp hcan
  have h4:(insS p s.s t).op≠4:=hf t _ (by rw [ins_get hlt]; exact List.getElem_mem _)
  have hl3:(insS p s.s t).loc.toNat<3:=by have:=hx.loc; omega
  have hlen:=hs.pos _ hl3
  rw [wrn_cnt] at hlen
  have hstep:=wt_step (u:=pcN s.s t) ht hlt (fun j=>pcV_set hs.ok ht _ _ j) hx h4
  refine Nat.le_trans (Nat.mul_le_mul_right _ ?_) hstep
  obtain⟨f,hfd⟩:∃ f:Nat→Nat,f=fun c=>if (insS p s.s t).op=2∨(insS p s.s t).op=3 then c / 3-1 else c / 3:=⟨_,rfl⟩
  have hin:∀ c∈(mvV p s).filter (fun c=>decide (c % 3=t)),c % 3=t∧f c<1+cntN p s.s true (insS p s.s t).loc.toNat∧(((insS p s.s t).op=2∨(insS p s.s t).op=3)→1≤c / 3):=fun c hc=>by
   rw [List.mem_filter,decide_eq_true_iff] at hc
   obtain⟨hc,hct⟩:=hc
   obtain⟨_,hcan'⟩:=mem_mvV hc
   rw [hct] at hcan'
   obtain⟨_,_,hcs⟩:=can_cases hp hcan'
   rw [hlen] at hcs
   refine⟨hct,?_,fun h=>?_⟩
   ·rw [hfd]
    show (if _ then _ else _)<_
    rcases hcs with ⟨e,_⟩ | ⟨e,_,h2⟩ | ⟨e,_,h2,_⟩ | ⟨e,h1,h2,_⟩
    ·exact absurd e h4
    ·rw [if_neg (by omega)]; exact h2
    ·rw [if_neg (by omega)]; exact h2
    ·rw [if_pos e]; omega
   ·rcases hcs with ⟨e,_⟩ | ⟨e,_,h2⟩ | ⟨e,_,h2,_⟩ | ⟨e,h1,h2,_⟩ <;> omega
  have hnd:(((mvV p s).filter fun c=>decide (c % 3=t)).map f).Nodup:=by
   rw [List.Nodup,List.pairwise_map]
   refine List.Pairwise.imp_of_mem (fun {a b} ha hb hab e=>hab ?_) (List.Pairwise.filter _ (mvV_nodup p s))
   obtain⟨a1,_,a3⟩:=hin a ha
   obtain⟨b1,_,b3⟩:=hin b hb
   rw [hfd] at e
   have e:(if (insS p s.s t).op=2∨(insS p s.s t).op=3 then a / 3-1 else a / 3)=(if (insS p s.s t).op=2∨(insS p s.s t).op=3 then b / 3-1 else b / 3):=e
   by_cases h:(insS p s.s t).op=2∨(insS p s.s t).op=3
   ·rw [if_pos h,if_pos h] at e
    have:=a3 h
    have:=b3 h
    omega
   ·rw [if_neg h,if_neg h] at e
    omega
  have hle:=nodup_le _ (List.range (1+cntN p s.s true (insS p s.s t).loc.toNat)) hnd fun y hy=>by
   obtain⟨c,hc,rfl⟩:=List.mem_map.1 hy
   rw [List.mem_range]
   exact (hin c hc).2.1
  rw [List.length_map,List.length_range] at hle
  exact hle
 ·have:(mvV p s).filter (fun c=>decide (c % 3=t))=[]:=List.eq_nil_iff_forall_not_mem.2 fun c hc=>hex ⟨c,hc⟩
  rw [this]
  simp
theorem nx_pcN {p:Prg} {s:VSt} {N:Nat→Nat} (hs:VO1 p s N) {c:Nat} (ht:c % 3<p.length):wtV p (nxV p s c).s=wtV p (pcN s.s (c % 3)):=
 wtV_congr fun j=>by
  unfold nxV
  rw [do_pc hs ht]
  exact (pcV_set hs.ok ht _ _ j).symm
theorem suc_wt {p:Prg} {s:VSt} (hp:PrgOk p) (hs:VOk p s) (hf:∀ t,∀ x∈thrP p t,x.op≠4):wSum (fun u:VSt=>wtV p u.s) (sucV p s)≤3*wtV p s.s:=by
 unfold sucV
 rw [wSum_map,wSum_eq (g:=fun c=>(fun t=>wtV p (pcN s.s t)) (c % 3)) (fun c hc=>nx_pcN hs (mem_mvV hc).1)]
 refine Nat.le_trans (Nat.le_of_eq (part3 (fun t=>wtV p (pcN s.s t)) (mvV p s))) ?_
 have h0:=thr_choices hp hs hf 0
 have h1:=thr_choices hp hs hf 1
 have h2:=thr_choices hp hs hf 2
 omega
theorem wSum_flat {α:Type} {f:α→Nat} {succ:α→List α}:∀ {L:List α},(∀ s∈L,wSum f (succ s)≤3*f s)→wSum f (L.flatMap succ)≤3*wSum f L
 | [],_=>by simp [wSum]
 | x::L,h=>by
  have h1:=h x (by simp)
  have h2:=wSum_flat (L:=L) fun y hy=>h y (by simp [hy])
  rw [List.flatMap_cons,wSum_app]
  simp only [wSum]
  omega
theorem lvl_reach {σ:Type} {succ:σ→List σ} {s0:σ}:∀ n,∀ s∈lvl succ s0 n,Reach succ s0 s
 | 0,s,h=>by
  simp only [lvl,List.mem_singleton] at h
  rw [h]
  exact .start
 | n+1,s,h=>by
  rw [lvl,List.mem_flatMap] at h
  obtain⟨u,hu,hs⟩:=h
  exact .next (lvl_reach n u hu) hs
theorem lvl_wt {p:Prg} (hp:PrgOk p) (hf:∀ t,∀ x∈thrP p t,x.op≠4):∀ n,wSum (fun u:VSt=>wtV p u.s) (lvl (sucV p) (vt0 p) n)≤3 ^ n*exN p
 | 0=>by
  show wtV p (st0 p)+0≤_
  rw [wtV_start]
  simp
 | n+1=>by
  have ih:=lvl_wt hp hf n
  have h:=wSum_flat (f:=fun u:VSt=>wtV p u.s) (succ:=sucV p) (L:=lvl (sucV p) (vt0 p) n) fun s hs=>suc_wt hp (reachV_ok hp (lvl_reach n s hs)) hf
  rw [lvl,Nat.pow_succ]
  have e:3 ^ n*3*exN p=3*(3 ^ n*exN p):=by rw [Nat.mul_comm (3 ^ n) 3,Nat.mul_assoc]
  omega
theorem len_wt {α:Type} {f:α→Nat} (h:∀ x,0<f x):∀ L:List α,L.length≤wSum f L
 | []=>Nat.le_refl _
 | x::L=>by
  have h1:=h x
  have h2:=len_wt h L
  simp only [List.length_cons,wSum]
  omega
theorem univ_wt {p:Prg} (hp:PrgOk p) (hf:∀ t,∀ x∈thrP p t,x.op≠4):∀ m,2*((List.range m).flatMap (lvl (sucV p) (vt0 p))).length+exN p≤3 ^ m*exN p
 | 0=>by simp
 | m+1=>by
  have ih:=univ_wt hp hf m
  have h1:=lvl_wt hp hf m
  have h2:=len_wt (f:=fun u:VSt=>wtV p u.s) (fun u=>wtV_pos p u.s) (lvl (sucV p) (vt0 p) m)
  rw [List.range_succ,List.flatMap_append,List.length_append,List.flatMap_cons,List.flatMap_nil,List.append_nil,Nat.pow_succ]
  have e:3 ^ m*3*exN p=3*(3 ^ m*exN p):=by rw [Nat.mul_comm (3 ^ m) 3,Nat.mul_assoc]
  omega
theorem do_pcl (s:VSt) (t k:Nat) (x:Ins):(doV s t x k).s.pc=s.s.pc.set t (pcS s.s t+1):=by
 unfold doV
 split
 ·rfl
 ·split <;> rfl
theorem rkV_next {p:Prg} {s:VSt} {N:Nat→Nat} (hs:VO1 p s N) {c:Nat} (ht:c % 3<p.length):rkS (nxV p s c).s=rkS s.s+1:=by
 have h:=sum_set s.s.pc (c % 3) (pcS s.s (c % 3)+1) (by rw [hs.ok.pcl]; exact ht)
 unfold rkS nxV
 rw [do_pcl]
 unfold pcS at h ⊢
 omega
theorem sum_wSum:∀ l:List Nat,l.foldr (·+·) 0=wSum (fun i=>l.getD i 0) (List.range l.length):=fun l=>by
 have e:l=(List.range l.length).map fun i=>l.getD i 0:=by
  apply List.ext_getElem
  ·simp
  ·intro i h1 h2
   rw [List.getElem_map,List.getElem_range,List.getD_eq_getElem?_getD,List.getElem?_eq_getElem h1]
   rfl
 have h1:∀ l:List Nat,l.foldr (·+·) 0=wSum (fun x=>x) l:=fun l=>by
  induction l with
  | nil=>rfl
  | cons a l ih=>simp only [List.foldr_cons,wSum,ih]
 rw [h1]
 exact (congrArg (wSum fun x=>x) e).trans (wSum_map _ _ _)
theorem rkV_le {p:Prg} {s:VSt} {N:Nat→Nat} (hp:PrgOk p) (hs:VO1 p s N) (hf:∀ t,∀ x∈thrP p t,x.op≠4):rkS s.s≤12:=by
 unfold rkS
 rw [sum_wSum,hs.ok.pcl]
 refine Nat.le_trans (wSum_le (g:=fun t=>cntE' (thrP p t)) fun t _=>?_) ?_
 ·have h1:=hs.ok.pcb t
  have h2:cntE' (thrP p t)=(thrP p t).length:=by
   unfold cntE'
   rw [List.countP_eq_length]
   intro x hx
   unfold nf
   simp [hf t x hx]
  rw [h2]
  exact h1
 ·rw [← wSum_prg]
  exact hp.1.2.2
theorem ffree_few {q:Prg} (hp:PrgOk q) (hf:∀ t,∀ x∈thrP q t,x.op≠4):(∀ s,Reach (sucV q) (vt0 q) s→s∈univ (sucV q) (vt0 q) 12)∧(univ (sucV q) (vt0 q) 12).length≤2391484500:=by
 refine⟨fun s h=>reach_univ (fun s=>rkS s.s) (rk0 q) (fun s t hs ht=>?_) (fun s hs=>rkV_le hp (reachV_ok hp hs) hf) h,?_⟩
 ·obtain⟨c,hc,rfl⟩:=List.mem_map.1 ht
  exact rkV_next (reachV_ok hp hs) (mem_mvV hc).1
 ·have h:2*((List.range (12+1)).flatMap (lvl (sucV q) (vt0 q))).length+exN q≤3 ^ 13*exN q:=univ_wt hp hf 13
  have h3:=hp.2.2
  have e:(3:Nat) ^ 13=1594323:=by decide
  rw [e] at h
  unfold univ
  omega
def pcsU:Nat→List (List Nat)
 | 0=>[[]]
 | n+1=>(List.range 8).flatMap fun a=>(pcsU n).map (a::·)
theorem pcsU_len:∀ n,(pcsU n).length=8 ^ n
 | 0=>rfl
 | n+1=>by
  rw [pcsU,show List.range 8=[0,1,2,3,4,5,6,7] from rfl]
  simp only [List.flatMap_cons,List.flatMap_nil,List.length_append,List.length_map,List.length_nil,pcsU_len n,Nat.pow_succ]
  omega
theorem pcsU_mem:∀ (l:List Nat),(∀ x∈l,x≤7)→l∈pcsU l.length
 | [],_=>by simp [pcsU]
 | a::l,h=>by
  rw [List.length_cons,pcsU,List.mem_flatMap]
  exact⟨a,List.mem_range.2 (by have:=h a (by simp); omega),List.mem_map.2 ⟨l,pcsU_mem l fun x hx=>h x (by simp [hx]),rfl⟩⟩
theorem prod_len {α β:Type} (l:List α) (m:List β):(l.flatMap fun a=>m.map fun b=>(a,b)).length=l.length*m.length:=by
 induction l with
 | nil=>simp
 | cons a l ih=>
  rw [List.flatMap_cons,List.length_append,List.length_map,ih,List.length_cons,Nat.add_mul,Nat.one_mul,Nat.add_comm]
theorem view_few {p:Prg} (hp:PrgOk p) {V:List VSt} (hn:V.Nodup) (h:∀ s∈V,Reach (sucV p) (vt0 p) s):V.length≤1300000000000:=by
 obtain⟨h1,h2⟩:=ffree_few (ff_ok hp) (fun t x hx=>ff_nf hx)
 have hnd:(V.map fun s=>(s.s.pc,ffV p s)).Nodup:=by
  rw [List.Nodup,List.pairwise_map]
  refine hn.imp fun {a b} hab e=>hab ?_
  have e1:a.s.pc=b.s.pc:=congrArg Prod.fst e
  have e2:ffV p a=ffV p b:=congrArg Prod.snd e
  exact vst_eq e1 (show (ffV p a).s.regs=(ffV p b).s.regs by rw [e2]) (show (ffV p a).s.mem=(ffV p b).s.mem by rw [e2]) (show (ffV p a).lists=(ffV p b).lists by rw [e2]) (show (ffV p a).own=(ffV p b).own by rw [e2])
 have hle:=nodup_le _ ((pcsU p.length).flatMap fun a=>(univ (sucV (ffP p)) (vt0 (ffP p)) 12).map fun b=>(a,b)) hnd fun y hy=>by
  obtain⟨s,hs,rfl⟩:=List.mem_map.1 hy
  have hok:=reachV_ok hp (h s hs)
  rw [List.mem_flatMap]
  refine⟨s.s.pc,?_,List.mem_map.2 ⟨_,h1 _ (ff_reach hp (h s hs)),rfl⟩⟩
  rw [← hok.ok.pcl]
  refine pcsU_mem _ fun x hx=>?_
  obtain⟨i,hi,rfl⟩:=List.getElem_of_mem hx
  have h3:=hok.ok.pcb i
  unfold pcS at h3
  rw [List.getD_eq_getElem?_getD,List.getElem?_eq_getElem hi] at h3
  exact Nat.le_trans h3 (thr_ok hp i).1
 rw [List.length_map,prod_len,pcsU_len] at hle
 have h8:8 ^ p.length≤512:=Nat.le_trans (Nat.pow_le_pow_right (by omega) hp.1.1) (by decide)
 have:=Nat.mul_le_mul h8 h2
 omega
end Go.Proofs.YtojmofnamppbdaaGreat
namespace Go.Proofs.YtojmofnamppbdaaGreat
set_option linter.unusedVariables false
def OutV (p:Prg) (y:List Int):Prop:=∃ s,Reach (sucV p) (vt0 p) s∧doneV p s=true∧outV s=y
theorem most_gt {s:VSt} {l:Nat} (h:l<s.lists.length):(lstV s l).length<mostV s:=by
 unfold mostV
 have key:∀ (L:List Nat) (x:Nat),x∈L→x≤L.foldr max 0:=fun L=>by
  induction L with
  | nil=>intro x hx; cases hx
  | cons a L ih=>
   intro x hx
   rw [List.foldr_cons]
   rcases List.mem_cons.1 hx with rfl | hx
   ·exact Nat.le_max_left _ _
   ·exact Nat.le_trans (ih x hx) (Nat.le_max_right _ _)
 have:=key (s.lists.map List.length) (lstV s l).length (List.mem_map.2 ⟨_,by
  unfold lstV
  rw [List.getD_eq_getElem?_getD,List.getElem?_eq_getElem h]
  exact List.getElem_mem _,rfl⟩)
 omega
theorem can_mem {p:Prg} {s:VSt} (hp:PrgOk p) (hs:VOk p s) {t k:Nat} (ht:t<p.length) (hc:canV p s t k=true):3*k+t∈mvV p s∧nxV p s (3*k+t)=doV s t (insS p s.s t) k:=by
 have h3:=hp.1.1
 have e1:(3*k+t) % 3=t:=by omega
 have e2:(3*k+t) / 3=k:=by omega
 obtain⟨hlt,hx,hcs⟩:=can_cases hp hc
 have hl:(insS p s.s t).loc.toNat<s.lists.length:=by have:=hx.loc; rw [hs.len]; omega
 have hm:=most_gt hl
 have hk:k≤(lstV s (insS p s.s t).loc.toNat).length:=by
  rcases hcs with ⟨_,e⟩ | ⟨_,_,e⟩ | ⟨_,_,e,_⟩ | ⟨_,_,e,_⟩ <;> omega
 refine⟨mem_mvV_iff.2 ⟨by omega,by rw [e1]; exact ht,by rw [e1,e2]; exact hc⟩,?_⟩
 unfold nxV
 rw [e1,e2]
theorem reach_do {p:Prg} {s:VSt} (hp:PrgOk p) (hr:Reach (sucV p) (vt0 p) s) {t k:Nat} (ht:t<p.length) (hc:canV p s t k=true):Reach (sucV p) (vt0 p) (doV s t (insS p s.s t) k):=by
 obtain⟨h1,h2⟩:=can_mem hp (reachV_ok hp hr) ht hc
 refine .next hr ?_
 rw [← h2]
 exact List.mem_map.2 ⟨_,h1,rfl⟩
theorem doneV_iff {p:Prg} {s:VSt}:doneV p s=true↔∀ t,t<p.length→(thrP p t).length≤pcS s.s t:=done_iff
def seqOf (s:VSt):St:=⟨s.s.pc,s.s.regs,s.lists.map lastV⟩
def UnlV (s:VSt):Prop:=∀ l,l<3→(gM (lstV s l) ((lstV s l).length-1)).lock=false
def endK (s:VSt) (x:Ins):Nat:=if x.op=4 then 0 else if rdB x=true then (lstV s x.loc.toNat).length-1 else (lstV s x.loc.toNat).length
theorem gM_map {l k:Nat} {ms:List Msg} {j:Nat} (h:j<ms.length):gM (ms.map (bumpM l k)) j=bumpM l k (gM ms j):=by
 unfold gM
 rw [List.getD_eq_getElem?_getD,List.getElem?_map,List.getD_eq_getElem?_getD,List.getElem?_eq_getElem h]
 rfl
theorem last_bump {l k:Nat} {ms:List Msg}:lastV (ms.map (bumpM l k))=lastV ms:=by
 unfold lastV
 rw [List.length_map]
 rcases Nat.eq_zero_or_pos ms.length with h | h
 ·obtain rfl:=List.length_eq_zero_iff.1 h
  rfl
 ·rw [gM_map (by omega)]
  rfl
theorem lock_bump {l k:Nat} {ms:List Msg} {j:Nat} (h:j<ms.length):(gM (ms.map (bumpM l k)) j).lock=(gM ms j).lock:=by rw [gM_map h]; rfl
theorem gM_snoc (ms:List Msg) (m:Msg):gM (ms++[m]) ms.length=m:=by
 unfold gM
 rw [List.getD_eq_getElem?_getD,List.getElem?_append_right (Nat.le_refl _)]
 simp
theorem insL_end {ls:List (List Msg)} {l:Nat} {m:Msg} (hl:l<ls.length) (j:Nat):(insL ls l (ls.getD l []).length m).getD j []=if j=l then (ls.getD l []).map (bumpM l (ls.getD l []).length)++[m] else (ls.getD j []).map (bumpM l (ls.getD l []).length):=by
 rw [insL_get hl]
 split
 ·rw [List.take_of_length_le (by simp),List.drop_of_length_le (by simp)]
 ·rfl
theorem map_last {ls:List (List Msg)} {i:Nat} (h:i<ls.length):(ls.map lastV)[i]'(by rw [List.length_map]; exact h)=lastV (ls.getD i []):=by
 rw [List.getElem_map,List.getD_eq_getElem?_getD,List.getElem?_eq_getElem h]
 rfl
theorem last_snoc (ms:List Msg) (m:Msg):lastV (ms++[m])=m.val:=by
 unfold lastV
 rw [List.length_append,List.length_singleton,Nat.add_sub_cancel,gM_snoc]
theorem seq_mem {ls:List (List Msg)} {l:Nat} {m:Msg} (hl:l<ls.length):(insL ls l (ls.getD l []).length m).map lastV=(ls.map lastV).set l m.val:=by
 apply List.ext_getElem
 ·simp [insL_len]
 ·intro i h1 h2
  have hi:i<ls.length:=by simpa [insL_len] using h1
  rw [map_last (by rw [insL_len]; exact hi),insL_end hl,List.getElem_set]
  by_cases e:i=l
  ·rw [if_pos e,if_pos e.symm,last_snoc]
  ·rw [if_neg e,if_neg (fun h=>e h.symm),last_bump,map_last hi]
theorem end_k {s:VSt} {x:Ins} (h4:x.op≠4):endK s x=if rdB x=true then (lstV s x.loc.toNat).length-1 else (lstV s x.loc.toNat).length:=if_neg h4
theorem end_can {p:Prg} {s:VSt} (hp:PrgOk p) (hs:VOk p s) (hu:UnlV s) {t:Nat} (ht:t<p.length) (hlt:pcS s.s t<(thrP p t).length):canV p s t (endK s (insS p s.s t))=true:=by
 have hx:=ins_ok hp hlt
 have hl3:(insS p s.s t).loc.toNat<3:=by have:=hx.loc; omega
 have hv:=(own_ok hs ht).2 _ hl3
 have hpos:0<(lstV s (insS p s.s t).loc.toNat).length:=by rw [hs.pos _ hl3]; omega
 have hul:=hu _ hl3
 have hop:=hx.op
 show (onS p s.s t && (if (insS p s.s t).op=4 then decide (endK s (insS p s.s t)=0) else if (insS p s.s t).op=1 then decide (atV (ownV s t) (insS p s.s t).loc.toNat≤endK s (insS p s.s t)) && decide (endK s (insS p s.s t)<(lstV s (insS p s.s t).loc.toNat).length) else if (insS p s.s t).op=5 then decide (atV (ownV s t) (insS p s.s t).loc.toNat≤endK s (insS p s.s t)) && decide (endK s (insS p s.s t)<(lstV s (insS p s.s t).loc.toNat).length) && !(gM (lstV s (insS p s.s t).loc.toNat) (endK s (insS p s.s t))).lock
  else decide (atV (ownV s t) (insS p s.s t).loc.toNat<endK s (insS p s.s t)) && decide (endK s (insS p s.s t)≤(lstV s (insS p s.s t).loc.toNat).length) && !(gM (lstV s (insS p s.s t).loc.toNat) (endK s (insS p s.s t)-1)).lock))=true
 have hon:onS p s.s t=true:=by unfold onS; simp [hlt]
 have hv:atV (ownV s t) (insS p s.s t).loc.toNat<(lstV s (insS p s.s t).loc.toNat).length:=hv
 rw [hon,Bool.true_and]
 by_cases h4:(insS p s.s t).op=4
 ·rw [if_pos h4]
  unfold endK
  rw [if_pos h4]
  rfl
 ·rw [if_neg h4,end_k h4]
  by_cases h1:(insS p s.s t).op=1
  ·have hr:rdB (insS p s.s t)=true:=by simp [rdB,h1]
   rw [if_pos h1,if_pos hr,Bool.and_eq_true,decide_eq_true_iff,decide_eq_true_iff]
   omega
  ·rw [if_neg h1]
   by_cases h5:(insS p s.s t).op=5
   ·have hr:rdB (insS p s.s t)=true:=by simp [rdB,h5]
    rw [if_pos h5,if_pos hr,Bool.and_eq_true,Bool.and_eq_true,decide_eq_true_iff,decide_eq_true_iff,hul]
    exact⟨⟨by omega,by omega⟩,rfl⟩
   ·have hr:rdB (insS p s.s t)=false:=by simp [rdB,h1,h5]
    rw [if_neg h5,if_neg (by rw [hr]; decide),Bool.and_eq_true,Bool.and_eq_true,decide_eq_true_iff,decide_eq_true_iff,hul]
    exact⟨⟨by omega,Nat.le_refl _⟩,rfl⟩
theorem st_eq {s u:St} (h1:s.pc=u.pc) (h2:s.regs=u.regs) (h3:s.mem=u.mem):s=u:=by
 obtain⟨a,b,c⟩:=s
 obtain⟨a',b',c'⟩:=u
 simp only at h1 h2 h3
 subst h1 h2 h3
 rfl
theorem do_regs (s:VSt) (t k:Nat) (x:Ins):(doV s t x k).s.regs=if rdB x=true then s.s.regs.set (rgI t x) (gM (lstV s x.loc.toNat) k).val else s.s.regs:=by
 unfold doV
 split
 ·rfl
 ·split <;> rfl
theorem end_seq {s:VSt} {t:Nat} {x:Ins} (hl:x.loc.toNat<s.lists.length) (h:(doV s t x (endK s x)).lists.map lastV=if wrB x=true then (s.lists.map lastV).set x.loc.toNat (valS s.s t x) else s.lists.map lastV):seqOf (doV s t x (endK s x))=doS (seqOf s) t x:=by
 refine st_eq (do_pcl _ _ _ _) ((do_regs _ _ _ _).trans ?_) h
 show _=if rdB x=true then s.s.regs.set (rgI t x) ((s.lists.map lastV).getD x.loc.toNat 0) else s.s.regs
 by_cases hr:rdB x=true
 ·have h4:x.op≠4:=fun h=>by unfold rdB at hr; simp [h] at hr
  rw [if_pos hr,if_pos hr,end_k h4,if_pos hr]
  congr 1
  rw [List.getD_eq_getElem?_getD,List.getElem?_eq_getElem (by rw [List.length_map]; exact hl)]
  exact (map_last hl).symm
 ·rw [if_neg hr,if_neg hr]
theorem rd_lists (s:VSt) (t k:Nat) (x:Ins):(rdV s t x k).lists=s.lists:=rfl
theorem end_step {p:Prg} {s:VSt} (hp:PrgOk p) (hs:VOk p s) (hu:UnlV s) {t:Nat} (ht:t<p.length) (hlt:pcS s.s t<(thrP p t).length):
  seqOf (doV s t (insS p s.s t) (endK s (insS p s.s t)))=nxS p (seqOf s) t∧UnlV (doV s t (insS p s.s t) (endK s (insS p s.s t))):=by
 have hx:=ins_ok hp hlt
 have hl3:(insS p s.s t).loc.toNat<3:=by have:=hx.loc; omega
 have hl:(insS p s.s t).loc.toNat<s.lists.length:=by rw [hs.len]; exact hl3
 have hposj:∀ j,j<3→0<(lstV s j).length:=fun j hj=>by rw [hs.pos j hj]; omega
 have hop:=hx.op
 have hnx:nxS p (seqOf s) t=doS (seqOf s) t (insS p s.s t):=rfl
 rw [hnx]
 have hmem:(s.lists.map lastV).getD (insS p s.s t).loc.toNat 0=lastV (lstV s (insS p s.s t).loc.toNat):=by
  rw [List.getD_eq_getElem?_getD,List.getElem?_eq_getElem (by rw [List.length_map]; exact hl)]
  exact map_last hl
 have hul:∀ (m:Msg),m.lock=false→∀ u:VSt,u.lists=insL s.lists (insS p s.s t).loc.toNat (lstV s (insS p s.s t).loc.toNat).length m→UnlV u:=fun m hm u hul j hj=>by
  unfold lstV
  rw [hul]
  unfold lstV
  rw [insL_end hl]
  by_cases e:j=(insS p s.s t).loc.toNat
  ·rw [if_pos e,List.length_append,List.length_singleton,Nat.add_sub_cancel,gM_snoc]
   exact hm
  ·rw [if_neg e,List.length_map]
   have:=hposj j hj
   unfold lstV at this
   rw [lock_bump (by omega)]
   exact hu j hj
 by_cases h4:(insS p s.s t).op=4
 ·have hr:rdB (insS p s.s t)=false:=by simp [rdB,h4]
  have hw:wrB (insS p s.s t)=false:=by simp [wrB,h4]
  have e:doV s t (insS p s.s t) (endK s (insS p s.s t))=rdV s t (insS p s.s t) (endK s (insS p s.s t)):=by
   unfold doV
   rw [if_neg (by omega),if_neg (by rw [hw]; decide)]
  refine⟨end_seq hl ?_,by rw [e]; exact hu⟩
  rw [e,if_neg (by rw [hw]; decide),rd_lists]
 ·rw [end_k h4]
  by_cases h1:(insS p s.s t).op=1
  ·have hr:rdB (insS p s.s t)=true:=by simp [rdB,h1]
   have hw:wrB (insS p s.s t)=false:=by simp [wrB,h1]
   rw [if_pos hr]
   have e:doV s t (insS p s.s t) ((lstV s (insS p s.s t).loc.toNat).length-1)=rdV s t (insS p s.s t) ((lstV s (insS p s.s t).loc.toNat).length-1):=by
    unfold doV
    rw [if_neg (by omega),if_neg (by rw [hw]; decide)]
   have hk:endK s (insS p s.s t)=(lstV s (insS p s.s t).loc.toNat).length-1:=by rw [end_k h4,if_pos hr]
   refine⟨hk▸end_seq hl ?_,by rw [e]; exact hu⟩
   rw [hk,e,if_neg (by rw [hw]; decide),rd_lists]
  ·by_cases h5:(insS p s.s t).op=5
   ·have hr:rdB (insS p s.s t)=true:=by simp [rdB,h5]
    have hw:wrB (insS p s.s t)=true:=by simp [wrB,h5]
    rw [if_pos hr]
    obtain⟨n,hn⟩:∃ n,n=(lstV s (insS p s.s t).loc.toNat).length:=⟨_,rfl⟩
    have hpos:=hposj _ hl3
    rw [← hn] at hpos ⊢
    obtain⟨q,hq⟩:∃ q,q=putV (rdV s t (insS p s.s t) (n-1)) t (insS p s.s t).loc.toNat (n-1+1) (insS p s.s t).val:=⟨_,rfl⟩
    have e:doV s t (insS p s.s t) (n-1)=⟨q.s,q.lists.set (insS p s.s t).loc.toNat (lockM (lstV q (insS p s.s t).loc.toNat) (n-1)),q.own⟩:=by
     unfold doV
     rw [if_pos h5,hq]
    obtain⟨m,hm1,hm2,hm3⟩:∃ m:Msg,m.val=(insS p s.s t).val∧m.lock=false∧q.lists=insL s.lists (insS p s.s t).loc.toNat (lstV s (insS p s.s t).loc.toNat).length m:=by
     refine⟨_,?_,?_,by rw [hq,ins_lists,show n-1+1=n by omega,hn]; rfl⟩ <;> rfl
    have hqn:(lstV q (insS p s.s t).loc.toNat).length=n+1:=by
     unfold lstV
     rw [hm3]
     unfold lstV at hn ⊢
     rw [insL_end hl,if_pos rfl,List.length_append,List.length_map,← hn]
     rfl
    have hql:(insS p s.s t).loc.toNat<q.lists.length:=by rw [hm3,insL_len]; exact hl
    have hlk:gM (lockM (lstV q (insS p s.s t).loc.toNat) (n-1)) n=gM (lstV q (insS p s.s t).loc.toNat) n:=by
     unfold gM lockM
     simp only [List.getD_eq_getElem?_getD]
     rw [List.getElem?_set_ne (by omega)]
    have hlkl:(lockM (lstV q (insS p s.s t).loc.toNat) (n-1)).length=n+1:=by unfold lockM; rw [List.length_set]; exact hqn
    have hqu:=hul m hm2 q hm3
    have hk:endK s (insS p s.s t)=n-1:=by rw [end_k h4,if_pos hr,← hn]
    refine⟨hk▸end_seq hl ?_,?_⟩
    ·rw [hk,e,if_pos hw]
     have eM:(q.lists.set (insS p s.s t).loc.toNat (lockM (lstV q (insS p s.s t).loc.toNat) (n-1))).map lastV=(s.lists.map lastV).set (insS p s.s t).loc.toNat (insS p s.s t).val:=by
      rw [List.map_set,hm3,show lstV s (insS p s.s t).loc.toNat=s.lists.getD (insS p s.s t).loc.toNat [] from rfl,seq_mem hl,List.set_set,hm1.symm]
      congr 1
      show lastV _=_
      unfold lastV
      rw [hlkl,Nat.add_sub_cancel,hlk]
      have hl2:lastV (lstV q (insS p s.s t).loc.toNat)=m.val:=by
       unfold lstV
       rw [hm3]
       unfold lstV
       rw [insL_end hl,if_pos rfl,last_snoc]
      unfold lastV at hl2
      rw [hqn,Nat.add_sub_cancel] at hl2
      exact hl2
     have eV:valS s.s t (insS p s.s t)=(insS p s.s t).val:=by unfold valS; rw [if_neg (by omega)]
     rw [eM,eV]
    rw [e]
    ·intro j hj
     by_cases ej:j=(insS p s.s t).loc.toNat
     ·have el:lstV ⟨q.s,q.lists.set (insS p s.s t).loc.toNat (lockM (lstV q (insS p s.s t).loc.toNat) (n-1)),q.own⟩ j=lockM (lstV q (insS p s.s t).loc.toNat) (n-1):=by
       unfold lstV
       rw [ej,List.getD_eq_getElem?_getD,List.getElem?_set_self hql]
       rfl
      rw [el,hlkl,Nat.add_sub_cancel,hlk]
      have:=hqu _ hl3
      rw [hqn,Nat.add_sub_cancel] at this
      exact this
     ·have el:lstV ⟨q.s,q.lists.set (insS p s.s t).loc.toNat (lockM (lstV q (insS p s.s t).loc.toNat) (n-1)),q.own⟩ j=lstV q j:=by
       unfold lstV
       rw [List.getD_eq_getElem?_getD,List.getElem?_set_ne (fun h=>ej h.symm),← List.getD_eq_getElem?_getD]
      rw [el]
      exact hqu j hj
   ·have hr:rdB (insS p s.s t)=false:=by simp [rdB,h1,h5]
    have hw:wrB (insS p s.s t)=true:=by
     unfold wrB
     simp
     omega
    rw [if_neg (by rw [hr]; decide)]
    have e:doV s t (insS p s.s t) (lstV s (insS p s.s t).loc.toNat).length=putV (rdV s t (insS p s.s t) (lstV s (insS p s.s t).loc.toNat).length) t (insS p s.s t).loc.toNat (lstV s (insS p s.s t).loc.toNat).length (valS s.s t (insS p s.s t)):=by
     unfold doV
     rw [if_neg h5,if_pos hw]
    have hk:endK s (insS p s.s t)=(lstV s (insS p s.s t).loc.toNat).length:=by rw [end_k h4,if_neg (by rw [hr]; decide)]
    refine⟨hk▸end_seq hl ?_,?_⟩
    ·rw [hk,e,if_pos hw,ins_lists,rd_lists]
     exact seq_mem hl
    ·rw [e]
     exact hul ⟨valS s.s t (insS p s.s t),false,(bumpV (insS p s.s t).loc.toNat (lstV s (insS p s.s t).loc.toNat).length (ownV (rdV s t (insS p s.s t) (lstV s (insS p s.s t).loc.toNat).length) t)).set (insS p s.s t).loc.toNat (lstV s (insS p s.s t).loc.toNat).length⟩ rfl _ rfl
theorem seq_start (p:Prg):seqOf (vt0 p)=st0 p:=rfl
theorem unl_start (p:Prg):UnlV (vt0 p):=fun l hl=>by
 match l,hl with
 | 0,_=>rfl
 | 1,_=>rfl
 | 2,_=>rfl
theorem ra_lift {p:Prg} (hp:PrgOk p) {S:St} (h:Reach (sucS p) (st0 p) S):∃ s,Reach (sucV p) (vt0 p) s∧seqOf s=S∧UnlV s:=by
 induction h with
 | start=>exact⟨vt0 p,.start,seq_start p,unl_start p⟩
 | next _ ht ih=>
  obtain⟨s,h1,rfl,h3⟩:=ih
  obtain⟨t,hm,rfl⟩:=List.mem_map.1 ht
  obtain⟨h4,h5⟩:=mem_mvS.1 hm
  have h5:pcS s.s t<(thrP p t).length:=h5
  have hok:=reachV_ok hp h1
  obtain⟨h6,h7⟩:=end_step hp hok h3 h4 h5
  exact⟨_,reach_do hp h1 h4 (end_can hp hok h3 h4 h5),h6,h7⟩
theorem ra_sc {p:Prg} (hp:PrgOk p) {y:List Int} (h:∃ s,Reach (sucS p) (st0 p) s∧doneS p s=true∧outS s=y):OutV p y:=by
 obtain⟨S,h1,h2,h3⟩:=h
 obtain⟨s,k1,rfl,_⟩:=ra_lift hp h1
 exact⟨s,k1,h2,h3⟩
theorem own_set {L:List (List Nat)} {t:Nat} {v:List Nat} (h:t<L.length):(L.set t v).getD t [0,0,0]=v:=by
 rw [List.getD_eq_getElem?_getD,List.getElem?_set_self h]
 rfl
end Go.Proofs.YtojmofnamppbdaaGreat
namespace Go.Proofs.YtojmofnamppbdaaGreat
set_option linter.unusedVariables false
theorem do_mem (s:VSt) (t k:Nat) (x:Ins):(doV s t x k).s.mem=s.s.mem:=by
 unfold doV
 split
 ·rfl
 ·split <;> rfl
theorem reachV_mem {p:Prg} {s:VSt} (h:Reach (sucV p) (vt0 p) s):s.s.mem=[0,0,0]:=by
 induction h with
 | start=>rfl
 | next _ ht ih=>
  obtain⟨c,_,rfl⟩:=List.mem_map.1 ht
  unfold nxV
  rw [do_mem]
  exact ih
theorem cnt_ev (l:Int) (b:Bool) (p:Prg):cntP l b p≤evN p:=by
 unfold cntP evN
 refine wSum_le fun t _=>?_
 unfold cntT cntE'
 refine List.countP_mono_left fun x _ h=>?_
 unfold hitB at h
 unfold nf
 rw [Bool.and_eq_true] at h
 have h2:=h.2
 by_cases e:x.op=4
 ·exfalso
  cases b <;> simp [rdB,wrB,e] at h2
 ·simp [e]
theorem lens_le {p:Prg} {s:VSt} (hp:PrgOk p) (hs:VOk p s) {l:Nat} (hl:l<3):0<(lstV s l).length∧(lstV s l).length≤13:=by
 rw [hs.pos l hl,wrn_cnt]
 have h1:=cntN_le p s.s true l
 have h2:=cnt_ev (l:Int) true p
 have h3:=hp.1.2.2
 omega
theorem view_13 {p:Prg} {s:VSt} (hp:PrgOk p) (hs:VOk p s) {v:List Nat} (h:ViewOk s.lists v):v.length=3∧∀ x∈v,x<13:=by
 refine⟨h.1,fun x hx=>?_⟩
 obtain⟨i,hi,rfl⟩:=List.getElem_of_mem hx
 have h1:=h.2 i (by rw [h.1] at hi; exact hi)
 have h2:=(lens_le hp hs (l:=i) (by rw [h.1] at hi; exact hi)).2
 unfold atV at h1
 rw [List.getD_eq_getElem?_getD,List.getElem?_eq_getElem hi] at h1
 simp only [Option.getD_some] at h1
 unfold lstV at h2
 omega
def MOk (m:Msg):Prop:=In03 m.val∧m.view.length=3∧∀ x∈m.view,x<13
theorem msgs_ok {p:Prg} {s:VSt} (hp:PrgOk p) (hs:VOk p s):∀ ms∈s.lists,∀ m∈ms,MOk m:=fun ms hms m hm=>by
 obtain⟨h1,h2⟩:=hs.vals ms hms m hm
 exact⟨h1,view_13 hp hs h2⟩
def encMI (m:Msg):List Nat:=m.val.toNat::(if m.lock=true then 1 else 0)::m.view
def encMS (m:Msg):List Nat:=m.val.toNat::((if m.lock=true then [254] else [])++m.view)
def kVI (s:VSt):List Nat:=kI s.s++((s.lists.flatMap fun ms=>ms.length::ms.flatMap encMI)++(List.range 3).flatMap (ownV s))
def kVS (s:VSt):List Nat:=s.s.pc++(s.s.regs.map Int.toNat++(s.own.flatMap id++s.lists.flatMap fun ms=>255::ms.flatMap encMS))
def keyVI (s:VSt):ByteArray:=byt (kVI s)
def keyVS (s:VSt):ByteArray:=byt (kVS s)
theorem msg_eq {m n:Msg} (h1:m.val=n.val) (h2:m.lock=n.lock) (h3:m.view=n.view):m=n:=by
 cases m; cases n
 simp only at h1 h2 h3
 subst h1 h2 h3
 rfl
theorem nat_val {m n:Msg} (hm:MOk m) (hn:MOk n) (h:m.val.toNat=n.val.toNat):m.val=n.val:=by
 have h1:=hm.1.1
 have h2:=hn.1.1
 omega
theorem encMI_inj {m n:Msg} (hm:MOk m) (hn:MOk n) (h:encMI m=encMI n):m=n:=by
 unfold encMI at h
 injection h with h1 h2
 injection h2 with h2 h3
 refine msg_eq (nat_val hm hn h1) ?_ h3
 cases hl:m.lock <;> cases hk:n.lock <;> simp [hl,hk] at h2 <;> rfl
theorem encMI_len {m:Msg} (hm:MOk m):(encMI m).length=5:=by
 unfold encMI
 rw [List.length_cons,List.length_cons,hm.2.1]
theorem rowI_len:∀ {ms:List Msg},(∀ m∈ms,MOk m)→(ms.flatMap encMI).length=5*ms.length
 | [],_=>rfl
 | m::ms,h=>by
  have h1:=encMI_len (h m (by simp))
  have h2:=rowI_len (ms:=ms) fun x hx=>h x (by simp [hx])
  rw [List.flatMap_cons,List.length_append,List.length_cons]
  omega
theorem rowI_inj:∀ {ms ns:List Msg},(∀ m∈ms,MOk m)→(∀ m∈ns,MOk m)→ms.length=ns.length→ms.flatMap encMI=ns.flatMap encMI→ms=ns
 | [],[],_,_,_,_=>rfl
 | [],n::ns,_,_,h,_=>by simp at h
 | m::ms,[],_,_,h,_=>by simp at h
 | m::ms,n::ns,hm,hn,hl,h=>by
  rw [List.flatMap_cons,List.flatMap_cons] at h
  obtain⟨h1,h2⟩:=List.append_inj h (by rw [encMI_len (hm m (by simp)),encMI_len (hn n (by simp))])
  rw [encMI_inj (hm m (by simp)) (hn n (by simp)) h1,rowI_inj (fun x hx=>hm x (by simp [hx])) (fun x hx=>hn x (by simp [hx])) (by simpa using hl) h2]
theorem listsI_inj:∀ {L M:List (List Msg)} {r q:List Nat},(∀ ms∈L,∀ m∈ms,MOk m)→(∀ ms∈M,∀ m∈ms,MOk m)→L.length=M.length→(L.flatMap fun ms=>ms.length::ms.flatMap encMI)++r=(M.flatMap fun ms=>ms.length::ms.flatMap encMI)++q→L=M∧r=q
 | [],[],r,q,_,_,_,h=>⟨rfl,h⟩
 | [],n::ns,_,_,_,_,h,_=>by simp at h
 | m::ms,[],_,_,_,_,h,_=>by simp at h
 | m::L,n::M,r,q,hm,hn,hl,h=>by
  rw [List.flatMap_cons,List.flatMap_cons,List.append_assoc,List.append_assoc,List.cons_append,List.cons_append] at h
  injection h with h1 h2
  obtain⟨h3,h4⟩:=List.append_inj h2 (by rw [rowI_len (hm m (by simp)),rowI_len (hn n (by simp)),h1])
  have e:=rowI_inj (hm m (by simp)) (hn n (by simp)) h1 h3
  obtain⟨h5,h6⟩:=listsI_inj (L:=L) (M:=M) (fun x hx=>hm x (by simp [hx])) (fun x hx=>hn x (by simp [hx])) (by simpa using hl) h4
  exact⟨by rw [e,h5],h6⟩
def Mark (r:List Nat):Prop:=r=[]∨∃ q,r=255::q
theorem rowS_inj:∀ {ms ns:List Msg} {r q:List Nat},(∀ m∈ms,MOk m)→(∀ m∈ns,MOk m)→Mark r→Mark q→ms.flatMap encMS++r=ns.flatMap encMS++q→ms=ns∧r=q
 | [],[],r,q,_,_,_,_,h=>⟨rfl,h⟩
 | [],n::ns,r,q,_,hn,hr,_,h=>by
  have h1:=(hn n (by simp)).1
  rw [List.flatMap_cons,List.append_assoc] at h
  rcases hr with rfl | ⟨r,rfl⟩
  ·simp [encMS] at h
  ·unfold encMS at h
   rw [List.flatMap_nil,List.nil_append,List.cons_append] at h
   injection h with h2
   have:=h1.2
   omega
 | m::ms,[],r,q,hm,_,_,hq,h=>by
  have h1:=(hm m (by simp)).1
  rw [List.flatMap_cons,List.append_assoc] at h
  rcases hq with rfl | ⟨q,rfl⟩
  ·simp [encMS] at h
  ·unfold encMS at h
   rw [List.flatMap_nil,List.nil_append,List.cons_append] at h
   injection h with h2
   have:=h1.2
   omega
 | m::ms,n::ns,r,q,hm,hn,hr,hq,h=>by
  have km:=hm m (by simp)
  have kn:=hn n (by simp)
  rw [List.flatMap_cons,List.flatMap_cons,List.append_assoc,List.append_assoc] at h
  unfold encMS at h
  rw [List.cons_append,List.cons_append] at h
  injection h with h1 h2
  have hv:∀ (a b:Msg) (x y:List Nat),MOk b→[254]++a.view++x=b.view++y→False:=fun a b x y hb hab=>by
   obtain⟨_,hb1,hb2⟩:=hb
   match hbv:b.view with
   | []=>rw [hbv] at hb1; simp at hb1
   | c::d=>
    rw [hbv] at hab hb2
    rw [List.append_assoc,List.cons_append,List.cons_append] at hab
    injection hab with e
    have:=hb2 c (by simp)
    omega
  have key:m.lock=n.lock∧m.view++(ms.flatMap encMS++r)=n.view++(ns.flatMap encMS++q):=by
   cases hl:m.lock <;> cases hk:n.lock
   ·rw [hl,hk] at h2
    exact⟨rfl,h2⟩
   ·exfalso
    rw [hl,hk] at h2
    exact hv n m _ _ km h2.symm
   ·exfalso
    rw [hl,hk] at h2
    exact hv m n _ _ kn h2
   ·rw [hl,hk] at h2
    refine⟨rfl,?_⟩
    injection h2
  obtain⟨h3,h4⟩:=List.append_inj key.2 (by rw [km.2.1,kn.2.1])
  obtain⟨h5,h6⟩:=rowS_inj (fun x hx=>hm x (by simp [hx])) (fun x hx=>hn x (by simp [hx])) hr hq h4
  exact⟨by rw [msg_eq (nat_val km kn h1) key.1 h3,h5],h6⟩
theorem listsS_inj:∀ {L M:List (List Msg)},(∀ ms∈L,∀ m∈ms,MOk m)→(∀ ms∈M,∀ m∈ms,MOk m)→L.length=M.length→(L.flatMap fun ms=>255::ms.flatMap encMS)=(M.flatMap fun ms=>255::ms.flatMap encMS)→L=M
 | [],[],_,_,_,_=>rfl
 | [],n::ns,_,_,h,_=>by simp at h
 | m::ms,[],_,_,h,_=>by simp at h
 | m::L,n::M,hm,hn,hl,h=>by
  rw [List.flatMap_cons,List.flatMap_cons,List.cons_append,List.cons_append] at h
  injection h with _ h
  have hmk:∀ K:List (List Msg),Mark (K.flatMap fun ms=>255::ms.flatMap encMS):=fun K=>by
   cases K with
   | nil=>exact .inl rfl
   | cons a K=>exact .inr ⟨_,by rw [List.flatMap_cons,List.cons_append]⟩
  obtain⟨h1,h2⟩:=rowS_inj (hm m (by simp)) (hn n (by simp)) (hmk L) (hmk M) h
  rw [h1,listsS_inj (fun x hx=>hm x (by simp [hx])) (fun x hx=>hn x (by simp [hx])) (by simpa using hl) h2]
theorem flat3_inj:∀ {L M:List (List Nat)},(∀ v∈L,v.length=3)→(∀ v∈M,v.length=3)→L.length=M.length→∀ {r q:List Nat},L.flatMap id++r=M.flatMap id++q→L=M∧r=q
 | [],[],_,_,_,r,q,h=>⟨rfl,h⟩
 | [],n::ns,_,_,h,_,_,_=>by simp at h
 | m::ms,[],_,_,h,_,_,_=>by simp at h
 | m::L,n::M,hm,hn,hl,r,q,h=>by
  rw [List.flatMap_cons,List.flatMap_cons,List.append_assoc,List.append_assoc] at h
  obtain⟨h1,h2⟩:=List.append_inj h (by show m.length=n.length; rw [hm m (by simp),hn n (by simp)])
  obtain⟨h3,h4⟩:=flat3_inj (L:=L) (M:=M) (fun x hx=>hm x (by simp [hx])) (fun x hx=>hn x (by simp [hx])) (by simpa using hl) h2
  exact⟨by rw [show m=n from h1,h3],h4⟩
theorem own3 {p:Prg} {s:VSt} (hs:VOk p s):∀ v∈s.own,v.length=3:=fun v hv=>(hs.owns v hv).1
theorem kVS_inj {p:Prg} {s u:VSt} (hp:PrgOk p) (hs:VOk p s) (hu:VOk p u) (hm:s.s.mem=u.s.mem) (h:kVS s=kVS u):s=u:=by
 unfold kVS at h
 obtain⟨h1,h⟩:=List.append_inj h (by rw [hs.ok.pcl,hu.ok.pcl])
 obtain⟨h2,h⟩:=List.append_inj h (by simp [hs.ok.regl,hu.ok.regl])
 obtain⟨h3,h4⟩:=flat3_inj (own3 hs) (own3 hu) (by rw [hs.ownl,hu.ownl]) h
 exact vst_eq h1 (map_toNat_inj hs.ok.regb hu.ok.regb h2) hm (listsS_inj (msgs_ok hp hs) (msgs_ok hp hu) (by rw [hs.len,hu.len]) h4) h3
theorem kVI_inj {p:Prg} {s u:VSt} (hp:PrgOk p) (hs:VOk p s) (hu:VOk p u) (h:kVI s=kVI u):s=u:=by
 unfold kVI at h
 obtain⟨h1,h2⟩:=List.append_inj h (by simp [kI])
 have e1:=kI_inj hp hs.ok hu.ok h1
 obtain⟨h3,h4⟩:=listsI_inj (msgs_ok hp hs) (msgs_ok hp hu) (by rw [hs.len,hu.len]) h2
 have hov:∀ {w:VSt},VOk p w→∀ v∈(List.range 3).map (ownV w),v.length=3:=fun {w} hw v hv=>by
  obtain⟨t,_,rfl⟩:=List.mem_map.1 hv
  unfold ownV
  rw [List.getD_eq_getElem?_getD]
  cases hg:w.own[t]? with
  | none=>rfl
  | some x=>exact own3 hw x (List.mem_of_getElem? hg)
 have h5:((List.range 3).map (ownV s)).flatMap id++[]=((List.range 3).map (ownV u)).flatMap id++[]:=by
  rw [List.append_nil,List.append_nil,List.flatMap_map,List.flatMap_map]
  exact h4
 have h6:=map_range_inj (flat3_inj (hov hs) (hov hu) (by simp) h5).1
 have e5:s.own=u.own:=list_getD (d:=[0,0,0]) (by rw [hs.ownl,hu.ownl]) fun i hi=>h6 i (by rw [hs.ownl] at hi; have:=hp.1.1; omega)
 exact vst_eq (by rw [e1]) (by rw [e1]) (by rw [e1]) h3 e5
theorem kVI_lt {p:Prg} {s:VSt} (hp:PrgOk p) (hs:VOk p s):∀ n∈kVI s,n<256:=fun n hn=>by
 unfold kVI at hn
 rcases List.mem_append.1 hn with hn | hn
 ·exact kI_lt hp hs.ok n hn
 rcases List.mem_append.1 hn with hn | hn
 ·obtain⟨ms,hms,hn⟩:=List.mem_flatMap.1 hn
  rcases List.mem_cons.1 hn with rfl | hn
  ·obtain⟨l,hl,rfl⟩:=List.getElem_of_mem hms
   have:=(lens_le hp hs (l:=l) (by rw [hs.len] at hl; exact hl)).2
   unfold lstV at this
   rw [List.getD_eq_getElem?_getD,List.getElem?_eq_getElem hl] at this
   simp only [Option.getD_some] at this
   omega
  ·obtain⟨m,hm,hn⟩:=List.mem_flatMap.1 hn
   obtain⟨h1,h2,h3⟩:=msgs_ok hp hs ms hms m hm
   unfold encMI at hn
   rcases List.mem_cons.1 hn with rfl | hn
   ·have:=h1.2; omega
   rcases List.mem_cons.1 hn with rfl | hn
   ·split <;> omega
   ·have:=h3 n hn; omega
 ·obtain⟨t,_,hn⟩:=List.mem_flatMap.1 hn
  unfold ownV at hn
  rw [List.getD_eq_getElem?_getD] at hn
  cases hg:s.own[t]? with
  | none=>
   rw [hg] at hn
   simp at hn
   omega
  | some x=>
   rw [hg] at hn
   have:=(view_13 hp hs (hs.owns x (List.mem_of_getElem? hg))).2 n hn
   omega
theorem kVS_lt {p:Prg} {s:VSt} (hp:PrgOk p) (hs:VOk p s):∀ n∈kVS s,n<256:=fun n hn=>by
 have hkS:=kS_lt hp hs.ok
 unfold kS at hkS
 unfold kVS at hn
 rcases List.mem_append.1 hn with hn | hn
 ·exact hkS n (List.mem_append.2 (.inl hn))
 rcases List.mem_append.1 hn with hn | hn
 ·exact hkS n (List.mem_append.2 (.inr (List.mem_append.2 (.inl hn))))
 rcases List.mem_append.1 hn with hn | hn
 ·obtain⟨v,hv,hn⟩:=List.mem_flatMap.1 hn
  have:=(view_13 hp hs (hs.owns v hv)).2 n hn
  omega
 ·obtain⟨ms,hms,hn⟩:=List.mem_flatMap.1 hn
  rcases List.mem_cons.1 hn with rfl | hn
  ·omega
  ·obtain⟨m,hm,hn⟩:=List.mem_flatMap.1 hn
   obtain⟨h1,h2,h3⟩:=msgs_ok hp hs ms hms m hm
   unfold encMS at hn
   rcases List.mem_cons.1 hn with rfl | hn
   ·have:=h1.2; omega
   rcases List.mem_append.1 hn with hn | hn
   ·split at hn
    ·simp at hn; omega
    ·cases hn
   ·have:=h3 n hn; omega
theorem keyVI_inj {p:Prg} {s u:VSt} (hp:PrgOk p) (hs:VOk p s) (hu:VOk p u) (h:keyVI s=keyVI u):s=u:=kVI_inj hp hs hu (byt_inj (kVI_lt hp hs) (kVI_lt hp hu) h)
theorem keyVS_inj {p:Prg} {s u:VSt} (hp:PrgOk p) (hs:Reach (sucV p) (vt0 p) s) (hu:Reach (sucV p) (vt0 p) u) (h:keyVS s=keyVS u):s=u:=
 kVS_inj hp (reachV_ok hp hs) (reachV_ok hp hu) (by rw [reachV_mem hs,reachV_mem hu]) (byt_inj (kVS_lt hp (reachV_ok hp hs)) (kVS_lt hp (reachV_ok hp hu)) h)
end Go.Proofs.YtojmofnamppbdaaGreat
namespace Go.Proofs.YtojmofnamppbdaaGreat
set_option linter.unusedVariables false
theorem unl_put {s:VSt} {t l k:Nat} {v:Int} (hl:l<s.lists.length) (hk:k≤(lstV s l).length) (h3:s.lists.length=3) (hpos:∀ j,j<3→0<(lstV s j).length) (hu:UnlV s):UnlV (putV s t l k v):=fun j hj=>by
 unfold lstV
 rw [ins_lists,insL_get hl]
 by_cases e:j=l
 ·subst e
  rw [if_pos rfl]
  have hn:=hpos j hj
  have hk':k≤(s.lists.getD j []).length:=hk
  have hn':0<(s.lists.getD j []).length:=hn
  have hlen:(((s.lists.getD j []).map (bumpM j k)).take k).length=k:=by rw [List.length_take,List.length_map]; omega
  have htot:(((s.lists.getD j []).map (bumpM j k)).take k++(⟨v,false,(bumpV j k (ownV s t)).set j k⟩:Msg)::((s.lists.getD j []).map (bumpM j k)).drop k).length=(s.lists.getD j []).length+1:=by
   rw [List.length_append,List.length_cons,List.length_drop,hlen,List.length_map]
   omega
  rw [htot,Nat.add_sub_cancel]
  rcases Nat.lt_or_ge k (s.lists.getD j []).length with hlt | hge
  ·have hm:=hu j hj
   have hm:(gM (s.lists.getD j []) ((s.lists.getD j []).length-1)).lock=false:=hm
   unfold gM
   rw [List.getD_eq_getElem?_getD,List.getElem?_append_right (by rw [hlen]; omega),hlen]
   obtain⟨d,hd⟩:∃ d,(s.lists.getD j []).length-k=d+1:=⟨(s.lists.getD j []).length-k-1,by omega⟩
   rw [hd,List.getElem?_cons_succ,List.getElem?_drop,show k+d=(s.lists.getD j []).length-1 by omega,← List.getD_eq_getElem?_getD]
   exact (lock_bump (by omega)).trans hm
  ·obtain rfl:k=(s.lists.getD j []).length:=by omega
   unfold gM
   rw [List.getD_eq_getElem?_getD,List.getElem?_append_right (by rw [hlen]; exact Nat.le_refl _),hlen,Nat.sub_self]
   rfl
 ·rw [if_neg e,List.length_map]
  have:=hpos j hj
  have hn':0<(s.lists.getD j []).length:=this
  rw [lock_bump (by omega)]
  exact hu j hj
theorem unl_lock {s:VSt} {l k:Nat} (hl:l<s.lists.length) (hk:k+1<(lstV s l).length) (hu:UnlV s):UnlV ⟨s.s,s.lists.set l (lockM (lstV s l) k),s.own⟩:=fun j hj=>by
 by_cases e:j=l
 ·have el:lstV ⟨s.s,s.lists.set l (lockM (lstV s l) k),s.own⟩ j=lockM (lstV s l) k:=by
   unfold lstV
   rw [e,List.getD_eq_getElem?_getD,List.getElem?_set_self hl]
   rfl
  rw [el]
  have hlen:(lockM (lstV s l) k).length=(lstV s l).length:=by unfold lockM; rw [List.length_set]
  have hg:gM (lockM (lstV s l) k) ((lstV s l).length-1)=gM (lstV s l) ((lstV s l).length-1):=by
   unfold gM lockM
   simp only [List.getD_eq_getElem?_getD]
   rw [List.getElem?_set_ne (by omega)]
  rw [hlen,hg]
  have:=hu j hj
  rw [e] at this
  exact this
 ·have el:lstV ⟨s.s,s.lists.set l (lockM (lstV s l) k),s.own⟩ j=lstV s j:=by
   unfold lstV
   rw [List.getD_eq_getElem?_getD,List.getElem?_set_ne (fun h=>e h.symm),← List.getD_eq_getElem?_getD]
  rw [el]
  exact hu j hj
theorem unl_next {p:Prg} {s:VSt} (hp:PrgOk p) (hs:VOk p s) (hu:UnlV s) {t k:Nat} (ht:t<p.length) (hc:canV p s t k=true):UnlV (doV s t (insS p s.s t) k):=by
 obtain⟨hlt,hx,hcs⟩:=can_cases hp hc
 have hl3:(insS p s.s t).loc.toNat<3:=by have:=hx.loc; omega
 have hpos:∀ j,j<3→0<(lstV s j).length:=fun j hj=>by rw [hs.pos j hj]; omega
 have hur:UnlV (rdV s t (insS p s.s t) k):=hu
 have h3:(rdV s t (insS p s.s t) k).lists.length=3:=hs.len
 unfold doV
 split
 ·rename_i h5
  have hk:k<(lstV s (insS p s.s t).loc.toNat).length:=by
   rcases hcs with ⟨e,_⟩ | ⟨e,_,h⟩ | ⟨e,_,h,_⟩ | ⟨e,_,h,_⟩
   ·omega
   ·exact h
   ·exact h
   ·omega
  have hq:=unl_put (s:=rdV s t (insS p s.s t) k) (t:=t) (l:=(insS p s.s t).loc.toNat) (k:=k+1) (v:=(insS p s.s t).val) (by rw [h3]; exact hl3) hk h3 hpos hur
  refine unl_lock ?_ ?_ hq
  ·rw [ins_lists,insL_len,h3]; exact hl3
  ·have hk':k+1≤((rdV s t (insS p s.s t) k).lists.getD (insS p s.s t).loc.toNat []).length:=hk
   have hlen:=insL_lens (ls:=(rdV s t (insS p s.s t) k).lists) (l:=(insS p s.s t).loc.toNat) (k:=k+1) (j:=(insS p s.s t).loc.toNat) (m:=⟨(insS p s.s t).val,false,(bumpV (insS p s.s t).loc.toNat (k+1) (ownV (rdV s t (insS p s.s t) k) t)).set (insS p s.s t).loc.toNat (k+1)⟩) (by rw [h3]; exact hl3) hk'
   rw [if_pos rfl] at hlen
   show k+1<((putV (rdV s t (insS p s.s t) k) t (insS p s.s t).loc.toNat (k+1) (insS p s.s t).val).lists.getD (insS p s.s t).loc.toNat []).length
   rw [ins_lists,hlen]
   omega
 ·split
  ·rename_i h5 hw
   refine unl_put (by rw [h3]; exact hl3) ?_ h3 hpos hur
   rcases hcs with ⟨e,_⟩ | ⟨e,_,h⟩ | ⟨e,_,h,_⟩ | ⟨e,_,h,_⟩
   ·simp [wrB,e] at hw
   ·simp [wrB,e] at hw
   ·omega
   ·exact h
  ·exact hur
theorem reachV_unl {p:Prg} (hp:PrgOk p) {s:VSt} (h:Reach (sucV p) (vt0 p) s):UnlV s:=by
 induction h with
 | start=>exact unl_start p
 | next hr hm ih=>
  obtain⟨c,hc,rfl⟩:=List.mem_map.1 hm
  obtain⟨h1,h2⟩:=mem_mvV hc
  exact unl_next hp (reachV_ok hp hr) ih h1 h2
theorem outV_len {p:Prg} {s:VSt} (hs:VOk p s):(outV s).length=p.length*3+3:=by
 unfold outV
 rw [List.length_append,List.length_map,hs.ok.regl,hs.len]
end Go.Proofs.YtojmofnamppbdaaGreat
namespace Go.Proofs.YtojmofnamppbdaaGreat
set_option linter.unusedVariables false
set_option linter.unusedSimpArgs false
structure ObP (p:Prg) (s:VSt) (P:Nat→Nat) (G:Nat→Int) (V:Nat→List Nat) (N:Nat→Nat) (M:Nat→Nat→Msg):Prop where
 pc:∀ u,u<p.length→P u=pcS s.s u
 reg:∀ i,i<p.length*3→G i=s.s.regs.getD i 0
 own:∀ u,u<p.length→V u=ownV s u
 len:∀ l,l<3→N l=(lstV s l).length
 msg:∀ l,l<3→∀ j,j<N l→M l j=gM (lstV s l) j
theorem getD_setV5 {α:Type} {xs:List α} {i j:Nat} {x d:α} (h:i<xs.length):(xs.set i x).getD j d=if j=i then x else xs.getD j d:=by
 simp only [List.getD_eq_getElem?_getD]
 by_cases e:j=i
 ·subst e
  rw [if_pos rfl,List.getElem?_set_self h]
  rfl
 ·rw [if_neg e,List.getElem?_set_ne fun h=>e h.symm]
theorem gM_mapP {l k j:Nat} {xs:List Msg} (h:j<xs.length):gM (xs.map (bumpM l k)) j=bumpM l k (gM xs j):=by
 unfold gM
 simp only [List.getD_eq_getElem?_getD,List.getElem?_map,List.getElem?_eq_getElem h,Option.map_some,Option.getD_some]
theorem gM_insP {xs:List Msg} {k j:Nat} {m:Msg} (hk:k≤xs.length):gM (xs.take k++m::xs.drop k) j=if j<k then gM xs j else if j=k then m else gM xs (j-1):=by
 unfold gM
 simp only [List.getD_eq_getElem?_getD]
 have hl:(xs.take k).length=k:=by rw [List.length_take]; omega
 by_cases e1:j<k
 ·rw [if_pos e1,List.getElem?_append_left (by omega),List.getElem?_take,if_pos e1]
 ·rw [if_neg e1,List.getElem?_append_right (by omega),hl]
  by_cases e2:j=k
  ·rw [if_pos e2,e2,Nat.sub_self]
   rfl
  ·rw [if_neg e2,show j-k=(j-1-k)+1 by omega,List.getElem?_cons_succ,List.getElem?_drop,show k+(j-1-k)=j-1 by omega]
section
variable {p:Prg} {s:VSt} {P P':Nat→Nat} {G G':Nat→Int} {V V':Nat→List Nat} {N N':Nat→Nat} {M M':Nat→Nat→Msg}
theorem ObP.congr (h:ObP p s P G V N M) (h1:∀ u,u<p.length→P' u=P u) (h2:∀ i,i<p.length*3→G' i=G i) (h3:∀ u,u<p.length→V' u=V u) (h4:∀ l,l<3→N' l=N l) (h5:∀ l,l<3→∀ j,j<N l→M' l j=M l j):ObP p s P' G' V' N' M':=
 ⟨fun u hu=>(h1 u hu).trans (h.pc u hu),fun i hi=>(h2 i hi).trans (h.reg i hi),fun u hu=>(h3 u hu).trans (h.own u hu),fun l hl=>(h4 l hl).trans (h.len l hl),fun l hl j hj=>by
  rw [h4 l hl] at hj
  exact (h5 l hl j hj).trans (h.msg l hl j hj)⟩
theorem ObP.refl (p:Prg) (s:VSt):ObP p s (fun t=>pcS s.s t) (fun i=>s.s.regs.getD i 0) (ownV s) (fun l=>(lstV s l).length) (fun l j=>gM (lstV s l) j):=
 ⟨fun _ _=>rfl,fun _ _=>rfl,fun _ _=>rfl,fun _ _=>rfl,fun _ _ _ _=>rfl⟩
theorem ObP.rd (h:ObP p s P G V N M) {t k:Nat} {x:Ins} (ht:t<p.length) (hpl:s.s.pc.length=p.length) (hrl:s.s.regs.length=p.length*3) (hol:s.own.length=p.length) (hr:rgI t x<p.length*3) (hl:x.loc.toNat<3) (hk:rdB x=true→k<N x.loc.toNat):
  ObP p (rdV s t x k) (fun u=>if u=t then P t+1 else P u) (fun i=>if rdB x=true∧i=rgI t x then (M x.loc.toNat k).val else G i) (fun u=>if rdB x=true∧u=t then joinV (V t) (M x.loc.toNat k).view else V u) N M:=by
 refine⟨fun u hu=>?_,fun i hi=>?_,fun u hu=>?_,h.len,h.msg⟩
 ·show _=(s.s.pc.set t (pcS s.s t+1)).getD u 0
  rw [getD_setV5 (by omega)]
  by_cases e:u=t
  ·simp only [if_pos e]
   rw [h.pc t ht]
  ·simp only [if_neg e]
   exact h.pc u hu
 ·show _=(if rdB x=true then s.s.regs.set (rgI t x) (gM (lstV s x.loc.toNat) k).val else s.s.regs).getD i 0
  by_cases hb:rdB x=true
  ·rw [if_pos hb,getD_setV5 (by omega)]
   by_cases e:i=rgI t x
   ·simp only [if_pos e,hb,e,and_self,if_true]
    rw [h.msg _ hl k (hk hb)]
   ·simp only [e,and_false,if_false]
    exact h.reg i hi
  ·simp only [hb,false_and,if_false]
   exact h.reg i hi
 ·show _=(if rdB x=true then s.own.set t (joinV (ownV s t) (gM (lstV s x.loc.toNat) k).view) else s.own).getD u [0,0,0]
  by_cases hb:rdB x=true
  ·rw [if_pos hb,getD_setV5 (by omega)]
   by_cases e:u=t
   ·simp only [if_pos e,hb,e,and_self,if_true]
    rw [h.own t ht,h.msg _ hl k (hk hb)]
   ·simp only [e,and_false,if_false]
    exact h.own u hu
  ·simp only [hb,false_and,if_false]
   exact h.own u hu
theorem ObP.put (h:ObP p s P G V N M) (h3:s.lists.length=3) (hol:s.own.length=p.length) {t l k:Nat} (v:Int) (ht:t<p.length) (hl:l<3) (hk:k≤N l):
  ObP p (putV s t l k v) P G (fun a=>if a=t then (bumpV l k (V t)).set l k else bumpV l k (V a)) (fun j=>if j=l then N l+1 else N j) (fun l' j=>if l'=l then (if j<k then bumpM l k (M l j) else if j=k then ⟨v,false,(bumpV l k (V t)).set l k⟩ else bumpM l k (M l (j-1))) else bumpM l k (M l' j)):=by
 have hkl:k≤(lstV s l).length:=by rw [← h.len l hl]; exact hk
 have hL:∀ j,lstV (putV s t l k v) j=if j=l then ((lstV s l).map (bumpM l k)).take k++(⟨v,false,(bumpV l k (ownV s t)).set l k⟩:Msg)::((lstV s l).map (bumpM l k)).drop k else (lstV s j).map (bumpM l k):=fun j=>insL_get (by omega)
 refine⟨h.pc,h.reg,fun u hu=>?_,fun j hj=>?_,fun l' hl' j hj=>?_⟩
 ·show _=((s.own.map (bumpV l k)).set t ((bumpV l k (ownV s t)).set l k)).getD u [0,0,0]
  rw [getD_setV5 (by rw [List.length_map]; omega)]
  by_cases e:u=t
  ·simp only [if_pos e]
   rw [h.own t ht]
  ·simp only [if_neg e]
   rw [h.own u hu]
   unfold ownV
   simp only [List.getD_eq_getElem?_getD,List.getElem?_map,List.getElem?_eq_getElem (show u<s.own.length by omega),Option.map_some,Option.getD_some]
 ·rw [hL]
  by_cases e:j=l
  ·simp only [if_pos e]
   rw [h.len l hl,List.length_append,List.length_cons,List.length_take,List.length_drop,List.length_map]
   omega
  ·simp only [if_neg e]
   rw [h.len j hj,List.length_map]
 ·rw [hL]
  by_cases e:l'=l
  ·simp only [if_pos e] at hj ⊢
   rw [gM_insP (by rw [List.length_map]; exact hkl)]
   have hn:=h.len l hl
   by_cases e1:j<k
   ·simp only [if_pos e1]
    rw [gM_mapP (by omega),h.msg l hl j (by omega)]
   ·simp only [if_neg e1]
    by_cases e2:j=k
    ·simp only [if_pos e2]
     rw [h.own t ht]
    ·simp only [if_neg e2]
     rw [gM_mapP (by omega),h.msg l hl (j-1) (by omega)]
  ·simp only [if_neg e] at hj ⊢
   rw [gM_mapP (by rw [← h.len l' hl']; exact hj),h.msg l' hl' j hj]
theorem ObP.lock (h:ObP p s P G V N M) (h3:s.lists.length=3) {l k:Nat} (hl:l<3) (hk:k<N l):
  ObP p ⟨s.s,s.lists.set l (lockM (lstV s l) k),s.own⟩ P G V N (fun l' j=>if l'=l∧j=k then ⟨(M l k).val,true,(M l k).view⟩ else M l' j):=by
 have hL:∀ j,lstV ⟨s.s,s.lists.set l (lockM (lstV s l) k),s.own⟩ j=if j=l then lockM (lstV s l) k else lstV s j:=fun j=>getD_setV5 (by omega)
 have hn:=h.len l hl
 refine⟨h.pc,h.reg,h.own,fun j hj=>?_,fun l' hl' j hj=>?_⟩
 ·rw [hL]
  by_cases e:j=l
  ·rw [if_pos e,e,hn]
   unfold lockM
   rw [List.length_set]
  ·rw [if_neg e]
   exact h.len j hj
 ·rw [hL]
  by_cases e:l'=l
  ·subst e
   rw [if_pos rfl]
   have hg:gM (lockM (lstV s l') k) j=if j=k then ⟨(gM (lstV s l') k).val,true,(gM (lstV s l') k).view⟩ else gM (lstV s l') j:=by
    unfold lockM
    exact getD_setV5 (by omega)
   rw [hg]
   by_cases e2:j=k
   ·simp only [e2,and_self,if_true]
    rw [h.msg l' hl' k hk]
   ·simp only [e2,and_false,if_false]
    exact h.msg l' hl' j hj
  ·simp only [if_neg e,e,false_and,if_false]
   exact h.msg l' hl' j hj
end
end Go.Proofs.YtojmofnamppbdaaGreat
