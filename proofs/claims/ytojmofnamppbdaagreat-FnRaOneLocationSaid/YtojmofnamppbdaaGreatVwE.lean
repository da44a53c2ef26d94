/-
  Views: one location, an instruction for each thread: outcomes are those of one memory. No program in sight. Views: one location, an instruction for each thread: every state of views has its blocks. No program in sight. Views: one location, an instruction for each thread: every choice keeps the blocks. No program in sight.
-/
import Derived.Test.YtojmofnamppbdaaGreatVwA
namespace Go.Proofs.YtojmofnamppbdaaGreat
set_option linter.unusedVariables false
def insQ (p:Prg) (t:Nat):Ins:=(thrP p t).getD 0 ⟨0,0,0,0⟩
structure Blk where
 val:Int
 lock:Bool
 wr:Option Nat
 rd:List Nat
def tidB (b:Blk):List Nat:=b.wr.toList++b.rd
def tidsB (B:List Blk):List Nat:=B.flatMap tidB
structure DescQ (p:Prg) (l0:Nat) (rv:Nat→Int) (S:St) (D:List Nat) (m:Int):Prop where
 reach:Reach (sucS p) (st0 p) S
 pc:∀ t,t<p.length→pcS S t=if t∈D then 1 else 0
 regs:∀ i,i<p.length*3→S.regs.getD i 0=if i / 3∈D∧rdB (insQ p (i / 3))=true∧i=rgI (i / 3) (insQ p (i / 3)) then rv (i / 3) else 0
 mem:∀ l,l<3→S.mem.getD l 0=if l=l0 then m else 0
structure OneQ (p:Prg) (l0:Nat):Prop where
 l3:l0<3
 len:∀ t,(thrP p t).length≤1
 loc:∀ t,t<p.length→0<(thrP p t).length→(insQ p t).op≠4→(insQ p t).loc.toNat=l0
theorem insQ_eq {p:Prg} {s:St} {t:Nat} (h:pcS s t=0):insS p s t=insQ p t:=by unfold insS insQ; rw [h]
theorem DescQ.start (p:Prg) (l0:Nat) (rv:Nat→Int):DescQ p l0 rv (st0 p) [] 0:=by
 refine⟨.start,fun t ht=>?_,fun i hi=>?_,fun l hl=>?_⟩
 ·rw [if_neg (by simp)]
  show (List.replicate p.length 0).getD t 0=0
  rw [List.getD_eq_getElem?_getD]
  simp [ht]
 ·rw [if_neg (by simp)]
  show (List.replicate (p.length*3) (0:Int)).getD i 0=0
  rw [List.getD_eq_getElem?_getD]
  simp [hi]
 ·have:(st0 p).mem.getD l 0=0:=by
   match l,hl with
   | 0,_=>rfl
   | 1,_=>rfl
   | 2,_=>rfl
  rw [this]
  split <;> rfl
theorem getD_setI {xs:List Int} {i j:Nat} {v:Int} (h:i<xs.length):(xs.set i v).getD j 0=if j=i then v else xs.getD j 0:=by
 simp only [List.getD_eq_getElem?_getD]
 by_cases e:j=i
 ·subst e
  rw [if_pos rfl,List.getElem?_set_self h]
  rfl
 ·rw [if_neg e,List.getElem?_set_ne (fun h=>e h.symm)]
theorem DescQ.step {p:Prg} {l0:Nat} {rv:Nat→Int} {S:St} {D:List Nat} {m:Int} (hp:PrgOk p) (ho:OneQ p l0) (h:DescQ p l0 rv S D m) {t:Nat} (ht:t<p.length) (h1:0<(thrP p t).length) (hD:t∉D) (hr:rdB (insQ p t)=true→rv t=m):
  DescQ p l0 rv (nxS p S t) (t::D) (if wrB (insQ p t)=true then (if (insQ p t).op=3 then 0 else (insQ p t).val) else m):=by
 have hok:=reach_ok hp h.reach
 have hpc:pcS S t=0:=by rw [h.pc t ht,if_neg hD]
 have hi:=insQ_eq (p:=p) hpc
 have hlt:pcS S t<(thrP p t).length:=by omega
 have hx:=ins_ok hp hlt
 rw [hi] at hx
 have hl3:(insQ p t).loc.toNat<3:=by have:=hx.loc; omega
 have hrg:rgI t (insQ p t)=t*3+(insQ p t).reg.toNat:=rfl
 have hrb:=hx.reg
 have hrl:rgI t (insQ p t)<S.regs.length:=by rw [hok.regl,hrg]; omega
 have hrt:rgI t (insQ p t) / 3=t:=by rw [hrg]; omega
 have hval:valS S t (insQ p t)=if (insQ p t).op=3 then 0 else (insQ p t).val:=by
  unfold valS
  split
  ·rw [h.regs _ (by rw [← hok.regl]; exact hrl),hrt,if_neg (fun k=>hD k.1)]
  ·rfl
 have hmem0:rdB (insQ p t)=true→S.mem.getD (insQ p t).loc.toNat 0=m:=fun hrr=>by
  have h4:(insQ p t).op≠4:=fun e=>by simp [rdB,e] at hrr
  rw [h.mem _ hl3,if_pos (ho.loc t ht h1 h4)]
 have hnx:nxS p S t=doS S t (insQ p t):=by unfold nxS; rw [hi]
 refine⟨.next h.reach (List.mem_map.2 ⟨t,mem_mvS.2 ⟨ht,hlt⟩,rfl⟩),fun u hu=>?_,fun i hil=>?_,fun l hl=>?_⟩
 ·rw [hnx,pc_set hok ht]
  by_cases e:u=t
  ·subst e
   rw [if_pos rfl,if_pos (by simp),hpc]
  ·rw [if_neg e,h.pc u hu]
   by_cases hd:u∈D
   ·rw [if_pos hd,if_pos (by simp [hd])]
   ·rw [if_neg hd,if_neg (by simp [hd,e])]
 ·rw [hnx]
  show (if rdB (insQ p t)=true then S.regs.set (rgI t (insQ p t)) (S.mem.getD (insQ p t).loc.toNat 0) else S.regs).getD i 0=_
  by_cases e:i / 3=t
  ·rw [e]
   by_cases hrr:rdB (insQ p t)=true
   ·rw [if_pos hrr,getD_setI hrl]
    by_cases ei:i=rgI t (insQ p t)
    ·rw [if_pos ei,if_pos ⟨by simp,hrr,ei⟩,hmem0 hrr,hr hrr]
    ·rw [if_neg ei,if_neg (fun k=>ei k.2.2),h.regs i hil,e,if_neg (fun k=>hD k.1)]
   ·rw [if_neg hrr,if_neg (fun k=>hrr k.2.1),h.regs i hil,e,if_neg (fun k=>hD k.1)]
  ·have hold:(if rdB (insQ p t)=true then S.regs.set (rgI t (insQ p t)) (S.mem.getD (insQ p t).loc.toNat 0) else S.regs).getD i 0=S.regs.getD i 0:=by
    split
    ·rw [getD_setI hrl,if_neg (fun k=>e (by rw [k]; exact hrt))]
    ·rfl
   rw [hold,h.regs i hil]
   have:(i / 3∈t::D)↔i / 3∈D:=by simp [e]
   by_cases hd:i / 3∈D
   ·simp only [hd,this.2 hd]
   ·rw [if_neg (fun k=>hd k.1),if_neg (fun k=>hd (this.1 k.1))]
 ·rw [hnx]
  show (if wrB (insQ p t)=true then S.mem.set (insQ p t).loc.toNat (valS S t (insQ p t)) else S.mem).getD l 0=_
  by_cases hw:wrB (insQ p t)=true
  ·have h4:(insQ p t).op≠4:=fun e=>by simp [wrB,e] at hw
   rw [if_pos hw,if_pos hw,getD_setI (by rw [hok.meml]; exact hl3),ho.loc t ht h1 h4,hval]
   by_cases el:l=l0
   ·rw [if_pos el,if_pos el]
   ·rw [if_neg el,if_neg el,h.mem l hl,if_neg el]
  ·rw [if_neg hw,if_neg hw]
   exact h.mem l hl
def BlkW (p:Prg) (rv:Nat→Int) (q b:Blk):Prop:=∃ w,b.wr=some w∧(((insQ p w).op=2∧b.val=(insQ p w).val)∨((insQ p w).op=3∧b.val=0)∨((insQ p w).op=5∧b.val=(insQ p w).val∧rv w=q.val∧q.lock=true))
def BlkR (p:Prg) (rv:Nat→Int) (b:Blk):Prop:=∀ t∈b.rd,(insQ p t).op=4∨((insQ p t).op=1∧rv t=b.val)
theorem DescQ.readers {p:Prg} {l0:Nat} {rv:Nat→Int} (hp:PrgOk p) (ho:OneQ p l0) {b:Blk} {m:Int} (hm:b.val=m):∀ (r:List Nat) {S:St} {D:List Nat},DescQ p l0 rv S D m→(∀ t∈r,t<p.length∧0<(thrP p t).length)→r.Nodup→(∀ t∈r,t∉D)→(∀ t∈r,(insQ p t).op=4∨((insQ p t).op=1∧rv t=b.val))→∃ S',DescQ p l0 rv S' (r.reverse++D) m
 | [],S,D,h,_,_,_,_=>⟨S,h⟩
 | t::r,S,D,h,hl,hn,hd,hr=>by
  obtain⟨h1,h2⟩:=hl t (by simp)
  have hrt:=hr t (by simp)
  have hw:wrB (insQ p t)=false:=by rcases hrt with e | ⟨e,_⟩ <;> simp [wrB,e]
  have hs:=h.step hp ho h1 h2 (hd t (by simp)) fun hb=>by
   rcases hrt with e | ⟨_,e⟩
   ·simp [rdB,e] at hb
   ·rw [e,hm]
  rw [if_neg (by rw [hw]; decide)] at hs
  rw [List.nodup_cons] at hn
  obtain⟨S',k⟩:=DescQ.readers hp ho hm r hs (fun u hu=>hl u (by simp [hu])) hn.2 (fun u hu hm=>by
   rcases List.mem_cons.1 hm with rfl | hm
   ·exact hn.1 hu
   ·exact hd u (by simp [hu]) hm) (fun u hu=>hr u (by simp [hu]))
  refine⟨S',?_⟩
  rw [List.reverse_cons,List.append_assoc]
  exact k
theorem DescQ.blocks {p:Prg} {l0:Nat} {rv:Nat→Int} (hp:PrgOk p) (ho:OneQ p l0):∀ (B:List Blk) {q:Blk} {S:St} {D:List Nat},DescQ p l0 rv S D q.val→(∀ t∈tidsB B,t<p.length∧0<(thrP p t).length)→(tidsB B).Nodup→(∀ t∈tidsB B,t∉D)→(∀ b∈B,BlkR p rv b)→(∀ (j:Nat) (a b:Blk),(q::B)[j]?=some a→B[j]?=some b→BlkW p rv a b)→∃ S',∃ D':List Nat,DescQ p l0 rv S' D' (((q::B).getLast (by simp)).val)∧∀ t,t∈D'↔t∈D∨t∈tidsB B
 | [],q,S,D,h,_,_,_,_,_=>⟨S,D,h,fun t=>by simp [tidsB]⟩
 | b::B,q,S,D,h,hl,hn,hd,hr,hw=>by
  obtain⟨w,hbw,hop⟩:=hw 0 q b rfl rfl
  have htid:tidsB (b::B)=(w::b.rd)++tidsB B:=by
   unfold tidsB
   rw [List.flatMap_cons]
   unfold tidB
   rw [hbw]
   rfl
  rw [htid] at hl hn hd
  obtain⟨h1,h2⟩:=hl w (by simp)
  rw [List.nodup_append] at hn
  obtain⟨hn1,hn2,hn3⟩:=hn
  rw [List.nodup_cons] at hn1
  have hs:=h.step hp ho h1 h2 (hd w (by simp)) fun hb=>by
   rcases hop with ⟨e,_⟩ | ⟨e,_⟩ | ⟨_,_,e,_⟩
   ·simp [rdB,e] at hb
   ·simp [rdB,e] at hb
   ·exact e
  have hv:(if wrB (insQ p w)=true then (if (insQ p w).op=3 then 0 else (insQ p w).val) else q.val)=b.val:=by
   rcases hop with ⟨e,e2⟩ | ⟨e,e2⟩ | ⟨e,e2,_⟩
   ·rw [if_pos (by simp [wrB,e]),if_neg (by omega),e2]
   ·rw [if_pos (by simp [wrB,e]),if_pos e,e2]
   ·rw [if_pos (by simp [wrB,e]),if_neg (by omega),e2]
  rw [hv] at hs
  obtain⟨S1,k1⟩:=hs.readers hp ho (b:=b) rfl b.rd (fun u hu=>hl u (by simp [hu])) hn1.2 (fun u hu hm=>by
   rcases List.mem_cons.1 hm with rfl | hm
   ·exact hn1.1 hu
   ·exact hd u (by simp [hu]) hm) (hr b (by simp))
  obtain⟨S2,D2,k2,k3⟩:=DescQ.blocks hp ho B (q:=b) k1 (fun u hu=>hl u (by simp [hu])) hn2 (fun u hu hm=>by
   rw [List.mem_append,List.mem_reverse] at hm
   rcases hm with hm | hm
   ·exact hn3 u (by simp [hm]) u hu rfl
   ·rcases List.mem_cons.1 hm with rfl | hm
    ·exact hn3 u (by simp) u hu rfl
    ·exact hd u (by simp [hu]) hm) (fun c hc=>hr c (by simp [hc])) (fun j a c ha hc=>hw (j+1) a c (by simpa using ha) (by simpa using hc))
  refine⟨S2,D2,by rw [List.getLast_cons (by simp)]; exact k2,fun t=>?_⟩
  rw [k3,htid]
  simp only [List.mem_append,List.mem_reverse,List.mem_cons]
  constructor
  ·rintro ((h | h | h) | h)
   ·exact .inr (.inl (.inr h))
   ·exact .inr (.inl (.inl h))
   ·exact .inl h
   ·exact .inr (.inr h)
  ·rintro (h | (h | h) | h)
   ·exact .inl (.inr (.inr h))
   ·exact .inl (.inr (.inl h))
   ·exact .inl (.inl h)
   ·exact .inr h
end Go.Proofs.YtojmofnamppbdaaGreat
namespace Go.Proofs.YtojmofnamppbdaaGreat
set_option linter.unusedVariables false
def AdjB (p:Prg) (rv:Nat→Int):List Blk→Prop
 | a::b::r=>BlkW p rv a b∧AdjB p rv (b::r)
 | _=>True
theorem adj_split {p:Prg} {rv:Nat→Int} {b:Blk}:∀ {A1 A2:List Blk},AdjB p rv (A1++b::A2)↔AdjB p rv (A1++[b])∧AdjB p rv (b::A2)
 | [],A2=>by simp [AdjB]
 | [a],A2=>by simp [AdjB]
 | a::c::A1,A2=>by
  have ih:=adj_split (p:=p) (rv:=rv) (b:=b) (A1:=c::A1) (A2:=A2)
  simp only [List.cons_append,AdjB] at ih ⊢
  rw [ih]
  exact and_assoc.symm
theorem adj_get {p:Prg} {rv:Nat→Int}:∀ {A:List Blk},AdjB p rv A→∀ (j:Nat) (a b:Blk),A[j]?=some a→A[j+1]?=some b→BlkW p rv a b
 | [],_,j,a,b,h,_=>by simp at h
 | [c],_,j,a,b,_,h=>by simp at h
 | c::d::A,h,0,a,b,h1,h2=>by
  simp at h1 h2
  subst h1 h2
  exact h.1
 | c::d::A,h,j+1,a,b,h1,h2=>adj_get h.2 j a b (by simpa using h1) (by simpa using h2)
theorem blkW_rv {p:Prg} {rv rv':Nat→Int} {a b:Blk} (h:BlkW p rv a b) (hr:∀ w,b.wr=some w→rv' w=rv w):BlkW p rv' a b:=by
 obtain⟨w,h1,h2⟩:=h
 refine⟨w,h1,?_⟩
 rw [hr w h1]
 exact h2
theorem adj_rv {p:Prg} {rv rv':Nat→Int}:∀ {A:List Blk},AdjB p rv A→(∀ b∈A,∀ w,b.wr=some w→rv' w=rv w)→AdjB p rv' A
 | [],_,_=>trivial
 | [_],_,_=>trivial
 | a::b::A,h,hr=>⟨blkW_rv h.1 (hr b (by simp)),adj_rv h.2 fun c hc=>hr c (by simp [hc])⟩
structure GQ (p:Prg) (l0:Nat) (rv:Nat→Int) (s:VSt) (A:List Blk):Prop where
 msgs:(lstV s l0).map (fun m=>(m.val,m.lock))=A.map fun b=>(b.val,b.lock)
 oth:∀ l,l<3→l≠l0→(lstV s l).map Msg.val=[0]
 nd:(tidsB A).Nodup
 ex:∀ t,t∈tidsB A↔t<p.length∧pcS s.s t=1
 regs:∀ i,i<p.length*3→s.s.regs.getD i 0=if pcS s.s (i / 3)=1∧rdB (insQ p (i / 3))=true∧i=rgI (i / 3) (insQ p (i / 3)) then rv (i / 3) else 0
 head:∃ b0 B,A=b0::B∧b0.wr=none∧b0.val=0
 rd:∀ b∈A,BlkR p rv b
 adj:AdjB p rv A
theorem tids_app (A B:List Blk):tidsB (A++B)=tidsB A++tidsB B:=by unfold tidsB; rw [List.flatMap_append]
theorem tids_cons (b:Blk) (B:List Blk):tidsB (b::B)=tidB b++tidsB B:=by unfold tidsB; rw [List.flatMap_cons]
theorem GQ.run {p:Prg} {l0:Nat} {rv:Nat→Int} {s:VSt} {A:List Blk} (hp:PrgOk p) (ho:OneQ p l0) (hs:VOk p s) (h:GQ p l0 rv s A) (hd:doneV p s=true):∃ S,Reach (sucS p) (st0 p) S∧doneS p S=true∧outS S=outV s:=by
 obtain⟨b0,B,rfl,h0,hv⟩:=h.head
 have htid:tidsB (b0::B)=b0.rd++tidsB B:=by
  rw [tids_cons]
  unfold tidB
  rw [h0]
  rfl
 have hex:=h.ex
 have hnd:=h.nd
 rw [htid] at hex hnd
 have hlen:∀ t,t∈b0.rd++tidsB B→t<p.length∧0<(thrP p t).length:=fun t ht=>by
  obtain⟨k1,k2⟩:=(hex t).1 ht
  have:=hs.ok.pcb t
  exact⟨k1,by omega⟩
 rw [List.nodup_append] at hnd
 obtain⟨n1,n2,n3⟩:=hnd
 have hst:=DescQ.start p l0 rv
 obtain⟨S1,k1⟩:=hst.readers hp ho (b:=b0) hv b0.rd (fun t ht=>hlen t (by simp [ht])) n1 (fun t _=>by simp) (h.rd b0 (by simp))
 rw [← hv] at k1
 obtain⟨S2,D2,k2,k3⟩:=DescQ.blocks hp ho B (q:=b0) k1 (fun t ht=>hlen t (by simp [ht])) n2 (fun t ht hm=>by
  rw [List.append_nil,List.mem_reverse] at hm
  exact n3 t hm t ht rfl) (fun b hb=>h.rd b (by simp [hb])) (fun j a b ha hb=>adj_get h.adj j a b ha (by simpa using hb))
 have hD:∀ t,t<p.length→(t∈D2↔pcS s.s t=1):=fun t ht=>by
  rw [k3,List.append_nil,List.mem_reverse,← List.mem_append,hex]
  exact⟨fun k=>k.2,fun k=>⟨ht,k⟩⟩
 have hok2:=reach_ok hp k2.reach
 refine⟨S2,k2.reach,done_iff.2 fun t ht=>?_,?_⟩
 ·have e1:=doneV_iff.1 hd t ht
  have e2:=hs.ok.pcb t
  have e3:=ho.len t
  rw [k2.pc t ht]
  by_cases hp1:pcS s.s t=1
  ·rw [if_pos ((hD t ht).2 hp1)]; omega
  ·rw [if_neg (fun k=>hp1 ((hD t ht).1 k))]; omega
 ·unfold outS outV
  have er:S2.regs=s.s.regs:=list_getD (d:=0) (by rw [hok2.regl,hs.ok.regl]) fun i hi=>by
   rw [hok2.regl] at hi
   have ht:i / 3<p.length:=by omega
   rw [k2.regs i hi,h.regs i hi]
   by_cases hp1:pcS s.s (i / 3)=1
   ·simp only [hp1,(hD _ ht).2 hp1]
   ·have:¬ i / 3∈D2:=fun k=>hp1 ((hD _ ht).1 k)
    rw [if_neg (fun k=>this k.1),if_neg (fun k=>hp1 k.1)]
  rw [er]
  congr 1
  refine list_getD (d:=0) (by rw [hok2.meml,List.length_map,hs.len]) fun l hl=>?_
  rw [hok2.meml] at hl
  have e4:(s.lists.map lastV).getD l 0=lastV (lstV s l):=by
   rw [List.getD_eq_getElem?_getD,List.getElem?_eq_getElem (by rw [List.length_map,hs.len]; exact hl)]
   exact map_last (by rw [hs.len]; exact hl)
  have hlast:∀ ms:List Msg,∀ hne:ms.map Msg.val≠[],lastV ms=(ms.map Msg.val).getLast hne:=fun ms hne=>by
   have hpos:0<ms.length:=by
    rcases Nat.eq_zero_or_pos ms.length with k | k
    ·rw [List.length_eq_zero_iff.1 k] at hne; exact absurd rfl hne
    ·exact k
   rw [List.getLast_eq_getElem,List.getElem_map]
   unfold lastV gM
   rw [List.getD_eq_getElem?_getD,List.getElem?_eq_getElem (by omega)]
   simp
  rw [k2.mem l hl,e4]
  by_cases el:l=l0
  ·subst el
   have e5:(lstV s l).map Msg.val=(b0::B).map Blk.val:=by
    have:=congrArg (List.map Prod.fst) h.msgs
    rw [List.map_map,List.map_map] at this
    exact this
   have hne:(lstV s l).map Msg.val≠[]:=by rw [e5]; simp
   rw [if_pos rfl,hlast _ hne]
   have e6:((lstV s l).map Msg.val).getLast hne=((b0::B).map Blk.val).getLast (by simp):=by congr 1
   rw [e6,List.getLast_map]
  ·have e7:=h.oth l hl el
   rw [if_neg el,hlast _ (by rw [e7]; simp)]
   have e6:((lstV s l).map Msg.val).getLast (by rw [e7]; simp)=[(0:Int)].getLast (by simp):=by congr 1
   rw [e6]
   rfl
end Go.Proofs.YtojmofnamppbdaaGreat
namespace Go.Proofs.YtojmofnamppbdaaGreat
set_option linter.unusedVariables false
theorem gq_mk {p:Prg} {l0:Nat} {rv rv':Nat→Int} {s:VSt} {A A':List Blk} {t k:Nat} (hp:PrgOk p) (ho:OneQ p l0) (hs:VOk p s) (h:GQ p l0 rv s A) (ht:t<p.length) (hc:canV p s t k=true)
  (hperm:(tidsB A').Perm (t::tidsB A)) (hmsgs:(lstV (doV s t (insS p s.s t) k) l0).map (fun m=>(m.val,m.lock))=A'.map fun b=>(b.val,b.lock)) (hoth:∀ l,l<3→l≠l0→(lstV (doV s t (insS p s.s t) k) l).map Msg.val=[0])
  (hhead:∃ b0 B,A'=b0::B∧b0.wr=none∧b0.val=0) (hrd:∀ b∈A',BlkR p rv' b) (hadj:AdjB p rv' A') (hrv:∀ u,u≠t→rv' u=rv u) (hval:rdB (insQ p t)=true→rv' t=(gM (lstV s (insQ p t).loc.toNat) k).val):GQ p l0 rv' (doV s t (insS p s.s t) k) A':=by
 obtain⟨hlt,hx,_⟩:=can_cases hp hc
 have h1:=ho.len t
 have hpc:pcS s.s t=0:=by omega
 have hi:insS p s.s t=insQ p t:=insQ_eq hpc
 have hnt:t∉tidsB A:=fun k=>by have:=((h.ex t).1 k).2; omega
 have hdp:=fun u=>do_pc (k:=k) (x:=insS p s.s t) hs ht u
 refine⟨hmsgs,hoth,hperm.nodup_iff.2 (List.nodup_cons.2 ⟨hnt,h.nd⟩),fun u=>?_,fun i hil=>?_,hhead,hrd,hadj⟩
 ·rw [hperm.mem_iff,List.mem_cons,h.ex,hdp]
  by_cases e:u=t
  ·subst e
   rw [if_pos rfl]
   constructor
   ·intro _; exact⟨ht,by omega⟩
   ·intro _; exact .inl rfl
  ·rw [if_neg e]
   constructor
   ·rintro (k | k)
    ·exact absurd k e
    ·exact k
   ·intro k; exact .inr k
 ·have hrb:=hx.reg
  rw [hi] at hrb
  have hrg:rgI t (insQ p t)=t*3+(insQ p t).reg.toNat:=rfl
  have hrt:rgI t (insQ p t) / 3=t:=by rw [hrg]; omega
  have hrl:rgI t (insQ p t)<s.s.regs.length:=by rw [hs.ok.regl,hrg]; omega
  rw [hdp,do_regs,hi]
  by_cases e:i / 3=t
  ·rw [e,if_pos rfl,hpc]
   have hold:s.s.regs.getD i 0=0:=by
    rw [h.regs i hil,e,if_neg (fun k=>by have:=k.1; omega)]
   by_cases hr:rdB (insQ p t)=true
   ·rw [if_pos hr,getD_setI hrl]
    by_cases ei:i=rgI t (insQ p t)
    ·rw [if_pos ei,if_pos ⟨rfl,hr,ei⟩,hval hr]
    ·rw [if_neg ei,if_neg (fun k=>ei k.2.2),hold]
   ·rw [if_neg hr,if_neg (fun k=>hr k.2.1),hold]
  ·rw [if_neg e]
   have hold:(if rdB (insQ p t)=true then s.s.regs.set (rgI t (insQ p t)) (gM (lstV s (insQ p t).loc.toNat) k).val else s.s.regs).getD i 0=s.s.regs.getD i 0:=by
    split
    ·rw [getD_setI hrl,if_neg (fun k=>e (by rw [k]; exact hrt))]
    ·rfl
   rw [hold,h.regs i hil,hrv _ e]
theorem adj_same {p:Prg} {rv:Nat→Int} {b c:Blk} (h1:c.val=b.val) (h2:c.wr=b.wr):∀ {A1 A2:List Blk},(A2=[]∨c.lock=b.lock)→AdjB p rv (A1++b::A2)→AdjB p rv (A1++c::A2)
 | [],[],_,_=>trivial
 | [],d::A2,hl,h=>by
  have hl:c.lock=b.lock:=hl.resolve_left (by simp)
  obtain⟨⟨w,k1,k2⟩,k3⟩:=h
  exact⟨⟨w,k1,by rw [h1,hl]; exact k2⟩,k3⟩
 | [a],A2,hl,h=>by
  have h':BlkW p rv a b∧AdjB p rv (b::A2):=h
  obtain⟨⟨w,k1,k2⟩,k3⟩:=h'
  have k4:=adj_same (p:=p) (rv:=rv) h1 h2 (A1:=[]) hl k3
  exact⟨⟨w,by rw [h2]; exact k1,by rw [h1]; exact k2⟩,k4⟩
 | a::d::A1,A2,hl,h=>by
  have h':BlkW p rv a d∧AdjB p rv (d::A1++b::A2):=h
  exact⟨h'.1,adj_same h1 h2 (A1:=d::A1) hl h'.2⟩
theorem adj_front {p:Prg} {rv:Nat→Int} {q nb:Blk} (hl:q.lock=false):∀ {A2:List Blk},AdjB p rv (q::A2)→AdjB p rv (nb::A2)
 | [],_=>trivial
 | c::A2,h=>by
  obtain⟨⟨w,k1,k2⟩,k3⟩:=h
  refine⟨⟨w,k1,?_⟩,k3⟩
  rcases k2 with k2 | k2 | ⟨_,_,_,k2⟩
  ·exact .inl k2
  ·exact .inr (.inl k2)
  ·rw [hl] at k2; cases k2
theorem rd_rv {p:Prg} {rv rv':Nat→Int} {b:Blk} (h:BlkR p rv b) (hr:∀ t∈b.rd,rv' t=rv t):BlkR p rv' b:=fun t ht=>by
 rw [hr t ht]
 exact h t ht
theorem split_at {α:Type} {A:List α} {k:Nat} (h:k<A.length):∃ A1 b A2,A=A1++b::A2∧A1.length=k:=⟨A.take k,A[k],A.drop (k+1),by rw [← List.drop_eq_getElem_cons h,List.take_append_drop],by rw [List.length_take]; omega⟩
theorem gq_read {p:Prg} {l0:Nat} {rv:Nat→Int} {s:VSt} {A1 A2:List Blk} {b:Blk} {t k:Nat} (hp:PrgOk p) (ho:OneQ p l0) (hs:VOk p s) (h:GQ p l0 rv s (A1++b::A2)) (ht:t<p.length) (hc:canV p s t k=true)
  (hop:(insQ p t).op=4∨((insQ p t).op=1∧(gM (lstV s (insQ p t).loc.toNat) k).val=b.val)):∃ rv' A',GQ p l0 rv' (doV s t (insS p s.s t) k) A':=by
 obtain⟨hlt,hx,_⟩:=can_cases hp hc
 have h1:=ho.len t
 have hpc:pcS s.s t=0:=by omega
 have hi:insS p s.s t=insQ p t:=insQ_eq hpc
 have hnt:t∉tidsB (A1++b::A2):=fun k=>by have:=((h.ex t).1 k).2; omega
 have hw:wrB (insQ p t)=false:=by rcases hop with e | ⟨e,_⟩ <;> simp [wrB,e]
 have hl:(doV s t (insS p s.s t) k).lists=s.lists:=by
  rw [hi]
  unfold doV
  rw [if_neg (by rcases hop with e | ⟨e,_⟩ <;> omega),if_neg (by rw [hw]; decide)]
  rfl
 obtain⟨rv',hrv⟩:∃ rv':Nat→Int,rv'=fun u=>if u=t then b.val else rv u:=⟨_,rfl⟩
 have hrt:rv' t=b.val:=by rw [hrv]; exact if_pos rfl
 have hru:∀ u,u≠t→rv' u=rv u:=fun u hu=>by rw [hrv]; exact if_neg hu
 have hmem:∀ c∈A1++b::A2,∀ u∈tidB c,u≠t:=fun c hc u hu e=>hnt (by rw [← e]; exact List.mem_flatMap.2 ⟨c,hc,hu⟩)
 refine⟨rv',A1++⟨b.val,b.lock,b.wr,t::b.rd⟩::A2,gq_mk hp ho hs h ht hc ?_ ?_ ?_ ?_ ?_ ?_ hru ?_⟩
 ·rw [tids_app,tids_app,tids_cons,tids_cons]
  refine List.Perm.trans (List.Perm.append_left _ (List.Perm.append_right _ (?_:List.Perm _ (t::tidB b)))) ?_
  ·exact List.perm_middle
  ·exact List.perm_middle
 ·show (((doV s t (insS p s.s t) k).lists).getD l0 []).map _=_
  rw [hl]
  have:=h.msgs
  simp only [List.map_append,List.map_cons] at this ⊢
  exact this
 ·intro l hl3 hll
  show (((doV s t (insS p s.s t) k).lists).getD l []).map _=_
  rw [hl]
  exact h.oth l hl3 hll
 ·obtain⟨b0,B,e,k1,k2⟩:=h.head
  cases A1 with
  | nil=>
   injection e with e1 e2
   subst e1
   exact⟨_,_,rfl,k1,k2⟩
  | cons a A1=>
   injection e with e1 e2
   subst e1
   exact⟨_,_,rfl,k1,k2⟩
 ·intro c hcm
  have hold:∀ d∈A1++b::A2,BlkR p rv' d:=fun d hd=>rd_rv (h.rd d hd) fun u hu=>hru u (hmem d hd u (List.mem_append.2 (.inr hu)))
  rw [List.mem_append,List.mem_cons] at hcm
  rcases hcm with hcm | rfl | hcm
  ·exact hold c (by simp [hcm])
  ·intro u hu
   rcases List.mem_cons.1 hu with rfl | hu
   ·rcases hop with e | ⟨e,_⟩
    ·exact .inl e
    ·exact .inr ⟨e,hrt⟩
   ·exact hold b (by simp) u hu
  ·exact hold c (by simp [hcm])
 ·have ha:=adj_rv (rv':=rv') h.adj fun c hc w hw=>hru w (hmem c hc w (List.mem_append.2 (.inl (by rw [hw]; simp))))
  exact adj_same (b:=b) (c:=⟨b.val,b.lock,b.wr,t::b.rd⟩) rfl rfl (.inr rfl) ha
 ·intro hr
  rcases hop with e | ⟨_,e⟩
  ·simp [rdB,e] at hr
  ·rw [hrt,e]
def vlM (m:Msg):Int×Bool:=(m.val,m.lock)
def vlB (b:Blk):Int×Bool:=(b.val,b.lock)
theorem vl_bump {l k:Nat} (ms:List Msg):(ms.map (bumpM l k)).map vlM=ms.map vlM:=by rw [List.map_map]; rfl
theorem put_vl {ls:List (List Msg)} {l k:Nat} {m:Msg} (hl:l<ls.length):((insL ls l k m).getD l []).map vlM=((ls.getD l []).map vlM).take k++vlM m::((ls.getD l []).map vlM).drop k:=by
 rw [insL_get hl,if_pos rfl,List.map_append,List.map_cons,List.map_take,List.map_drop,vl_bump]
theorem put_oth {ls:List (List Msg)} {l j k:Nat} {m:Msg} (hl:l<ls.length) (hj:j≠l):((insL ls l k m).getD j []).map Msg.val=(ls.getD j []).map Msg.val:=by
 rw [insL_get hl,if_neg hj,List.map_map]
 rfl
theorem gq_store {p:Prg} {l0:Nat} {rv:Nat→Int} {s:VSt} {A0 A2:List Blk} {q:Blk} {t k:Nat} (hp:PrgOk p) (ho:OneQ p l0) (hs:VOk p s) (h:GQ p l0 rv s (A0++q::A2)) (ht:t<p.length) (hc:canV p s t k=true)
  (hop:(insQ p t).op=2∨(insQ p t).op=3) (hk:k=A0.length+1) (hq:q.lock=false):∃ rv' A',GQ p l0 rv' (doV s t (insS p s.s t) k) A':=by
 obtain⟨hlt,hx,_⟩:=can_cases hp hc
 have h1:=ho.len t
 have hpc:pcS s.s t=0:=by omega
 have hi:insS p s.s t=insQ p t:=insQ_eq hpc
 have hw:wrB (insQ p t)=true:=by rcases hop with e | e <;> simp [wrB,e]
 have hr:rdB (insQ p t)=false:=by rcases hop with e | e <;> simp [rdB,e]
 have hloc:=ho.loc t ht (by omega) (by omega)
 have hrb:=hx.reg
 rw [hi] at hrb
 have hrg:rgI t (insQ p t)=t*3+(insQ p t).reg.toNat:=rfl
 have hv:valS s.s t (insQ p t)=if (insQ p t).op=3 then 0 else (insQ p t).val:=by
  unfold valS
  split
  ·have hrt:rgI t (insQ p t) / 3=t:=by rw [hrg]; omega
   rw [h.regs _ (by rw [hrg]; omega),hrt,if_neg (fun k=>by have:=k.1; omega)]
  ·rfl
 have hll:l0<s.lists.length:=by rw [hs.len]; exact ho.l3
 obtain⟨m,hm,hl⟩:∃ m:Msg,vlM m=(valS s.s t (insQ p t),false)∧(doV s t (insS p s.s t) k).lists=insL s.lists l0 k m:=by
  rw [hi]
  unfold doV
  rw [if_neg (by omega),if_pos hw,ins_lists,hloc]
  exact⟨_,rfl,rfl⟩
 have hmsgs:(s.lists.getD l0 []).map vlM=(A0++q::A2).map vlB:=h.msgs
 refine⟨rv,A0++q::⟨valS s.s t (insQ p t),false,some t,[]⟩::A2,gq_mk hp ho hs h ht hc ?_ ?_ ?_ ?_ ?_ ?_ (fun _ _=>rfl) (fun k=>by rw [hr] at k; cases k)⟩
 ·have e1:tidsB (A0++q::⟨valS s.s t (insQ p t),false,some t,[]⟩::A2)=(tidsB A0++tidB q)++t::tidsB A2:=by rw [tids_app,tids_cons,tids_cons,← List.append_assoc]; rfl
  have e2:tidsB (A0++q::A2)=(tidsB A0++tidB q)++tidsB A2:=by rw [tids_app,tids_cons,← List.append_assoc]
  rw [e1,e2]
  exact List.perm_middle
 ·show (((doV s t (insS p s.s t) k).lists).getD l0 []).map vlM=(_:List Blk).map vlB
  rw [hl,put_vl hll,hmsgs,hm,hk]
  simp only [List.map_append,List.map_cons]
  rw [show A0.length+1=(A0.map vlB++[vlB q]).length by simp,show A0.map vlB++vlB q::A2.map vlB=(A0.map vlB++[vlB q])++A2.map vlB by simp,List.take_left,List.drop_left]
  simp [vlB]
 ·intro l hl3 hne
  show (((doV s t (insS p s.s t) k).lists).getD l []).map _=_
  rw [hl,put_oth hll hne]
  exact h.oth l hl3 hne
 ·obtain⟨b0,B,e,k1,k2⟩:=h.head
  cases A0 with
  | nil=>
   injection e with e1 e2
   subst e1
   exact⟨_,_,rfl,k1,k2⟩
  | cons a A1=>
   injection e with e1 e2
   subst e1
   exact⟨_,_,rfl,k1,k2⟩
 ·intro c hcm
  rw [List.mem_append,List.mem_cons,List.mem_cons] at hcm
  rcases hcm with hcm | rfl | rfl | hcm
  ·exact h.rd c (by simp [hcm])
  ·exact h.rd c (by simp)
  ·intro u hu; cases hu
  ·exact h.rd c (by simp [hcm])
 ·obtain⟨a1,a2⟩:=adj_split.1 h.adj
  refine adj_split.2 ⟨a1,⟨t,rfl,?_⟩,adj_front hq a2⟩
  rcases hop with e | e
  ·exact .inl ⟨e,by rw [hv,if_neg (by omega)]⟩
  ·exact .inr (.inl ⟨e,by rw [hv,if_pos e]⟩)
theorem lock_vl {ms:List Msg} {k:Nat} (h:k<ms.length):(lockM ms k).map vlM=(ms.map vlM).set k ((gM ms k).val,true):=by
 unfold lockM
 rw [List.map_set]
 rfl
theorem gq_swap {p:Prg} {l0:Nat} {rv:Nat→Int} {s:VSt} {A1 A2:List Blk} {b:Blk} {t k:Nat} (hp:PrgOk p) (ho:OneQ p l0) (hs:VOk p s) (h:GQ p l0 rv s (A1++b::A2)) (ht:t<p.length) (hc:canV p s t k=true)
  (hop:(insQ p t).op=5) (hk:k=A1.length) (hq:b.lock=false) (hv:(gM (lstV s (insQ p t).loc.toNat) k).val=b.val):∃ rv' A',GQ p l0 rv' (doV s t (insS p s.s t) k) A':=by
 obtain⟨hlt,hx,_⟩:=can_cases hp hc
 have h1:=ho.len t
 have hpc:pcS s.s t=0:=by omega
 have hi:insS p s.s t=insQ p t:=insQ_eq hpc
 have hnt:t∉tidsB (A1++b::A2):=fun k=>by have:=((h.ex t).1 k).2; omega
 have hloc:=ho.loc t ht (by omega) (by omega)
 have hll:l0<s.lists.length:=by rw [hs.len]; exact ho.l3
 have hmsgs:(s.lists.getD l0 []).map vlM=(A1++b::A2).map vlB:=h.msgs
 have hlen:(s.lists.getD l0 []).length=A1.length+(A2.length+1):=by
  have:=congrArg List.length hmsgs
  simpa using this
 obtain⟨rv',hrv⟩:∃ rv':Nat→Int,rv'=fun u=>if u=t then b.val else rv u:=⟨_,rfl⟩
 have hrt:rv' t=b.val:=by rw [hrv]; exact if_pos rfl
 have hru:∀ u,u≠t→rv' u=rv u:=fun u hu=>by rw [hrv]; exact if_neg hu
 have hmem:∀ c∈A1++b::A2,∀ u∈tidB c,u≠t:=fun c hc u hu e=>hnt (by rw [← e]; exact List.mem_flatMap.2 ⟨c,hc,hu⟩)
 obtain⟨m,hm,hl⟩:∃ m:Msg,vlM m=((insQ p t).val,false)∧(doV s t (insS p s.s t) k).lists=(insL s.lists l0 (k+1) m).set l0 (lockM ((insL s.lists l0 (k+1) m).getD l0 []) k):=by
  rw [hi]
  unfold doV
  rw [if_pos hop]
  simp only [ins_lists,hloc]
  unfold lstV
  simp only [ins_lists]
  exact⟨_,rfl,rfl⟩
 have hil:l0<(insL s.lists l0 (k+1) m).length:=by rw [insL_len]; exact hll
 have hins:((insL s.lists l0 (k+1) m).getD l0 []).map vlM=(A1.map vlB++[vlB b])++vlM m::A2.map vlB:=by
  rw [put_vl hll,hmsgs,hk]
  simp only [List.map_append,List.map_cons]
  rw [show A1.length+1=(A1.map vlB++[vlB b]).length by simp,show A1.map vlB++vlB b::A2.map vlB=(A1.map vlB++[vlB b])++A2.map vlB by simp,List.take_left,List.drop_left]
 have hil2:k<((insL s.lists l0 (k+1) m).getD l0 []).length:=by
  have:=congrArg List.length hins
  simp only [List.length_map,List.length_append,List.length_cons,List.length_nil] at this
  omega
 have hgv:(gM ((insL s.lists l0 (k+1) m).getD l0 []) k).val=b.val:=by
  have e1:(((insL s.lists l0 (k+1) m).getD l0 []).map vlM)[k]?=some (vlB b):=by
   rw [hins,hk,List.append_assoc,List.getElem?_append_right (by simp)]
   simp
  rw [List.getElem?_map,List.getElem?_eq_getElem hil2] at e1
  unfold gM
  rw [List.getD_eq_getElem?_getD,List.getElem?_eq_getElem hil2]
  simp only [Option.map_some,Option.some.injEq] at e1
  exact congrArg Prod.fst e1
 refine⟨rv',A1++⟨b.val,true,b.wr,b.rd⟩::⟨(insQ p t).val,false,some t,[]⟩::A2,gq_mk hp ho hs h ht hc ?_ ?_ ?_ ?_ ?_ ?_ hru (fun _=>by rw [hrt,hv])⟩
 ·have e1:tidsB (A1++⟨b.val,true,b.wr,b.rd⟩::⟨(insQ p t).val,false,some t,[]⟩::A2)=(tidsB A1++tidB b)++t::tidsB A2:=by rw [tids_app,tids_cons,tids_cons,← List.append_assoc]; rfl
  have e2:tidsB (A1++b::A2)=(tidsB A1++tidB b)++tidsB A2:=by rw [tids_app,tids_cons,← List.append_assoc]
  rw [e1,e2]
  exact List.perm_middle
 ·show (((doV s t (insS p s.s t) k).lists).getD l0 []).map vlM=(_:List Blk).map vlB
  rw [hl,List.getD_eq_getElem?_getD,List.getElem?_set_self hil]
  show (lockM ((insL s.lists l0 (k+1) m).getD l0 []) k).map vlM=_
  rw [lock_vl hil2,hgv,hins,hm,hk,List.append_assoc]
  simp [vlB]
 ·intro l hl3 hne
  show (((doV s t (insS p s.s t) k).lists).getD l []).map _=_
  rw [hl,List.getD_eq_getElem?_getD,List.getElem?_set_ne (fun e=>hne e.symm),← List.getD_eq_getElem?_getD,put_oth hll hne]
  exact h.oth l hl3 hne
 ·obtain⟨b0,B,e,k1,k2⟩:=h.head
  cases A1 with
  | nil=>
   injection e with e1 e2
   subst e1
   exact⟨_,_,rfl,k1,k2⟩
  | cons a A1=>
   injection e with e1 e2
   subst e1
   exact⟨_,_,rfl,k1,k2⟩
 ·intro c hcm
  have hold:∀ d∈A1++b::A2,BlkR p rv' d:=fun d hd=>rd_rv (h.rd d hd) fun u hu=>hru u (hmem d hd u (List.mem_append.2 (.inr hu)))
  rw [List.mem_append,List.mem_cons,List.mem_cons] at hcm
  rcases hcm with hcm | rfl | rfl | hcm
  ·exact hold c (by simp [hcm])
  ·exact hold b (by simp)
  ·intro u hu; cases hu
  ·exact hold c (by simp [hcm])
 ·have ha:=adj_rv (rv':=rv') h.adj fun c hc w hw=>hru w (hmem c hc w (List.mem_append.2 (.inl (by rw [hw]; simp))))
  obtain⟨a1,a2⟩:=adj_split.1 ha
  refine adj_split.2 ⟨adj_same (b:=b) (c:=⟨b.val,true,b.wr,b.rd⟩) rfl rfl (.inl rfl) a1,⟨t,rfl,.inr (.inr ⟨hop,rfl,hrt,rfl⟩)⟩,adj_front hq a2⟩
theorem gq_next {p:Prg} {l0:Nat} {rv:Nat→Int} {s:VSt} {A:List Blk} {t k:Nat} (hp:PrgOk p) (ho:OneQ p l0) (hs:VOk p s) (h:GQ p l0 rv s A) (ht:t<p.length) (hc:canV p s t k=true):∃ rv' A',GQ p l0 rv' (doV s t (insS p s.s t) k) A':=by
 obtain⟨hlt,hx,hcs⟩:=can_cases hp hc
 have h1:=ho.len t
 have hpc:pcS s.s t=0:=by omega
 have hi:insS p s.s t=insQ p t:=insQ_eq hpc
 rw [hi] at hcs
 have hmsgs:(s.lists.getD l0 []).map vlM=A.map vlB:=h.msgs
 have hlen:(s.lists.getD l0 []).length=A.length:=by
  have:=congrArg List.length hmsgs
  simpa using this
 have hat:∀ (A1 A2:List Blk) (b:Blk),A=A1++b::A2→vlM (gM (s.lists.getD l0 []) A1.length)=vlB b:=fun A1 A2 b e=>by
  have e1:((s.lists.getD l0 []).map vlM)[A1.length]?=some (vlB b):=by
   rw [hmsgs,e]
   simp
  have hl2:A1.length<(s.lists.getD l0 []).length:=by rw [hlen,e]; simp
  rw [List.getElem?_map,List.getElem?_eq_getElem hl2] at e1
  unfold gM
  rw [List.getD_eq_getElem?_getD,List.getElem?_eq_getElem hl2]
  simpa using e1
 rcases hcs with ⟨e,rfl⟩ | ⟨e,_,h2⟩ | ⟨e,_,h2,h3⟩ | ⟨e,h2,h3,h4⟩
 ·obtain⟨b0,B,rfl,_,_⟩:=h.head
  exact gq_read (A1:=[]) hp ho hs h ht hc (.inl e)
 ·have hloc:=ho.loc t ht (by omega) (by omega)
  rw [hloc] at h2
  have h2:k<(s.lists.getD l0 []).length:=h2
  rw [hlen] at h2
  obtain⟨A1,b,A2,rfl,rfl⟩:=split_at h2
  refine gq_read hp ho hs h ht hc (.inr ⟨e,?_⟩)
  rw [hloc]
  exact congrArg Prod.fst (hat A1 A2 b rfl)
 ·have hloc:=ho.loc t ht (by omega) (by omega)
  rw [hloc] at h2 h3
  have h2:k<(s.lists.getD l0 []).length:=h2
  rw [hlen] at h2
  obtain⟨A1,b,A2,rfl,rfl⟩:=split_at h2
  have hb:=hat A1 A2 b rfl
  refine gq_swap hp ho hs h ht hc e rfl ((congrArg Prod.snd hb).symm.trans h3) ?_
  rw [hloc]
  exact congrArg Prod.fst hb
 ·have hloc:=ho.loc t ht (by omega) (by omega)
  rw [hloc] at h3 h4
  have h3:k≤(s.lists.getD l0 []).length:=h3
  rw [hlen] at h3
  obtain⟨A1,b,A2,rfl,hA⟩:=split_at (A:=A) (k:=k-1) (by omega)
  have hb:=hat A1 A2 b rfl
  rw [hA] at hb
  exact gq_store hp ho hs h ht hc e (by omega) ((congrArg Prod.snd hb).symm.trans h4)
theorem gq_start {p:Prg} {l0:Nat} (hl0:l0<3):GQ p l0 (fun _=>0) (vt0 p) [⟨0,false,none,[]⟩]:=by
 have hpc:∀ t,t<p.length→pcS (vt0 p).s t=0:=fun t ht=>by
  show (List.replicate p.length 0).getD t 0=0
  rw [List.getD_eq_getElem?_getD]
  simp [ht]
 refine⟨?_,fun l hl _=>?_,by simp [tidsB,tidB],fun t=>?_,fun i hi=>?_,⟨_,_,rfl,rfl,rfl⟩,fun b hb=>?_,trivial⟩
 ·match l0,hl0 with
  | 0,_=>rfl
  | 1,_=>rfl
  | 2,_=>rfl
 ·match l,hl with
  | 0,_=>rfl
  | 1,_=>rfl
  | 2,_=>rfl
 ·constructor
  ·intro h; simp [tidsB,tidB] at h
  ·rintro ⟨h1,h2⟩
   rw [hpc t h1] at h2
   omega
 ·have:(vt0 p).s.regs.getD i 0=0:=by
   show (List.replicate (p.length*3) (0:Int)).getD i 0=0
   rw [List.getD_eq_getElem?_getD]
   simp [hi]
  rw [this]
  split <;> rfl
 ·simp only [List.mem_singleton] at hb
  subst hb
  intro t ht
  cases ht
theorem reachV_gq {p:Prg} {l0:Nat} (hp:PrgOk p) (ho:OneQ p l0) {s:VSt} (h:Reach (sucV p) (vt0 p) s):∃ rv A,GQ p l0 rv s A:=by
 induction h with
 | start=>exact⟨_,_,gq_start ho.l3⟩
 | next hr hm ih=>
  obtain⟨c,hc,rfl⟩:=List.mem_map.1 hm
  obtain⟨rv,A,hg⟩:=ih
  obtain⟨h1,h2⟩:=mem_mvV hc
  exact gq_next hp ho (reachV_ok hp hr) hg h1 h2
theorem ra_one {p:Prg} {l0:Nat} (hp:PrgOk p) (ho:OneQ p l0) {y:List Int} (h:OutV p y):∃ s,Reach (sucS p) (st0 p) s∧doneS p s=true∧outS s=y:=by
 obtain⟨s,k1,k2,k3⟩:=h
 obtain⟨rv,A,hg⟩:=reachV_gq hp ho k1
 obtain⟨S,h1,h2,h3⟩:=hg.run hp ho (reachV_ok hp k1) k2
 exact⟨S,h1,h2,h3.trans k3⟩
end Go.Proofs.YtojmofnamppbdaaGreat
