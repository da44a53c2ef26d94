/-
  A state with views in a block of one's own; rows of writes of one's own. slices.Clone and slices.Insert of writes (elements of five cells). The walks of the machine with views: its key. The walks of the machine with views: put. The walks of the machine with views: newViews. The walks of the machine with views: after.
-/
import Derived.Test.YtojmofnamppbdaaGreatVxG
import Derived.Test.YtojmofnamppbdaaGreatMcA
import Derived.Test.YtojmofnamppbdaaGreatRwS
import Derived.Test.YtojmofnamppbdaaGreatVwD
import Derived.Test.YtojmofnamppbdaaGreatThr2
import Derived.Test.YtojmofnamppbdaaGreatBfB
import Derived.Test.YtojmofnamppbdaaGreatRgA
import Derived.Test.YtojmofnamppbdaaGreatBfA
import Derived.Lib.Overlaps
import Derived.Lib.AppendZerosOnto
import Derived.Laws.CopyOwn
import Derived.Laws.CopyRow
import Derived.Lib.SliceRun
import Derived.Deep.RegionLaw
import Derived.Deep.RegionWith
namespace Go.Proofs.YtojmofnamppbdaaGreat
open Go.RowKit
set_option linter.unusedVariables false
set_option maxRecDepth 100000
theorem Tryz.infoWr:(Tryz.prog.info? 112).map (fun i=>(i.zero,i.size,i.bytes))=some (some (.agg #[.int .u8 0,.bool false,.int .u8 0,.int .u8 0,.int .u8 0]),5,5):=by kernel_rfl
def vwsC (Ap:Option Addr) (cp:Nat) (p:Prg) (s:St) (v:Nat→Value) (O:Nat→List Nat):Array Value:=
 #[.slice Ap p.length cp,pcV s 0,pcV s 1,pcV s 2,rgV s 0,rgV s 1,rgV s 2,rgV s 3,rgV s 4,rgV s 5,rgV s 6,rgV s 7,rgV s 8,meV s 0,meV s 1,meV s 2,v 0,v 1,v 2,
  .int .u8 (aV (O 0) 0),.int .u8 (aV (O 0) 1),.int .u8 (aV (O 0) 2),.int .u8 (aV (O 1) 0),.int .u8 (aV (O 1) 1),.int .u8 (aV (O 1) 2),.int .u8 (aV (O 2) 0),.int .u8 (aV (O 2) 1),.int .u8 (aV (O 2) 2)]
section
variable {Ap:Option Addr} {cp:Nat} {p:Prg} {s:St} {v:Nat→Value} {O:Nat→List Nat}
theorem vwsC_get {u:Value} {i:Nat} (h:(seqC Ap cp p s)[i]?=some u):(vwsC Ap cp p s v O)[i]?=some u:=by
 have hi:i<(seqC Ap cp p s).size:=(Array.getElem?_eq_some_iff.1 h).elim fun h _=>h
 have hi:i<16:=hi
 match i,hi with
 | 0,_=>exact h
 | 1,_=>exact h
 | 2,_=>exact h
 | 3,_=>exact h
 | 4,_=>exact h
 | 5,_=>exact h
 | 6,_=>exact h
 | 7,_=>exact h
 | 8,_=>exact h
 | 9,_=>exact h
 | 10,_=>exact h
 | 11,_=>exact h
 | 12,_=>exact h
 | 13,_=>exact h
 | 14,_=>exact h
 | 15,_=>exact h
theorem vwsC_lst {l:Nat} (hl:l<3):(vwsC Ap cp p s v O)[16+l]?=some (v l):=by
 match l,hl with
 | 0,_=>rfl
 | 1,_=>rfl
 | 2,_=>rfl
theorem vwsC_own {t l:Nat} (ht:t<3) (hl:l<3):(vwsC Ap cp p s v O)[19+t*3+l]?=some (.int .u8 (aV (O t) l)):=by
 match t,ht,l,hl with
 | 0,_,0,_=>rfl
 | 0,_,1,_=>rfl
 | 0,_,2,_=>rfl
 | 1,_,0,_=>rfl
 | 1,_,1,_=>rfl
 | 1,_,2,_=>rfl
 | 2,_,0,_=>rfl
 | 2,_,1,_=>rfl
 | 2,_,2,_=>rfl
theorem vwsC_setL {l:Nat} (hl:l<3) (u:Value):(vwsC Ap cp p s v O).setIfInBounds (16+l) u=vwsC Ap cp p s (upF v l u) O:=by
 match l,hl with
 | 0,_=>rfl
 | 1,_=>rfl
 | 2,_=>rfl
theorem vwsC_setO {t l x:Nat} (ht:t<3) (hl:l<3) (hO:(O t).length=3):(vwsC Ap cp p s v O).setIfInBounds (19+t*3+l) (.int .u8 (x:Int))=vwsC Ap cp p s v (upF O t ((O t).set l x)):=by
 have h:∀ j,aV ((O t).set l x) j=if j=l then (x:Int) else aV (O t) j:=fun j=>by
  unfold aV
  rw [at_set (by rw [hO]; exact hl)]
  split <;> rfl
 match t,ht,l,hl with
 | 0,_,0,_=>simp [vwsC,upF,h]
 | 0,_,1,_=>simp [vwsC,upF,h]
 | 0,_,2,_=>simp [vwsC,upF,h]
 | 1,_,0,_=>simp [vwsC,upF,h]
 | 1,_,1,_=>simp [vwsC,upF,h]
 | 1,_,2,_=>simp [vwsC,upF,h]
 | 2,_,0,_=>simp [vwsC,upF,h]
 | 2,_,1,_=>simp [vwsC,upF,h]
 | 2,_,2,_=>simp [vwsC,upF,h]
theorem vwsC_setV {t:Nat} (ht:t<3) (w:List Nat):(((vwsC Ap cp p s v O).setIfInBounds (19+t*3) (.int .u8 (aV w 0))).setIfInBounds (19+t*3+1) (.int .u8 (aV w 1))).setIfInBounds (19+t*3+2) (.int .u8 (aV w 2))=vwsC Ap cp p s v (upF O t w):=by
 match t,ht with
 | 0,_=>rfl
 | 1,_=>rfl
 | 2,_=>rfl
theorem vwsC_pc {t x:Nat} (ht:t<3) (hl:t<s.pc.length):(vwsC Ap cp p s v O).setIfInBounds (1+t) (.int .u8 ((x:Nat):Int))=vwsC Ap cp p ⟨s.pc.set t x,s.regs,s.mem⟩ v O:=by
 match t,ht with
 | 0,_=>simp [vwsC,pcV,pcS,rgV,meV,rgF,meF,hl]
 | 1,_=>simp [vwsC,pcV,pcS,rgV,meV,rgF,meF,hl]
 | 2,_=>simp [vwsC,pcV,pcS,rgV,meV,rgF,meF,hl]
theorem vwsC_reg {i:Nat} {x:Int} (hi:i<9) (hl:i<s.regs.length):(vwsC Ap cp p s v O).setIfInBounds (4+i) (.int .u8 x)=vwsC Ap cp p ⟨s.pc,s.regs.set i x,s.mem⟩ v O:=by
 match i,hi with
 | 0,_=>simp [vwsC,pcV,pcS,rgV,meV,rgF,meF,hl]
 | 1,_=>simp [vwsC,pcV,pcS,rgV,meV,rgF,meF,hl]
 | 2,_=>simp [vwsC,pcV,pcS,rgV,meV,rgF,meF,hl]
 | 3,_=>simp [vwsC,pcV,pcS,rgV,meV,rgF,meF,hl]
 | 4,_=>simp [vwsC,pcV,pcS,rgV,meV,rgF,meF,hl]
 | 5,_=>simp [vwsC,pcV,pcS,rgV,meV,rgF,meF,hl]
 | 6,_=>simp [vwsC,pcV,pcS,rgV,meV,rgF,meF,hl]
 | 7,_=>simp [vwsC,pcV,pcS,rgV,meV,rgF,meF,hl]
 | 8,_=>simp [vwsC,pcV,pcS,rgV,meV,rgF,meF,hl]
end
abbrev RowM (w:World) (base:Nat) (v:Value) (ms:List Msg):Prop:=RowOf 5 QM w base 112 v ms
structure VwO (W:World) (base R:Nat) (Ap:Option Addr) (cp:Nat) (p:Prg) (s:St) (L:Nat→List Msg) (O:Nat→List Nat) (v:Nat→Value):Prop where
 blk:Own W R 110 (vwsC Ap cp p s v O)
 ge:base≤R
 row:∀ l,l<3→RowM W base (v l) (L l)
 sep:∀ l,l<3→(v l).ownBlock≠some R
 apart:∀ l l',l<3→l'<3→l≠l'→∀ g,(v l).ownBlock=some g→(v l').ownBlock≠some g
section
variable {W W':World} {base R:Nat} {Ap:Option Addr} {cp:Nat} {p:Prg} {s:St} {L:Nat→List Msg} {O:Nat→List Nat} {v:Nat→Value}
theorem VwO.of_blocks (h:VwO W base R Ap cp p s L O v) (hk:∀ k,base≤k→k<W.heap.size→W'.heap[k]?=W.heap[k]?):VwO W' base R Ap cp p s L O v:=
 ⟨h.blk.of_block (hk R h.ge h.blk.lt),h.ge,fun l hl=>(h.row l hl).of_block fun g hg _ hlt=>hk g hg hlt,h.sep,h.apart⟩
theorem VwO.under (h:VwO W base R Ap cp p s L O v) (hb:Below W.heap.size W W'):VwO W' base R Ap cp p s L O v:=h.of_blocks fun k _ hk=>hb.block k hk
theorem VwO.drew (h:VwO W base R Ap cp p s L O v):VwO W.drew base R Ap cp p s L O v:=h.of_blocks fun _ _ _=>rfl
theorem VwO.alloc (h:VwO W base R Ap cp p s L O v) (o:Obj):VwO (W.alloc o) base R Ap cp p s L O v:=h.of_blocks fun _ _ hk=>Go.Deep.blk_alloc_lt _ _ _ hk
theorem VwO.lt (h:VwO W base R Ap cp p s L O v):R<W.heap.size:=h.blk.lt
theorem VwO.vwL {s':VSt} {a:World} (h:VwO W base R Ap cp p s L O v) (hs:s'.s=s) (hL:∀ l,l<3→lstV s' l=L l) (hO:∀ t,t<3→ownV s' t=O t) (ha:Le (above base W) a):VwL a R Ap cp p s':=by
 have hc:∀ i u,(vwsC Ap cp p s v O)[i]?=some u→a.cell? ⟨R,i,none⟩=some u:=fun i u hu=>ha _ _ (cell_above_of h.ge (h.blk.cell hu))
 refine⟨fun i u hu=>hc i u (vwsC_get (by rw [← hs]; exact hu)),fun l hl=>?_,fun t l ht hl=>?_⟩
 ·have hr:=h.row l hl
  obtain⟨A,c,e,_⟩:=RowOf.slice hr
  have h1:=hc _ _ (vwsC_lst (v:=v) hl)
  rw [hL l hl]
  rw [e] at h1 hr
  exact⟨A,c,h1,RowOf.slR (R:=fun _=>QM) (by omega) hr (fun _ _ h=>h) ha⟩
 ·rw [hO t ht]
  exact hc _ _ (vwsC_own ht hl)
end
theorem rowM_one {w:World} {g base:Nat} {m:Msg} (h:Own w g 112 #[.int .u8 m.val,.bool m.lock,.int .u8 (aV m.view 0),.int .u8 (aV m.view 1),.int .u8 (aV m.view 2)]) (hb:base≤g):RowM w base (.slice (some ⟨g,0,none⟩) 1 1) [m]:=
 ⟨[.int .u8 m.val,.bool m.lock,.int .u8 (aV m.view 0),.int .u8 (aV m.view 1),.int .u8 (aV m.view 2)],⟨rfl,.inr ⟨g,1,_,rfl,hb,h,Nat.le_refl _,by simp [maxLen],rfl,rfl⟩⟩,fun i hi=>by
  obtain rfl:i=0:=by simpa using hi
  exact⟨rfl,rfl,rfl,rfl,rfl⟩⟩
theorem RowM.at {w:World} {base n c i:Nat} {A:Option Addr} {ms:List Msg} (h:RowM w base (.slice A n c) ms) (hi:i<ms.length):∃ g,A=some ⟨g,0,none⟩∧base≤g∧g<w.heap.size∧(∀ j,w.frozen? ⟨g,j,none⟩=false)∧n=ms.length ∧
  ∀ k (h:k<ms.length),w.cell? ⟨g,k*5,none⟩=some (.int .u8 ms[k].val)∧w.cell? ⟨g,k*5+1,none⟩=some (.bool ms[k].lock)∧w.cell? ⟨g,k*5+2,none⟩=some (.int .u8 (aV ms[k].view 0))∧w.cell? ⟨g,k*5+3,none⟩=some (.int .u8 (aV ms[k].view 1))∧w.cell? ⟨g,k*5+4,none⟩=some (.int .u8 (aV ms[k].view 2)):=by
 obtain⟨cs,h1,h2⟩:=h
 rcases h1.2 with ⟨_,h0⟩ | ⟨g,cap,cur,hv,hb,hg,hn,hcm,hc,ht⟩
 ·omega
 ·injection hv with e1 e2 e3
  subst e1 e2 e3
  have ho:Own w g 112 cur:=hg
  have hl:=h1.1
  have hcell:∀ k,k<ms.length→∀ j,j<5→w.cell? ⟨g,k*5+j,none⟩=some (cs.getD (k*5+j) undef):=fun k hk j hj=>by
   refine ho.cell ?_
   rw [← Array.getElem?_toList,← ht,List.getD_eq_getElem?_getD,List.getElem?_take,if_pos (by omega),List.getElem?_eq_getElem (by rw [Array.length_toList]; omega)]
   rfl
  refine⟨g,rfl,hb,ho.lt,fun j=>ho.frozen j,rfl,fun k hk=>?_⟩
  obtain⟨q0,q1,q2,q3,q4⟩:=h2 k hk
  have c0:=hcell k hk 0 (by omega)
  have c1:=hcell k hk 1 (by omega)
  have c2:=hcell k hk 2 (by omega)
  have c3:=hcell k hk 3 (by omega)
  have c4:=hcell k hk 4 (by omega)
  rw [show cs.getD (k*5+0) undef=_ from q0] at c0
  rw [show cs.getD (k*5+1) undef=_ from q1] at c1
  rw [show cs.getD (k*5+2) undef=_ from q2] at c2
  rw [show cs.getD (k*5+3) undef=_ from q3] at c3
  rw [show cs.getD (k*5+4) undef=_ from q4] at c4
  exact⟨c0,c1,c2,c3,c4⟩
theorem RowM.setC {w:World} {base g n c i j:Nat} {ms:List Msg} {u:Value} {m:Msg} (h:RowM w base (.slice (some ⟨g,0,none⟩) n c) ms) (hi:i<ms.length) (hj:j<5) (hm:∀ f:Nat→Value,QM f ms[i]→QM (fun k=>if k=j then u else f k) m):RowM (w.setCell ⟨g,i*5+j,none⟩ u) base (.slice (some ⟨g,0,none⟩) n c) (ms.set i m):=by
 obtain⟨cs,h1,h2⟩:=h
 rcases h1.2 with ⟨hv,_⟩ | ⟨g',cap,cur,hv,hb,hg,hn,hcm,hc,ht⟩
 ·cases hv
 ·injection hv with e1 e2 e3
  injection e1 with e1
  injection e1 with e1
  subst e1 e2 e3
  have hl:=h1.1
  refine⟨cs.set (i*5+j) u,⟨by simpa using hl,.inr ⟨g,c,cur.setIfInBounds (i*5+j) u,by rw [List.length_set],hb,(show Own w g 112 cur from hg).set _ _,by rw [List.length_set]; exact hn,hcm,by simpa using hc,?_⟩⟩,fun k hk=>?_⟩
  ·rw [List.length_set,← ht]
   simp [List.take_set]
  ·rw [List.length_set] at hk
   have hq:=h2 k hk
   rw [List.getElem_set]
   by_cases e:i=k
   ·subst e
    rw [if_pos rfl]
    refine qm_congr _ _ _ (fun q hq'=>?_) (hm _ hq)
    show (if q=j then u else cs.getD (i*5+q) undef)=(cs.set (i*5+j) u).getD (i*5+q) undef
    rw [getD_setP undef cs (i*5+j) (i*5+q) u (by omega)]
    by_cases eq:q=j
    ·rw [if_pos eq,if_pos (by omega)]
    ·rw [if_neg eq,if_neg (by omega)]
   ·rw [if_neg e]
    refine qm_congr _ _ _ (fun q hq'=>?_) hq
    show cs.getD (k*5+q) undef=(cs.set (i*5+j) u).getD (k*5+q) undef
    rw [getD_setP undef cs (i*5+j) (k*5+q) u (by omega),if_neg (by omega)]
theorem RowM.setV {w:World} {base g n c i:Nat} {ms:List Msg} (h:RowM w base (.slice (some ⟨g,0,none⟩) n c) ms) (hi:i<ms.length) (u:List Nat):RowM (((w.setCell ⟨g,i*5+2,none⟩ (.int .u8 (aV u 0))).setCell ⟨g,i*5+2+1,none⟩ (.int .u8 (aV u 1))).setCell ⟨g,i*5+2+2,none⟩ (.int .u8 (aV u 2))) base (.slice (some ⟨g,0,none⟩) n c) (ms.set i ⟨ms[i].val,ms[i].lock,u⟩):=by
 have h1:=h.setC (j:=2) (u:=.int .u8 (aV u 0)) (m:=⟨ms[i].val,ms[i].lock,[atV u 0,atV ms[i].view 1,atV ms[i].view 2]⟩) hi (by omega) fun f ⟨q0,q1,q2,q3,q4⟩=>⟨q0,q1,rfl,q3,q4⟩
 have hl:i<(ms.set i ⟨ms[i].val,ms[i].lock,[atV u 0,atV ms[i].view 1,atV ms[i].view 2]⟩).length:=by rw [List.length_set]; exact hi
 have h2:=h1.setC (j:=3) (u:=.int .u8 (aV u 1)) (m:=⟨ms[i].val,ms[i].lock,[atV u 0,atV u 1,atV ms[i].view 2]⟩) hl (by omega) (by
  rw [List.getElem_set_self]
  exact fun f ⟨q0,q1,q2,q3,q4⟩=>⟨q0,q1,q2,rfl,q4⟩)
 rw [List.set_set] at h2
 have hl:i<(ms.set i ⟨ms[i].val,ms[i].lock,[atV u 0,atV u 1,atV ms[i].view 2]⟩).length:=by rw [List.length_set]; exact hi
 have h3:=h2.setC (j:=4) (u:=.int .u8 (aV u 2)) (m:=⟨ms[i].val,ms[i].lock,u⟩) hl (by omega) (by
  rw [List.getElem_set_self]
  exact fun f ⟨q0,q1,q2,q3,q4⟩=>⟨q0,q1,q2,q3,rfl⟩)
 rw [List.set_set] at h3
 exact h3
end Go.Proofs.YtojmofnamppbdaaGreat
namespace Go.Proofs.YtojmofnamppbdaaGreat
open Go.RowKit
set_option linter.unusedVariables false
set_option maxRecDepth 100000
theorem run_copy_rowK {P:Program} (w:World) (dT sT ty elem:TypeId) (k g o dLen dCap:Nat) (a:Addr) (sLen sCap:Nat) (cur:Array Value) (t:TypeId) (cs:List Value)
  (hu:P.underlying dT=some (.slice elem)) (hs:(P.info? elem).map (·.size)=some k)
  (hg:w.heap[g]?=some (.cells cur t (0,0))) (hn:cs.length=Nat.min sLen dLen*k)
  (hsrc:∀ j v,cs[j]?=some v→w.cell? (a.add j)=some v) (hfit:o+cs.length≤cur.size) (h1:∀ v∈cs,v.oneCell'=true):
  (Builtin.copy_ #[dT,sT] ty #[.slice (some ⟨g,o,none⟩) dLen dCap,.slice (some a) sLen sCap]).run P w =
   .ok (goInt (Nat.min sLen dLen)) (w.setRow g (cur.toList.take o++cs++cur.toList.drop (o+cs.length)).toArray):=by
 have hl:=run_loadCells_list (P:=P) w a cs hsrc
 have hst:=run_storeCells_at P g o t cs 0 cur w hg (by simpa using hfit) h1
 cases hq:P.info? elem with
 | none=>simp [hq] at hs
 | some i=>
  have hi:i.size=k:=by simpa [hq] using hs
  simp [Builtin.copy_,run_underlying hu,Builtin.lenOf,Builtin.firstCells,sizeOf,typeInfo,hq,hi,← hn,hl,hst]
theorem wpList_copyK {P:Program} {w:World} {ops:Array Oper} {rest:List Oper} {o:Oper} {a:Act} {Q:Exit→Act→World→Prop} (hgd:o.guard=none) (d s:Operand) (dT sT:TypeId)
  (ho:o.op=.call { callee:=.builtin .copy,args:=#[d,s],argTypes:=#[dT,sT] }) (elem:TypeId) (k:Nat) (hu:P.underlying dT=some (.slice elem)) (hsz:(P.info? elem).map (·.size)=some k)
  (g off dLen dCap:Nat) (ad:Addr) (sLen sCap:Nat) (hd:a.eval d=.slice (some ⟨g,off,none⟩) dLen dCap) (hs:a.eval s=.slice (some ad) sLen sCap)
  (cur:Array Value) (t:TypeId) (hg:w.heap[g]?=some (.cells cur t (0,0))) (cs:List Value) (hn:cs.length=Nat.min sLen dLen*k)
  (hsrc:∀ j v,cs[j]?=some v→w.cell? (ad.add j)=some v) (hfit:off+cs.length≤cur.size) (h1:∀ v∈cs,v.oneCell'=true)
  (h:∀ w',Own w' g t (cur.toList.take off++cs++cur.toList.drop (off+cs.length)).toArray→(∀ j,j≠g→w'.heap[j]?=w.heap[j]?)→w.grownBy w' (some g)→wpList P ops Q rest (a.put o.dst (goInt (Nat.min sLen dLen))) w'):wpList P ops Q (o::rest) a w:=by
 refine wpList_plain hgd fun K hK=>?_
 have hrun:=run_copy_rowK (P:=P) w dT sT o.type elem k g off dLen dCap ad sLen sCap cur t cs hu hsz hg hn hsrc hfit h1
 unfold Oper.wp execOp
 simp only [ho,resolve,invoke,builtin,Sem.run_bind,Sem.run_pure,Result.andThen_ok,List.map_toArray,List.map_cons,List.map_nil,hd,hs,hrun]
 exact hK _ _ (h _ (setRow_heap w g _ _ t _ hg) (fun j hj=>setRow_other w g j _ hj) ⟨rfl,rfl,rfl,by simp [World.setRow],fun j hj hne=>setRow_other w g j _ (fun e=>hne (by rw [e]))⟩)
set_option maxHeartbeats 1000000 in
theorem clnM_any (a:Addr) (c:Nat) (ms:List Msg) (hl:ms.length≤1000) (W:World) (hr:SlR 5 (fun _=>QM) W (.slice (some a) ms.length c) ms):
  Calls Tryz.prog 182 #[.slice (some a) ms.length c] W (fun e W'=>∃ v,e=.returned v∧RowM W' W.heap.size v ms∧Below W.heap.size W W'):=by
 obtain⟨i0,hi0,hz0,hz1,hz2⟩:=info_parts Tryz.infoWr
 have qnil:∀ (w:World) (a:Option Addr) (n c n' c':Nat),(binOp .eql 105 (.slice a n c) (.slice none n' c')).run Tryz.prog w=.ok (.bool a.isNone) w:=fun w a n c n' c'=>Go.Lib.run_eql_slice_nil w _ _ a n c n' c' Tryz.underlying105
 have hB:Below W.heap.size W (W.alloc (.cells #[] 112)):=(Below.refl _ _).alloc (Nat.le_refl _) _
 have hrow0:Hid (RowM (W.alloc (.cells #[] 112)) W.heap.size (.slice (some ⟨W.heap.size,0,none⟩) 0 0) []):=RowOf.made _ (Own.new W _ _) (Nat.le_refl _)
 have Hr:Hid (SlR 5 (fun _=>QM) (W.alloc (.cells #[] 112)) (.slice (some a) ms.length c) ms):=SlR.le (R:=fun _=>QM) (fun _ _ _ h=>h) hr (Le.alloc _ _)
 clear hr
 go_enter Tryz.func182,Tryz.ntmps182
 go_wp2_with (at_builtin; refine wpList_append_list (o:=⟨some 7,_,_,_,_,_⟩) (by rfl) _ _ _ (by rfl) qm_congr (R:=fun _=>QM) W.heap.size 112 i0 _ 5 Tryz.underlying105 hi0 hz0 hz1 hz2 rfl (by omega) (.slice (some ⟨W.heap.size,0,none⟩) 0 0) [] (by rfl) hrow0.out (some a) c ms (by rfl) Hr.out (fun cs y h=>h) qm_one (by simp [maxLen]; omega) (by simp; omega) (by simp) (W.heap.size+1) (by simp) ?_; intro A5 c5 w5 hrow5 hgrow5 hat5; rw [List.nil_append] at hrow5 ⊢)
 have hB5:Below W.heap.size W w5:=below_of_grown hB hgrow5 (by simp) (fun g hg=>by simp only [Value.ownBlock,Option.some.injEq] at hg; omega)
 have Hrow5:=Lib.hid hrow5
 clear hrow5 hgrow5 hat5
 go_wp2_with fail
 go_ret
 exact⟨_,rfl,Hrow5.out,hB5⟩
theorem spl {α:Type} {P Q Q' R:List α} {o:Nat} (ho:P.length=o) (hq:Q'.length=Q.length):(P++Q++R).take o++Q'++(P++Q++R).drop (o+Q'.length)=P++Q'++R:=by
 subst ho
 rw [List.append_assoc P Q R,List.take_left]
 rw [← List.drop_drop,List.drop_left,hq,List.drop_left]
theorem ins_cells {ms:List Msg} {m:Msg} {i:Nat} {cs nw:List Value} (hi:i≤ms.length) (hl:cs.length=ms.length*5) (hn:nw.length=5) (hq:∀ k (h:k<ms.length),QM (fun j=>cs.getD (k*5+j) undef) ms[k]) (hm:QM (fun j=>nw.getD j undef) m):
  (cs.take (i*5)++nw++cs.drop (i*5)).length=(ms.take i++m::ms.drop i).length*5∧∀ k (h:k<(ms.take i++m::ms.drop i).length),QM (fun j=>(cs.take (i*5)++nw++cs.drop (i*5)).getD (k*5+j) undef) (ms.take i++m::ms.drop i)[k]:=by
 have hlen:(ms.take i++m::ms.drop i).length=ms.length+1:=by
  rw [List.length_append,List.length_cons,List.length_take,List.length_drop]
  omega
 have hta:(cs.take (i*5)).length=i*5:=by rw [List.length_take]; omega
 refine⟨?_,fun k hk=>?_⟩
 ·rw [hlen,List.length_append,List.length_append,hta,List.length_drop]
  omega
 ·rw [hlen] at hk
  have hg:∀ j,j<5→(cs.take (i*5)++nw++cs.drop (i*5)).getD (k*5+j) undef=if k<i then cs.getD (k*5+j) undef else if k=i then nw.getD j undef else cs.getD ((k-1)*5+j) undef:=fun j hj=>by
   simp only [List.getD_eq_getElem?_getD]
   by_cases h1:k<i
   ·rw [if_pos h1,List.append_assoc,List.getElem?_append_left (by omega),List.getElem?_take,if_pos (by omega)]
   ·rw [if_neg h1]
    by_cases h2:k=i
    ·rw [if_pos h2,List.getElem?_append_left (by rw [List.length_append]; omega),List.getElem?_append_right (by omega)]
     congr 2
     omega
    ·rw [if_neg h2,List.getElem?_append_right (by rw [List.length_append]; omega),List.getElem?_drop]
     congr 2
     rw [List.length_append]
     omega
  by_cases h1:k<i
  ·have e:(ms.take i++m::ms.drop i)[k]=ms[k]'(by omega):=by
    rw [List.getElem_append_left (by rw [List.length_take]; omega),List.getElem_take]
   rw [e]
   refine qm_congr _ _ _ (fun j hj=>?_) (hq k (by omega))
   rw [hg j hj,if_pos h1]
  ·by_cases h2:k=i
   ·have e:(ms.take i++m::ms.drop i)[k]=m:=by
     rw [List.getElem_append_right (by rw [List.length_take]; omega)]
     have:k-(ms.take i).length=0:=by rw [List.length_take]; omega
     simp only [this,List.getElem_cons_zero]
    rw [e]
    refine qm_congr _ _ _ (fun j hj=>?_) hm
    rw [hg j hj,if_neg h1,if_pos h2]
   ·have e:(ms.take i++m::ms.drop i)[k]=ms[k-1]'(by omega):=by
     rw [List.getElem_append_right (by rw [List.length_take]; omega)]
     have:k-(ms.take i).length=(k-1-i)+1:=by rw [List.length_take]; omega
     simp only [this,List.getElem_cons_succ,List.getElem_drop]
     congr 1
     omega
    rw [e]
    refine qm_congr _ _ _ (fun j hj=>?_) (hq (k-1) (by omega))
    rw [hg j hj,if_neg h1,if_neg h2]
def nwC (m:Msg):List Value:=[.int .u8 m.val,.bool m.lock,.int .u8 (aV m.view 0),.int .u8 (aV m.view 1),.int .u8 (aV m.view 2)]
theorem nw_qm (m:Msg):QM (fun j=>(nwC m).getD j undef) m:=⟨rfl,rfl,rfl,rfl,rfl⟩
def RetIns (W:World) (base g:Nat) (ms:List Msg) (e:Ending) (W':World):Prop:=∃ v',e=.returned v'∧RowM W' base v' ms∧W.grownBy W' (some g)∧∃ g',v'.ownBlock=some g'∧(g'=g∨W.heap.size≤g')
set_option maxHeartbeats 2000000 in
theorem insEnd_any (ms:List Msg) (m:Msg) (hl:ms.length≤1000) (hpos:0<ms.length) (W:World) (base g cap h:Nat) (hr:RowM W base (.slice (some ⟨g,0,none⟩) ms.length cap) ms) (hh:Own W h 112 (nwC m).toArray) (hne:h≠g) (hbase:base≤W.heap.size):
  Calls Tryz.prog 191 #[.slice (some ⟨g,0,none⟩) ms.length cap,.int .i64 ms.length,.slice (some ⟨h,0,none⟩) 1 1] W (RetIns W base g (ms++[m])):=by
 obtain⟨i0,hi0,hz0,hz1,hz2⟩:=info_parts Tryz.infoWr
 obtain⟨cs,hown,hqq⟩:=hr
 have Hown:=Lib.hid hown
 have Hqq:=Lib.hid hqq
 have hns:∀ j v,(nwC m)[j]?=some v→W.cell? ((⟨h,0,none⟩:Addr).add j)=some v:=fun j v hv=>by
  rw [Addr.add_lit,Nat.zero_add]
  exact hh.cell (by simpa using hv)
 have Hns:=Lib.hid hns
 clear hown hqq hns
 have hcap:ms.length≤cap∧cap≤9223372036854775807:=by
  rcases Hown.out.2 with ⟨e,_⟩ | ⟨g',cap',cur,e,_,_,h1,h2,_⟩
  ·cases e
  ·injection e with _ _ e
   subst e
   exact⟨h1,by simpa [maxLen] using h2⟩
 obtain⟨n,hnn⟩:∃ n,n=ms.length:=⟨_,rfl⟩
 have Hnn:=Lib.hid hnn
 rw [← hnn] at hl hpos hcap Hown ⊢
 clear hnn
 have hn1:¬ ((1:Int)=0):=by omega
 by_cases hc:cap=n
 ·subst hc
  go_enter Tryz.func191,Tryz.ntmps191
  go_wp2_with (at_builtin; refine wpList_append_lies (o:=⟨some 25,_,_,_,_,_⟩) _ (by rfl) _ _ _ (by rfl) base 112 i0 _ 5 5 Tryz.underlying105 hi0 hz0 hz1 hz2 rfl (by omega) (.slice (some ⟨g,0,none⟩) cap cap) cap cs (by rfl) Hown.out ⟨h,0,none⟩ 1 1 (nwC m) (by rfl) (by rfl) Hns.out (by simp [nwC,Value.oneCell']) (by omega) (by simp [maxLen]; omega) (by omega) hbase W.heap.size rfl ?_; intro gg cap8 w8 hown8 hgrow8 hat8 hlt8)
  go_ret
  refine⟨_,rfl,RowOf.snoc (news:=nwC m) qm_congr (by rw [← Hnn.out]; exact Hown.out) Hqq.out rfl (nw_qm m) (by rw [← Hnn.out]; exact hown8),hgrow8,gg,rfl,?_⟩
  rcases hat8 with e | e
  ·injection e with e
   exact .inl e.symm
  ·exact .inr (by omega)
 ·go_enter Tryz.func191,Tryz.ntmps191
  go_wp2_with (at_builtin; refine wpList_append_lies (o:=⟨some 25,_,_,_,_,_⟩) _ (by rfl) _ _ _ (by rfl) base 112 i0 _ 5 5 Tryz.underlying105 hi0 hz0 hz1 hz2 rfl (by omega) (.slice (some ⟨g,0,none⟩) n cap) n cs (by rfl) Hown.out ⟨h,0,none⟩ 1 1 (nwC m) (by rfl) (by rfl) Hns.out (by simp [nwC,Value.oneCell']) (by omega) (by simp [maxLen]; omega) (by omega) hbase W.heap.size rfl ?_; intro gg cap8 w8 hown8 hgrow8 hat8 hlt8)
  go_ret
  refine⟨_,rfl,RowOf.snoc (news:=nwC m) qm_congr (by rw [← Hnn.out]; exact Hown.out) Hqq.out rfl (nw_qm m) (by rw [← Hnn.out]; exact hown8),hgrow8,gg,rfl,?_⟩
  rcases hat8 with e | e
  ·injection e with e
   exact .inl e.symm
  ·exact .inr (by omega)
theorem zeroCells_size (z:Value) (n:Nat):(Builtin.zeroCells z.cells n).size=n*z.cells.size:=by simp [Builtin.zeroCells]
set_option maxHeartbeats 4000000 in
theorem insGrow_any (ms:List Msg) (m:Msg) (i:Nat) (hi:i<ms.length) (hl:ms.length≤1000) (W:World) (base g h:Nat) (hr:RowM W base (.slice (some ⟨g,0,none⟩) ms.length ms.length) ms) (hh:Own W h 112 (nwC m).toArray) (hne:h≠g) (hbase:base≤W.heap.size):
  Calls Tryz.prog 191 #[.slice (some ⟨g,0,none⟩) ms.length ms.length,.int .i64 i,.slice (some ⟨h,0,none⟩) 1 1] W (RetIns W base g (ms.take i++m::ms.drop i)):=by
 obtain⟨i0,hi0,hz0,hz1,hz2⟩:=info_parts Tryz.infoWr
 have hsz5:(Tryz.prog.info? 112).map (·.size)=some 5:=by rw [hi0]; simp [hz1]
 obtain⟨cs,hown,hqq⟩:=hr
 have hcl:=hown.1
 rcases hown.2 with ⟨_,h0⟩ | ⟨g',cap',cur,e,hbg,hg,_,_,hcz,hct⟩
 ·omega
 injection e with e1 e2 e3
 injection e1 with e1
 injection e1 with e1
 subst e1 e3
 have oG:Own W g 112 cur:=hg
 have hcells:∀ j v,cs[j]?=some v→W.cell? ⟨g,j,none⟩=some v:=fun j v hv=>by
  refine oG.cell ?_
  rw [← hct,List.getElem?_take] at hv
  split at hv
  ·rw [← Array.getElem?_toList]; exact hv
  ·cases hv
 have hones:∀ v∈cs,v.oneCell'=true:=fun v hv=>by
  obtain⟨j,hj,rfl⟩:=List.getElem_of_mem hv
  have hk:j / 5<ms.length:=by omega
  have h1:=qm_one _ _ (hqq (j / 5) hk) (j % 5) (Nat.mod_lt _ (by omega))
  have e:cs.getD (j / 5*5+j % 5) undef=cs[j]:=by
   rw [show j / 5*5+j % 5=j by omega,List.getD_eq_getElem?_getD,List.getElem?_eq_getElem hj]
   rfl
  rw [← e]
  exact h1
 have hgl:=oG.lt
 have hhl:=hh.lt
 obtain⟨n,hnn⟩:∃ n,n=ms.length:=⟨_,rfl⟩
 have Hnn:=Lib.hid hnn
 have Hqq:=Lib.hid hqq
 rw [← hnn] at hi hl hcl ⊢
 clear hnn hqq hown hcz hct
 have hik:i+(n+1-i)=n+1:=by omega
 have hold:(Builtin.firstCells i0.size i (.slice (some ⟨g,0,none⟩) i n)).run Tryz.prog W.drew=.ok (cs.take (i*5)).toArray W.drew:=by
  rw [hz1]
  refine run_firstCells_some W.drew 5 i ⟨g,0,none⟩ i n (cs.take (i*5)) (by rw [List.length_take]; omega) fun j v hj=>?_
  rw [Addr.add_lit,Nat.zero_add]
  rw [List.getElem?_take] at hj
  split at hj
  ·exact hcells j v hj
  ·cases hj
 obtain⟨G,hG⟩:∃ G,G=grownCap W (n+1) n 112:=⟨_,rfl⟩
 have hGn:n+1≤G:=by rw [hG]; exact grownCap_ge W _ _ _
 have hGm:G≤9223372036854775807:=by
  have:=grownCap_le_maxLen W (n+1) n 112 (by unfold maxLen; omega)
  rw [← hG] at this
  unfold maxLen at this
  exact this
 obtain⟨W1,ROW,hrz,oW,hbW,hRs,hRt⟩:∃ (W1:World) (ROW:Array Value),(∀ ty,(Builtin.append_ #[105,3] ty #[.slice (some ⟨g,0,none⟩) i n,.int .i64 ((n:Int)+1-(i:Int))]).run Tryz.prog W=.ok (.slice (some ⟨W.heap.size,0,none⟩) (n+1) G) W1)∧Own W1 W.heap.size 112 ROW∧Below W.heap.size W W1∧ROW.size=G*5∧ROW.toList.take (i*5)=cs.take (i*5):=by
  have h0:=fun ty=>Lib.run_append_grow_zeros (P:=Tryz.prog) W 105 3 ty 112 i0 _ .i64 .i64 Tryz.underlying105 (by kernel_rfl) hi0 hz0 (some ⟨g,0,none⟩) i n (cs.take (i*5)) hold (n+1-i) (by omega) (by omega) (by omega) (by omega) (by rw [hz2]; omega) (by rw [hz2,hik]; exact growslice_fits (by omega) (by omega))
  obtain⟨ROW,hROW⟩:∃ ROW,ROW=(cs.take (i*5)).toArray++Builtin.zeroCells (Value.agg #[.int .u8 0,.bool false,.int .u8 0,.int .u8 0,.int .u8 0]).cells (n+1-i)++Builtin.zeroCells (Value.agg #[.int .u8 0,.bool false,.int .u8 0,.int .u8 0,.int .u8 0]).cells (G-(n+1)):=⟨_,rfl⟩
  refine⟨W.drew.alloc (.cells ROW 112),ROW,fun ty=>?_,Own.new W.drew _ _,(Below.refl _ _).drew.alloc (Nat.le_refl _) _,?_,?_⟩
  ·have h1:=h0 ty
   rw [hik,← hG,← hROW] at h1
   rw [show (n:Int)+1-(i:Int)=((n+1-i:Nat):Int) by omega]
   exact h1
  ·rw [hROW,Array.size_append,Array.size_append,zeroCells_size,zeroCells_size]
   simp only [List.size_toArray,List.length_take]
   have:(Value.agg #[.int .u8 0,.bool false,.int .u8 0,.int .u8 0,.int .u8 0]).cells.size=5:=rfl
   rw [this]
   omega
  ·rw [hROW,Array.toList_append,Array.toList_append,List.append_assoc,List.take_left' (by rw [List.length_take]; omega)]
 have hnsrc:∀ X:World,X.heap[h]?=W.heap[h]?→∀ j v,(nwC m)[j]?=some v→X.cell? ((⟨h,0,none⟩:Addr).add j)=some v:=fun X hX j v hv=>by
  rw [Addr.add_lit,Nat.zero_add]
  exact (hh.of_block hX).cell (by simpa using hv)
 have hcsrc:∀ X:World,X.heap[g]?=W.heap[g]?→∀ j v,(cs.drop (i*5))[j]?=some v→X.cell? ((⟨g,i*5,none⟩:Addr).add j)=some v:=fun X hX j v hv=>by
  rw [Addr.add_lit,World.cell?_of_block (w:=W) hX]
  rw [List.getElem?_drop] at hv
  exact hcells _ _ hv
 have hdl:(cs.drop (i*5)).length=(n-i)*5:=by rw [List.length_drop]; omega
 have Hns:=Lib.hid hnsrc
 have Hcs:=Lib.hid hcsrc
 have HoW:=Lib.hid oW
 have hsW:=hbW.size
 have hbh:W1.heap[h]?=W.heap[h]?:=hbW.block h hhl
 have hbg':W1.heap[g]?=W.heap[g]?:=hbW.block g hgl
 have Hbh:=Lib.hid hbh
 have Hbg:=Lib.hid hbg'
 have hii:(i:Int)<(n:Int):=by omega
 have hn1:¬ ((1:Int)=0):=by omega
 have hc1:¬ (n=i):=by omega
 have hc2:¬ (G=i):=by omega
 have hc3:¬ (G=i+1):=by omega
 have hw1:IntKind.i64.wrap ((i:Int)+1)=(i:Int)+1:=by rw [IntKind.wrap_i64]; omega
 have hb1:(0:Int)≤(i:Int)+1:=by omega
 have hb2:(i:Int)+1≤(n:Int)+1:=by omega
 have htn:((i:Int)+1).toNat=i+1:=by omega
 have hb3:(i:Int)≤(n:Int):=by omega
 clear hcells hnsrc hcsrc hold oG hh hg oW hbh hbg' hG
 have hgW:g≠W.heap.size:=by omega
 have hhW:h≠W.heap.size:=by omega
 go_enter Tryz.func191,Tryz.ntmps191
 go_wp2_with (first
  | (at_builtin; refine Lib.wpList_append_run _ rfl _ _ _ _ rfl _ _ rfl rfl _ _ (hrz _) ?_)
  | (refine wpList_copyK (o:=⟨some 45,_,_,_,_,_⟩) (by rfl) _ _ _ _ (by rfl) 112 5 Tryz.underlying105 hsz5 W.heap.size (i*5) (n+1-i) (G-i) ⟨h,0,none⟩ 1 1 (by rfl) (by rfl) ROW 112 HoW.out (nwC m) (by simp only [nwC,List.length_cons,List.length_nil,Nat.min_def]; split <;> omega) (Hns.out _ Hbh.out) (by simp only [nwC,List.length_cons,List.length_nil]; omega) (by simp [nwC,Value.oneCell']) ?_; intro w2 o2 k2 gr2))
 obtain⟨R2,hR2⟩:∃ R2,R2=(List.take (i*5) ROW.toList++nwC m++List.drop (i*5+(nwC m).length) ROW.toList).toArray:=⟨_,rfl⟩
 rw [← hR2] at o2
 have hR2s:R2.size=G*5:=by
  rw [hR2]
  simp only [List.size_toArray,List.length_append,List.length_take,List.length_drop,Array.length_toList,nwC,List.length_cons,List.length_nil]
  omega
 have HR2:Hid (R2.toList.take (i*5+5)=cs.take (i*5)++nwC m):=by
  show _=_
  rw [hR2,hRt]
  show ((cs.take (i*5)++nwC m++_):List Value).take _=_
  exact List.take_left' (by rw [List.length_append,List.length_take]; simp only [nwC,List.length_cons,List.length_nil]; omega)
 have o2d:Own w2.drew W.heap.size 112 R2:=o2.drew
 have Ho2:=Lib.hid o2d
 have Hsrc:=Lib.hid (Hcs.out w2.drew ((k2 g hgW).trans Hbg.out))
 clear o2 o2d hR2 hrz
 go_still_tail 8,(by kernel_rfl)
 go_wp2_with (refine wpList_copyK (o:=⟨some 54,_,_,_,_,_⟩) (by rfl) _ _ _ _ (by rfl) 112 5 Tryz.underlying105 hsz5 W.heap.size _ _ _ _ _ _ (by rfl) (by rfl) R2 112 Ho2.out (cs.drop (i*5)) (by rw [hdl]; simp only [Nat.min_def]; split <;> omega) Hsrc.out (by rw [hdl]; omega) (fun v hv=>hones v (List.mem_of_mem_drop hv)) ?_; intro w3 o3 k3 gr3)
 go_ret
 have hic:=ins_cells (i:=i) (nw:=nwC m) (by rw [← Hnn.out]; omega) (by rw [← Hnn.out]; exact hcl) rfl Hqq.out (nw_qm m)
 have hlen:(ms.take i++m::ms.drop i).length=n+1:=by
  rw [List.length_append,List.length_cons,List.length_take,List.length_drop,← Hnn.out]
  omega
 have hta:(R2.toList.take ((i+1)*5)).length=(i+1)*5:=by rw [List.length_take,Array.length_toList]; omega
 have o3':Own w3 W.heap.size 112 (List.take ((i+1)*5) R2.toList++List.drop (i*5) cs++List.drop ((i+1)*5+(List.drop (i*5) cs).length) R2.toList).toArray:=o3
 refine⟨.slice (some ⟨W.heap.size,0,none⟩) (n+1) G,rfl,⟨cs.take (i*5)++nwC m++cs.drop (i*5),⟨hic.1,.inr ⟨W.heap.size,G,_,by rw [hlen],hbase,o3',by rw [hlen]; exact hGn,by unfold maxLen; omega,?_,?_⟩⟩,hic.2⟩,?_,W.heap.size,rfl,.inr (Nat.le_refl _)⟩
 ·simp only [List.size_toArray,List.length_append,hta,hdl,List.length_drop,Array.length_toList]
  omega
 ·rw [hlen]
  show ((List.take ((i+1)*5) R2.toList++List.drop (i*5) cs++List.drop ((i+1)*5+(List.drop (i*5) cs).length) R2.toList):List Value).take ((n+1)*5)=_
  rw [List.take_left' (by rw [List.length_append,hta,hdl]; omega),show (i+1)*5=i*5+5 by omega,HR2.out]
 ·exact grown_next (grown_next (grown_below (grown_refl W (some g)) hbW) gr2 fun g' e=>by
   injection e with e
   exact .inr (by omega)) (show w2.grownBy w3 (some W.heap.size) from⟨gr3.os,gr3.tape,gr3.output,gr3.size,gr3.block⟩) fun g' e=>by
   injection e with e
   exact .inr (by omega)
set_option maxHeartbeats 4000000 in
theorem insShift_any (ms:List Msg) (m:Msg) (i:Nat) (hi:i<ms.length) (hl:ms.length≤1000) (W:World) (base g h cap:Nat) (hroom:ms.length+1≤cap) (hr:RowM W base (.slice (some ⟨g,0,none⟩) ms.length cap) ms) (hh:Own W h 112 (nwC m).toArray) (hne:h≠g) (hbase:base≤W.heap.size):
  Calls Tryz.prog 191 #[.slice (some ⟨g,0,none⟩) ms.length cap,.int .i64 i,.slice (some ⟨h,0,none⟩) 1 1] W (RetIns W base g (ms.take i++m::ms.drop i)):=by
 obtain⟨i0,hi0,hz0,hz1,hz2⟩:=info_parts Tryz.infoWr
 have hsz5:(Tryz.prog.info? 112).map (·.size)=some 5:=by rw [hi0]; simp [hz1]
 obtain⟨cs,hown,hqq⟩:=hr
 have hcl:=hown.1
 rcases hown.2 with ⟨_,h0⟩ | ⟨g',cap',cur,e,hbg,hg,_,hcm,hcz,hct⟩
 ·omega
 injection e with e1 e2 e3
 injection e1 with e1
 injection e1 with e1
 subst e1 e3
 have oG:Own W g 112 cur:=hg
 have hcells:∀ j v,cs[j]?=some v→W.cell? ⟨g,j,none⟩=some v:=fun j v hv=>by
  refine oG.cell ?_
  rw [← hct,List.getElem?_take] at hv
  split at hv
  ·rw [← Array.getElem?_toList]; exact hv
  ·cases hv
 have hones:∀ v∈cs,v.oneCell'=true:=fun v hv=>by
  obtain⟨j,hj,rfl⟩:=List.getElem_of_mem hv
  have hk:j / 5<ms.length:=by omega
  have h1:=qm_one _ _ (hqq (j / 5) hk) (j % 5) (Nat.mod_lt _ (by omega))
  have e:cs.getD (j / 5*5+j % 5) undef=cs[j]:=by
   rw [show j / 5*5+j % 5=j by omega,List.getD_eq_getElem?_getD,List.getElem?_eq_getElem hj]
   rfl
  rw [← e]
  exact h1
 have hgl:=oG.lt
 have hhl:=hh.lt
 obtain⟨n,hnn⟩:∃ n,n=ms.length:=⟨_,rfl⟩
 have Hnn:=Lib.hid hnn
 have Hqq:=Lib.hid hqq
 rw [← hnn] at hi hl hcl hroom hct ⊢
 clear hnn hqq hown
 have hdl:(cs.drop (i*5)).length=(n-i)*5:=by rw [List.length_drop]; omega
 have hcm:cap≤9223372036854775807:=by unfold maxLen at hcm; exact hcm
 have hov:∀ lb cb,(callFunc 192 #[.slice (some ⟨h,0,none⟩) 1 1,.slice (some ⟨g,(i+1)*5,none⟩) lb cb]).run Tryz.prog W=.ok (.value (.bool false)) W:=fun lb cb=>by
  have h1:W.shape? h=some (112,5):=by
   have h2:W.heap[h]?=some (.cells (nwC m).toArray 112 (0,0)):=hh
   simp [World.shape?,h2,nwC]
  have h3:W.shape? g=some (112,cap*5):=by
   simp [World.shape?,hg,hcz]
  rw [run_callFunc_extern Tryz.func192 (by kernel_rfl) (by kernel_rfl) (by kernel_rfl) (e:=Extern.SlicesOverlaps.overlaps #[105,105] #[4]) (by kernel_rfl),
   Lib.run_overlaps_apart W 105 4 112 Tryz.underlying105 5 Tryz.sizeOf112 ⟨h,0,none⟩ ⟨g,(i+1)*5,none⟩ 1 1 lb cb hne _ _ _ _ h1 h3 (by omega) (hh.frozen 0) (hh.frozen 5)]
  rfl
 have hns:∀ X:World,X.heap[h]?=W.heap[h]?→∀ j v,(nwC m)[j]?=some v→X.cell? ((⟨h,0,none⟩:Addr).add j)=some v:=fun X hX j v hv=>by
  rw [Addr.add_lit,Nat.zero_add]
  exact (hh.of_block hX).cell (by simpa using hv)
 have Hns:=Lib.hid hns
 have Hsrc:Hid (∀ j v,(cs.drop (i*5))[j]?=some v→W.drew.cell? ((⟨g,i*5,none⟩:Addr).add j)=some v):=fun j v hv=>by
  rw [Addr.add_lit]
  rw [List.getElem?_drop] at hv
  exact hcells _ _ hv
 have HoG:=Lib.hid oG.drew
 have Hct:=Lib.hid hct
 have hii:(i:Int)<(n:Int):=by omega
 have hn1:¬ ((1:Int)=0):=by omega
 have hc0:¬ (cap=n):=by omega
 have hc1:¬ (cap=i):=by omega
 have hc3:¬ (cap=i+1):=by omega
 have hc4:(n:Int)+1≤(cap:Int):=by omega
 have hc5:¬ (cap:Int)<(n:Int)+1:=by omega
 have hw1:IntKind.i64.wrap ((i:Int)+1)=(i:Int)+1:=by rw [IntKind.wrap_i64]; omega
 have hw2:IntKind.i64.wrap ((n:Int)+1)=(n:Int)+1:=by rw [IntKind.wrap_i64]; omega
 have hb1:(0:Int)≤(i:Int)+1:=by omega
 have hb2:(i:Int)+1≤(n:Int)+1:=by omega
 have hb4:(0:Int)≤(n:Int)+1:=by omega
 have htn:((i:Int)+1).toNat=i+1:=by omega
 have htn2:((n:Int)+1).toNat=n+1:=by omega
 have hb3:(i:Int)≤(n:Int):=by omega
 have hb5:(i:Int)≤(n:Int)+1:=by omega
 clear hcells hns oG hh hg hct
 go_enter Tryz.func191,Tryz.ntmps191
 go_wp2_with (simp only [hov])
 clear hov
 go_still_tail 8,(by kernel_rfl)
 go_upto_region 16 with (refine wpList_copyK (o:=⟨some 77,_,_,_,_,_⟩) (by rfl) _ _ _ _ (by rfl) 112 5 Tryz.underlying105 hsz5 g _ _ _ _ _ _ (by rfl) (by rfl) cur 112 HoG.out (cs.drop (i*5)) (by rw [hdl]; simp only [Nat.min_def]; split <;> omega) Hsrc.out (by rw [hdl]; omega) (fun v hv=>hones v (List.mem_of_mem_drop hv)) ?_; intro w2 o2 k2 gr2)
 have hX:∃ X5 XC Z:List Value,cur.toList=cs.take (i*5)++X5++XC++Z∧X5.length=5∧XC.length=(n-i)*5:=by
  have h1:cur.toList.take (i*5)=cs.take (i*5):=by rw [← Hct.out,List.take_take,Nat.min_eq_left (by omega)]
  refine⟨(cur.toList.drop (i*5)).take 5,(cur.toList.drop (i*5+5)).take ((n-i)*5),cur.toList.drop (i*5+5+(n-i)*5),?_,?_,?_⟩
  ·rw [← h1,List.append_assoc,List.append_assoc]
   rw [show List.drop (i*5+5+(n-i)*5) cur.toList=List.drop ((n-i)*5) (List.drop (i*5+5) cur.toList) by rw [List.drop_drop],List.take_append_drop]
   rw [show List.drop (i*5+5) cur.toList=List.drop 5 (List.drop (i*5) cur.toList) by rw [List.drop_drop],List.take_append_drop,List.take_append_drop]
  ·rw [List.length_take,List.length_drop,Array.length_toList]; omega
  ·rw [List.length_take,List.length_drop,Array.length_toList]; omega
 obtain⟨X5,XC,Z,hX,hX5,hXC⟩:=hX
 have hta:(cs.take (i*5)).length=i*5:=by rw [List.length_take]; omega
 have o2':Own w2 g 112 (cs.take (i*5)++X5++cs.drop (i*5)++Z).toArray:=by
  have h:=o2
  rw [hX,show List.take ((i+1)*5) (List.take (i*5) cs++X5++XC++Z)++List.drop (i*5) cs++List.drop ((i+1)*5+(List.drop (i*5) cs).length) (List.take (i*5) cs++X5++XC++Z)=_ from spl (by rw [List.length_append,hta,hX5]; omega) (by rw [hdl,hXC])] at h
  exact h
 obtain⟨R2,hR2⟩:∃ R2,R2=(cs.take (i*5)++X5++cs.drop (i*5)++Z).toArray:=⟨_,rfl⟩
 rw [← hR2] at o2'
 have hR2s:R2.size=cap*5:=by
  have h1:cur.toList.length=cap*5:=by rw [Array.length_toList]; exact hcz
  rw [hX] at h1
  rw [hR2]
  simp only [List.size_toArray,List.length_append,hdl,hXC] at h1 ⊢
  exact h1
 have HR2:=Lib.hid hR2
 have Ho2:=Lib.hid o2'
 have HX5:=Lib.hid hX5
 have Hn2:=Lib.hid (Hns.out w2 (k2 h hne))
 clear o2 o2' hR2 hX hX5 hXC
 go_wp2_with (refine wpList_copyK (o:=⟨some 82,_,_,_,_,_⟩) (by rfl) _ _ _ _ (by rfl) 112 5 Tryz.underlying105 hsz5 g _ _ _ _ _ _ (by rfl) (by rfl) R2 112 Ho2.out (nwC m) (by simp only [nwC,List.length_cons,List.length_nil,Nat.min_def]; split <;> omega) Hn2.out (by simp only [nwC,List.length_cons,List.length_nil]; omega) (by simp [nwC,Value.oneCell']) ?_; intro w3 o3 k3 gr3)
 go_ret
 have hic:=ins_cells (i:=i) (nw:=nwC m) (by rw [← Hnn.out]; omega) (by rw [← Hnn.out]; exact hcl) rfl Hqq.out (nw_qm m)
 have hlen:(ms.take i++m::ms.drop i).length=n+1:=by
  rw [List.length_append,List.length_cons,List.length_take,List.length_drop,← Hnn.out]
  omega
 have o3':Own w3 g 112 (cs.take (i*5)++nwC m++(cs.drop (i*5)++Z)).toArray:=by
  have h:=o3
  rw [HR2.out] at h
  rw [List.append_assoc (cs.take (i*5)++X5)] at h
  rw [show List.take (i*5) (List.take (i*5) cs++X5++(List.drop (i*5) cs++Z))++nwC m++List.drop (i*5+(nwC m).length) (List.take (i*5) cs++X5++(List.drop (i*5) cs++Z))=_ from spl hta HX5.out.symm] at h
  exact h
 refine⟨.slice (some ⟨g,0,none⟩) (n+1) cap,rfl,⟨cs.take (i*5)++nwC m++cs.drop (i*5),⟨hic.1,.inr ⟨g,cap,_,by rw [hlen],hbg,o3',by rw [hlen]; omega,by unfold maxLen; omega,?_,?_⟩⟩,hic.2⟩,?_,g,rfl,.inl rfl⟩
 ·have h1:=hR2s
  rw [HR2.out] at h1
  simp only [List.size_toArray,List.length_append,hdl,hta,HX5.out] at h1 ⊢
  simp only [nwC,List.length_cons,List.length_nil]
  omega
 ·rw [hlen]
  show ((cs.take (i*5)++nwC m++(cs.drop (i*5)++Z)):List Value).take ((n+1)*5)=_
  rw [← List.append_assoc]
  exact List.take_left' (by rw [List.length_append,List.length_append,hta,hdl]; simp only [nwC,List.length_cons,List.length_nil]; omega)
 ·exact grown_next (show W.grownBy w2 (some g) from⟨gr2.os,gr2.tape,gr2.output,gr2.size,gr2.block⟩) gr3 fun g' e=>.inl e
theorem insM_any (ms:List Msg) (m:Msg) (i:Nat) (hi:i≤ms.length) (hpos:0<ms.length) (hl:ms.length≤1000) (W:World) (base g cap h:Nat) (hr:RowM W base (.slice (some ⟨g,0,none⟩) ms.length cap) ms) (hh:Own W h 112 (nwC m).toArray) (hne:h≠g) (hbase:base≤W.heap.size):
  Calls Tryz.prog 191 #[.slice (some ⟨g,0,none⟩) ms.length cap,.int .i64 i,.slice (some ⟨h,0,none⟩) 1 1] W (RetIns W base g (ms.take i++m::ms.drop i)):=by
 by_cases hlt:i<ms.length
 ·by_cases hroom:ms.length+1≤cap
  ·exact insShift_any ms m i hlt hl W base g h cap hroom hr hh hne hbase
  ·have hc:cap=ms.length:=by
    obtain⟨cs,h1,_⟩:=hr
    rcases h1.2 with ⟨e,_⟩ | ⟨g',cap',cur,e,_,_,h2,_⟩
    ·cases e
    ·injection e with _ _ e
     omega
   subst hc
   exact insGrow_any ms m i hlt hl W base g h hr hh hne hbase
 ·obtain rfl:i=ms.length:=by omega
  rw [List.take_length,List.drop_length]
  exact insEnd_any ms m hl hpos W base g cap h hr hh hne hbase
end Go.Proofs.YtojmofnamppbdaaGreat
namespace Go.Proofs.YtojmofnamppbdaaGreat
open Go.RowKit
set_option linter.unusedVariables false
set_option maxRecDepth 100000
theorem VwL.fam {W:World} {b:Nat} {Ap:Option Addr} {cp:Nat} {p:Prg} {s:VSt} (h:VwL W b Ap cp p s) (hs:VOk p s):∃ bF oF cF:Nat→Nat,∀ l,l<3→W.cell? ⟨b,16+l,none⟩=some (.slice (some ⟨bF l,oF l,none⟩) (lstV s l).length (cF l))∧bF l<W.heap.size∧SlR 5 (fun _=>QM) W (.slice (some ⟨bF l,oF l,none⟩) (lstV s l).length (cF l)) (lstV s l) ∧
  ∀ k,k<(lstV s l).length→W.cell? ⟨bF l,oF l+k*5,none⟩=some (.int .u8 (gM (lstV s l) k).val)∧W.cell? ⟨bF l,oF l+k*5+1,none⟩=some (.bool (gM (lstV s l) k).lock) ∧
   W.cell? ⟨bF l,oF l+k*5+2,none⟩=some (.int .u8 (aV (gM (lstV s l) k).view 0))∧W.cell? ⟨bF l,oF l+k*5+3,none⟩=some (.int .u8 (aV (gM (lstV s l) k).view 1))∧W.cell? ⟨bF l,oF l+k*5+4,none⟩=some (.int .u8 (aV (gM (lstV s l) k).view 2)):=by
 have h1:∀ l,∃ q:Nat×Nat×Nat,l<3→W.cell? ⟨b,16+l,none⟩=some (.slice (some ⟨q.1,q.2.1,none⟩) (lstV s l).length q.2.2)∧q.1<W.heap.size∧SlR 5 (fun _=>QM) W (.slice (some ⟨q.1,q.2.1,none⟩) (lstV s l).length q.2.2) (lstV s l) ∧
  ∀ k,k<(lstV s l).length→W.cell? ⟨q.1,q.2.1+k*5,none⟩=some (.int .u8 (gM (lstV s l) k).val)∧W.cell? ⟨q.1,q.2.1+k*5+1,none⟩=some (.bool (gM (lstV s l) k).lock) ∧
   W.cell? ⟨q.1,q.2.1+k*5+2,none⟩=some (.int .u8 (aV (gM (lstV s l) k).view 0))∧W.cell? ⟨q.1,q.2.1+k*5+3,none⟩=some (.int .u8 (aV (gM (lstV s l) k).view 1))∧W.cell? ⟨q.1,q.2.1+k*5+4,none⟩=some (.int .u8 (aV (gM (lstV s l) k).view 2)):=fun l=>by
  by_cases hl:l<3
  ·obtain⟨bp,op,c,k1,k2,k3,k4⟩:=h.msgs hl (vw_pos hs hl)
   exact⟨(bp,op,c),fun _=>⟨k1,k2,k3,k4⟩⟩
  ·exact⟨(0,0,0),fun h=>absurd h hl⟩
 obtain⟨f,hf⟩:=Classical.skolem.1 h1
 exact⟨fun l=>(f l).1,fun l=>(f l).2.1,fun l=>(f l).2.2,hf⟩
theorem idxSF {A:Nat→Option Addr} {n c:Nat→Nat} {i:Nat} (hi:i<3) (w:World):(Instr.index 106 (.agg #[.slice (A 0) (n 0) (c 0),.slice (A 1) (n 1) (c 1),.slice (A 2) (n 2) (c 2)]) (.int .i64 i)).run Tryz.prog w=.ok (.slice (A i) (n i) (c i)) w:=by
 obtain⟨x0,x1,x2⟩:=idxS3 (A 0) (A 1) (A 2) (n 0) (n 1) (n 2) (c 0) (c 1) (c 2)
 match i,hi with
 | 0,_=>exact x0 w
 | 1,_=>exact x1 w
 | 2,_=>exact x2 w
theorem idxV3 (y0 y1 y2 y3 y4 y5 y6 y7 y8:Int):
  (∀ w,(Instr.index 108 (.agg #[.int .u8 y0,.int .u8 y1,.int .u8 y2,.int .u8 y3,.int .u8 y4,.int .u8 y5,.int .u8 y6,.int .u8 y7,.int .u8 y8]) (.int .i64 0)).run Tryz.prog w=.ok (.agg #[.int .u8 y0,.int .u8 y1,.int .u8 y2]) w)
  ∧ (∀ w,(Instr.index 108 (.agg #[.int .u8 y0,.int .u8 y1,.int .u8 y2,.int .u8 y3,.int .u8 y4,.int .u8 y5,.int .u8 y6,.int .u8 y7,.int .u8 y8]) (.int .i64 1)).run Tryz.prog w=.ok (.agg #[.int .u8 y3,.int .u8 y4,.int .u8 y5]) w)
  ∧ (∀ w,(Instr.index 108 (.agg #[.int .u8 y0,.int .u8 y1,.int .u8 y2,.int .u8 y3,.int .u8 y4,.int .u8 y5,.int .u8 y6,.int .u8 y7,.int .u8 y8]) (.int .i64 2)).run Tryz.prog w=.ok (.agg #[.int .u8 y6,.int .u8 y7,.int .u8 y8]) w):=⟨fun w=>by kernel_rfl,fun w=>by kernel_rfl,fun w=>by kernel_rfl⟩
theorem idxV3F {s:VSt} {i:Nat} (hi:i<3) (w:World):(Instr.index 108 (.agg #[.int .u8 (aV (ownV s 0) 0),.int .u8 (aV (ownV s 0) 1),.int .u8 (aV (ownV s 0) 2),.int .u8 (aV (ownV s 1) 0),.int .u8 (aV (ownV s 1) 1),.int .u8 (aV (ownV s 1) 2),.int .u8 (aV (ownV s 2) 0),.int .u8 (aV (ownV s 2) 1),.int .u8 (aV (ownV s 2) 2)]) (.int .i64 i)).run Tryz.prog w=.ok (.agg #[.int .u8 (aV (ownV s i) 0),.int .u8 (aV (ownV s i) 1),.int .u8 (aV (ownV s i) 2)]) w:=by
 obtain⟨x0,x1,x2⟩:=idxV3 (aV (ownV s 0) 0) (aV (ownV s 0) 1) (aV (ownV s 0) 2) (aV (ownV s 1) 0) (aV (ownV s 1) 1) (aV (ownV s 1) 2) (aV (ownV s 2) 0) (aV (ownV s 2) 1) (aV (ownV s 2) 2)
 match i,hi with
 | 0,_=>exact x0 w
 | 1,_=>exact x1 w
 | 2,_=>exact x2 w
def vwL (v:List Nat):List Int:=[aV v 0,aV v 1,aV v 2]
def msI (m:Msg):List Int:=[m.val,if m.lock=true then 1 else 0]++vwL m.view
def vkL (s:VSt) (i:Nat):List Int:=kAll s.s++(List.range i).flatMap fun l=>(((lstV s l).length:Nat):Int)::(lstV s l).flatMap msI
def vkM (s:VSt) (l j:Nat):List Int:=vkL s l++[(((lstV s l).length:Nat):Int)]++((lstV s l).take j).flatMap msI
def vkO (s:VSt) (i:Nat):List Int:=vkL s 3++(List.range i).flatMap fun t=>vwL (ownV s t)
theorem vkL_next (s:VSt) (i:Nat):vkL s (i+1)=vkM s i (lstV s i).length:=by
 unfold vkL vkM vkL
 rw [List.range_succ,List.flatMap_append,List.take_length,List.append_assoc,List.append_assoc]
 simp
theorem vkM_next {s:VSt} {l j:Nat} (h:j<(lstV s l).length):vkM s l (j+1)=vkM s l j++[(gM (lstV s l) j).val,if (gM (lstV s l) j).lock=true then 1 else 0]++vwL (gM (lstV s l) j).view:=by
 unfold vkM
 rw [List.take_succ_eq_append_getElem h,List.flatMap_append,gM_get h]
 simp [msI]
theorem vkO_next (s:VSt) (i:Nat):vkO s (i+1)=vkO s i++vwL (ownV s i):=by
 unfold vkO
 rw [List.range_succ,List.flatMap_append]
 simp
theorem msI_len (ms:List Msg):(ms.flatMap msI).length=5*ms.length:=by
 induction ms with
 | nil=>rfl
 | cons a ms ih=>
  rw [List.flatMap_cons,List.length_append,ih,List.length_cons]
  simp [msI,vwL]
  omega
theorem vkL_len {p:Prg} {s:VSt} (hp:PrgOk p) (hs:VOk p s):∀ i,i≤3→(vkL s i).length≤15+66*i
 | 0,_=>by simp [vkL,kAll_len]
 | i+1,h=>by
  have h1:=vkL_len hp hs i (by omega)
  have h2:=(lens_le hp hs (l:=i) (by omega)).2
  rw [vkL_next]
  unfold vkM
  rw [List.length_append,List.length_append,msI_len,List.take_length]
  simp only [List.length_singleton]
  omega
theorem vkM_len {p:Prg} {s:VSt} (hp:PrgOk p) (hs:VOk p s) {i:Nat} (hi:i<3) (j:Nat):(vkM s i j).length≤300:=by
 have h1:=vkL_len hp hs i (by omega)
 have h2:=(lens_le hp hs hi).2
 unfold vkM
 rw [List.length_append,List.length_append,msI_len,List.length_take]
 simp only [List.length_singleton]
 omega
theorem vkO_len {p:Prg} {s:VSt} (hp:PrgOk p) (hs:VOk p s):∀ i,(vkO s i).length≤300+3*i
 | 0=>by
  have h1:=vkL_len hp hs 3 (by omega)
  show (vkL s 3++[]).length≤_
  rw [List.append_nil]
  omega
 | i+1=>by
  have h1:=vkO_len hp hs i
  rw [vkO_next,List.length_append]
  simp only [vwL,List.length_cons,List.length_nil]
  omega
theorem vwL_nat {v:List Nat} (h:v.length=3):(vwL v).map Int.toNat=v:=by
 match v,h with
 | [a,b,c],_=>rfl
theorem vk_key {p:Prg} {s:VSt} (hp:PrgOk p) (hs:VOk p s):strOfNums (vkO s 3)=keyVI s:=by
 have hl:s.lists=(List.range 3).map (lstV s):=List.ext_getElem (by simp [hs.len]) fun i h1 h2=>by
  rw [List.getElem_map,List.getElem_range]
  unfold lstV
  rw [List.getD_eq_getElem?_getD,List.getElem?_eq_getElem h1]
  rfl
 have h1:(kAll s.s).map Int.toNat=kI s.s:=by simp [kAll,kR,kP,kI,rgF,meF,List.range_succ]
 have hm:∀ ms:List Msg,(∀ m∈ms,m.view.length=3)→(ms.flatMap msI).map Int.toNat=ms.flatMap encMI:=fun ms=>by
  induction ms with
  | nil=>intro _; rfl
  | cons a ms ih=>
   intro h
   have h3:(msI a).map Int.toNat=encMI a:=by
    unfold msI encMI
    rw [List.map_append,vwL_nat (h a (by simp))]
    cases a.lock <;> rfl
   rw [List.flatMap_cons,List.flatMap_cons,List.map_append,h3,ih fun m hm=>h m (by simp [hm])]
 have hlm:∀ l,l<3→∀ m∈lstV s l,m.view.length=3:=fun l hl3 m hm=>(hs.vals (lstV s l) (by
  unfold lstV
  rw [List.getD_eq_getElem?_getD,List.getElem?_eq_getElem (by rw [hs.len]; exact hl3)]
  exact List.getElem_mem _) m hm).2.1
 have hov:∀ t,(ownV s t).length=3:=fun t=>(own_bytes hp hs t).1
 have h:(vkO s 3).map Int.toNat=kVI s:=by
  unfold vkO vkL kVI
  rw [List.map_append,List.map_append,h1,List.append_assoc,hl]
  have e1:=hm _ (hlm 0 (by omega))
  have e2:=hm _ (hlm 1 (by omega))
  have e3:=hm _ (hlm 2 (by omega))
  have f1:=vwL_nat (hov 0)
  have f2:=vwL_nat (hov 1)
  have f3:=vwL_nat (hov 2)
  simp only [List.range_succ,List.range_zero,List.nil_append,List.flatMap_cons,List.flatMap_nil,List.append_nil,List.map_append,List.map_cons,List.map_nil,e1,e2,e3,f1,f2,f3,Int.toNat_natCast,List.cons_append,List.append_assoc]
 unfold strOfNums keyVI byt
 rw [← h,List.map_map]
 rfl
theorem blk_setCells_other (g k:Nat):∀ (vs:List Value) (o:Nat) (w:World),k≠g→(w.setCells g o vs).heap[k]?=w.heap[k]?:=fun vs=>by
 induction vs with
 | nil=>intro o w _; rfl
 | cons v r ih=>
  intro o w h
  show ((w.setCell ⟨g,o,none⟩ v).setCells g (o+1) r).heap[k]?=_
  rw [ih _ _ h]
  exact Go.Deep.blk_setCell_other _ _ _ _ h
theorem run_append_Zk {P:Program} (w:World) (t ty e:TypeId) (i:TypeInfo) (ht:P.underlying t=some (.slice e)) (hi:P.info? e=some i) (hz:i.zero=some (.int .u8 0)) (hsize:i.size=1) (hby:i.bytes=1)
  (base:Nat) (v:Value) (xs:List Int) (h:RowZ w base v xs) (A:Option Addr) (c:Nat) (ys:List Int) (hy:SlR 1 (fun _=>QB) w (.slice A ys.length c) ys) (h63:xs.length+ys.length≤1000000) (hbase:base≤w.heap.size):
  ∃ v' w',(Builtin.append_ #[t,t] ty #[v,.slice A ys.length c]).run P w=.ok v' w'∧RowZ w' base v' (xs++ys)∧Below base w w'∧∀ k,k<w.heap.size→v.ownBlock≠some k→w'.heap[k]?=w.heap[k]?:=by
 obtain⟨g,cap,rfl,hg,hl,hn,hm,hc,hx⟩:=h
 rcases Nat.eq_zero_or_pos ys.length with h0 | hpos
 ·obtain rfl:ys=[]:=List.length_eq_zero_iff.1 h0
  exact⟨_,_,run_append_empty w t ty e i ht hi g 0 xs.length cap hn A c,by rw [List.append_nil]; exact⟨g,cap,rfl,hg,hl,hn,hm,hc,hx⟩,Below.refl _ _,fun _ _ _=>rfl⟩
 ·obtain⟨b,o,rfl,news,hnl,hnw,hnr⟩:=SlR.news hy (by omega) hpos
  have hnl':news.length=ys.length:=by rw [hnl,Nat.mul_one]
  have hnv:∀ j (hj:j<ys.length),news[j]?=some (.int .u8 ys[j]):=fun j hj=>by
   obtain⟨cs,h1,h2⟩:=hnr j hj
   have h2:cs 0=.int .u8 ys[j]:=h2
   have h3:=h1 0 (by omega)
   rw [h2,Nat.mul_one,Nat.add_zero,List.getD_eq_getElem?_getD,List.getElem?_eq_getElem (by omega)] at h3
   rw [List.getElem?_eq_getElem (by omega)]
   simp only [Option.getD_some] at h3
   rw [h3]
  have h1:∀ u∈news,u.oneCell'=true:=fun u hu=>by
   obtain⟨j,hj,rfl⟩:=List.getElem_of_mem hu
   have:=hnv j (by omega)
   rw [List.getElem?_eq_getElem hj] at this
   injection this with this
   rw [this]; rfl
  by_cases hroom:xs.length+ys.length≤cap
  ·have hr:=run_append_room_cells (P:=P) w t ty e i ht hi g 0 xs.length cap ⟨b,o,none⟩ ys.length c news (by rw [hnl,hsize]) hnw h1 hroom (fun j hj=>by have:=(hc (xs.length+j) (by omega)).1; simpa [hsize] using this) (fun j hj=>by have:=(hc (xs.length+j) (by omega)).2; simpa [hsize] using this)
   rw [hsize] at hr
   simp only [Nat.mul_one,Nat.zero_add] at hr
   refine⟨_,_,hr,⟨g,cap,by rw [List.length_append],hg,Nat.lt_of_lt_of_le hl (below_setCells 0 g (Nat.zero_le _) _ _ _).size,by rw [List.length_append]; exact hroom,hm,fun k hk=>⟨?_,by rw [World.frozen?_setCells]; exact (hc k hk).2⟩,fun k hk=>?_⟩,below_setCells base g hg _ _ _,fun k hk hne=>blk_setCells_other g k _ _ _ (fun e=>hne (by rw [e]; rfl))⟩
   ·by_cases hin:xs.length≤k∧k<xs.length+news.length
    ·have:=World.cell?_setCells_in g news xs.length w (fun j hj=>(hc _ (by omega)).1) (k-xs.length) (by omega)
     rw [show xs.length+(k-xs.length)=k by omega] at this
     rw [this]; rfl
    ·rw [World.cell?_setCells_out g news xs.length w _ (fun _ _=>by show k<_∨_≤k; omega)]
     exact (hc k hk).1
   ·rw [List.length_append] at hk
    by_cases hin:k<xs.length
    ·rw [World.cell?_setCells_out g news xs.length w _ (fun _ _=>Or.inl hin),List.getElem_append_left hin]
     exact hx k hin
    ·have:=World.cell?_setCells_in g news xs.length w (fun j hj=>(hc _ (by omega)).1) (k-xs.length) (by omega)
     rw [show xs.length+(k-xs.length)=k by omega] at this
     rw [this,List.getElem_append_right (by omega)]
     have h4:=hnv (k-xs.length) (by omega)
     rw [List.getElem?_eq_getElem (by omega)] at h4
     exact h4
  ·have hadd:∀ j,(⟨g,0,none⟩:Addr).add j=⟨g,j,none⟩:=fun j=>by unfold Addr.add; split <;> simp_all
   have hr:=run_append_grow (P:=P) w t ty e i (.int .u8 0) ht hi hz ⟨g,0,none⟩ xs.length cap (xs.map (Value.int .u8)) (by rw [List.length_map,hsize,Nat.mul_one]) (fun j u hu=>by
    rw [List.getElem?_map] at hu
    rcases Nat.lt_or_ge j xs.length with hj | hj
    ·rw [List.getElem?_eq_getElem hj] at hu
     rw [hadd,hx j hj]
     exact hu
    ·rw [List.getElem?_eq_none hj] at hu; cases hu) ⟨b,o,none⟩ ys.length c news (by rw [hnl,hsize]) hnw (by omega) (by omega) (growslice_fits (by omega) (by rw [hby]; omega))
   have hge:=grownCap_ge w (xs.length+ys.length) cap e
   have hcm:=grownCap_le_maxLen w (xs.length+ys.length) cap e (by unfold maxLen; omega)
   generalize grownCap w (xs.length+ys.length) cap e=cp at hr hge hcm
   obtain⟨cells,hcells⟩:∃ cells,cells=(xs.map (Value.int .u8)).toArray++news.toArray++Builtin.zeroCells (Value.int .u8 0).cells (cp-(xs.length+ys.length)):=⟨_,rfl⟩
   rw [← hcells] at hr
   have hcz:cells.size=cp:=by
    rw [hcells]
    simp only [Array.size_append,List.size_toArray,List.length_map,size_zeroCells]
    rw [hnl',show (Value.int .u8 0).cells.size=1 from rfl,Nat.mul_one]
    omega
   have hown:Own (w.drew.alloc (.cells cells e)) w.heap.size e cells:=Own.new w.drew e cells
   have hcl:∀ k (hk:k<cells.size),(w.drew.alloc (.cells cells e)).cell? ⟨w.heap.size,k,none⟩=some cells[k]:=fun k hk=>Own.cell hown (by rw [Array.getElem?_eq_getElem hk])
   refine⟨_,_,hr,⟨w.heap.size,cp,by rw [List.length_append],hbase,hown.lt,by rw [List.length_append]; exact hge,hcm,fun k hk=>⟨by rw [hcl k (by omega)]; rfl,Own.frozen hown k⟩,fun k hk=>?_⟩,((Below.refl _ _).drew).alloc hbase _,fun k hk _=>Go.Deep.blk_alloc_lt _ _ _ hk⟩
   rw [List.length_append] at hk
   rw [hcl k (by omega)]
   congr 1
   simp only [hcells]
   by_cases hin:k<xs.length
   ·rw [Array.getElem_append_left (by simp [hnl']; omega),Array.getElem_append_left (by simpa using hin),List.getElem_append_left hin]
    simp
   ·rw [Array.getElem_append_left (by simp [hnl']; omega),Array.getElem_append_right (by simp; omega),List.getElem_append_right (by omega)]
    have h4:=hnv (k-xs.length) (by omega)
    rw [List.getElem?_eq_getElem (by omega)] at h4
    injection h4 with h4
    simpa using h4
theorem two_s (w:World) (a c:Int):SlR 1 (fun _=>QB) (w.alloc (.cells #[.int .u8 a,.int .u8 c] 5)).drew (.slice (some ⟨w.heap.size,0,none⟩) [a,c].length 2) [a,c]:=by
 have o:=Own.new w 5 #[.int .u8 a,.int .u8 c]
 refine⟨_,_,rfl,by simp,fun j hj=>?_⟩
 match j,hj with
 | 0,_=>exact⟨w.heap.size,0,rfl,fun _=>.int .u8 a,fun k hk=>by (obtain rfl:k=0:=by omega); exact o.cell (i:=0) rfl,rfl⟩
 | 1,_=>exact⟨w.heap.size,0,rfl,fun _=>.int .u8 c,fun k hk=>by (obtain rfl:k=0:=by omega); exact o.cell (i:=1) rfl,rfl⟩
theorem step_append_Z {P:Program} {w:World} {ops:Array Oper} {o:Oper} {a:Act} {K:Act→World→Prop} {QQ:Exit→Act→World→Prop} {E:Prop} (hgd:o.guard=none) (s x:Operand) (t:TypeId) (ho:o.op=.call { callee:=.builtin .append,args:=#[s,x],argTypes:=#[t,t] })
  (e:TypeId) (i:TypeInfo) (ht:P.underlying t=some (.slice e)) (hi:P.info? e=some i) (hz:i.zero=some (.int .u8 0)) (hsize:i.size=1) (hby:i.bytes=1)
  (base:Nat) (v:Value) (xs:List Int) (hs:a.eval s=v) (hown:RowZ w base v xs) (A:Option Addr) (c:Nat) (ys:List Int) (hx:a.eval x=.slice A ys.length c) (hy:SlR 1 (fun _=>QB) w (.slice A ys.length c) ys) (h63:xs.length+ys.length≤1000000) (hbase:base≤w.heap.size)
  (h:∀ A' c' w',RowZ w' base (.slice A' (xs++ys).length c') (xs++ys)→Below base w w'→(∀ k,k<w.heap.size→v.ownBlock≠some k→w'.heap[k]?=w.heap[k]?)→K (a.put o.dst (.slice A' (xs++ys).length c')) w'):
  if Region.wanted o (yielded ops a.tmps)=true then Oper.wp P o a w K QQ else E:=by
 have hw:Region.wanted o (yielded ops a.tmps)=true:=by simp [Region.wanted,hgd]
 rw [if_pos hw]
 obtain⟨v',w',hr,h2,h3,h4⟩:=run_append_Zk (P:=P) w t o.type e i ht hi hz hsize hby base v xs hown A c ys hy h63 hbase
 obtain⟨A',c',rfl⟩:=h2.slice
 unfold Oper.wp execOp
 simp only [ho,resolve,invoke,builtin,Sem.run_bind,Sem.run_pure,Result.andThen_ok,List.map_toArray,List.map_cons,List.map_nil,hs,hx,hr]
 exact h A' c' w' h2 h3 h4
theorem three_s {w:World} {b o:Nat} {v:List Nat} (h0:w.cell? ⟨b,o,none⟩=some (.int .u8 (aV v 0))) (h1:w.cell? ⟨b,o+1,none⟩=some (.int .u8 (aV v 1))) (h2:w.cell? ⟨b,o+2,none⟩=some (.int .u8 (aV v 2))):SlR 1 (fun _=>QB) w (.slice (some ⟨b,o,none⟩) (vwL v).length 3) (vwL v):=three_b h0 h1 h2
set_option maxHeartbeats 4000000 in
theorem keyV_any (p:Prg) (hp:PrgOk p) (s:VSt) (hs:VOk p s) (W:World) (b:Nat) (Ap:Option Addr) (cp:Nat) (ho:VwL W b Ap cp p s):
  Calls Tryz.prog 179 #[.pointer (some ⟨b,0,none⟩)] W (fun e W'=>e=.returned (.string (keyVI s))∧Below W.heap.size W W'):=by
 obtain⟨i0,hi0,hz0,hz1,hz2⟩:=info_parts Tryz.infoByte
 have htx:=text_any p hp s.s hs.ok W b Ap cp ho.vals
 rw [← kAll_key] at htx
 have Hby:=Lib.hid (kAll_by hp hs.ok)
 have Hbl:=Lib.hid (kAll_len s.s)
 have HkL:Hid (∀ i,i≤3→(vkL s i).length≤300):=fun i hi=>Nat.le_trans (vkL_len hp hs i hi) (by omega)
 have HkM:Hid (∀ i j,i<3→(vkM s i j).length≤300):=fun i j hi=>vkM_len hp hs hi j
 have HkO:Hid (∀ i,i≤3→(vkO s i).length≤400):=fun i hi=>Nat.le_trans (vkO_len hp hs i) (by omega)
 have Hk:=Lib.hid (vk_key hp hs)
 have H0:Hid (vkL s 0=kAll s.s):=by show _=_; simp [vkL]
 have hbl:=ho.lt
 obtain⟨bF,oF,cF,hF⟩:=ho.fam hs
 have HF:=Lib.hid hF
 have Hn:Hid (∀ l,l<3→0<(lstV s l).length∧(lstV s l).length≤13):=fun l hl=>lens_le hp hs hl
 have Ho:Hid (∀ W',Le W W'→VwL W' b Ap cp p s):=fun W' h=>ho.le h
 generalize kAll s.s=ks at htx Hby Hbl H0
 clear hF ho
 go_enter Tryz.func179,Tryz.ntmps179
 go_wp2_with fail
 refine htx.mono ?_
 rintro e9 w9 ⟨rfl,hb9⟩
 obtain⟨c10,w10,hr10,hrow10,hb10⟩:=conv_Z w9 ks Hby.out (by rw [Hbl.out]; omega)
 have hs9:=hb9.size
 have hB10:=hb9.trans (hb10.mono hs9)
 have HR0:Hid (RowZ w10 W.heap.size (.slice (some ⟨w9.heap.size,0,none⟩) ks.length c10) (vkL s 0)):=by
  rw [H0.out]
  obtain⟨g,cap,h1,h2,h3⟩:=hrow10
  exact⟨g,cap,h1,by omega,h3⟩
 have Hld:Hid (w10.rangeAt b 16 [.slice (some ⟨bF 0,oF 0,none⟩) (lstV s 0).length (cF 0),.slice (some ⟨bF 1,oF 1,none⟩) (lstV s 1).length (cF 1),.slice (some ⟨bF 2,oF 2,none⟩) (lstV s 2).length (cF 2)]):=rangeL (n:=3) rfl fun j v hj hv=>by
  match j,hj,hv with
  | 0,_,hv=>injection hv with hv; rw [← hv]; exact Le.below hB10 _ _ (HF.out 0 (by omega)).1
  | 1,_,hv=>injection hv with hv; rw [← hv]; exact Le.below hB10 _ _ (HF.out 1 (by omega)).1
  | 2,_,hv=>injection hv with hv; rw [← hv]; exact Le.below hB10 _ _ (HF.out 2 (by omega)).1
 clear htx hrow10
 go_wp2_with (first | (refine wpList_load_mid (op:=⟨some 19,_,_,_,_,_⟩) (by rfl) _ _ (by rfl) b 16 (by rfl) [.slice (some ⟨bF 0,oF 0,none⟩) (lstV s 0).length (cF 0),.slice (some ⟨bF 1,oF 1,none⟩) (lstV s 1).length (cF 1),.slice (some ⟨bF 2,oF 2,none⟩) (lstV s 2).length (cF 2)] _ Hld.out Tryz.underlying106 (by rfl) (by kernel_rfl) ?_))
 go_loopg [3,20] 3 (fun g s3 s20 wr=>∃ (i:Nat) (v:Value),i≤3∧g=3-i∧v=s3∧s20=.int .i64 i∧Hid (RowZ wr W.heap.size v (vkL s i))∧Below W.heap.size W wr)
 case atStart=>exact⟨0,_,Nat.zero_le _,rfl,rfl,rfl,HR0.out,hB10⟩
 case round=>
  obtain⟨i,v,hi,rfl,rfl,rfl,hrow,hb⟩:=hrel
  have hs2:=hb.size
  by_cases hlt:i<3
  ·have hix:=fun w=>idxSF (A:=fun l=>some ⟨bF l,oF l,none⟩) (n:=fun l=>(lstV s l).length) (c:=cF) hlt w
   have hll:=HkL.out i hi
   obtain⟨hn0,hn13⟩:=Hn.out i hlt
   have HM0:Hid (vkL s i++[(((lstV s i).length:Nat):Int)]=vkM s i 0):=by show _=_; unfold vkM; simp
   have HMn:Hid (vkM s i (lstV s i).length=vkL s (i+1)):=(vkL_next s i).symm
   have Hcells:Hid (∀ W',Le W W'→∀ k,k<(lstV s i).length→W'.cell? ⟨bF i,oF i+k*5,none⟩=some (.int .u8 (gM (lstV s i) k).val)∧W'.cell? ⟨bF i,oF i+k*5+1,none⟩=some (.bool (gM (lstV s i) k).lock) ∧
    W'.cell? ⟨bF i,oF i+k*5+2,none⟩=some (.int .u8 (aV (gM (lstV s i) k).view 0))∧W'.cell? ⟨bF i,oF i+k*5+3,none⟩=some (.int .u8 (aV (gM (lstV s i) k).view 1))∧W'.cell? ⟨bF i,oF i+k*5+4,none⟩=some (.int .u8 (aV (gM (lstV s i) k).view 2))):=fun W' hW k hk=>by
    obtain⟨k0,k1,k2,k3,k4⟩:=(HF.out i hlt).2.2.2 k hk
    exact⟨hW _ _ k0,hW _ _ k1,hW _ _ k2,hW _ _ k3,hW _ _ k4⟩
   have Hnx:Hid (∀ j,j<(lstV s i).length→vkM s i (j+1)=vkM s i j++[(gM (lstV s i) j).val,if (gM (lstV s i) j).lock=true then 1 else 0]++vwL (gM (lstV s i) j).view):=fun j hj=>vkM_next hj
   have HkMi:Hid (∀ j,(vkM s i j).length≤300):=fun j=>HkM.out i j hlt
   have hili:(i:Int)<3:=by omega
   generalize vkL s i=L at hrow hll HM0
   have hA1:L.length+[(((lstV s i).length:Nat):Int)].length≤1000000:=by
    show L.length+1≤_
    omega
   have hn256:((lstV s i).length:Int) % 256=((lstV s i).length:Int):=by omega
   have HZ:=Lib.hid (hrow.out.below ((Below.refl _ _).alloc (Nat.le_refl _) (.cells #[.int .u8 ((lstV s i).length:Int)] 5)))
   have oT:=Own.new wr 5 #[.int .u8 ((lstV s i).length:Int)]
   have H1:Hid (SlR 1 (fun _=>QB) (wr.alloc (.cells #[.int .u8 ((lstV s i).length:Int)] 5)) (.slice (some ⟨wr.heap.size,0,none⟩) [(((lstV s i).length:Nat):Int)].length 1) [(((lstV s i).length:Nat):Int)]):=⟨_,_,rfl,by simp,fun j hj=>⟨wr.heap.size,0,rfl,fun _=>.int .u8 ((lstV s i).length:Int),fun k hk=>by
    obtain rfl:k=0:=by omega
    obtain rfl:j=0:=by simpa using hj
    exact oT.cell (i:=0) rfl,by
    obtain rfl:j=0:=by simpa using hj
    rfl⟩⟩
   have hBA:=hb.alloc hs2 (.cells #[.int .u8 ((lstV s i).length:Int)] 5)
   clear hrow oT
   go_wp2_with (at_builtin; refine wpList_append_Z (o:=⟨some 28,_,_,_,_,_⟩) (by rfl) _ _ _ (by rfl) 5 i0 Tryz.underlying22 hi0 hz0 hz1 hz2 W.heap.size v L (by rfl) HZ.out (some ⟨wr.heap.size,0,none⟩) 1 [(((lstV s i).length:Nat):Int)] (by rfl) H1.out hA1 hBA.size ?_; intro A8 c8 w8 hrow8 hb8; have hB8:=hBA.trans hb8; rw [HM0.out] at hrow8 ⊢)
   obtain⟨n,hn⟩:∃ n,n=(lstV s i).length:=⟨_,rfl⟩
   simp only [← hn] at hn0 hn13 hix Hcells Hnx HMn HkMi
   have Hnn:=Lib.hid hn
   rw [← hn]
   clear HZ H1 hBA hb8 hn256 HM0 hA1 hll HMn hn
   have HMn:Hid (vkM s i n=vkL s (i+1)):=by show _=_; rw [Hnn.out]; exact (vkL_next s i).symm
   go_loopg [3,31] n (fun g s3 s31 wr=>∃ (j:Nat) (v:Value),j≤n∧g=n-j∧v=s3∧s31=.int .i64 j∧Hid (RowZ wr W.heap.size v (vkM s i j))∧Below W.heap.size W wr)
   case atStart=>exact⟨0,_,Nat.zero_le _,rfl,rfl,rfl,hrow8,hB8⟩
   case round=>
    obtain⟨j,v,hj,rfl,rfl,rfl,hrow,hb⟩:=hrel
    have hs2:=hb.size
    by_cases hjn:j<n
    ·obtain⟨k0,k1,k2,k3,k4⟩:=Hcells.out wr (Le.below hb) j hjn
     have Hx:=Lib.hid (Hnx.out j hjn)
     have hll:=HkMi.out j
     have hji:(j:Int)<(n:Int):=by omega
     generalize vkM s i j=L at hrow hll Hx
     generalize gM (lstV s i) j=m at k0 k1 k2 k3 k4 Hx
     obtain⟨V7,hV7⟩:∃ V7,V7=wr.alloc (.cells #[.int .u8 m.val,.bool m.lock,.int .u8 (aV m.view 0),.int .u8 (aV m.view 1),.int .u8 (aV m.view 2)] 112):=⟨_,rfl⟩
     have hb7:Below wr.heap.size wr V7:=by rw [hV7]; exact (Below.refl _ _).alloc (Nat.le_refl _) _
     have o7:Own V7 wr.heap.size 112 #[.int .u8 m.val,.bool m.lock,.int .u8 (aV m.view 0),.int .u8 (aV m.view 1),.int .u8 (aV m.view 2)]:=by rw [hV7]; exact Own.new _ _ _
     have hB7:=hb.trans (hb7.mono hs2)
     have HZ7:=Lib.hid (hrow.out.below hb7)
     have hs7:=hb7.size
     have Hvb:Hid (∀ k,wr.heap.size≤k→v.ownBlock≠some k):=fun k hk e=>by
      obtain⟨g,cap,rfl,_,hl,_⟩:=hrow.out
      have e:some g=some k:=e
      injection e with e
      omega
     clear hrow
     go_upto_region 9 with (fail)
     try rw [← hV7]
     clear hV7
     have t0:V7.cell? ⟨wr.heap.size,0,none⟩=some (.int .u8 m.val):=o7.cell rfl
     have t1:V7.cell? ⟨wr.heap.size,1,none⟩=some (.bool m.lock):=o7.cell rfl
     have t2:V7.cell? ⟨wr.heap.size,2,none⟩=some (.int .u8 (aV m.view 0)):=o7.cell rfl
     have t3:V7.cell? ⟨wr.heap.size,3,none⟩=some (.int .u8 (aV m.view 1)):=o7.cell rfl
     have t4:V7.cell? ⟨wr.heap.size,4,none⟩=some (.int .u8 (aV m.view 2)):=o7.cell rfl
     have t5:=o7.lt
     have Hvs:Hid (∀ X:World,X.heap[wr.heap.size]?=V7.heap[wr.heap.size]?→SlR 1 (fun _=>QB) X (.slice (some ⟨wr.heap.size,2,none⟩) (vwL m.view).length 3) (vwL m.view)):=fun X hX=>three_s ((World.cell?_of_block hX).trans t2) ((World.cell?_of_block hX).trans t3) ((World.cell?_of_block hX).trans t4)
     have hbs7:W.heap.size≤V7.heap.size:=by omega
     clear k0 k1 k2 k3 k4
     have hA2:(vwL m.view).length=3:=rfl
     cases hlk:m.lock
     ·rw [hlk] at t1 Hx
      clear hlk
      have Hx:Hid (vkM s i (j+1)=L++[m.val,0]++vwL m.view):=Hx.out
      have H2:Hid (SlR 1 (fun _=>QB) (V7.alloc (.cells #[.int .u8 m.val,.int .u8 0] 5)).drew (.slice (some ⟨V7.heap.size,0,none⟩) [m.val,0].length 2) [m.val,0]):=two_s V7 m.val 0
      have hbD:Below V7.heap.size V7 (V7.alloc (.cells #[.int .u8 m.val,.int .u8 0] 5)).drew:=((Below.refl _ _).alloc (Nat.le_refl _) _).drew
      have HZD:=Lib.hid (HZ7.out.below hbD)
      have hBD:=hB7.trans (hbD.mono hbs7)
      have hsD:=hbD.size
      have HV8:Hid (∀ X:World,(∀ k,k<(V7.alloc (.cells #[.int .u8 m.val,.int .u8 0] 5)).drew.heap.size→v.ownBlock≠some k→X.heap[k]?=(V7.alloc (.cells #[.int .u8 m.val,.int .u8 0] 5)).drew.heap[k]?)→SlR 1 (fun _=>QB) X (.slice (some ⟨wr.heap.size,2,none⟩) (vwL m.view).length 3) (vwL m.view)):=fun X hX=>Hvs.out X (hX wr.heap.size (by simp; omega) (Hvb.out wr.heap.size (Nat.le_refl _)) |>.trans (Go.Deep.blk_alloc_lt _ _ _ t5))
      go_upto_region 12 with (fail)
      go_region_law (first
       | (refine step_append_Z (by rfl) _ _ _ (by rfl) 5 i0 Tryz.underlying22 hi0 hz0 hz1 hz2 W.heap.size v L (by rfl) HZD.out (some ⟨V7.heap.size,0,none⟩) 2 [m.val,0] (by rfl) H2.out (by simp; omega) hBD.size ?_; intro A8 c8 w8 hrow8 hb8 hk8; have hB8:=hBD.trans hb8; have hv8:=HV8.out _ hk8; obtain⟨L8,hL8⟩:∃ L8,L8=L++[m.val,0]:=⟨_,rfl⟩; rw [← hL8] at hrow8 ⊢; have hll8:L8.length≤L.length+2:=(by simp [hL8]); have HL8:=Lib.hid hL8; clear hL8)
       | (refine step_append_Z (by rfl) _ _ _ (by rfl) 5 i0 Tryz.underlying22 hi0 hz0 hz1 hz2 W.heap.size (.slice A8 L8.length c8) L8 (by rfl) hrow8 (some ⟨wr.heap.size,2,none⟩) 3 (vwL m.view) (by rfl) hv8 (by omega) (by have:=hB8.size; omega) ?_; intro A9 c9 w9' hrow9 hb9' hk9'; have hB9:=hB8.trans hb9'; rw [HL8.out,← Hx.out] at hrow9 ⊢))
      all_goals (go_wp2_with fail)
      all_goals
       go_roundg (n-(j+1))
       case measure=>omega
       case rel=>exact⟨j+1,_,by omega,rfl,rfl,by go_num,hrow9,hB9⟩
     ·rw [hlk] at t1 Hx
      clear hlk
      have Hx:Hid (vkM s i (j+1)=L++[m.val,1]++vwL m.view):=Hx.out
      have H2:Hid (SlR 1 (fun _=>QB) (V7.alloc (.cells #[.int .u8 m.val,.int .u8 1] 5)).drew (.slice (some ⟨V7.heap.size,0,none⟩) [m.val,1].length 2) [m.val,1]):=two_s V7 m.val 1
      have hbD:Below V7.heap.size V7 (V7.alloc (.cells #[.int .u8 m.val,.int .u8 1] 5)).drew:=((Below.refl _ _).alloc (Nat.le_refl _) _).drew
      have HZD:=Lib.hid (HZ7.out.below hbD)
      have hBD:=hB7.trans (hbD.mono hbs7)
      have hsD:=hbD.size
      have HV8:Hid (∀ X:World,(∀ k,k<(V7.alloc (.cells #[.int .u8 m.val,.int .u8 1] 5)).drew.heap.size→v.ownBlock≠some k→X.heap[k]?=(V7.alloc (.cells #[.int .u8 m.val,.int .u8 1] 5)).drew.heap[k]?)→SlR 1 (fun _=>QB) X (.slice (some ⟨wr.heap.size,2,none⟩) (vwL m.view).length 3) (vwL m.view)):=fun X hX=>Hvs.out X (hX wr.heap.size (by simp; omega) (Hvb.out wr.heap.size (Nat.le_refl _)) |>.trans (Go.Deep.blk_alloc_lt _ _ _ t5))
      go_upto_region 12 with (fail)
      go_region_law (first
       | (refine step_append_Z (by rfl) _ _ _ (by rfl) 5 i0 Tryz.underlying22 hi0 hz0 hz1 hz2 W.heap.size v L (by rfl) HZD.out (some ⟨V7.heap.size,0,none⟩) 2 [m.val,1] (by rfl) H2.out (by simp; omega) hBD.size ?_; intro A8 c8 w8 hrow8 hb8 hk8; have hB8:=hBD.trans hb8; have hv8:=HV8.out _ hk8; obtain⟨L8,hL8⟩:∃ L8,L8=L++[m.val,1]:=⟨_,rfl⟩; rw [← hL8] at hrow8 ⊢; have hll8:L8.length≤L.length+2:=(by simp [hL8]); have HL8:=Lib.hid hL8; clear hL8)
       | (refine step_append_Z (by rfl) _ _ _ (by rfl) 5 i0 Tryz.underlying22 hi0 hz0 hz1 hz2 W.heap.size (.slice A8 L8.length c8) L8 (by rfl) hrow8 (some ⟨wr.heap.size,2,none⟩) 3 (vwL m.view) (by rfl) hv8 (by omega) (by have:=hB8.size; omega) ?_; intro A9 c9 w9' hrow9 hb9' hk9'; have hB9:=hB8.trans hb9'; rw [HL8.out,← Hx.out] at hrow9 ⊢))
      all_goals (go_wp2_with fail)
      all_goals
       go_roundg (n-(j+1))
       case measure=>omega
       case rel=>exact⟨j+1,_,by omega,rfl,rfl,by go_num,hrow9,hB9⟩
    ·obtain rfl:j=n:=by omega
     go_wp2_with fail
     go_roundg (3-(i+1))
     case measure=>omega
     case rel=>exact⟨i+1,_,by omega,rfl,rfl,by go_num,by rw [← HMn.out]; exact hrow.out,hb⟩
  ·obtain rfl:i=3:=by omega
   have hO:=Ho.out wr (Le.below hb)
   have HL3:Hid (RowZ wr W.heap.size v (vkO s 0)):=by
    have h:vkO s 0=vkL s 3:=by unfold vkO; simp
    show RowZ _ _ _ _
    rw [h]
    exact hrow.out
   have Hown:Hid (∀ t,t<3→wr.cell? ⟨b,19+t*3+0,none⟩=some (.int .u8 (aV (ownV s t) 0))∧wr.cell? ⟨b,19+t*3+1,none⟩=some (.int .u8 (aV (ownV s t) 1))∧wr.cell? ⟨b,19+t*3+2,none⟩=some (.int .u8 (aV (ownV s t) 2))):=fun t ht=>⟨hO.own t 0 ht (by omega),hO.own t 1 ht (by omega),hO.own t 2 ht (by omega)⟩
   have Hl9:Hid (wr.rangeAt b 19 [.int .u8 (aV (ownV s 0) 0),.int .u8 (aV (ownV s 0) 1),.int .u8 (aV (ownV s 0) 2),.int .u8 (aV (ownV s 1) 0),.int .u8 (aV (ownV s 1) 1),.int .u8 (aV (ownV s 1) 2),.int .u8 (aV (ownV s 2) 0),.int .u8 (aV (ownV s 2) 1),.int .u8 (aV (ownV s 2) 2)]):=rangeL (n:=9) rfl fun j v hj hv=>by
    match j,hj,hv with
    | 0,_,hv=>injection hv with hv; rw [← hv]; exact (Hown.out 0 (by omega)).1
    | 1,_,hv=>injection hv with hv; rw [← hv]; exact (Hown.out 0 (by omega)).2.1
    | 2,_,hv=>injection hv with hv; rw [← hv]; exact (Hown.out 0 (by omega)).2.2
    | 3,_,hv=>injection hv with hv; rw [← hv]; exact (Hown.out 1 (by omega)).1
    | 4,_,hv=>injection hv with hv; rw [← hv]; exact (Hown.out 1 (by omega)).2.1
    | 5,_,hv=>injection hv with hv; rw [← hv]; exact (Hown.out 1 (by omega)).2.2
    | 6,_,hv=>injection hv with hv; rw [← hv]; exact (Hown.out 2 (by omega)).1
    | 7,_,hv=>injection hv with hv; rw [← hv]; exact (Hown.out 2 (by omega)).2.1
    | 8,_,hv=>injection hv with hv; rw [← hv]; exact (Hown.out 2 (by omega)).2.2
   clear hO hrow
   go_wp2_with (first | (refine wpList_load_mid (op:=⟨some 51,_,_,_,_,_⟩) (by rfl) _ _ (by rfl) b 19 (by rfl) [.int .u8 (aV (ownV s 0) 0),.int .u8 (aV (ownV s 0) 1),.int .u8 (aV (ownV s 0) 2),.int .u8 (aV (ownV s 1) 0),.int .u8 (aV (ownV s 1) 1),.int .u8 (aV (ownV s 1) 2),.int .u8 (aV (ownV s 2) 0),.int .u8 (aV (ownV s 2) 1),.int .u8 (aV (ownV s 2) 2)] _ Hl9.out Tryz.underlying108 (by rfl) (by kernel_rfl) ?_))
   go_loopg [3,52] 3 (fun g s3 s52 wr=>∃ (t:Nat) (v:Value),t≤3∧g=3-t∧v=s3∧s52=.int .i64 t∧Hid (RowZ wr W.heap.size v (vkO s t))∧Below W.heap.size W wr)
   case atStart=>exact⟨0,_,Nat.zero_le _,rfl,rfl,rfl,HL3.out,hb⟩
   case round=>
    obtain⟨t,v,ht,rfl,rfl,rfl,hrow,hb⟩:=hrel
    have hs2:=hb.size
    by_cases htl:t<3
    ·have hix:=fun w=>idxV3F (s:=s) htl w
     have Hx:=Lib.hid (vkO_next s t)
     have hll:=HkO.out t ht
     have hti:(t:Int)<3:=by omega
     have hA2:(vwL (ownV s t)).length=3:=rfl
     generalize vkO s t=L at hrow hll Hx
     obtain⟨V7,hV7⟩:∃ V7,V7=wr.alloc (.cells #[.int .u8 (aV (ownV s t) 0),.int .u8 (aV (ownV s t) 1),.int .u8 (aV (ownV s t) 2)] 107):=⟨_,rfl⟩
     have hb7:Below wr.heap.size wr V7:=by rw [hV7]; exact (Below.refl _ _).alloc (Nat.le_refl _) _
     have o7:Own V7 wr.heap.size 107 #[.int .u8 (aV (ownV s t) 0),.int .u8 (aV (ownV s t) 1),.int .u8 (aV (ownV s t) 2)]:=by rw [hV7]; exact Own.new _ _ _
     have hB7:=hb.trans (hb7.mono hs2)
     have HZ7:=Lib.hid (hrow.out.below hb7)
     have t5:=o7.lt
     have Hvs:Hid (SlR 1 (fun _=>QB) V7 (.slice (some ⟨wr.heap.size,0,none⟩) (vwL (ownV s t)).length 3) (vwL (ownV s t))):=three_s (o7.cell rfl) (o7.cell rfl) (o7.cell rfl)
     clear hrow
     go_upto_region 18 with (fail)
     try rw [← hV7]
     clear hV7
     go_wp2_with (at_builtin; refine wpList_append_Z (o:=⟨some 57,_,_,_,_,_⟩) (by rfl) _ _ _ (by rfl) 5 i0 Tryz.underlying22 hi0 hz0 hz1 hz2 W.heap.size v L (by rfl) HZ7.out (some ⟨wr.heap.size,0,none⟩) 3 (vwL (ownV s t)) (by rfl) Hvs.out (by omega) hB7.size ?_; intro A8 c8 w8 hrow8 hb8; have hB8:=hB7.trans hb8; rw [← Hx.out] at hrow8 ⊢)
     go_wp2_with fail
     go_roundg (3-(t+1))
     case measure=>omega
     case rel=>exact⟨t+1,_,by omega,rfl,rfl,by go_num,hrow8,hB8⟩
    ·obtain rfl:t=3:=by omega
     have hcv:=backZ hrow.out wr rfl
     rw [Hk.out] at hcv
     clear hrow
     go_wp2_with fail
     go_ret
     exact⟨rfl,hb⟩
end Go.Proofs.YtojmofnamppbdaaGreat
namespace Go.Proofs.YtojmofnamppbdaaGreat
open Go.RowKit
set_option linter.unusedVariables false
set_option maxRecDepth 100000
def lA (L:Nat→List Msg) (l k i:Nat):Nat→List Msg:=fun j=>if j<i then (L j).map (bumpM l k) else L j
def lB (L:Nat→List Msg) (l k i j:Nat):Nat→List Msg:=upF (lA L l k i) i (((L i).take j).map (bumpM l k)++(L i).drop j)
theorem lB_zero (L:Nat→List Msg) (l k i:Nat):lB L l k i 0=lA L l k i:=by
 funext q
 unfold lB upF lA
 by_cases e:q=i
 ·subst e
  rw [if_pos rfl,if_neg (Nat.lt_irrefl _)]
  rfl
 ·rw [if_neg e]
theorem lB_end (L:Nat→List Msg) (l k i:Nat):lB L l k i (L i).length=lA L l k (i+1):=by
 funext q
 unfold lB upF lA
 by_cases e:q=i
 ·subst e
  rw [if_pos rfl,if_pos (by omega),List.take_length,List.drop_length,List.append_nil]
 ·rw [if_neg e]
  by_cases h:q<i
  ·rw [if_pos h,if_pos (by omega)]
  ·rw [if_neg h,if_neg (by omega)]
theorem lB_len (L:Nat→List Msg) (l k i j q:Nat) (hj:j≤(L i).length):(lB L l k i j q).length=(L q).length:=by
 unfold lB upF lA
 by_cases e:q=i
 ·subst e
  rw [if_pos rfl,List.length_append,List.length_map,List.length_take,List.length_drop]
  omega
 ·rw [if_neg e]
  split
  ·rw [List.length_map]
  ·rfl
theorem lB_at (L:Nat→List Msg) (l k i j:Nat) (hj:j<(L i).length) (h:j<(lB L l k i j i).length):(lB L l k i j i)[j]=(L i)[j]:=by
 have e:lB L l k i j i=((L i).take j).map (bumpM l k)++(L i).drop j:=if_pos rfl
 simp only [e]
 rw [List.getElem_append_right (by rw [List.length_map,List.length_take]; omega)]
 simp only [List.length_map,List.length_take,List.getElem_drop]
 congr 1
 omega
theorem lB_set (L:Nat→List Msg) (l k i j:Nat) (hj:j<(L i).length):upF (lB L l k i j) i ((lB L l k i j i).set j (bumpM l k (L i)[j]))=lB L l k i (j+1):=by
 have e:lB L l k i j i=((L i).take j).map (bumpM l k)++(L i).drop j:=if_pos rfl
 funext q
 by_cases eq:q=i
 ·subst eq
  rw [upF_self,e]
  show _=upF _ _ _ _
  rw [upF_self,List.take_succ_eq_append_getElem hj,List.map_append,List.drop_eq_getElem_cons hj,List.set_append_right _ _ (by rw [List.length_map,List.length_take]; omega)]
  rw [List.length_map,List.length_take,show j-min j (L q).length=0 by omega,List.set_cons_zero,List.append_assoc]
  rfl
 ·rw [upF_ne _ _ eq]
  unfold lB
  rw [upF_ne _ _ eq,upF_ne _ _ eq]
section
variable {W W':World} {base R:Nat} {Ap:Option Addr} {cp:Nat} {p:Prg} {s:St} {L:Nat→List Msg} {O:Nat→List Nat} {v:Nat→Value}
theorem VwO.setV (h:VwO W base R Ap cp p s L O v) {i j g n c:Nat} (hi:i<3) (hv:v i=.slice (some ⟨g,0,none⟩) n c) (hj:j<(L i).length) (u:List Nat):
  VwO (((W.setCell ⟨g,j*5+2,none⟩ (.int .u8 (aV u 0))).setCell ⟨g,j*5+2+1,none⟩ (.int .u8 (aV u 1))).setCell ⟨g,j*5+2+2,none⟩ (.int .u8 (aV u 2))) base R Ap cp p s (upF L i ((L i).set j ⟨(L i)[j].val,(L i)[j].lock,u⟩)) O v:=by
 have hg:∀ q,q≠g→((((W.setCell ⟨g,j*5+2,none⟩ (.int .u8 (aV u 0))).setCell ⟨g,j*5+2+1,none⟩ (.int .u8 (aV u 1))).setCell ⟨g,j*5+2+2,none⟩ (.int .u8 (aV u 2)))).heap[q]?=W.heap[q]?:=fun q hq=>by
  rw [Go.Deep.blk_setCell_other _ _ _ _ hq,Go.Deep.blk_setCell_other _ _ _ _ hq,Go.Deep.blk_setCell_other _ _ _ _ hq]
 refine⟨h.blk.of_block (hg R fun e=>h.sep i hi (by rw [hv,e]; rfl)),h.ge,fun q hq=>?_,h.sep,h.apart⟩
 by_cases e:q=i
 ·subst e
  rw [upF_self]
  have hr:=h.row q hq
  rw [hv] at hr ⊢
  exact hr.setV hj u
 ·rw [upF_ne _ _ e]
  exact (h.row q hq).of_block fun g' _ hg' _=>hg g' fun eg=>h.apart i q hi hq (fun k=>e k.symm) g (by rw [hv]; rfl) (by rw [hg',eg])
theorem VwO.setO (h:VwO W base R Ap cp p s L O v) {t:Nat} (ht:t<3) (u:List Nat):
  VwO (((W.setCell ⟨R,19+t*3,none⟩ (.int .u8 (aV u 0))).setCell ⟨R,19+t*3+1,none⟩ (.int .u8 (aV u 1))).setCell ⟨R,19+t*3+2,none⟩ (.int .u8 (aV u 2))) base R Ap cp p s L (upF O t u) v:=by
 have hg:∀ q,q≠R→((((W.setCell ⟨R,19+t*3,none⟩ (.int .u8 (aV u 0))).setCell ⟨R,19+t*3+1,none⟩ (.int .u8 (aV u 1))).setCell ⟨R,19+t*3+2,none⟩ (.int .u8 (aV u 2)))).heap[q]?=W.heap[q]?:=fun q hq=>by
  rw [Go.Deep.blk_setCell_other _ _ _ _ hq,Go.Deep.blk_setCell_other _ _ _ _ hq,Go.Deep.blk_setCell_other _ _ _ _ hq]
 refine⟨?_,h.ge,fun q hq=>(h.row q hq).of_block fun g' _ hg' _=>hg g' fun eg=>h.sep q hq (by rw [hg',eg]),h.sep,h.apart⟩
 have h1:=((h.blk.set (19+t*3) (.int .u8 (aV u 0))).set (19+t*3+1) (.int .u8 (aV u 1))).set (19+t*3+2) (.int .u8 (aV u 2))
 rw [vwsC_setV ht] at h1
 exact h1
theorem VwO.ins (h:VwO W base R Ap cp p s L O v) {l g g' n c:Nat} (hl:l<3) (hv:v l=.slice (some ⟨g,0,none⟩) n c) {u:Value} {ms:List Msg} (hr:RowM W' base u ms) (hg:W.grownBy W' (some g)) (hu:u.ownBlock=some g') (hg':g'=g∨W.heap.size≤g'):
  VwO (W'.setCell ⟨R,16+l,none⟩ u) base R Ap cp p s (upF L l ms) O (upF v l u):=by
 have hRg:R≠g:=fun e=>h.sep l hl (by rw [hv,e]; rfl)
 have hRl:=h.lt
 have hRg':g'≠R:=by rcases hg' with e | e <;> omega
 have hbl:W'.heap[R]?=W.heap[R]?:=hg.block R hRl fun e=>hRg (Option.some.inj e)
 have hblk:=(h.blk.of_block hbl).set (16+l) u
 rw [vwsC_setL hl] at hblk
 refine⟨hblk,h.ge,fun q hq=>?_,fun q hq=>?_,fun q q' hq hq' hne x hx=>?_⟩
 ·by_cases e:q=l
  ·subst e
   rw [upF_self,upF_self]
   refine hr.of_block fun y _ hy _=>Go.Deep.blk_setCell_other _ _ _ _ ?_
   rw [hu] at hy
   injection hy with hy
   rw [← hy]
   exact hRg'
  ·rw [upF_ne _ _ e,upF_ne _ _ e]
   refine (h.row q hq).of_block fun y _ hy hylt=>?_
   rw [Go.Deep.blk_setCell_other _ _ _ _ (fun e'=>h.sep q hq (by rw [hy]; exact congrArg some e'))]
   exact hg.block y hylt fun e'=>h.apart q l hq hl e y hy (by rw [hv]; exact e'.symm)
 ·by_cases e:q=l
  ·subst e
   rw [upF_self,hu]
   exact fun e=>hRg' (by injection e)
  ·rw [upF_ne _ _ e]
   exact h.sep q hq
 ·by_cases e:q=l
  ·subst e
   rw [upF_self,hu] at hx
   injection hx with hx
   subst hx
   rw [upF_ne _ _ fun e=>hne e.symm]
   rcases hg' with e' | e'
   ·rw [e']
    exact h.apart q q' hq hq' hne g (by rw [hv]; rfl)
   ·intro hx
    have:=(RowOf.own_lt (h.row q' hq') hx).2
    omega
  ·rw [upF_ne _ _ e] at hx
   by_cases e2:q'=l
   ·subst e2
    rw [upF_self,hu]
    intro hx'
    injection hx' with hx'
    subst hx'
    rcases hg' with e' | e'
    ·exact h.apart q q' hq hq' hne g' hx (by rw [hv,e']; rfl)
    ·have:=(RowOf.own_lt (h.row q hq) hx).2
     omega
   ·rw [upF_ne _ _ e2]
    exact h.apart q q' hq hq' hne x hx
end
theorem RetIns.slice {W:World} {base g:Nat} {ms:List Msg} {e:Ending} {W':World} (h:RetIns W base g ms e W'):∃ A n c g',e=.returned (.slice A n c)∧RowM W' base (.slice A n c) ms∧W.grownBy W' (some g)∧(Value.slice A n c).ownBlock=some g'∧(g'=g∨W.heap.size≤g'):=by
 obtain⟨v',rfl,h1,h2,g',h3,h4⟩:=h
 obtain⟨A,c,rfl,_⟩:=RowOf.slice h1
 exact⟨A,_,c,g',rfl,h1,h2,h3,h4⟩
def KpB (R:Nat) (v:Nat→Value) (W wr:World):Prop:=W.heap.size≤wr.heap.size∧∀ j,j<W.heap.size→j≠R→(∀ l,l<3→(v l).ownBlock≠some j)→wr.heap[j]?=W.heap[j]?
theorem KpB.refl (R:Nat) (v:Nat→Value) (W:World):KpB R v W W:=⟨Nat.le_refl _,fun _ _ _ _=>rfl⟩
theorem KpB.below {R:Nat} {v:Nat→Value} {W wr w2:World} (h:KpB R v W wr) (hb:Below wr.heap.size wr w2):KpB R v W w2:=⟨Nat.le_trans h.1 hb.size,fun j hj h1 h2=>(hb.block j (Nat.lt_of_lt_of_le hj h.1)).trans (h.2 j hj h1 h2)⟩
theorem KpB.setR {R:Nat} {v:Nat→Value} {W wr:World} (h:KpB R v W wr) (o:Nat) (u:Value):KpB R v W (wr.setCell ⟨R,o,none⟩ u):=⟨by simpa using h.1,fun j hj h1 h2=>(Go.Deep.blk_setCell_other _ _ _ _ h1).trans (h.2 j hj h1 h2)⟩
theorem KpB.setG {R i g n c:Nat} {v:Nat→Value} {W wr:World} (h:KpB R v W wr) (hi:i<3) (hv:v i=.slice (some ⟨g,0,none⟩) n c) (o:Nat) (u:Value):KpB R v W (wr.setCell ⟨g,o,none⟩ u):=⟨by simpa using h.1,fun j hj h1 h2=>(Go.Deep.blk_setCell_other _ _ _ _ (fun e=>h2 i hi (by rw [hv,e]; rfl))).trans (h.2 j hj h1 h2)⟩
theorem KpB.grown {R i g n c:Nat} {v:Nat→Value} {W wr w2:World} (h:KpB R v W wr) (hi:i<3) (hv:v i=.slice (some ⟨g,0,none⟩) n c) (hg:wr.grownBy w2 (some g)):KpB R v W w2:=⟨Nat.le_trans h.1 hg.size,fun j hj h1 h2=>(hg.block j (Nat.lt_of_lt_of_le hj h.1) (fun e=>h2 i hi (by rw [hv,Option.some.inj e]; rfl))).trans (h.2 j hj h1 h2)⟩
theorem bump_B {l k:Nat} {v:List Nat} (hv:VwB v) (hl:l<3):(bumpV l k v).length=3:=by rw [bump_len]; exact hv.1
def putLV (L:Nat→List Msg) (O:Nat→List Nat) (t l k:Nat) (x:Int):Nat→List Msg:=upF (lA L l k 3) l (((lA L l k 3 l).take k)++⟨x,false,(bumpV l k (O t)).set l k⟩::(lA L l k 3 l).drop k)
def oA (O:Nat→List Nat) (l k i:Nat):Nat→List Nat:=fun u=>if u<i then bumpV l k (O u) else O u
def putOV (O:Nat→List Nat) (t l k:Nat):Nat→List Nat:=upF (oA O l k 3) t ((bumpV l k (O t)).set l k)
set_option maxHeartbeats 8000000 in
theorem put_any (p:Prg) (s:St) (L:Nat→List Msg) (O:Nat→List Nat) (W:World) (base R:Nat) (Ap:Option Addr) (cp:Nat) (v:Nat→Value) (ho:VwO W base R Ap cp p s L O v) (hL:∀ j,j<3→0<(L j).length∧(L j).length≤100) (hM:∀ j,j<3→∀ m∈L j,VwB m.view) (hOb:∀ u,VwB (O u)) (t l k:Nat) (ht:t<3) (hl:l<3) (hk:k≤(L l).length) (x:Int):
  Calls Tryz.prog 185 #[.pointer (some ⟨R,0,none⟩),.int .i64 t,.int .i64 l,.int .u8 k,.int .u8 x] W (fun e W'=>e=.returned (.tuple #[])∧∃ v',VwO W' base R Ap cp p s (putLV L O t l k x) (putOV O t l k) v'∧Below base W W'∧KpB R v W W'):=by
 have hbase:base≤W.heap.size:=by have:=ho.ge; have:=ho.lt; omega
 have hk100:k≤100:=by have:=(hL l hl).2; omega
 have HL:=Lib.hid hL
 have HM:=Lib.hid hM
 have HO:=Lib.hid hOb
 have h00:lA L l k 0=L:=by
  funext j
  unfold lA
  rw [if_neg (Nat.not_lt_zero _)]
 have Ho:Hid (VwO W base R Ap cp p s (lA L l k 0) O v):=by show VwO _ _ _ _ _ _ _ _ _ _; rw [h00]; exact ho
 clear ho hL hM hOb h00
 go_enter Tryz.func185,Tryz.ntmps185
 go_wp2_with fail
 go_loopg [13] 3 (fun g s13 wr=>∃ i:Nat,i≤3∧g=3-i∧s13=.int .i64 i∧Hid (VwO wr base R Ap cp p s (lA L l k i) O v)∧Below base W wr∧Hid (KpB R v W wr))
 case atStart=>exact⟨0,Nat.zero_le _,rfl,rfl,Ho.out,Below.refl _ _,KpB.refl _ _ _⟩
 case round=>
  obtain⟨wo,rfl⟩:∃ wo:World,wo=wr:=⟨_,rfl⟩
  obtain⟨i,hi,rfl,rfl,hO,hb,hKp⟩:=hrel
  by_cases hlt:i<3
  ·have hrow:=hO.out.row i hlt
   have hLi:lA L l k i i=L i:=if_neg (Nat.lt_irrefl _)
   rw [hLi] at hrow
   obtain⟨hn0,hn100⟩:=HL.out i hlt
   obtain⟨A,c,hv,_⟩:=RowOf.slice hrow
   have hrow':=hrow
   rw [hv] at hrow'
   obtain⟨g,rfl,_,hgl,_,_,_⟩:=RowM.at hrow' hn0
   clear hrow' hrow hLi
   have k0:wo.cell? ⟨R,16+i,none⟩=some (.slice (some ⟨g,0,none⟩) (L i).length c):=by
    rw [← hv]
    exact hO.out.blk.cell (vwsC_lst hlt)
   have Hv:=Lib.hid hv
   have hii:(i:Int)<3:=by omega
   have HB0:Hid (VwO wo base R Ap cp p s (lB L l k i 0) O v):=by show VwO _ _ _ _ _ _ _ _ _ _; rw [lB_zero]; exact hO.out
   have HBe:Hid (lB L l k i (L i).length=lA L l k (i+1)):=lB_end L l k i
   have HBl:Hid (∀ j,j≤(L i).length→(lB L l k i j i).length=(L i).length):=fun j hj=>lB_len L l k i j i hj
   obtain⟨n,hn⟩:∃ n,n=(L i).length:=⟨_,rfl⟩
   have Hn:=Lib.hid hn
   rw [← hn] at hn0 hn100 k0
   have HBe':Hid (lB L l k i n=lA L l k (i+1)):=by show _=_; rw [hn]; exact HBe.out
   clear hv hn HBe
   go_wp2_with fail
   go_loopg [23] n (fun g' s23 wr=>∃ j:Nat,j≤n∧g'=n-j∧s23=.int .i64 j∧Hid (VwO wr base R Ap cp p s (lB L l k i j) O v)∧Below base W wr∧Hid (KpB R v W wr))
   case atStart=>exact⟨0,Nat.zero_le _,rfl,rfl,HB0.out,hb,hKp.out⟩
   case round=>
    obtain⟨wo,rfl⟩:∃ wo:World,wo=wr:=⟨_,rfl⟩
    obtain⟨j,hj,rfl,rfl,hO,hb,hKp⟩:=hrel
    by_cases hjn:j<n
    ·have hjL:j<(L i).length:=by rw [← Hn.out]; exact hjn
     have k0:wo.cell? ⟨R,16+i,none⟩=some (.slice (some ⟨g,0,none⟩) n c):=by
      rw [Hn.out,← Hv.out]
      exact hO.out.blk.cell (vwsC_lst hlt)
     have hrow:=hO.out.row i hlt
     rw [Hv.out] at hrow
     have hjB:j<(lB L l k i j i).length:=by rw [HBl.out j (by rw [← Hn.out]; omega)]; exact hjL
     obtain⟨g',eg,hgb,hgl,hfr,_,hcells⟩:=RowM.at hrow hjB
     injection eg with eg
     injection eg with eg
     subst eg
     obtain⟨_,_,c2,c3,c4⟩:=hcells j hjB
     rw [lB_at L l k i j hjL hjB] at c2 c3 c4
     have f2:=hfr (j*5+2)
     have f3:=hfr (j*5+2+1)
     have f4:=hfr (j*5+2+2)
     have hvb:=HM.out i hlt _ (List.getElem_mem hjL)
     have hRg:R≠g:=fun e=>hO.out.sep i hlt (by rw [Hv.out,e]; rfl)
     have hRl:=hO.out.lt
     have Hgb:=Lib.hid hgb
     have Hset:Hid (∀ X,Below wo.heap.size wo X→VwO (((X.setCell ⟨g,j*5+2,none⟩ (.int .u8 (aV (bumpV l k (L i)[j].view) 0))).setCell ⟨g,j*5+2+1,none⟩ (.int .u8 (aV (bumpV l k (L i)[j].view) 1))).setCell ⟨g,j*5+2+2,none⟩ (.int .u8 (aV (bumpV l k (L i)[j].view) 2))) base R Ap cp p s (lB L l k i (j+1)) O v):=fun X hX=>by
      have h1:=(hO.out.under hX).setV hlt Hv.out hjB (bumpV l k (L i)[j].view)
      rw [lB_at L l k i j hjL hjB] at h1
      rw [← lB_set L l k i j hjL]
      exact h1
     have Hmv:Hid (∀ X:World,Calls Tryz.prog 190 #[.agg #[.int .u8 (aV (L i)[j].view 0),.int .u8 (aV (L i)[j].view 1),.int .u8 (aV (L i)[j].view 2)],.int .i64 l,.int .u8 k] X (fun e W'=>e=.returned (.agg #[.int .u8 (aV (bumpV l k (L i)[j].view) 0),.int .u8 (aV (bumpV l k (L i)[j].view) 1),.int .u8 (aV (bumpV l k (L i)[j].view) 2)])∧Below X.heap.size X W')):=fun X=>moved_any _ hvb l k hl hk100 X
     generalize hw:bumpV l k (L i)[j].view=bw at Hset Hmv
     generalize aV bw 0=b0 at Hset Hmv
     generalize aV bw 1=b1 at Hset Hmv
     generalize aV bw 2=b2 at Hset Hmv
     generalize aV (L i)[j].view 0=a0 at c2 Hmv
     generalize aV (L i)[j].view 1=a1 at c3 Hmv
     generalize aV (L i)[j].view 2=a2 at c4 Hmv
     have hji:(j:Int)<(n:Int):=by omega
     clear hw hcells hrow hfr
     go_upto_region 6 with (fail)
     have c3':wo.cell? ⟨g,j*5+2+1,none⟩=some (.int .u8 a1):=c3
     have c4':wo.cell? ⟨g,j*5+2+2,none⟩=some (.int .u8 a2):=c4
     go_region_with ((go_at_call 190; ((with_reducible refine (Hmv.out _).mono ?_); rintro e5 w5 ⟨rfl,hb5⟩; have hb5':Below wo.heap.size wo w5:=below_of_drewS hb5; have r0:=Le.below hb5' _ _ k0; have r2:=Le.below hb5' _ _ c2; have r3:=Le.below hb5' _ _ c3'; have r4:=Le.below hb5' _ _ c4'; have g2:=(World.frozen?_of_block (w:=wo) (hb5'.block g hgl)).trans f2; have g3:=(World.frozen?_of_block (w:=wo) (hb5'.block g hgl)).trans f3; have g4:=(World.frozen?_of_block (w:=wo) (hb5'.block g hgl)).trans f4; have hgl5:g<w5.heap.size:=Nat.lt_of_lt_of_le hgl hb5'.size)))
     all_goals (go_wp2_with fail)
     all_goals
      go_roundg (n-(j+1))
      case measure=>omega
      case rel=>exact⟨j+1,by omega,rfl,by go_num,Hset.out _ hb5',(((hb.trans (hb5'.mono (Nat.le_trans hbase hb.size))).setCell Hgb.out _).setCell Hgb.out _).setCell Hgb.out _,(((hKp.out.below hb5').setG hlt Hv.out _ _).setG hlt Hv.out _ _).setG hlt Hv.out _ _⟩
    ·obtain rfl:j=n:=by omega
     have HE:Hid (VwO wo base R Ap cp p s (lA L l k (i+1)) O v):=by show VwO _ _ _ _ _ _ _ _ _ _; rw [← HBe'.out]; exact hO.out
     go_wp2_with fail
     go_roundg (3-(i+1))
     case measure=>omega
     case rel=>exact⟨i+1,by omega,rfl,by go_num,HE.out,hb,hKp.out⟩
  ·obtain rfl:i=3:=by omega
   have HO0:Hid (VwO wo base R Ap cp p s (lA L l k 3) (oA O l k 0) v):=by
    have e:oA O l k 0=O:=by
     funext u
     exact if_neg (Nat.not_lt_zero _)
    show VwO _ _ _ _ _ _ _ _ _ _
    rw [e]
    exact hO.out
   go_wp2_with fail
   go_loopg [50] 3 (fun g s50 wr=>∃ u:Nat,u≤3∧g=3-u∧s50=.int .i64 u∧Hid (VwO wr base R Ap cp p s (lA L l k 3) (oA O l k u) v)∧Below base W wr∧Hid (KpB R v W wr))
   case atStart=>exact⟨0,Nat.zero_le _,rfl,rfl,HO0.out,hb,hKp.out⟩
   case round=>
    obtain⟨wo,rfl⟩:∃ wo:World,wo=wr:=⟨_,rfl⟩
    obtain⟨u,hu,rfl,rfl,hO,hb,hKp⟩:=hrel
    by_cases hut:u<3
    ·have hou:oA O l k u u=O u:=if_neg (Nat.lt_irrefl _)
     have c2:=hO.out.blk.cell (vwsC_own (v:=v) (O:=oA O l k u) hut (l:=0) (by omega))
     have c3:=hO.out.blk.cell (vwsC_own (v:=v) (O:=oA O l k u) hut (l:=1) (by omega))
     have c4:=hO.out.blk.cell (vwsC_own (v:=v) (O:=oA O l k u) hut (l:=2) (by omega))
     rw [hou] at c2 c3 c4
     have c2:wo.cell? ⟨R,19+u*3,none⟩=some (.int .u8 (aV (O u) 0)):=c2
     have f2:=hO.out.blk.frozen (19+u*3)
     have f3:=hO.out.blk.frozen (19+u*3+1)
     have f4:=hO.out.blk.frozen (19+u*3+2)
     have hRl:=hO.out.lt
     have hRb:=hO.out.ge
     have Hset:Hid (∀ X,Below wo.heap.size wo X→VwO (((X.setCell ⟨R,19+u*3,none⟩ (.int .u8 (aV (bumpV l k (O u)) 0))).setCell ⟨R,19+u*3+1,none⟩ (.int .u8 (aV (bumpV l k (O u)) 1))).setCell ⟨R,19+u*3+2,none⟩ (.int .u8 (aV (bumpV l k (O u)) 2))) base R Ap cp p s (lA L l k 3) (oA O l k (u+1)) v):=fun X hX=>by
      have h1:=(hO.out.under hX).setO hut (bumpV l k (O u))
      have e:upF (oA O l k u) u (bumpV l k (O u))=oA O l k (u+1):=by
       funext q
       unfold upF oA
       by_cases e:q=u
       ·subst e
        rw [if_pos rfl,if_pos (by omega)]
       ·rw [if_neg e]
        by_cases h:q<u
        ·rw [if_pos h,if_pos (by omega)]
        ·rw [if_neg h,if_neg (by omega)]
      rw [e] at h1
      exact h1
     have Hmv:Hid (∀ X:World,Calls Tryz.prog 190 #[.agg #[.int .u8 (aV (O u) 0),.int .u8 (aV (O u) 1),.int .u8 (aV (O u) 2)],.int .i64 l,.int .u8 k] X (fun e W'=>e=.returned (.agg #[.int .u8 (aV (bumpV l k (O u)) 0),.int .u8 (aV (bumpV l k (O u)) 1),.int .u8 (aV (bumpV l k (O u)) 2)])∧Below X.heap.size X W')):=fun X=>moved_any _ (HO.out u) l k hl hk100 X
     generalize aV (bumpV l k (O u)) 0=b0 at Hset Hmv
     generalize aV (bumpV l k (O u)) 1=b1 at Hset Hmv
     generalize aV (bumpV l k (O u)) 2=b2 at Hset Hmv
     generalize aV (O u) 0=a0 at c2 Hmv
     generalize aV (O u) 1=a1 at c3 Hmv
     generalize aV (O u) 2=a2 at c4 Hmv
     have hui:(u:Int)<3:=by omega
     clear hou
     go_upto_region 12 with (fail)
     go_region_with ((go_at_call 190; ((with_reducible refine (Hmv.out _).mono ?_); rintro e5 w5 ⟨rfl,hb5⟩; have hb5':Below wo.heap.size wo w5:=below_of_drewS hb5; have r2:=Le.below hb5' _ _ c2; have r3:=Le.below hb5' _ _ c3; have r4:=Le.below hb5' _ _ c4; have g2:=(World.frozen?_of_block (w:=wo) (hb5'.block R hRl)).trans f2; have g3:=(World.frozen?_of_block (w:=wo) (hb5'.block R hRl)).trans f3; have g4:=(World.frozen?_of_block (w:=wo) (hb5'.block R hRl)).trans f4; have hRl5:R<w5.heap.size:=Nat.lt_of_lt_of_le hRl hb5'.size)))
     all_goals (go_wp2_with fail)
     all_goals
      go_roundg (3-(u+1))
      case measure=>omega
      case rel=>exact⟨u+1,by omega,rfl,by go_num,Hset.out _ hb5',(((hb.trans (hb5'.mono (Nat.le_trans hbase hb.size))).setCell hRb _).setCell hRb _).setCell hRb _,(((hKp.out.below hb5').setR _ _).setR _ _).setR _ _⟩
    ·obtain rfl:u=3:=by omega
     have hot:oA O l k 3 t=bumpV l k (O t):=if_pos ht
     have d0:=hO.out.blk.cell (vwsC_own (v:=v) (O:=oA O l k 3) ht hl)
     have d1:=hO.out.blk.frozen (19+t*3+l)
     have hRl:=hO.out.lt
     have hRb:=hO.out.ge
     have hti:(t:Int)<3:=by omega
     have hli:(l:Int)<3:=by omega
     obtain⟨V,hV⟩:∃ V,V=wo.setCell ⟨R,19+t*3+l,none⟩ (.int .u8 (k:Int)):=⟨_,rfl⟩
     have hOV:VwO V base R Ap cp p s (lA L l k 3) (putOV O t l k) v:=by
      rw [hV]
      refine⟨?_,hO.out.ge,fun q hq=>(hO.out.row q hq).of_block fun g' _ hg' _=>Go.Deep.blk_setCell_other _ _ _ _ fun eg=>hO.out.sep q hq (by rw [hg']; exact congrArg some eg),hO.out.sep,hO.out.apart⟩
      have h1:=hO.out.blk.set (19+t*3+l) (.int .u8 (k:Int))
      rw [vwsC_setO ht hl (by rw [hot]; exact bump_B (HO.out t) hl),hot] at h1
      exact h1
     have hBV:Below base W V:=by rw [hV]; exact hb.setCell hRb _
     have HKV:Hid (KpB R v W V):=by show KpB _ _ _ _; rw [hV]; exact hKp.out.setR _ _
     have HOV:=Lib.hid hOV
     go_upto_region 15 with (fail)
     rw [← hV]
     clear hV d0 d1 hot
     have hlen:(lA L l k 3 l).length=(L l).length:=by
      unfold lA
      rw [if_pos hl,List.length_map]
     obtain⟨hn0,hn100⟩:=HL.out l hl
     have hrow:=HOV.out.row l hl
     obtain⟨A,c,hv,_⟩:=RowOf.slice hrow
     have hrow':=hrow
     rw [hv] at hrow'
     obtain⟨g,rfl,hgb,hgl,_,_,_⟩:=RowM.at hrow' (i:=0) (by rw [hlen]; exact hn0)
     have hgR:R≠g:=fun e=>HOV.out.sep l hl (by rw [hv,e]; rfl)
     have k0:V.cell? ⟨R,16+l,none⟩=some (.slice (some ⟨g,0,none⟩) (lA L l k 3 l).length c):=by
      rw [← hv]
      exact HOV.out.blk.cell (vwsC_lst hl)
     have k1:=HOV.out.blk.frozen (16+l)
     have hPt:putOV O t l k t=(bumpV l k (O t)).set l k:=upF_self _ _ _
     have c2:=HOV.out.blk.cell (vwsC_own (v:=v) (O:=putOV O t l k) ht (l:=0) (by omega))
     have c3:=HOV.out.blk.cell (vwsC_own (v:=v) (O:=putOV O t l k) ht (l:=1) (by omega))
     have c4:=HOV.out.blk.cell (vwsC_own (v:=v) (O:=putOV O t l k) ht (l:=2) (by omega))
     have c2:V.cell? ⟨R,19+t*3,none⟩=some (.int .u8 (aV (putOV O t l k t) 0)):=c2
     rw [hPt] at c2 c3 c4
     obtain⟨m,hm⟩:∃ m:Msg,m=⟨x,false,(bumpV l k (O t)).set l k⟩:=⟨_,rfl⟩
     have hmv:(bumpV l k (O t)).set l k=m.view:=by rw [hm]
     have hmx:x=m.val:=by rw [hm]
     have hml:false=m.lock:=by rw [hm]
     rw [hmv] at c2 c3 c4
     obtain⟨n,hn⟩:∃ n,n=(lA L l k 3 l).length:=⟨_,rfl⟩
     have Hins:Hid (∀ (X:World) (h:Nat),VwO X base R Ap cp p s (lA L l k 3) (putOV O t l k) v→base≤X.heap.size→Own X h 112 #[.int .u8 x,.bool false,.int .u8 (aV m.view 0),.int .u8 (aV m.view 1),.int .u8 (aV m.view 2)]→h≠g→Calls Tryz.prog 191 #[.slice (some ⟨g,0,none⟩) n c,.int .i64 k,.slice (some ⟨h,0,none⟩) 1 1] X (RetIns X base g ((lA L l k 3 l).take k++m::(lA L l k 3 l).drop k))):=fun X h hX hbX hh hne=>by
      have hr:=hX.row l hl
      rw [hv] at hr
      rw [hn]
      exact insM_any (lA L l k 3 l) m k (by rw [hlen]; exact hk) (by rw [hlen]; exact hn0) (by rw [hlen]; omega) X base g c h hr (by
       show Own _ _ _ #[.int .u8 m.val,.bool m.lock,.int .u8 (aV m.view 0),.int .u8 (aV m.view 1),.int .u8 (aV m.view 2)]
       rw [← hmx,← hml]
       exact hh) hne hbX
     have Hend:Hid (∀ (X W':World) (A:Option Addr) (n' c' g':Nat),VwO X base R Ap cp p s (lA L l k 3) (putOV O t l k) v→RowM W' base (.slice A n' c') ((lA L l k 3 l).take k++m::(lA L l k 3 l).drop k)→X.grownBy W' (some g)→(Value.slice A n' c').ownBlock=some g'→(g'=g∨X.heap.size≤g')→∃ v',VwO (W'.setCell ⟨R,16+l,none⟩ (.slice A n' c')) base R Ap cp p s (putLV L O t l k x) (putOV O t l k) v'):=fun X W' A n' c' g' hX hr hg hu hg'=>by
      refine⟨upF v l (.slice A n' c'),?_⟩
      have h1:=hX.ins hl hv hr hg hu hg'
      unfold putLV
      rw [← hm]
      exact h1
     have hbase':base≤V.heap.size:=Nat.le_trans hbase hBV.size
     have Hgb:=Lib.hid hgb
     have hRlV:=HOV.out.lt
     rw [← hn] at k0
     have hgV:V.heap.size≠g:=by omega
     have Hv:=Lib.hid hv
     clear hrow hrow' hv hm hmv hmx hml hn hPt hlen
     generalize aV m.view 0=b0 at c2 Hins
     generalize aV m.view 1=b1 at c3 Hins
     generalize aV m.view 2=b2 at c4 Hins
     have hwk:IntKind.i64.wrap (k:Int)=(k:Int):=by rw [IntKind.wrap_i64]; omega
     go_region_with ((go_at_call 191; ((with_reducible refine (Hins.out _ _ ?_ ?_ ?_ ?_).mono ?_); (first | exact (HOV.out.alloc _).drew | exact HOV.out.drew.alloc _); (first | exact hbase' | (simp; omega)); (first | exact (Own.new V _ _).drew | exact Own.new V.drew _ _ | exact Own.new V _ _); (first | exact hgV | (simp; omega)); intro e5 w5 h5; obtain⟨A5,n5,c5,g5,rfl,hr5,hg5,hu5,hg5'⟩:=h5.slice; have hRw:w5.heap[R]?=V.heap[R]?:=(hg5.block R (by simp; omega) (fun e=>hgR (Option.some.inj e))).trans (Go.Deep.blk_alloc_lt _ _ _ hRlV); have r0:w5.cell? ⟨R,16+l,none⟩=some (.slice (some ⟨g,0,none⟩) n c):=(World.cell?_of_block (w:=V) hRw).trans k0; have r1:=(World.frozen?_of_block (w:=V) (a:=⟨R,16+l,none⟩) hRw).trans k1; have hR5:R<w5.heap.size:=Nat.lt_of_lt_of_le (Nat.lt_of_lt_of_le hRlV (by simp)) hg5.size)))
     all_goals (go_wp2_with fail)
     all_goals
      go_end0
      have hX:VwO (V.alloc (.cells #[.int .u8 x,.bool false,.int .u8 b0,.int .u8 b1,.int .u8 b2] 112)).drew base R Ap cp p s (lA L l k 3) (putOV O t l k) v:=(HOV.out.alloc _).drew
      obtain⟨v',hv'⟩:=Hend.out _ _ A5 n5 c5 g5 hX hr5 hg5 hu5 hg5'
      exact⟨rfl,v',hv',(below_of_grown ((hBV.alloc hbase' _).drew) hg5 (by simp; omega) (fun y hy=>by rw [← Option.some.inj hy]; exact Hgb.out)).setCell HOV.out.ge _,((HKV.out.below (((Below.refl _ _).alloc (Nat.le_refl _) _).drew)).grown hl Hv.out hg5).setR _ _⟩
end Go.Proofs.YtojmofnamppbdaaGreat
namespace Go.Proofs.YtojmofnamppbdaaGreat
open Go.RowKit
set_option linter.unusedVariables false
set_option maxRecDepth 100000
def zV (R i l:Nat):Value:=if l<i then .slice (some ⟨R+1+l,0,none⟩) 1 1 else .slice none 0 0
def z3:Nat→List Nat:=fun _=>[0,0,0]
theorem vws0 {p:Prg} (Ap:Option Addr) (cp:Nat) (v:Nat→Value):vwsC Ap cp p (st0 p) v z3=#[.slice Ap p.length cp,.int .u8 0,.int .u8 0,.int .u8 0,.int .u8 0,.int .u8 0,.int .u8 0,.int .u8 0,.int .u8 0,.int .u8 0,.int .u8 0,.int .u8 0,.int .u8 0,.int .u8 0,.int .u8 0,.int .u8 0,v 0,v 1,v 2,.int .u8 0,.int .u8 0,.int .u8 0,.int .u8 0,.int .u8 0,.int .u8 0,.int .u8 0,.int .u8 0,.int .u8 0]:=by
 have h1:∀ t,pcS (st0 p) t=0:=fun t=>by
  unfold pcS st0
  rw [List.getD_eq_getElem?_getD,List.getElem?_replicate]
  split <;> rfl
 have h2:∀ t,rgF (st0 p) t=0:=fun t=>by
  unfold rgF st0
  rw [List.getD_eq_getElem?_getD,List.getElem?_replicate]
  split <;> rfl
 unfold vwsC pcV rgV meV
 simp only [h1,h2]
 rfl
set_option maxHeartbeats 2000000 in
theorem newViews_any (p:Prg) (hp:p.length≤100) (W:World) (vp:Value) (hpr:PrgS W vp p):
  Calls Tryz.prog 43 #[vp] W (fun e W'=>∃ Ap cp b,vp=.slice Ap p.length cp∧e=.returned (.iface 100 (.pointer (some ⟨b,0,none⟩)))∧VwL W' b Ap cp p (vt0 p)∧PrgS W' (.slice Ap p.length cp) p∧Below W.heap.size W W'):=by
 obtain⟨Ap,cp,rfl,hpl⟩:=SlR.slice hpr
 obtain⟨V,hV⟩:∃ V,V=W.alloc (.cells (vwsC Ap cp p (st0 p) (zV W.heap.size 0) z3) 110):=⟨_,rfl⟩
 have hB:Below W.heap.size W V:=by rw [hV]; exact (Below.refl _ _).alloc (Nat.le_refl _) _
 have oC:Own V W.heap.size 110 (vwsC Ap cp p (st0 p) (zV W.heap.size 0) z3):=by rw [hV]; exact Own.new _ _ _
 have HS:Hid (V.heap.size=W.heap.size+1+0):=by show _=_; rw [hV]; simp
 have hV2:V=W.alloc (.cells #[.slice Ap p.length cp,.int .u8 0,.int .u8 0,.int .u8 0,.int .u8 0,.int .u8 0,.int .u8 0,.int .u8 0,.int .u8 0,.int .u8 0,.int .u8 0,.int .u8 0,.int .u8 0,.int .u8 0,.int .u8 0,.int .u8 0,.slice none 0 0,.slice none 0 0,.slice none 0 0,.int .u8 0,.int .u8 0,.int .u8 0,.int .u8 0,.int .u8 0,.int .u8 0,.int .u8 0,.int .u8 0,.int .u8 0] 110):=by rw [hV,vws0]; rfl
 have HR:Hid (∀ X,Le W X→PrgS X (.slice Ap p.length cp) p):=fun X h=>hpr.le h
 clear hV hpr
 obtain⟨n,hn⟩:∃ n,n=p.length:=⟨_,rfl⟩
 have HN:=Lib.hid hn
 rw [← hn] at hV2 hp hpl HR ⊢
 clear hn
 go_enter Tryz.func43,Tryz.ntmps43
 go_upto_region 2 with (fail)
 rw [← hV2]
 clear hV2
 go_wp2_with fail
 go_loopg [9] 3 (fun g s9 wr=>∃ i:Nat,i≤3∧g=3-i∧s9=.int .i64 i∧Hid (Own wr W.heap.size 110 (vwsC Ap cp p (st0 p) (zV W.heap.size i) z3))∧Hid (∀ l,l<i→Own wr (W.heap.size+1+l) 112 #[.int .u8 0,.bool false,.int .u8 0,.int .u8 0,.int .u8 0])∧Hid (wr.heap.size=W.heap.size+1+i)∧Below W.heap.size W wr)
 case atStart=>exact⟨0,Nat.zero_le _,rfl,rfl,oC,fun l hl=>absurd hl (Nat.not_lt_zero _),HS.out,hB⟩
 case round=>
  obtain⟨wo,rfl⟩:∃ wo:World,wo=wr:=⟨_,rfl⟩
  obtain⟨i,hi,rfl,rfl,hO,hG,hS,hb⟩:=hrel
  by_cases hlt:i<3
  ·have k0:wo.cell? ⟨W.heap.size,16+i,none⟩=some (.slice none 0 0):=by
    have h:=hO.out.cell (vwsC_lst (v:=zV W.heap.size i) hlt)
    rw [h]
    unfold zV
    rw [if_neg (Nat.lt_irrefl _)]
   have k1:=hO.out.frozen (16+i)
   have k2:=hO.out.lt
   have hii:(i:Int)<3:=by omega
   have HN':Hid (Own ((wo.setCell ⟨W.heap.size,16+i,none⟩ (.slice (some ⟨wo.heap.size,0,none⟩) 1 1)).alloc (.cells #[.int .u8 0,.bool false,.int .u8 0,.int .u8 0,.int .u8 0] 112)) W.heap.size 110 (vwsC Ap cp p (st0 p) (zV W.heap.size (i+1)) z3)):=by
    show Own _ _ _ _
    have h:=(hO.out.set (16+i) (.slice (some ⟨wo.heap.size,0,none⟩) 1 1)).alloc (.cells #[.int .u8 0,.bool false,.int .u8 0,.int .u8 0,.int .u8 0] 112)
    rw [vwsC_setL hlt] at h
    have e:upF (zV W.heap.size i) i (.slice (some ⟨wo.heap.size,0,none⟩) 1 1)=zV W.heap.size (i+1):=by
     funext l
     unfold upF zV
     by_cases el:l=i
     ·subst el
      rw [if_pos rfl,if_pos (by omega),hS.out]
     ·rw [if_neg el]
      by_cases hl:l<i
      ·rw [if_pos hl,if_pos (by omega)]
      ·rw [if_neg hl,if_neg (by omega)]
    rw [e] at h
    exact h
   go_wp2_with fail
   go_roundg (3-(i+1))
   case measure=>omega
   case rel=>
    refine⟨i+1,by omega,rfl,by go_num,HN'.out,fun l hl=>?_,?_,(hb.setCell (Nat.le_refl _) _).alloc (by have:=hb.size; simpa using this) _⟩
    ·rcases Nat.lt_succ_iff_lt_or_eq.1 hl with h | h
     ·exact (Own.far (hG.out l h) (by simp; omega) _).alloc _
     ·subst h
      rw [← hS.out]
      have h:=Own.new (wo.setCell ⟨W.heap.size,16+l,none⟩ (.slice (some ⟨wo.heap.size,0,none⟩) 1 1)) 112 #[.int .u8 0,.bool false,.int .u8 0,.int .u8 0,.int .u8 0]
      simpa using h
    ·refine (show _=_ from ?_)
     have:=hS.out
     simp
     omega
  ·obtain rfl:i=3:=by omega
   go_wp2_with fail
   go_ret
   refine⟨Ap,cp,W.heap.size,rfl,rfl,?_,HR.out _ (Le.below hb),hb⟩
   have ho:VwO wo W.heap.size W.heap.size Ap cp p (st0 p) (fun _=>[m0V]) z3 (zV W.heap.size 3):=by
    have hz:∀ l,l<3→zV W.heap.size 3 l=.slice (some ⟨W.heap.size+1+l,0,none⟩) 1 1:=fun l hl=>if_pos hl
    refine⟨hO.out,Nat.le_refl _,fun l hl=>?_,fun l hl=>?_,fun l l' hl hl' hne g hg=>?_⟩
    ·rw [hz l hl]
     exact rowM_one (m:=m0V) (hG.out l hl) (by omega)
    ·rw [hz l hl]
     intro e
     have e:some (W.heap.size+1+l)=some W.heap.size:=e
     injection e with e
     omega
    ·rw [hz l hl] at hg
     rw [hz l' hl']
     intro e
     have e:some (W.heap.size+1+l')=some g:=e
     have hg:some (W.heap.size+1+l)=some g:=hg
     injection e with e
     injection hg with hg
     omega
   refine ho.vwL rfl (fun l hl=>?_) (fun t ht=>?_) (Le.above _ _)
   ·match l,hl with
    | 0,_=>rfl
    | 1,_=>rfl
    | 2,_=>rfl
   ·show (List.replicate p.length [0,0,0]).getD t [0,0,0]=[0,0,0]
    rw [List.getD_eq_getElem?_getD,List.getElem?_replicate]
    split <;> rfl
end Go.Proofs.YtojmofnamppbdaaGreat
namespace Go.Proofs.YtojmofnamppbdaaGreat
open Go.RowKit
set_option linter.unusedVariables false
set_option maxRecDepth 100000
def mixV (i:Nat) (w v0:Nat→Value):Nat→Value:=fun l=>if l<i then w l else v0 l
structure VwQ (W:World) (R:Nat) (Ap:Option Addr) (cp:Nat) (p:Prg) (s:VSt) (v0:Nat→Value) (i:Nat) (w:Nat→Value):Prop where
 blk:Own W R 110 (vwsC Ap cp p s.s (mixV i w v0) (ownV s))
 row:∀ l,l<i→RowM W (R+1) (w l) (lstV s l)
 apart:∀ l l',l<i→l'<i→l≠l'→∀ g,(w l).ownBlock=some g→(w l').ownBlock≠some g
theorem VwQ.step {W W':World} {R:Nat} {Ap:Option Addr} {cp:Nat} {p:Prg} {s:VSt} {v0 w:Nat→Value} {i:Nat} (h:VwQ W R Ap cp p s v0 i w) (hi:i<3) (hb:Below W.heap.size W W') {u:Value} (hr:RowM W' W.heap.size u (lstV s i)):VwQ (W'.setCell ⟨R,16+i,none⟩ u) R Ap cp p s v0 (i+1) (upF w i u):=by
 have hRl:=h.blk.lt
 have hblk:=(h.blk.under hb).set (16+i) u
 rw [vwsC_setL hi] at hblk
 have e:upF (mixV i w v0) i u=mixV (i+1) (upF w i u) v0:=by
  funext l
  by_cases el:l=i
  ·subst el
   rw [upF_self]
   unfold mixV
   rw [if_pos (by omega),upF_self]
  ·rw [upF_ne _ _ el]
   unfold mixV
   by_cases hl:l<i
   ·rw [if_pos hl,if_pos (by omega),upF_ne _ _ el]
   ·rw [if_neg hl,if_neg (by omega)]
 rw [e] at hblk
 have hrl:∀ l,l<i→∀ g,(w l).ownBlock=some g→g<W.heap.size:=fun l hl g hg=>(RowOf.own_lt (h.row l hl) hg).2
 have hru:∀ g,u.ownBlock=some g→W.heap.size≤g:=fun g hg=>(RowOf.own_lt hr hg).1
 refine⟨hblk,fun l hl=>?_,fun l l' hl hl' hne g hg=>?_⟩
 ·by_cases el:l=i
  ·subst el
   rw [upF_self]
   exact (hr.rebase fun g hg=>by have:=hru g hg; omega).of_block fun g hg1 _ _=>Go.Deep.blk_setCell_other _ _ _ _ (by show g≠R; omega)
  ·rw [upF_ne _ _ el]
   exact ((h.row l (by omega)).below hb).of_block fun g hg1 _ _=>Go.Deep.blk_setCell_other _ _ _ _ (by show g≠R; omega)
 ·by_cases el:l=i
  ·subst el
   rw [upF_self] at hg
   rw [upF_ne _ _ fun e=>hne e.symm]
   intro hg'
   have h1:=hrl l' (by omega) g hg'
   have h2:=hru g hg
   omega
  ·rw [upF_ne _ _ el] at hg
   by_cases el':l'=i
   ·subst el'
    rw [upF_self]
    intro hg'
    have h1:=hrl l (by omega) g hg
    have h2:=hru g hg'
    omega
   ·rw [upF_ne _ _ el']
    exact h.apart l l' (by omega) (by omega) hne g hg
theorem VwQ.done {W:World} {R:Nat} {Ap:Option Addr} {cp:Nat} {p:Prg} {s:VSt} {v0 w:Nat→Value} (h:VwQ W R Ap cp p s v0 3 w):VwO W R R Ap cp p s.s (lstV s) (ownV s) w:=by
 have hb:=h.blk
 have e:vwsC Ap cp p s.s (mixV 3 w v0) (ownV s)=vwsC Ap cp p s.s w (ownV s):=rfl
 rw [e] at hb
 refine⟨hb,Nat.le_refl _,fun l hl=>(h.row l hl).rebase fun g hg=>by have:=(RowOf.own_lt (h.row l hl) hg).1; omega,fun l hl hg=>?_,fun l l' hl hl' hne=>h.apart l l' hl hl' hne⟩
 have:=(RowOf.own_lt (h.row l hl) hg).1
 omega
theorem range_vws {W:World} {b:Nat} {Ap:Option Addr} {cp:Nat} {p:Prg} {s:VSt} (ho:VwL W b Ap cp p s) {v:Nat→Value} (hv:∀ l,l<3→W.cell? ⟨b,16+l,none⟩=some (v l)):W.rangeAt b 0 (vwsC Ap cp p s.s v (ownV s)).toList:=fun j u hu=>by
 rw [Nat.zero_add]
 have hu:(vwsC Ap cp p s.s v (ownV s))[j]?=some u:=by simpa using hu
 have hj:j<28:=by
  have:=(Array.getElem?_eq_some_iff.1 hu).1
  simpa [vwsC] using this
 rcases Nat.lt_or_ge j 16 with h1 | h1
 ·refine ho.vals j u ?_
  obtain⟨x,hx⟩:∃ x,(seqC Ap cp p s.s)[j]?=some x:=⟨_,Array.getElem?_eq_getElem (by simpa [seqC] using h1)⟩
  rw [vwsC_get (v:=v) (O:=ownV s) hx] at hu
  rw [hx,hu]
 ·rcases Nat.lt_or_ge j 19 with h2 | h2
  ·obtain⟨l,rfl⟩:∃ l,j=16+l:=⟨j-16,by omega⟩
   rw [vwsC_lst (by omega)] at hu
   rw [hv l (by omega)]
   exact hu
  ·obtain⟨t,l,ht,hl,rfl⟩:∃ t l,t<3∧l<3∧j=19+t*3+l:=⟨(j-19) / 3,(j-19) % 3,by omega,by omega,by omega⟩
   rw [vwsC_own ht hl] at hu
   rw [ho.own t l ht hl]
   exact hu
theorem put_lst {s:VSt} (h3:s.lists.length=3) {t l k j:Nat} {x:Int} (hl:l<3) (hj:j<3):lstV (putV s t l k x) j=putLV (lstV s) (ownV s) t l k x j:=by
 show (putV s t l k x).lists.getD j []=_
 rw [ins_lists,insL_get (by rw [h3]; exact hl)]
 have hA:∀ q,q<3→lA (lstV s) l k 3 q=(s.lists.getD q []).map (bumpM l k):=fun q hq=>if_pos hq
 unfold putLV
 by_cases e:j=l
 ·subst e
  rw [if_pos rfl,upF_self,hA j hl]
 ·rw [if_neg e,upF_ne _ _ e,hA j hj]
theorem put_ownV {s:VSt} {t l k u:Nat} {x:Int} (ht:t<s.own.length) (hl:l<3) (hk:1≤k) (hu:u<3):ownV (putV s t l k x) u=putOV (ownV s) t l k u:=by
 show ((s.own.map (bumpV l k)).set t ((bumpV l k (ownV s t)).set l k)).getD u [0,0,0]=_
 unfold putOV
 by_cases e:u=t
 ·subst e
  rw [upF_self,own_set (by rw [List.length_map]; exact ht)]
 ·rw [upF_ne _ _ e,own_setO e]
  show _=if u<3 then bumpV l k (ownV s u) else ownV s u
  rw [if_pos hu]
  unfold ownV
  simp only [List.getD_eq_getElem?_getD,List.getElem?_map]
  cases hg:s.own[u]? with
  | none=>
   simp only [Option.map_none,Option.getD_none]
   refine (bump_id ?_).symm
   match l,hl with
   | 0,_=>exact hk
   | 1,_=>exact hk
   | 2,_=>exact hk
  | some v=>rfl
theorem rd_ownV {s:VSt} {t k:Nat} {x:Ins} (ht:t<s.own.length) (hr:rdB x=true) (u:Nat):ownV (rdV s t x k) u=upF (ownV s) t (joinV (ownV s t) (gM (lstV s x.loc.toNat) k).view) u:=by
 have e:(rdV s t x k).own=s.own.set t (joinV (ownV s t) (gM (lstV s x.loc.toNat) k).view):=if_pos hr
 unfold ownV at e ⊢
 rw [e]
 by_cases eu:u=t
 ·subst eu
  rw [upF_self,own_set ht]
 ·rw [upF_ne _ _ eu,own_setO eu]
theorem rd_ownVN {s:VSt} {t k:Nat} {x:Ins} (hr:rdB x=false) (u:Nat):ownV (rdV s t x k) u=ownV s u:=by
 unfold ownV
 rw [show (rdV s t x k).own=s.own from if_neg (by rw [hr]; decide)]
theorem join_B {u v:List Nat} (hu:VwB u) (hv:VwB v):VwB (joinV u v):=⟨join_len hu.1 hv.1,fun l hl=>by
 rw [join_at hu.1 hv.1 l hl]
 have h1:=hu.2 l hl
 have h2:=hv.2 l hl
 omega⟩
theorem VwO.setLock {W:World} {base R:Nat} {Ap:Option Addr} {cp:Nat} {p:Prg} {s:St} {L:Nat→List Msg} {O:Nat→List Nat} {v:Nat→Value} (h:VwO W base R Ap cp p s L O v) {i j g n c:Nat} (hi:i<3) (hv:v i=.slice (some ⟨g,0,none⟩) n c) (hj:j<(L i).length):
  VwO (W.setCell ⟨g,j*5+1,none⟩ (.bool true)) base R Ap cp p s (upF L i (lockM (L i) j)) O v:=by
 have hg:∀ q,q≠g→(W.setCell ⟨g,j*5+1,none⟩ (.bool true)).heap[q]?=W.heap[q]?:=fun q hq=>Go.Deep.blk_setCell_other _ _ _ _ hq
 refine⟨h.blk.of_block (hg R fun e=>h.sep i hi (by rw [hv,e]; rfl)),h.ge,fun q hq=>?_,h.sep,h.apart⟩
 by_cases e:q=i
 ·subst e
  rw [upF_self]
  have hr:=h.row q hq
  rw [hv] at hr ⊢
  unfold lockM
  rw [gM_get hj]
  exact hr.setC hj (by omega) fun f ⟨q0,q1,q2,q3,q4⟩=>⟨q0,rfl,q2,q3,q4⟩
 ·rw [upF_ne _ _ e]
  exact (h.row q hq).of_block fun g' _ hg' _=>hg g' fun eg=>h.apart i q hi hq (fun k=>e k.symm) g (by rw [hv]; rfl) (by rw [hg',eg])
def RetVw (W:World) (Ap:Option Addr) (cp:Nat) (p:Prg) (s:VSt) (e:Ending) (W':World):Prop:=
 ∃ b,e=.returned (.iface 100 (.pointer (some ⟨b,0,none⟩)))∧(∀ a',Le (above W.heap.size W') a'→VwL a' b Ap cp p s)∧Below W.heap.size W W'
theorem vws_one {Ap:Option Addr} {cp:Nat} {p:Prg} {s:St} {v:Nat→Value} {O:Nat→List Nat} (h:∀ l,(v l).oneCell'=true):(vwsC Ap cp p s v O).all (·.oneCell')=true:=by
 have h1:∀ k n,(Value.int k n).oneCell'=true:=fun _ _=>rfl
 have h2:∀ a n c,(Value.slice a n c).oneCell'=true:=fun _ _ _=>rfl
 simp [vwsC,pcV,rgV,meV,h,h1,h2]
def vwsZ:Array Value:=#[.slice none 0 0,.int .u8 0,.int .u8 0,.int .u8 0,.int .u8 0,.int .u8 0,.int .u8 0,.int .u8 0,.int .u8 0,.int .u8 0,.int .u8 0,.int .u8 0,.int .u8 0,.int .u8 0,.int .u8 0,.int .u8 0,.slice none 0 0,.slice none 0 0,.slice none 0 0,.int .u8 0,.int .u8 0,.int .u8 0,.int .u8 0,.int .u8 0,.int .u8 0,.int .u8 0,.int .u8 0,.int .u8 0]
set_option maxHeartbeats 4000000 in
theorem afterV_any (p:Prg) (hp:PrgOk p) (s:VSt) (hs:VOk p s) (t k:Nat) (ht:t<p.length) (hcan:canV p s t k=true) (W:World) (b:Nat) (Ap:Option Addr) (cp:Nat) (ho:VwL W b Ap cp p s) (hpr:PrgS W (.slice Ap p.length cp) p):
  Calls Tryz.prog 176 #[.pointer (some ⟨b,0,none⟩),.int .i64 ((3*k+t:Nat):Int)] W (RetVw W Ap cp p (doV s t (insS p s.s t) k)):=by
 have h3:=hp.1.1
 have ht3:t<3:=by omega
 have hbW:=ho.lt
 obtain⟨bF,oF,cF,hF⟩:=ho.fam hs
 obtain⟨v0,hv0⟩:∃ v0:Nat→Value,v0=fun l=>.slice (some ⟨bF l,oF l,none⟩) (lstV s l).length (cF l):=⟨_,rfl⟩
 have Hv0:=Lib.hid hv0
 have hcv:∀ l,l<3→W.cell? ⟨b,16+l,none⟩=some (v0 l):=fun l hl=>by rw [hv0]; exact (hF l hl).1
 obtain⟨V,hV⟩:∃ V,V=W.alloc (.cells (vwsC Ap cp p s.s v0 (ownV s)) 110):=⟨_,rfl⟩
 have hB:Below W.heap.size W V:=by rw [hV]; exact (Below.refl _ _).alloc (Nat.le_refl _) _
 have oC:Own V W.heap.size 110 (vwsC Ap cp p s.s v0 (ownV s)):=by rw [hV]; exact Own.new _ _ _
 have Hrg:=Lib.hid (range_vws ho hcv)
 have Hld:Hid (V.rangeAt b 16 [v0 0,v0 1,v0 2]):=rangeL (n:=3) rfl fun j v hj hv=>by
  match j,hj,hv with
  | 0,_,hv=>injection hv with hv; rw [← hv]; exact Le.below hB _ _ (hcv 0 (by omega))
  | 1,_,hv=>injection hv with hv; rw [← hv]; exact Le.below hB _ _ (hcv 1 (by omega))
  | 2,_,hv=>injection hv with hv; rw [← hv]; exact Le.below hB _ _ (hcv 2 (by omega))
 have hcl:Hid (∀ l,l<3→∀ X,Below W.heap.size W X→Calls Tryz.prog 182 #[v0 l] X (fun e W'=>∃ v,e=.returned v∧RowM W' X.heap.size v (lstV s l)∧Below X.heap.size X W')):=fun l hl X hX=>by
  rw [hv0]
  exact clnM_any ⟨bF l,oF l,none⟩ (cF l) (lstV s l) (by have:=(lens_le hp hs hl).2; omega) X (SlR.le (R:=fun _=>QM) (fun _ _ _ h=>h) (hF l hl).2.2.1 (Le.below hX))
 have Hix:Hid (∀ i:Nat,i<3→∀ w,(Instr.index 106 (.agg #[v0 0,v0 1,v0 2]) (.int .i64 i)).run Tryz.prog w=.ok (v0 i) w):=fun i hi w=>by
  rw [hv0]
  exact idxSF (A:=fun l=>some ⟨bF l,oF l,none⟩) (n:=fun l=>(lstV s l).length) (c:=cF) hi w
 have H1c:Hid (∀ l,(v0 l).oneCell'=true):=fun l=>by rw [hv0]; rfl
 have hQ:VwQ V W.heap.size Ap cp p s v0 0 v0:=⟨oC,fun l hl=>absurd hl (Nat.not_lt_zero _),fun l _ hl=>absurd hl (Nat.not_lt_zero _)⟩
 have HQ:=Lib.hid hQ
 have hbV:b<V.heap.size:=by have:=hB.size; omega
 clear hcv hv0 hQ oC
 go_enter Tryz.func176,Tryz.ntmps176
 go_upto_region 2 with (first | (refine wpList_load_mid (op:=⟨some 15,_,_,_,_,_⟩) (by rfl) _ _ (by rfl) b 0 (by rfl) (vwsC Ap cp p s.s v0 (ownV s)).toList _ Hrg.out Tryz.underlying110 (by rfl) (by kernel_rfl) ?_) | (refine wpList_store_new (op:=⟨none,Op.store 110 _ _,_,_,_,_⟩) (by rfl) _ _ _ (by rfl) vwsZ (vwsC Ap cp p s.s v0 (ownV s)) (by rfl) (by rfl) (by kernel_rfl) (by rfl) (vws_one H1c.out) ?_))
 rw [← hV]
 clear hV
 go_wp2_with (first | (refine wpList_load_mid (op:=⟨some 19,_,_,_,_,_⟩) (by rfl) _ _ (by rfl) b 16 (by rfl) [v0 0,v0 1,v0 2] _ Hld.out Tryz.underlying106 (by rfl) (by kernel_rfl) ?_))
 go_loopg [20] 3 (fun g s20 wr=>∃ (i:Nat) (w:Nat→Value),i≤3∧g=3-i∧s20=.int .i64 i∧Hid (VwQ wr W.heap.size Ap cp p s v0 i w)∧Below W.heap.size W wr)
 case atStart=>exact⟨0,v0,Nat.zero_le _,rfl,rfl,HQ.out,hB⟩
 case round=>
  obtain⟨wo,rfl⟩:∃ wo:World,wo=wr:=⟨_,rfl⟩
  obtain⟨i,w,hi,rfl,rfl,hQ,hb⟩:=hrel
  by_cases hlt:i<3
  ·have hx:=Hix.out i hlt
   have hc:=hcl.out i hlt wo hb
   have hii:(i:Int)<3:=by omega
   have hsz:=hb.size
   go_wp2_with fail
   refine hc.mono ?_
   rintro e5 w5 ⟨v5,rfl,hr5,hb5⟩
   have hB5:=hb.trans (hb5.mono hsz)
   have HQ5:Hid (VwQ (w5.setCell ⟨W.heap.size,16+i,none⟩ v5) W.heap.size Ap cp p s v0 (i+1) (upF w i v5)):=hQ.out.step hlt hb5 hr5
   obtain⟨A5,c5,rfl,_⟩:=RowOf.slice hr5
   have o5:=hQ.out.blk.under hb5
   have k0:=o5.cell (vwsC_lst (v:=mixV i w v0) (O:=ownV s) hlt)
   have k1:=o5.frozen (16+i)
   have k2:=o5.lt
   obtain⟨n5,hn5⟩:∃ n5,n5=(lstV s i).length:=⟨_,rfl⟩
   rw [← hn5] at HQ5 ⊢
   clear hc hr5 o5 hx hn5
   go_wp2_with fail
   go_roundg (3-(i+1))
   case measure=>omega
   case rel=>exact⟨i+1,_,by omega,rfl,by go_num,HQ5.out,hB5.setCell (Nat.le_refl _) _⟩
  ·obtain rfl:i=3:=by omega
   have HO:=Lib.hid hQ.out.done
   obtain⟨hltx,hix,hcs⟩:=can_cases hp hcan
   have hon:onS p s.s t=true:=by unfold onS; rw [decide_eq_true_iff]; exact hltx
   have hnx:=next_on hp hs.ok ht (SeqL.le ho.vals (Le.below hb)) (PrgS.le hpr (Le.below hb)) hon
   have hk13:k≤13:=by have:=can_14 hp hs hcan; omega
   have hm3:(3*(k:Int)+(t:Int)) % 3=(t:Int):=by omega
   have hd3:(3*(k:Int)+(t:Int)).tdiv 3=(k:Int):=by
    rw [Int.tdiv_eq_ediv_of_nonneg (by omega)]
    omega
   go_upto_region 8 with (fail)
   have hd3q:(3*(k:Int)+(t:Int)) / 3=(k:Int):=by omega
   rw [hm3]
   first | rw [hd3] | rw [hd3q] | skip
   clear hm3 hd3 hd3q
   obtain⟨x,hx⟩:∃ x,x=insS p s.s t:=⟨_,rfl⟩
   have HX:=Lib.hid hx
   rw [← hx] at hnx hix hcs
   clear hx
   obtain⟨l,hl⟩:∃ l:Nat,x.loc=(l:Int):=⟨x.loc.toNat,by have:=hix.loc; omega⟩
   obtain⟨r,hr⟩:∃ r:Nat,x.reg=(r:Int):=⟨x.reg.toNat,by rcases hix with h | h | h | h <;> omega⟩
   have hl3:l<3:=by have:=hix.loc; omega
   have hr3:r<3:=by rcases hix with h | h | h | h <;> omega
   have hln:x.loc.toNat=l:=by omega
   rw [hln] at hcs
   rw [hl,hr] at hnx
   have Hix:=Lib.hid hix
   have Hl:=Lib.hid hl
   have Hr:=Lib.hid hr
   have Hcs:=Lib.hid hcs
   have Hlt:=Lib.hid hltx
   clear hl hr hln hcs hix hltx hon hQ
   go_wp2_with fail
   refine hnx.mono ?_
   rintro e8 w8 ⟨rfl,hb8⟩
   have hB8:=hb.trans (hb8.mono hb.size)
   obtain⟨V9,hV9⟩:∃ V9,V9=w8.alloc (.cells #[.int .i64 x.op,.int .i64 l,.int .i64 r,.int .i64 x.val] 50):=⟨_,rfl⟩
   have hb9:Below wo.heap.size wo V9:=by rw [hV9]; exact hb8.alloc hb8.size _
   have oI9:Own V9 w8.heap.size 50 #[.int .i64 x.op,.int .i64 l,.int .i64 r,.int .i64 x.val]:=by rw [hV9]; exact Own.new _ _ _
   have hO9:=HO.out.under hb9
   have hB9:Below W.heap.size W V9:=hb.trans (hb9.mono hb.size)
   have hRw:W.heap.size≠w8.heap.size:=by have:=hb8.size; have:=HO.out.lt; omega
   have HwI:Hid (∀ q,q<3→(w q).ownBlock≠some w8.heap.size):=fun q hq e=>by
    have h1:=(RowOf.own_lt (HO.out.row q hq) e).2
    have h2:=hb8.size
    omega
   have hpc:=(hs.ok.pcb t)
   have hp6:pcS s.s t≤6:=by have:=(thr_ok hp t).1; have:=Hlt.out; omega
   obtain⟨V10,hV10⟩:∃ V10,V10=V9.setCell ⟨W.heap.size,1+t,none⟩ (.int .u8 (((pcS s.s t:Nat):Int)+1)):=⟨_,rfl⟩
   have hO10:VwO V10 W.heap.size W.heap.size Ap cp p ⟨s.s.pc.set t (pcS s.s t+1),s.s.regs,s.s.mem⟩ (lstV s) (ownV s) w:=by
    rw [hV10]
    refine⟨?_,hO9.ge,fun q hq=>(hO9.row q hq).of_block fun g' _ hg' _=>Go.Deep.blk_setCell_other _ _ _ _ fun eg=>hO9.sep q hq (by rw [hg']; exact congrArg some eg),hO9.sep,hO9.apart⟩
    have h:=hO9.blk.set (1+t) (.int .u8 ((pcS s.s t+1:Nat):Int))
    rw [vwsC_pc ht3 (by rw [hs.ok.pcl]; exact ht)] at h
    exact h
   have oI10:Own V10 w8.heap.size 50 #[.int .i64 x.op,.int .i64 l,.int .i64 r,.int .i64 x.val]:=by rw [hV10]; exact Own.far oI9 (fun e=>hRw e.symm) _
   have hB10:Below W.heap.size W V10:=by rw [hV10]; exact hB9.setCell (Nat.le_refl _) _
   have k0:V9.cell? ⟨W.heap.size,1+t,none⟩=some (.int .u8 ((pcS s.s t:Nat):Int)):=hO9.blk.cell (vwsC_get (seqC_pget ht3))
   have k1:=hO9.blk.frozen (1+t)
   have k2:=hO9.lt
   have hw256:(((pcS s.s t:Nat):Int)+1) % 256=((pcS s.s t:Nat):Int)+1:=by omega
   have hti:(t:Int)<3:=by omega
   rw [hV9] at k0 k1 k2
   have HK:=Lib.hid (And.intro hO10 (And.intro oI10 hB10))
   clear hb8 hb9 oI9 hO9 hO10 oI10 hB10 hnx
   go_upto_region 10 with (fail)
   rw [← hV9,← hV10]
   clear hV9 hV10 k0 k1 k2 hw256
   have i0:=HK.out.2.1.cell (i:=0) rfl
   have i1:=HK.out.2.1.cell (i:=1) rfl
   have i2:=HK.out.2.1.cell (i:=2) rfl
   have i3:=HK.out.2.1.cell (i:=3) rfl
   have hrd:=reads_any x V10
   rw [Hl.out,Hr.out] at hrd
   go_wp2_with fail
   refine hrd.mono ?_
   rintro e11 w11 ⟨rfl,hb11⟩
   have hO11:=HK.out.1.under hb11
   have oI11:=HK.out.2.1.under hb11
   have hB11:=HK.out.2.2.trans (hb11.mono HK.out.2.2.size)
   have H11:=Lib.hid (And.intro hO11 oI11)
   have hbw11:b<w11.heap.size:=by have:=hB11.size; omega
   clear i0 i1 i2 i3 hrd hb11 HK hO11
   have i0:w11.cell? ⟨w8.heap.size,0,none⟩=some (.int .i64 x.op):=oI11.cell rfl
   have i1:w11.cell? ⟨w8.heap.size,1,none⟩=some (.int .i64 (l:Int)):=oI11.cell rfl
   have i2:w11.cell? ⟨w8.heap.size,2,none⟩=some (.int .i64 (r:Int)):=oI11.cell rfl
   have i3:w11.cell? ⟨w8.heap.size,3,none⟩=some (.int .i64 x.val):=oI11.cell rfl
   have hIl:=oI11.lt
   clear oI11
   by_cases h4:x.op=4
   ·have hre:rdB x=false:=by unfold rdB; simp [h4]
    have hwr:wrB x=false:=by unfold wrB; simp [h4]
    rw [hre]
    rw [h4] at i0
    have Hfl:Hid (doV s t (insS p s.s t) k=⟨⟨s.s.pc.set t (pcS s.s t+1),s.s.regs,s.s.mem⟩,s.lists,s.own⟩):=by
     show _=_
     rw [← HX.out]
     unfold doV rdV
     rw [if_neg (by omega),if_neg (by rw [hwr]; decide),hre]
     rfl
    clear h4
    go_wp2_with fail
    go_ret
    rw [Hfl.out]
    exact⟨W.heap.size,rfl,fun a' h'=>H11.out.1.vwL rfl (fun _ _=>rfl) (fun _ _=>rfl) h',hB11⟩
   ·by_cases hre:rdB x=true
    ·rw [hre]
     have h15:x.op=1∨x.op=5:=by
      unfold rdB at hre
      rw [Bool.or_eq_true,decide_eq_true_iff,decide_eq_true_iff] at hre
      exact hre
     have hkn:k<(lstV s l).length:=by rcases Hcs.out with ⟨e,_⟩ | ⟨_,_,e⟩ | ⟨_,_,e,_⟩ | ⟨e,_⟩ <;> omega
     obtain⟨q16,hbF,_,hcells⟩:=hF l hl3
     obtain⟨m0,m1,m2,m3,m4⟩:=hcells k hkn
     have q16:=Le.below hB11 _ _ q16
     have m0:=Le.below hB11 _ _ m0
     have m1:=Le.below hB11 _ _ m1
     have m2:=Le.below hB11 _ _ m2
     have m3:=Le.below hB11 _ _ m3
     have m4:=Le.below hB11 _ _ m4
     have hbF11:bF l<w11.heap.size:=by have:=hB11.size; omega
     have hli:(l:Int)<3:=by omega
     have hki:(k:Int)<((lstV s l).length:Int):=by omega
     obtain⟨m,hm⟩:∃ m,m=gM (lstV s l) k:=⟨_,rfl⟩
     rw [← hm] at m0 m1 m2 m3 m4
     have Hm:=Lib.hid hm
     have H15:=Lib.hid h15
     have Hre:=Lib.hid hre
     have H4:=Lib.hid h4
     obtain⟨n,hn⟩:∃ n,n=(lstV s l).length:=⟨_,rfl⟩
     rw [← hn] at q16 hkn hki
     clear hcells hm h15 hre h4 hn
     go_upto_region 11 with (fail)
     have HS:Hid (∀ X,Le w11 X→X.cell? ⟨w8.heap.size,1,none⟩=some (.int .i64 (l:Int))∧X.cell? ⟨b,16+l,none⟩=some (.slice (some ⟨bF l,oF l,none⟩) n (cF l))∧X.cell? ⟨bF l,oF l+k*5,none⟩=some (.int .u8 m.val)∧X.cell? ⟨bF l,oF l+k*5+1,none⟩=some (.bool m.lock)∧X.cell? ⟨bF l,oF l+k*5+2,none⟩=some (.int .u8 (aV m.view 0))∧X.cell? ⟨bF l,oF l+k*5+3,none⟩=some (.int .u8 (aV m.view 1))∧X.cell? ⟨bF l,oF l+k*5+4,none⟩=some (.int .u8 (aV m.view 2))):=fun X h=>⟨h _ _ i1,h _ _ q16,h _ _ m0,h _ _ m1,h _ _ m2,h _ _ m3,h _ _ m4⟩
     go_region_held3 (fun X=>X.cell? ⟨w8.heap.size,1,none⟩=some (.int .i64 (l:Int))∧X.cell? ⟨b,16+l,none⟩=some (.slice (some ⟨bF l,oF l,none⟩) n (cF l))∧X.cell? ⟨bF l,oF l+k*5,none⟩=some (.int .u8 m.val)∧X.cell? ⟨bF l,oF l+k*5+1,none⟩=some (.bool m.lock)∧X.cell? ⟨bF l,oF l+k*5+2,none⟩=some (.int .u8 (aV m.view 0))∧X.cell? ⟨bF l,oF l+k*5+3,none⟩=some (.int .u8 (aV m.view 1))∧X.cell? ⟨bF l,oF l+k*5+4,none⟩=some (.int .u8 (aV m.view 2)))
      (first
       | exact HS.out _ (Le.refl _)
       | exact HS.out _ (Le.drew _)
       | exact HS.out _ (Le.alloc _ _)
       | exact HS.out _ ((Le.alloc _ _).trans (Le.drew _))
       | exact HS.out _ ((Le.drew _).trans (Le.alloc _ _)))
      (fail)
     obtain⟨V12,hV12⟩:∃ V12,V12=(w11.alloc (.cells #[.int .u8 m.val,.bool m.lock,.int .u8 (aV m.view 0),.int .u8 (aV m.view 1),.int .u8 (aV m.view 2)] 112)).drew:=⟨_,rfl⟩
     rw [← hV12]
     have hb12:Below w11.heap.size w11 V12:=by rw [hV12]; exact ((Below.refl _ _).alloc (Nat.le_refl _) _).drew
     have oW:Own V12 w11.heap.size 112 #[.int .u8 m.val,.bool m.lock,.int .u8 (aV m.view 0),.int .u8 (aV m.view 1),.int .u8 (aV m.view 2)]:=by rw [hV12]; exact (Own.new _ _ _).drew
     have hO12:=H11.out.1.under hb12
     have oI12:=H11.out.2.under hb12
     have hB12:=hB11.trans (hb12.mono hB11.size)
     clear hV12 HS m0 m1 m2 m3 m4 q16 i0 i1 i2 i3
     have i2:V12.cell? ⟨w8.heap.size,2,none⟩=some (.int .i64 (r:Int)):=oI12.cell rfl
     have j0:V12.cell? ⟨w11.heap.size,0,none⟩=some (.int .u8 m.val):=oW.cell rfl
     have d0:V12.cell? ⟨W.heap.size,4+t*3+r,none⟩=some (.int .u8 (rgF s.s (t*3+r))):=by
      have h:=hO12.blk.cell (vwsC_get (seqC_rget (Ap:=Ap) (cp:=cp) (p:=p) (s:=⟨s.s.pc.set t (pcS s.s t+1),s.s.regs,s.s.mem⟩) (i:=t*3+r) (by omega)))
      rw [show 4+(t*3+r)=4+t*3+r by omega] at h
      exact h
     have d1:=hO12.blk.frozen (4+t*3+r)
     have d2:=hO12.lt
     have hri:(r:Int)<3:=by omega
     obtain⟨V13,hV13⟩:∃ V13,V13=(V12.setCell ⟨W.heap.size,4+t*3+r,none⟩ (.int .u8 m.val)).drew:=⟨_,rfl⟩
     have hO13:VwO V13 W.heap.size W.heap.size Ap cp p ⟨s.s.pc.set t (pcS s.s t+1),s.s.regs.set (t*3+r) m.val,s.s.mem⟩ (lstV s) (ownV s) w:=by
      have hD:=hO12
      rw [hV13]
      refine VwO.drew ⟨?_,hD.ge,fun q hq=>(hD.row q hq).of_block fun g' _ hg' _=>Go.Deep.blk_setCell_other _ _ _ _ fun eg=>hD.sep q hq (by rw [hg']; exact congrArg some eg),hD.sep,hD.apart⟩
      have h:=hD.blk.set (4+(t*3+r)) (.int .u8 m.val)
      rw [vwsC_reg (by omega) (by show t*3+r<s.s.regs.length; rw [hs.ok.regl]; omega),show 4+(t*3+r)=4+t*3+r by omega] at h
      exact h
     have hRw12:w11.heap.size≠W.heap.size:=by have:=H11.out.1.lt; omega
     have oW13:Own V13 w11.heap.size 112 #[.int .u8 m.val,.bool m.lock,.int .u8 (aV m.view 0),.int .u8 (aV m.view 1),.int .u8 (aV m.view 2)]:=by rw [hV13]; exact (Own.far oW hRw12 _).drew
     have oI13:Own V13 w8.heap.size 50 #[.int .i64 x.op,.int .i64 l,.int .i64 r,.int .i64 x.val]:=by rw [hV13]; exact (Own.far oI12 (fun e=>hRw e.symm) _).drew
     have hB13:Below W.heap.size W V13:=by rw [hV13]; exact (hB12.setCell (Nat.le_refl _) _).drew
     clear hO12 oI12 oW hb12
     go_upto_region 12 with (fail)
     go_still_tail 9,(by kernel_rfl)
     go_upto_region 13 with (fail)
     rw [← hV13]
     clear hV13 i2 j0 d0 d1 d2
     have c0:=Le.below hB13 _ _ (ho.own t 0 ht3 (by omega))
     have c1:=Le.below hB13 _ _ (ho.own t 1 ht3 (by omega))
     have c2:=Le.below hB13 _ _ (ho.own t 2 ht3 (by omega))
     have c0:V13.cell? ⟨b,19+t*3,none⟩=some (.int .u8 (aV (ownV s t) 0)):=c0
     have j2:V13.cell? ⟨w11.heap.size,2,none⟩=some (.int .u8 (aV m.view 0)):=oW13.cell rfl
     have j3:V13.cell? ⟨w11.heap.size,3,none⟩=some (.int .u8 (aV m.view 1)):=oW13.cell rfl
     have j4:V13.cell? ⟨w11.heap.size,4,none⟩=some (.int .u8 (aV m.view 2)):=oW13.cell rfl
     have hmB:VwB m.view:=by
      rw [Hm.out]
      exact vw_bytes hp hs (gM_ok hs hl3 (by rw [← hs.pos _ hl3]; rcases Hcs.out with ⟨e,_⟩ | ⟨_,_,e⟩ | ⟨_,_,e,_⟩ | ⟨e,_⟩ <;> (first | exact e | (have:=H15.out; omega)))).2
     have Hjn:Hid (∀ X:World,Calls Tryz.prog 184 #[.agg #[.int .u8 (aV (ownV s t) 0),.int .u8 (aV (ownV s t) 1),.int .u8 (aV (ownV s t) 2)],.agg #[.int .u8 (aV m.view 0),.int .u8 (aV m.view 1),.int .u8 (aV m.view 2)]] X (fun e W'=>e=.returned (.agg #[.int .u8 (aV (joinV (ownV s t) m.view) 0),.int .u8 (aV (joinV (ownV s t) m.view) 1),.int .u8 (aV (joinV (ownV s t) m.view) 2)])∧Below X.heap.size X W')):=fun X=>joined_any _ _ (own_bytes hp hs t) hmB X
     have HO13:=Lib.hid hO13
     have hset:Hid (∀ X,Below V13.heap.size V13 X→VwO (((X.setCell ⟨W.heap.size,19+t*3,none⟩ (.int .u8 (aV (joinV (ownV s t) m.view) 0))).setCell ⟨W.heap.size,19+t*3+1,none⟩ (.int .u8 (aV (joinV (ownV s t) m.view) 1))).setCell ⟨W.heap.size,19+t*3+2,none⟩ (.int .u8 (aV (joinV (ownV s t) m.view) 2))) W.heap.size W.heap.size Ap cp p ⟨s.s.pc.set t (pcS s.s t+1),s.s.regs.set (t*3+r) m.val,s.s.mem⟩ (lstV s) (upF (ownV s) t (joinV (ownV s t) m.view)) w):=fun X hX=>(HO13.out.under hX).setO ht3 _
     have e0:=hO13.blk.cell (vwsC_own (v:=w) (O:=ownV s) ht3 (l:=0) (by omega))
     have e1:=hO13.blk.cell (vwsC_own (v:=w) (O:=ownV s) ht3 (l:=1) (by omega))
     have e2:=hO13.blk.cell (vwsC_own (v:=w) (O:=ownV s) ht3 (l:=2) (by omega))
     have e0:V13.cell? ⟨W.heap.size,19+t*3,none⟩=some (.int .u8 (aV (ownV s t) 0)):=e0
     have f0:=hO13.blk.frozen (19+t*3)
     have f1:=hO13.blk.frozen (19+t*3+1)
     have f2:=hO13.blk.frozen (19+t*3+2)
     have hRl:=hO13.lt
     have hwl:=oW13.lt
     have hRb:W.heap.size≠b:=by omega
     obtain⟨a0,ha0⟩:∃ a0,a0=aV (ownV s t) 0:=⟨_,rfl⟩
     obtain⟨a1,ha1⟩:∃ a1,a1=aV (ownV s t) 1:=⟨_,rfl⟩
     obtain⟨a2,ha2⟩:∃ a2,a2=aV (ownV s t) 2:=⟨_,rfl⟩
     rw [← ha0] at c0 e0 Hjn
     rw [← ha1] at c1 e1 Hjn
     rw [← ha2] at c2 e2 Hjn
     clear ha0 ha1 ha2 hO13
     obtain⟨n0,hn0⟩:∃ n0,n0=aV (joinV (ownV s t) m.view) 0:=⟨_,rfl⟩
     obtain⟨n1,hn1⟩:∃ n1,n1=aV (joinV (ownV s t) m.view) 1:=⟨_,rfl⟩
     obtain⟨n2,hn2⟩:∃ n2,n2=aV (joinV (ownV s t) m.view) 2:=⟨_,rfl⟩
     rw [← hn0,← hn1,← hn2] at hset Hjn
     clear hn0 hn1 hn2
     obtain⟨v0',hv0'⟩:∃ x,x=aV m.view 0:=⟨_,rfl⟩
     obtain⟨v1',hv1'⟩:∃ x,x=aV m.view 1:=⟨_,rfl⟩
     obtain⟨v2',hv2'⟩:∃ x,x=aV m.view 2:=⟨_,rfl⟩
     rw [← hv0',← hv1',← hv2'] at Hjn
     rw [← hv0'] at j2
     rw [← hv1'] at j3
     rw [← hv2'] at j4
     clear hv0' hv1' hv2'
     have HSb:Hid (∀ X:World,Le V13 X→X.cell? ⟨b,19+t*3,none⟩=some (.int .u8 a0)∧X.cell? ⟨b,19+t*3+1,none⟩=some (.int .u8 a1)∧X.cell? ⟨b,19+t*3+2,none⟩=some (.int .u8 a2)∧X.cell? ⟨w11.heap.size,2,none⟩=some (.int .u8 v0')∧X.cell? ⟨w11.heap.size,3,none⟩=some (.int .u8 v1')∧X.cell? ⟨w11.heap.size,4,none⟩=some (.int .u8 v2')):=fun X h=>⟨h _ _ c0,h _ _ c1,h _ _ c2,h _ _ j2,h _ _ j3,h _ _ j4⟩
     have HSc:Hid (∀ X:World,(X.cell? ⟨b,19+t*3,none⟩=some (.int .u8 a0)∧X.cell? ⟨b,19+t*3+1,none⟩=some (.int .u8 a1)∧X.cell? ⟨b,19+t*3+2,none⟩=some (.int .u8 a2)∧X.cell? ⟨w11.heap.size,2,none⟩=some (.int .u8 v0')∧X.cell? ⟨w11.heap.size,3,none⟩=some (.int .u8 v1')∧X.cell? ⟨w11.heap.size,4,none⟩=some (.int .u8 v2'))→∀ (o:Nat) (u:Value),((X.setCell ⟨W.heap.size,o,none⟩ u).cell? ⟨b,19+t*3,none⟩=some (.int .u8 a0)∧(X.setCell ⟨W.heap.size,o,none⟩ u).cell? ⟨b,19+t*3+1,none⟩=some (.int .u8 a1)∧(X.setCell ⟨W.heap.size,o,none⟩ u).cell? ⟨b,19+t*3+2,none⟩=some (.int .u8 a2)∧(X.setCell ⟨W.heap.size,o,none⟩ u).cell? ⟨w11.heap.size,2,none⟩=some (.int .u8 v0')∧(X.setCell ⟨W.heap.size,o,none⟩ u).cell? ⟨w11.heap.size,3,none⟩=some (.int .u8 v1')∧(X.setCell ⟨W.heap.size,o,none⟩ u).cell? ⟨w11.heap.size,4,none⟩=some (.int .u8 v2'))):=fun X ⟨h0,h1,h2,h3,h4,h5⟩ o u=>
      ⟨(World.cell?_setCell_other _ _ _ _ (fun e=>hRb (by injection e))).trans h0,(World.cell?_setCell_other _ _ _ _ (fun e=>hRb (by injection e))).trans h1,(World.cell?_setCell_other _ _ _ _ (fun e=>hRb (by injection e))).trans h2,(World.cell?_setCell_other _ _ _ _ (fun e=>hRw12 (by injection e with e; exact e.symm))).trans h3,(World.cell?_setCell_other _ _ _ _ (fun e=>hRw12 (by injection e with e; exact e.symm))).trans h4,(World.cell?_setCell_other _ _ _ _ (fun e=>hRw12 (by injection e with e; exact e.symm))).trans h5⟩
     go_region_held3 (fun X=>X.cell? ⟨b,19+t*3,none⟩=some (.int .u8 a0)∧X.cell? ⟨b,19+t*3+1,none⟩=some (.int .u8 a1)∧X.cell? ⟨b,19+t*3+2,none⟩=some (.int .u8 a2)∧X.cell? ⟨w11.heap.size,2,none⟩=some (.int .u8 v0')∧X.cell? ⟨w11.heap.size,3,none⟩=some (.int .u8 v1')∧X.cell? ⟨w11.heap.size,4,none⟩=some (.int .u8 v2'))
      (first
       | exact HSb.out _ (Le.refl _)
       | exact HSb.out _ (Le.drew _)
       | exact HSb.out _ (Le.below hb14)
       | exact HSc.out _ (HSc.out _ (HSc.out _ (HSb.out _ (Le.below hb14)) _ _) _ _) _ _)
      (first
       | (go_at_call 184; ((with_reducible refine (Hjn.out _).mono ?_); rintro e14 w14 ⟨rfl,hb14'⟩; have hb14:Below V13.heap.size V13 w14:=below_of_drewS hb14'; have g0:=Le.below hb14 _ _ e0; have g1:=Le.below hb14 _ _ e1; have g2:=Le.below hb14 _ _ e2; have x0:=(World.frozen?_of_block (w:=V13) (hb14.block W.heap.size hRl)).trans f0; have x1:=(World.frozen?_of_block (w:=V13) (hb14.block W.heap.size hRl)).trans f1; have x2:=(World.frozen?_of_block (w:=V13) (hb14.block W.heap.size hRl)).trans f2; have hRl14:W.heap.size<w14.heap.size:=Nat.lt_of_lt_of_le hRl hb14.size)))
     obtain⟨V15,hV15⟩:∃ V15,V15=((w14.setCell ⟨W.heap.size,19+t*3,none⟩ (.int .u8 n0)).setCell ⟨W.heap.size,19+t*3+1,none⟩ (.int .u8 n1)).setCell ⟨W.heap.size,19+t*3+2,none⟩ (.int .u8 n2):=⟨_,rfl⟩
     rw [← hV15]
     have hO15:=hset.out _ hb14
     rw [← hV15] at hO15
     have hB15:Below W.heap.size W V15:=by rw [hV15]; exact (((hB13.trans (hb14.mono hB13.size)).setCell (Nat.le_refl _) _).setCell (Nat.le_refl _) _).setCell (Nat.le_refl _) _
     have oI15:Own V15 w8.heap.size 50 #[.int .i64 x.op,.int .i64 l,.int .i64 r,.int .i64 x.val]:=by
      rw [hV15]
      exact Own.far (Own.far (Own.far (oI13.under hb14) (fun e=>hRw e.symm) _) (fun e=>hRw e.symm) _) (fun e=>hRw e.symm) _
     have HO15:=Lib.hid hO15
     have HI15:=Lib.hid oI15
     have Hs1:Hid ((rdV s t x k).s=⟨s.s.pc.set t (pcS s.s t+1),s.s.regs.set (t*3+r) m.val,s.s.mem⟩∧(∀ j,lstV (rdV s t x k) j=lstV s j)∧ownV (rdV s t x k)=upF (ownV s) t (joinV (ownV s t) m.view)):=by
      have e1:x.loc.toNat=l:=by have:=Hl.out; omega
      have e2:rgI t x=t*3+r:=by unfold rgI; have:=Hr.out; omega
      refine⟨?_,fun _=>rfl,?_⟩
      ·show (⟨s.s.pc.set t (pcS s.s t+1),if rdB x=true then s.s.regs.set (rgI t x) (gM (lstV s x.loc.toNat) k).val else s.s.regs,s.s.mem⟩:St)=_
       rw [if_pos Hre.out,e1,e2,← Hm.out]
      ·funext u
       rw [rd_ownV (by rw [hs.ownl]; exact ht) Hre.out,e1,← Hm.out]
     clear hV15 hO15 oI15 hset HSb HSc hb14' g0 g1 g2 x0 x1 x2 c0 c1 c2 e0 e1 e2 f0 f1 f2 j2 j3 j4 Hjn HO13 oI13 oW13
     have i0:V15.cell? ⟨w8.heap.size,0,none⟩=some (.int .i64 x.op):=HI15.out.cell rfl
     by_cases h1:x.op=1
     ·rw [h1] at i0
      have Hfl:Hid (doV s t (insS p s.s t) k=rdV s t x k):=by
       have hwr:wrB x=false:=by unfold wrB; simp [h1]
       show _=_
       rw [← HX.out]
       unfold doV
       rw [if_neg (by omega),if_neg (by rw [hwr]; decide)]
      clear h1
      go_wp2_with fail
      go_ret
      rw [Hfl.out]
      exact⟨W.heap.size,rfl,fun a' h'=>HO15.out.vwL Hs1.out.1 (fun l _=>Hs1.out.2.1 l) (fun u _=>by rw [Hs1.out.2.2]) h',hB15⟩
     ·have h5:x.op=5:=by have:=H15.out; omega
      rw [h5] at i0
      have i1:V15.cell? ⟨w8.heap.size,1,none⟩=some (.int .i64 (l:Int)):=HI15.out.cell rfl
      have i3:V15.cell? ⟨w8.heap.size,3,none⟩=some (.int .i64 x.val):=HI15.out.cell rfl
      have hv03:0≤x.val∧x.val≤3:=by rcases Hix.out with h | h | h | h <;> omega
      have hv256:x.val % 256=x.val:=by omega
      have hk256:((k:Int)+1) % 256=(k:Int)+1:=by omega
      have hput:=put_any p ⟨s.s.pc.set t (pcS s.s t+1),s.s.regs.set (t*3+r) m.val,s.s.mem⟩ (lstV s) (upF (ownV s) t (joinV (ownV s t) m.view)) V15 W.heap.size W.heap.size Ap cp w HO15.out (fun j hj=>⟨vw_pos hs hj,by have:=(lens_le hp hs hj).2; omega⟩) (fun j hj y hy=>vw_bytes hp hs (hs.vals (lstV s j) (by
        unfold lstV
        rw [List.getD_eq_getElem?_getD,List.getElem?_eq_getElem (by rw [hs.len]; exact hj)]
        exact List.getElem_mem _) y hy).2) (fun u=>by
        by_cases e:u=t
        ·rw [e,upF_self]; exact join_B (own_bytes hp hs t) hmB
        ·rw [upF_ne _ _ e]; exact own_bytes hp hs u) t l (k+1) ht3 hl3 (by have:=Hcs.out; omega) x.val
      have Hfl:Hid (doV s t (insS p s.s t) k=⟨(putV (rdV s t x k) t l (k+1) x.val).s,(putV (rdV s t x k) t l (k+1) x.val).lists.set l (lockM (lstV (putV (rdV s t x k) t l (k+1) x.val) l) k),(putV (rdV s t x k) t l (k+1) x.val).own⟩):=by
       have e1:x.loc.toNat=l:=by have:=Hl.out; omega
       show _=_
       rw [← HX.out]
       unfold doV
       rw [if_pos h5,e1]
      rw [show ((k+1:Nat):Int)=(k:Int)+1 by omega] at hput
      clear h5 h1
      go_wp2_with fail
      refine hput.mono ?_
      rintro e16 w16 ⟨rfl,v',hO16,hb16,hK16⟩
      clear hput
      have hB16:=hB15.trans hb16
      have oI16:Own w16 w8.heap.size 50 #[.int .i64 x.op,.int .i64 l,.int .i64 r,.int .i64 x.val]:=HI15.out.of_block (hK16.2 _ HI15.out.lt (fun e=>hRw e.symm) HwI.out)
      have i1:w16.cell? ⟨w8.heap.size,1,none⟩=some (.int .i64 (l:Int)):=oI16.cell rfl
      have hIl:=oI16.lt
      have hrow:=hO16.row l hl3
      have hlen:k<(putLV (lstV s) (upF (ownV s) t (joinV (ownV s t) m.view)) t l (k+1) x.val l).length:=by
       have e:putLV (lstV s) (upF (ownV s) t (joinV (ownV s t) m.view)) t l (k+1) x.val l=_:=upF_self _ _ _
       rw [e,List.length_append,List.length_take,List.length_cons,List.length_drop]
       have e2:(lA (lstV s) l (k+1) 3 l).length=(lstV s l).length:=by
        unfold lA
        rw [if_pos hl3,List.length_map]
       have:=Hcs.out
       omega
      obtain⟨A6,c6,hv6,_⟩:=RowOf.slice hrow
      have hrow':=hrow
      rw [hv6] at hrow'
      obtain⟨g6,rfl,hgb6,hgl6,hfr6,_,hcells6⟩:=RowM.at hrow' hlen
      have k0:w16.cell? ⟨W.heap.size,16+l,none⟩=some (.slice (some ⟨g6,0,none⟩) (putLV (lstV s) (upF (ownV s) t (joinV (ownV s t) m.view)) t l (k+1) x.val l).length c6):=by
       rw [← hv6]
       exact hO16.blk.cell (vwsC_lst hl3)
      have t1:=(hcells6 k hlen).2.1
      have t2:=hfr6 (k*5+1)
      have HN16:=Lib.hid (hO16.setLock hl3 hv6 hlen)
      have hR16:=hO16.lt
      obtain⟨n6,hn6⟩:∃ n6,n6=(putLV (lstV s) (upF (ownV s) t (joinV (ownV s t) m.view)) t l (k+1) x.val l).length:=⟨_,rfl⟩
      rw [← hn6] at k0 hlen
      have hki6:(k:Int)<(n6:Int):=by omega
      generalize (putLV (lstV s) (upF (ownV s) t (joinV (ownV s t) m.view)) t l (k+1) x.val l)[k].lock=lk6 at t1
      have Hgb6:=Lib.hid hgb6
      clear hrow hrow' hv6 hn6 hcells6 hO16 oI16 hfr6
      go_wp2_with fail
      go_ret
      rw [Hfl.out]
      have h3':(rdV s t x k).lists.length=3:=hs.len
      have hown':t<(rdV s t x k).own.length:=by
       show t<(if rdB x=true then s.own.set t _ else s.own).length
       rw [if_pos Hre.out,List.length_set,hs.ownl]
       exact ht
      have hLf:(fun j=>lstV (rdV s t x k) j)=lstV s:=rfl
      refine⟨W.heap.size,rfl,fun a' h'=>HN16.out.vwL Hs1.out.1 (fun j hj=>?_) (fun u hu=>?_) h',hB16.setCell Hgb6.out _⟩
      ·have hl2:(putV (rdV s t x k) t l (k+1) x.val).lists.length=3:=by rw [ins_lists,insL_len]; exact hs.len
       have e:=fun q (hq:q<3)=>put_lst (x:=x.val) (t:=t) (k:=k+1) h3' hl3 hq
       rw [Hs1.out.2.2,show lstV (rdV s t x k)=lstV s from rfl] at e
       show ((putV (rdV s t x k) t l (k+1) x.val).lists.set l _).getD j []=_
       rw [getD_setP [] _ l j _ (by rw [hl2]; exact hl3)]
       by_cases ej:j=l
       ·rw [if_pos ej,ej,upF_self,e l hl3]
       ·rw [if_neg ej,upF_ne _ _ ej]
        exact e j hj
      ·have e:=put_ownV (x:=x.val) (k:=k+1) hown' hl3 (by omega) hu
       rw [Hs1.out.2.2] at e
       exact e
    ·have hre':rdB x=false:=by cases h:rdB x <;> simp_all
     rw [hre']
     have h23:x.op=2∨x.op=3:=by
      have:x.op≠1∧x.op≠5:=by
       unfold rdB at hre'
       rw [Bool.or_eq_false_iff,decide_eq_false_iff_not,decide_eq_false_iff_not] at hre'
       exact hre'
      have:=Hix.out.op
      omega
     have hkk:1≤k∧k≤(lstV s l).length:=by have:=Hcs.out; omega
     have Hre:=Lib.hid hre'
     have hwr:wrB x=true:=by rcases h23 with e | e <;> simp [wrB,e]
     obtain⟨vl,hvl⟩:∃ vl,vl=valS s.s t x:=⟨_,rfl⟩
     have hv03:0≤vl∧vl≤3:=by rw [hvl]; exact val_03 hs.ok Hix.out
     have Hs1:Hid ((rdV s t x k).s=⟨s.s.pc.set t (pcS s.s t+1),s.s.regs,s.s.mem⟩∧ownV (rdV s t x k)=ownV s):=by
      refine⟨?_,funext fun u=>rd_ownVN Hre.out u⟩
      show (⟨s.s.pc.set t (pcS s.s t+1),if rdB x=true then _ else s.s.regs,s.s.mem⟩:St)=_
      rw [Hre.out]
      rfl
     have Hfl:Hid (doV s t (insS p s.s t) k=putV (rdV s t x k) t l k vl):=by
      have e1:x.loc.toNat=l:=by have:=Hl.out; omega
      show _=_
      rw [← HX.out]
      unfold doV
      rw [if_neg (by omega),if_pos hwr,e1,hvl]
     have Hst:Hid (∀ X,Below W.heap.size W X→Calls Tryz.prog 186 #[.pointer (some ⟨b,0,none⟩),.int .i64 t,.agg #[.int .i64 x.op,.int .i64 l,.int .i64 r,.int .i64 x.val]] X (fun e W'=>e=.returned (.int .u8 vl)∧Below X.heap.size X W')):=fun X hX=>by
      have h:=stored_any p hp s.s hs.ok t ht x Hix.out X b Ap cp (ho.vals.le (Le.below hX))
      rw [Hl.out,Hr.out,← hvl] at h
      exact h
     have Hput:Hid (∀ X,Below w11.heap.size w11 X→Calls Tryz.prog 185 #[.pointer (some ⟨W.heap.size,0,none⟩),.int .i64 t,.int .i64 l,.int .u8 k,.int .u8 vl] X (fun e W'=>e=.returned (.tuple #[])∧∃ v',VwO W' W.heap.size W.heap.size Ap cp p ⟨s.s.pc.set t (pcS s.s t+1),s.s.regs,s.s.mem⟩ (putLV (lstV s) (ownV s) t l k vl) (putOV (ownV s) t l k) v'∧Below W.heap.size X W'∧KpB W.heap.size w X W')):=fun X hX=>
      put_any p ⟨s.s.pc.set t (pcS s.s t+1),s.s.regs,s.s.mem⟩ (lstV s) (ownV s) X W.heap.size W.heap.size Ap cp w (H11.out.1.under hX) (fun j hj=>⟨vw_pos hs hj,by have:=(lens_le hp hs hj).2; omega⟩) (fun j hj y hy=>vw_bytes hp hs (hs.vals (lstV s j) (by
        unfold lstV
        rw [List.getD_eq_getElem?_getD,List.getElem?_eq_getElem (by rw [hs.len]; exact hj)]
        exact List.getElem_mem _) y hy).2) (fun u=>own_bytes hp hs u) t l k ht3 hl3 hkk.2 vl
     have hk256:(k:Int) % 256=(k:Int):=by omega
     have hk8:IntKind.u8.wrap (k:Int)=(k:Int):=by simp [IntKind.wrap,IntKind.signed,IntKind.bits]; omega
     have hop:((x.op:Int) == 2)=true∨(((x.op:Int) == 2)=false∧((x.op:Int) == 3)=true):=by
      rcases h23 with h | h
      ·left; simp [h]
      ·right; simp [h]
     have Hkk:=Lib.hid hkk
     clear h23 h4 hre hre' hwr hvl hkk
     rcases hop with o2 | ⟨o2,o3⟩
     all_goals
      go_upto_region 17 with (fail)
      go_region_with (first
       | (go_at_call 186; ((with_reducible refine (Hst.out _ ?_).mono ?_); (first | exact hB11 | exact hB11.drew); rintro e12 w12 ⟨rfl,hb12⟩; have hb12':Below w11.heap.size w11 w12:=below_of_drewS hb12; have y1:=Le.below hb12' _ _ i1))
       | (go_at_call 185; ((with_reducible refine (Hput.out _ ?_).mono ?_); exact hb12'; rintro e13 w13 ⟨rfl,v',hO13,hb13,_⟩)))
      all_goals (go_wp2_with fail)
      all_goals
       go_ret
       rw [Hfl.out]
       have h3':(rdV s t x k).lists.length=3:=hs.len
       have hown':t<(rdV s t x k).own.length:=by
        show t<(if rdB x=true then _ else s.own).length
        rw [Hre.out]
        show t<s.own.length
        rw [hs.ownl]
        exact ht
       refine⟨W.heap.size,rfl,fun a' h'=>hO13.vwL Hs1.out.1 (fun j hj=>?_) (fun u hu=>?_) h',(hB11.trans (hb12'.mono hB11.size)).trans hb13⟩
       ·have e:=put_lst (s:=rdV s t x k) (x:=vl) (t:=t) (k:=k) h3' hl3 hj
        rw [Hs1.out.2,show lstV (rdV s t x k)=lstV s from rfl] at e
        exact e
       ·have e:=put_ownV (x:=vl) (k:=k) hown' hl3 Hkk.out.1 hu
        rw [Hs1.out.2] at e
        exact e
end Go.Proofs.YtojmofnamppbdaaGreat
