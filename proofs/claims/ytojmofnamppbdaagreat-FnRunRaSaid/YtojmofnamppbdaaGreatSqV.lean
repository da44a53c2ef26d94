/-
  RunSeq of the program (the reference has none here).
-/
import Derived.Test.YtojmofnamppbdaaGreatRch
import Derived.Test.YtojmofnamppbdaaGreatOwE
namespace Go.Proofs.YtojmofnamppbdaaGreat
open Go.RowKit
set_option linter.unusedVariables false
set_option maxRecDepth 100000
def seqM (p:Prg) (Ap:Option Addr) (cp:Nat):Mach St where
 succ:=sucS p
 s0:=st0 p
 key:=keyI
 done:=doneS p
 out:=outS
 mv:=fun s=>mvI p s p.length
 R:=fun W b s=>SeqL W b Ap cp p s∧PrgS W (.slice Ap p.length cp) p
theorem mvI_eq (p:Prg) (s:St):mvI p s p.length=(mvS p s).map fun k=>((k:Nat):Int):=rfl
theorem seqM_P {p:Prg} (hp:PrgOk p) (Ap:Option Addr) (cp:Nat):MachP (seqM p Ap cp) where
 le:=fun a a' b s hl h=>⟨h.1.le hl,h.2.le hl⟩
 len:=fun s _=>by show (mvI p s p.length).length=(sucS p s).length; rw [mvI_eq]; unfold sucS; rw [List.length_map,List.length_map]
 inj:=fun s t hs ht h=>keyI_inj hp (reach_ok hp hs) (reach_ok hp ht) h
 klen:=fun s=>by
  show (byt (kI s)).size≤_
  have:(kI s).length=15:=by simp [kI]
  simp [byt,ByteArray.size,this]
 few:=fun V hn h=>Nat.le_trans (seq_few hp hn h) (by decide)
 opos:=fun s h=>by
  show 0<(outS s).length
  unfold outS
  rw [List.length_append,(reach_ok hp h).meml]
  omega
theorem SeqO.readable {W W':World} {b:Nat} {Ap:Option Addr} {cp:Nat} {p:Prg} {s:St} (h:SeqO W' b Ap cp p s) (hb:W.heap.size≤b) {a':World} (hl:Le (above W.heap.size W') a'):SeqL a' b Ap cp p s:=fun i v hv=>hl _ _ (cell_above_of hb (Own.cell h hv))
set_option maxHeartbeats 400000 in
theorem doneM_any (p:Prg) (hp:PrgOk p) (s:St) (hs:StOk p s) (W:World) (b:Nat) (Ap:Option Addr) (cp:Nat) (ho:SeqL W b Ap cp p s) (hpr:PrgS W (.slice Ap p.length cp) p):
  Calls Tryz.prog 197 #[.pointer (some ⟨b,0,none⟩)] W (RetB W (doneS p s)):=by
 have hc:=allDone_any p hp s hs W b Ap cp ho hpr
 go_enter Tryz.func197,Tryz.ntmps197
 go_wp2_with fail
 refine hc.mono ?_
 rintro e5 w5 ⟨rfl,hb5⟩
 go_wp2_with fail
 go_ret
 exact⟨rfl,hb5⟩
theorem seqM_C {p:Prg} (hp:PrgOk p) (Ap:Option Addr) (cp:Nat):MachC (seqM p Ap cp) where
 key:=fun s hs W b h=>key_any p hp s (reach_ok hp hs) W b Ap cp h.1
 done:=fun s hs W b h=>doneM_any p hp s (reach_ok hp hs) W b Ap cp h.1 h.2
 out:=fun s hs W b h=>outcome_any p hp s (reach_ok hp hs) W b Ap cp h.1
 mv:=fun s hs W b h=>moves_any p hp s (reach_ok hp hs) W b Ap cp h.1 h.2
 after:=fun s hs i hi hm W b a hl h=>by
  have hm':i<(mvS p s).length:=by
   have h1:i<(mvI p s p.length).length:=hm
   rw [mvI_eq,List.length_map] at h1
   exact h1
  have e1:(mvI p s p.length)[i]'hm=(((mvS p s)[i]:Nat):Int):=by simp only [mvI_eq,List.getElem_map]
  have e2:(sucS p s)[i]'hi=nxS p s (mvS p s)[i]:=by simp only [sucS,List.getElem_map]
  have hc:=after_any p hp s (reach_ok hp hs) (mvS p s)[i] (List.getElem_mem hm') W b Ap cp (h.1.le hl) (h.2.le hl)
  show Calls _ _ #[_,.int .i64 ((mvI p s p.length)[i]'hm)] _ _
  rw [e1]
  refine hc.mono ?_
  rintro e W' ⟨b',rfl,ho,hb',hb⟩
  refine⟨b',rfl,fun a' h1 h2=>?_,hb⟩
  show SeqL a' b' Ap cp p ((sucS p s)[i]'hi)∧_
  rw [e2]
  exact⟨ho.readable hb' h2,h.2.le h1⟩
theorem seqC_st0 {p:Prg} (Ap:Option Addr) (cp:Nat):seqC Ap cp p (st0 p)=#[.slice Ap p.length cp,.int .u8 0,.int .u8 0,.int .u8 0,.int .u8 0,.int .u8 0,.int .u8 0,.int .u8 0,.int .u8 0,.int .u8 0,.int .u8 0,.int .u8 0,.int .u8 0,.int .u8 0,.int .u8 0,.int .u8 0]:=by
 have h1:∀ t,pcS (st0 p) t=0:=fun t=>by
  unfold pcS st0
  rw [List.getD_eq_getElem?_getD,List.getElem?_replicate]
  split <;> rfl
 have h2:∀ t,rgF (st0 p) t=0:=fun t=>by
  unfold rgF st0
  rw [List.getD_eq_getElem?_getD,List.getElem?_replicate]
  split <;> rfl
 unfold seqC pcV rgV meV
 simp only [h1,h2]
 rfl
set_option maxHeartbeats 1000000 in
theorem newSeq_any (p:Prg) (W:World) (vp:Value) (hpr:PrgS W vp p):
  Calls Tryz.prog 49 #[vp] W (fun e W'=>∃ Ap cp b,vp=.slice Ap p.length cp∧e=.returned (.iface 121 (.pointer (some ⟨b,0,none⟩)))∧(seqM p Ap cp).R W' b (st0 p)∧Below W.heap.size W W'):=by
 obtain⟨Ap,cp,rfl,hpl⟩:=SlR.slice hpr
 go_enter Tryz.func49,Tryz.ntmps49
 go_wp2_with fail
 go_ret
 refine⟨Ap,cp,W.heap.size,rfl,rfl,⟨?_,hpr.le (Le.alloc _ _)⟩,(Below.refl _ _).alloc (Nat.le_refl _) _⟩
 refine SeqO.l ?_
 unfold SeqO
 rw [seqC_st0]
 exact Own.new _ _ _
def IsOut (p:Prg) (L:List (List Int)):Prop:=(PrgOk p∧∃ V,Dfs (sucS p) (st0 p) V []∧Asc L∧∀ y,y∈L↔∃ s∈V,doneS p s=true∧outS s=y)∨(¬ PrgOk p∧L=[])
theorem IsOut.iff {p:Prg} {L:List (List Int)} (hp:PrgOk p) (h:IsOut p L) (y:List Int):y∈L↔∃ s,Reach (sucS p) (st0 p) s∧doneS p s=true∧outS s=y:=by
 rcases h with ⟨_,V,h1,_,h3⟩ | ⟨h1,_⟩
 ·rw [h3]
  exact⟨fun ⟨s,k1,k2⟩=>⟨s,h1.all.1 k1,k2⟩,fun⟨s,k1,k2⟩=>⟨s,h1.all.2 k1,k2⟩⟩
 ·exact absurd hp h1
def RetRn (p:Prg) (W:World) (e:Ending) (W':World):Prop:=∃ v L F,e=.returned v∧OwI2 W' v L F∧F.Nodup∧(∀ b∈F,W.heap.size≤b)∧IsOut p L∧L.length≤1000000000000∧Below W.heap.size W W'
set_option maxHeartbeats 1000000 in
theorem implRn_any (p:Prg) (hl:p.length≤1048576) (hls:∀ t∈p,t.length≤1048576) (W:World) (v:Value) (hr:PrgS W v p):Calls Tryz.prog 18 #[v] W (RetRn p W):=by
 have hv:=implPrg_any p hl hls W v hr
 have HR:=Lib.hid hr
 obtain⟨A,c,rfl,_⟩:=hr.slice
 have HF:Hid (prgB p=false→¬ PrgOk p):=fun h=>prgB_false.1 h
 have HT:Hid (prgB p=true→PrgOk p):=fun h=>prgB_iff.1 h
 go_enter Tryz.func18,Tryz.ntmps18
 go_wp2_with fail
 refine hv.mono ?_
 rintro e1 w1 ⟨rfl,hb1⟩
 clear hv
 cases hpb:prgB p
 ·have Hn:Hid (¬ PrgOk p):=HF.out hpb
  clear hpb HT HF
  go_wp2_with fail
  go_ret
  exact⟨_,[],[],rfl,OwRow.nil,List.nodup_nil,fun b hb=>(by cases hb),.inr ⟨Hn.out,rfl⟩,by simp,hb1⟩
 ·have Hp:Hid (PrgOk p):=HT.out hpb
  have hns:=newSeq_any p w1 _ (HR.out.le (Le.below hb1))
  clear hpb HT HF
  go_wp2_with fail
  refine hns.mono ?_
  rintro e2 w2 ⟨Ap,cp,b,e,rfl,hR,hb2⟩
  injection e with e1 _ e3
  subst e1 e3
  have hre:=reach_any (seqM p A c) (seqM_P Hp.out A c) (seqM_C Hp.out A c) w2 b hR
  have hB2:=hb1.trans (hb2.mono hb1.size)
  clear hns
  go_wp2_with fail
  refine hre.mono ?_
  rintro e3 w3 ⟨v3,os,V,rfl,hdfs,hrow,hb3,hasc,hmem,hrows,hnd⟩
  have hB3:=hB2.trans (hb3.mono hB2.size)
  have Hd:Hid (Dfs (sucS p) (st0 p) V []):=hdfs
  have hfew:V.length≤230127770466:=seq_few Hp.out Hd.out.nd Hd.out.reach
  have Hout:Hid (IsOut p (os.map OE.x)):=.inl ⟨Hp.out,V,Hd.out,hasc,hmem⟩
  have Hlen:Hid ((os.map OE.x).length≤1000000000000):=by
   show _≤_
   have h1:(os.map OE.x).Nodup:=hasc.imp fun h e=>by rw [e,lexC_self] at h; omega
   have h2:=nodup_le (os.map OE.x) (V.map outS) h1 fun y hy=>by
    obtain⟨s,k1,_,k3⟩:=(hmem y).1 hy
    exact List.mem_map.2 ⟨s,k1,k3⟩
   rw [List.length_map (f:=outS)] at h2
   omega
  have How:=Lib.hid (outs_ow hrow hrows hnd)
  have hB2s:=hB2.size
  clear hre hdfs hrow hrows hnd hasc hmem
  go_wp2_with fail
  go_ret
  obtain⟨F,h1,h2,h3⟩:=How.out
  exact⟨v3,_,F,rfl,h1,h2,fun b hb=>by have:=h3 b hb; omega,Hout.out,Hlen.out,hB3⟩
end Go.Proofs.YtojmofnamppbdaaGreat
