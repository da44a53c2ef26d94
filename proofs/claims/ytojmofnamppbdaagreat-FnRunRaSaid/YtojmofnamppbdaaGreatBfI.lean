/-
  The machine with store buffers: it is one; runBuffers, BufferStates in the program.
-/
import Derived.Test.YtojmofnamppbdaaGreatRchB
import Derived.Test.YtojmofnamppbdaaGreatBfA
import Derived.Test.YtojmofnamppbdaaGreatBfB
import Derived.Test.YtojmofnamppbdaaGreatBufA
namespace Go.Proofs.YtojmofnamppbdaaGreat
open Go.RowKit
set_option linter.unusedVariables false
set_option maxRecDepth 100000
theorem kBI_len {p:Prg} {sp:Bool} (hp:PrgOk p) {s:BSt} (hs:BOk p sp s):(kBI s).length≤1000:=by
 have h1:(kI s.s).length=15:=by simp [kI]
 have key:∀ l:List (List (Int×Int)),(∀ bf∈l,bf.length≤7)→(l.flatMap fun bf=>bf.length::bf.map encW).length≤8*l.length:=fun l=>by
  induction l with
  | nil=>intro _; simp
  | cons a l ih=>
   intro h
   have h2:=h a (by simp)
   have h3:=ih fun bf hb=>h bf (by simp [hb])
   simp only [List.flatMap_cons,List.length_append,List.length_cons,List.length_map]
   omega
 have h2:=key s.bufs (bufs_sum hp hs)
 have h3:s.bufs.length≤9:=by rw [hs.len]; exact nBf_le hp sp
 unfold kBI
 rw [List.length_append]
 omega
def keyM (s:BSt):ByteArray:=if (keyBI s).size≤1000000 then keyBI s else ⟨#[]⟩
theorem keyM_eq {p:Prg} {sp:Bool} (hp:PrgOk p) {s:BSt} (hs:BOk p sp s):keyM s=keyBI s:=if_pos (by
 have:=kBI_len hp hs
 unfold keyBI byt ByteArray.size
 simp only [List.size_toArray,List.length_map]
 omega)
theorem mvBI_eq (p:Prg) (sp:Bool) (s:BSt):mvBI p sp s (p.length+s.bufs.length)=(mvB p sp s).map fun k=>((k:Nat):Int):=rfl
def bufM (p:Prg) (sp:Bool) (Ap:Option Addr) (cp:Nat):Mach BSt where
 succ:=sucB p sp
 s0:=bt0 p sp
 key:=keyM
 done:=doneB p
 out:=outB
 mv:=fun s=>mvBI p sp s (p.length+s.bufs.length)
 R:=fun W b s=>BufL W b Ap cp p sp s∧PrgS W (.slice Ap p.length cp) p
theorem bufM_P {p:Prg} (hp:PrgOk p) (sp:Bool) (Ap:Option Addr) (cp:Nat):MachP (bufM p sp Ap cp) where
 le:=fun a a' b s hl h=>⟨h.1.le hl,h.2.le hl⟩
 len:=fun s _=>by
  show (mvBI p sp s (p.length+s.bufs.length)).length=(sucB p sp s).length
  rw [mvBI_eq]
  unfold sucB
  rw [List.length_map,List.length_map]
 inj:=fun s t hs ht h=>by
  have h:keyM s=keyM t:=h
  rw [keyM_eq hp (reachB_ok hp hs),keyM_eq hp (reachB_ok hp ht)] at h
  exact keyBI_inj hp (reachB_ok hp hs) (reachB_ok hp ht) h
 klen:=fun s=>by
  show (keyM s).size≤_
  unfold keyM
  split
  ·assumption
  ·exact Nat.zero_le _
 few:=fun V hn h=>Nat.le_trans (buf_few hp hn h) (by decide)
 opos:=fun s h=>by
  show 0<(outS s.s).length
  unfold outS
  rw [List.length_append,(reachB_ok hp h).ok.meml]
  omega
theorem bufM_C {p:Prg} (hp:PrgOk p) (sp:Bool) (Ap:Option Addr) (cp:Nat):MachCB (bufM p sp Ap cp) where
 key:=fun s hs W b h=>by
  have hk:=keyB_any p hp sp s (reachB_ok hp hs) W b Ap cp h.1
  rw [← keyM_eq hp (reachB_ok hp hs)] at hk
  exact hk
 done:=fun s hs W b h=>doneB_any p hp sp s (reachB_ok hp hs) W b Ap cp h.1 h.2
 out:=fun s hs W b h=>outcome_any p hp s.s (reachB_ok hp hs).ok W b Ap cp h.1.vals
 mv:=fun s hs W b h=>movesB_any p hp sp s (reachB_ok hp hs) W b Ap cp h.1 h.2
 after:=fun s hs i hi hm W b a hl h=>by
  have hm':i<(mvB p sp s).length:=by
   have h1:i<(mvBI p sp s (p.length+s.bufs.length)).length:=hm
   rw [mvBI_eq,List.length_map] at h1
   exact h1
  have e1:(mvBI p sp s (p.length+s.bufs.length))[i]'hm=(((mvB p sp s)[i]:Nat):Int):=by simp only [mvBI_eq,List.getElem_map]
  have e2:(sucB p sp s)[i]'hi=nxB p sp s (mvB p sp s)[i]:=by simp only [sucB,List.getElem_map]
  have hc:=afterB_any p hp sp s (reachB_ok hp hs) (mvB p sp s)[i] (List.getElem_mem hm') a W hl b Ap cp h.1 (h.2.le hl)
  show Calls _ _ #[_,.int .i64 ((mvBI p sp s (p.length+s.bufs.length))[i]'hm)] _ _
  rw [e1]
  refine hc.mono ?_
  rintro e W' ⟨b',rfl,hB,hb⟩
  refine⟨b',rfl,fun a' h1 h2=>?_,hb⟩
  show BufL a' b' Ap cp p sp ((sucB p sp s)[i]'hi)∧_
  rw [e2]
  exact⟨hB a' h1 h2,h.2.le h1⟩
def IsOutB (p:Prg) (sp:Bool) (L:List (List Int)):Prop:=(PrgOk p∧∃ V,Dfs (sucB p sp) (bt0 p sp) V []∧Asc L∧∀ y,y∈L↔∃ s∈V,doneB p s=true∧outB s=y)∨(¬ PrgOk p∧L=[])
def IsCntB (p:Prg) (sp:Bool) (n:Nat):Prop:=(PrgOk p∧∃ V,Dfs (sucB p sp) (bt0 p sp) V []∧n=V.length)∨(¬ PrgOk p∧n=0)
def RetRb (p:Prg) (sp:Bool) (W:World) (e:Ending) (W':World):Prop:=
 ∃ (v:Value) (n B:Nat) (os:List OE),e=.returned (.tuple #[v,.int .i64 (n:Int)])∧W.heap.size≤B∧RowOf 1 QOE W' B 31 v os∧(∀ o∈os,RowI W' B o.v o.x∧¬ v.ownBlock=some o.g)∧(os.map OE.g).Nodup ∧
  IsOutB p sp (os.map OE.x)∧IsCntB p sp n∧Below W.heap.size W W'
set_option maxHeartbeats 1000000 in
theorem runBuf_any (p:Prg) (hl:p.length≤1048576) (hls:∀ t∈p,t.length≤1048576) (sp:Bool) (W:World) (v:Value) (hr:PrgS W v p):Calls Tryz.prog 50 #[v,.bool sp] W (RetRb p sp W):=by
 have hv:=implPrg_any p hl hls W v hr
 have HR:=Lib.hid hr
 obtain⟨A,c,rfl,_⟩:=hr.slice
 have HF:Hid (prgB p=false→¬ PrgOk p):=fun h=>prgB_false.1 h
 have HT:Hid (prgB p=true→PrgOk p):=fun h=>prgB_iff.1 h
 go_enter Tryz.func50,Tryz.ntmps50
 go_wp2_with fail
 refine hv.mono ?_
 rintro e1 w1 ⟨rfl,hb1⟩
 clear hv
 cases hpb:prgB p
 ·have Hn:Hid (¬ PrgOk p):=HF.out hpb
  clear hpb HT HF
  go_wp2_with fail
  refine bodyPost_ret (v:=.tuple #[.slice none 0 0,.int .i64 0]) (by simp [results,Tryz.results50,go_sem]) rfl ?_
  exact⟨_,0,W.heap.size,[],rfl,Nat.le_refl _,RowOf.nil _ _ _ _ _,fun o ho=>(by cases ho),List.nodup_nil,.inr ⟨Hn.out,rfl⟩,.inr ⟨Hn.out,rfl⟩,hb1⟩
 ·have Hp:Hid (PrgOk p):=HT.out hpb
  have hns:=newBuffers_any p (by have:=Hp.out.1.1; omega) sp w1 _ (HR.out.le (Le.below hb1))
  clear hpb HT HF
  go_wp2_with fail
  refine hns.mono ?_
  rintro e2 w2 ⟨Ap,cp,b,e,rfl,hR,hpr2,hb2⟩
  injection e with e1 _ e3
  subst e1 e3
  have hre:=reachB_any (bufM p sp A c) (bufM_P Hp.out sp A c) (bufM_C Hp.out sp A c) w2 b ⟨hR,hpr2⟩
  have hB2:=hb1.trans (hb2.mono hb1.size)
  clear hns
  go_wp2_with fail
  refine hre.mono ?_
  rintro e3 w3 ⟨v3,os,V,rfl,hdfs,hrow,hb3,hasc,hmem,hrows,hnd⟩
  have hB3:=hB2.trans (hb3.mono hB2.size)
  have Hcnt:Hid (IsCntB p sp V.length):=.inl ⟨Hp.out,V,hdfs,rfl⟩
  have Hout:Hid (IsOutB p sp (os.map OE.x)):=.inl ⟨Hp.out,V,hdfs,hasc,hmem⟩
  have How:=Lib.hid (And.intro hrow (And.intro hrows hnd))
  have hB2s:=hB2.size
  clear hre hdfs hrow hrows hnd hasc hmem
  go_wp2_with fail
  refine bodyPost_ret (v:=.tuple #[v3,.int .i64 (V.length:Int)]) (by simp [results,Tryz.results50,go_sem]) rfl ?_
  exact⟨v3,V.length,w2.heap.size+1,os,rfl,by omega,How.out.1,How.out.2.1,How.out.2.2,Hout.out,Hcnt.out,hB3⟩
end Go.Proofs.YtojmofnamppbdaaGreat
