/-
  The search through the states of a machine: impl.reach walked, at the machines with store buffers (a copy of XRch).
-/
import Derived.Test.YtojmofnamppbdaaGreatMcA
import Derived.Test.YtojmofnamppbdaaGreatSeqC
import Derived.Test.YtojmofnamppbdaaGreatSoC
import Derived.Test.YtojmofnamppbdaaGreatRchH
import Derived.Handy
namespace Go.Proofs.YtojmofnamppbdaaGreat
open Go.RowKit
set_option linter.unusedVariables false
set_option maxRecDepth 100000
structure MachCB {σ:Type} (M:Mach σ):Prop where
 key:∀ s,Reach M.succ M.s0 s→∀ W b,M.R W b s→Calls Tryz.prog 202 #[.pointer (some ⟨b,0,none⟩)] W fun e W'=>e=.returned (.string (M.key s))∧Below W.heap.size W W'
 done:∀ s,Reach M.succ M.s0 s→∀ W b,M.R W b s→Calls Tryz.prog 201 #[.pointer (some ⟨b,0,none⟩)] W (RetB W (M.done s))
 out:∀ s,Reach M.succ M.s0 s→∀ W b,M.R W b s→Calls Tryz.prog 189 #[.pointer (some ⟨b,0,none⟩)] W (RetRowI W (M.out s))
 mv:∀ s,Reach M.succ M.s0 s→∀ W b,M.R W b s→Calls Tryz.prog 203 #[.pointer (some ⟨b,0,none⟩)] W (RetRowI W (M.mv s))
 after:∀ s,Reach M.succ M.s0 s→∀ (i:Nat) (hi:i<(M.succ s).length) (hm:i<(M.mv s).length) W b a,Le a W→M.R a b s →
  Calls Tryz.prog 200 #[.pointer (some ⟨b,0,none⟩),.int .i64 (M.mv s)[i]] W fun e W'=>
   ∃ b',e=.returned (.iface 157 (.pointer (some ⟨b',0,none⟩)))∧(∀ a',Le a a'→Le (above W.heap.size W') a'→M.R a' b' (M.succ s)[i])∧Below W.heap.size W W'
set_option maxHeartbeats 1500000 in
theorem reachB_any {σ:Type} (M:Mach σ) (hM:MachP M) (hC:MachCB M) (W:World) (b0:Nat) (h0:M.R W b0 M.s0):
  Calls Tryz.prog 42 #[.iface 157 (.pointer (some ⟨b0,0,none⟩))] W (RetRe M W):=by
 obtain⟨i0,hi0,hz0,hz1,hz2⟩:=info_parts Tryz.infoMach
 obtain⟨i1,hi1,hy0,hy1,hy2⟩:=info_parts Tryz.infoInts
 have hmm:=@run_makeMap Tryz.prog
 have hRs:=Reach.start (succ:=M.succ) (s0:=M.s0)
 have hB1:Below W.heap.size W (W.alloc (.map #[] 0)):=(Below.refl _ _).alloc (Nat.le_refl _) _
 have hc1:=hC.key _ hRs (W.alloc (.map #[] 0)) b0 (hM.le _ _ _ _ (Le.alloc _ _) h0)
 go_enter Tryz.func42,Tryz.ntmps42
 go_wp2_with fail
 refine hc1.mono ?_
 rintro e5 w5 ⟨rfl,hb5⟩
 have hB5:=hB1.trans (hb5.mono hB1.size)
 have hk1:=hM.klen M.s0
 obtain⟨w6,hrun6,hset6,hg6⟩:=((SetM.made W).below hb5).put (k:=M.key M.s0) (by simp [maxLen]) (by simp [maxLen]; omega) (by simp)
 clear hc1 hmm
 have hs5:W.heap.size+1≤w5.heap.size:=by have:=hb5.size; simpa using this
 have hs6:=World.grownBy.size hg6
 have hB6:Below W.heap.size W w6:=below_of_grown hB5 hg6 hB5.size (fun g hg=>by injection hg with hg; omega)
 have hB7:=hB6.alloc hB6.size (.cells #[.iface 157 (.pointer (some ⟨b0,0,none⟩))] 55)
 have Hst:=Lib.hid (Srch.start hM (hM.le _ _ _ _ (Le.to_hidS (m:=W.heap.size) (v5:=.slice none 0 0) (v6:=.slice (some ⟨w6.heap.size,0,none⟩) 1 1) hB7 (Nat.le_refl _) (fun g hg=>by cases hg) (fun g hg=>by simp only [Value.ownBlock,Option.some.injEq] at hg; omega)) h0) hset6)
 clear hset6
 go_wp2_with fail
 go_loopg [5,6] 5000000000000 (fun g s5 s6 wr=>∃ (V:List σ) (Kb:List (Nat×σ)) (os:List OE) (v5 v6:Value),g+V.length=5000000000000+Kb.length∧v5=s5∧v6=s6∧Hid (Dfs M.succ M.s0 V (Kb.map Prod.snd))∧Hid (Srch M 157 W.heap.size wr v5 v6 V Kb os)∧Below W.heap.size W wr)
 case atStart=>exact⟨[M.s0],[(b0,M.s0)],[],_,_,rfl,rfl,rfl,Dfs.start _ _,Hst.out,hB7⟩
 case round=>
  obtain⟨V,Kb,os,v5,v6,hg,rfl,rfl,hdfs,hsr,hb⟩:=hrel
  have hfew:=hM.few V hdfs.out.nd hdfs.out.reach
  rcases snoc_cases Kb with rfl | ⟨Kt,bs,rfl⟩
  ·have hle:∀ w',wr.grownBy w' v5.ownBlock→Le (hidS W.heap.size v5 v6 wr) w':=fun w' h=>(Le.hidS_grown h (.inr (.inr (.inl rfl))) (fun _ h=>.inl h) (fun _ h=>.inl h)).trans (Le.hidS _ _ _ _)
   have hin:∀ o∈os,Ints (hidS W.heap.size v5 v6 wr) (some ⟨o.g,0,none⟩) o.c o.x:=fun o ho=>by
    obtain⟨r1,r2,r3,r4⟩:=hsr.out.rows o ho
    exact RowOf.slR' (R:=RInt) (by omega) r1 (fun cs x h=>h) (fun g o' u _ hg hc=>by
     have:g=o.g:=by simpa [OE.v,Value.ownBlock] using hg.symm
     subst this
     exact cell_keepW_of ⟨r2,r3,r4⟩ hc)
   have hfo:=hsr.out.few
   have hso:=sortOut_any os wr (W.heap.size+1) v5 hsr.out.outs (by omega) _ hin hle
   have H5:Hid (∀ g',v5.ownBlock=some g'→W.heap.size+1≤g'):=fun g' h=>(hsr.out.outs.own_lt h).1
   obtain⟨A6,c6,rfl,_,_⟩:=hsr.out.stk.slice
   clear hle hin hfo
   go_wp2_with fail
   refine hso.mono ?_
   rintro e7 w7 ⟨v7,os7,rfl,hr7,hv7,hg7,ha7,hm7,hs7,hn7⟩
   have hset7:=hsr.out.map.kept hg7 (fun e=>by have:=H5.out _ e.symm; omega)
   have hlen:=hset7.len
   rw [List.length_map] at hlen
   have hB7':Below W.heap.size W w7:=below_of_grown hb hg7 hb.size (fun g' h=>by have:=H5.out g' h; omega)
   have HR:Hid (RetRe M W (.returned (.tuple #[v7,.int .i64 (V.length:Int)])) w7):=by
    refine⟨v7,os7,V,rfl,hdfs.out,hr7,hB7',ha7,fun y=>?_,fun o ho=>?_,hn7 hsr.out.apart⟩
    ·rw [hm7,hsr.out.what]
     constructor
     ·rintro ⟨s,h1,_,h3,h4⟩
      exact⟨s,h1,h3,h4⟩
     ·rintro ⟨s,h1,h3,h4⟩
      exact⟨s,h1,by simp,h3,h4⟩
    ·obtain⟨r1,r2,r3,r4⟩:=hsr.out.rows o (hs7 o ho)
     refine⟨r1.grown hg7 (fun g' h e=>?_),by rw [hv7]; exact r3⟩
     have:g'=o.g:=by simpa [OE.v,Value.ownBlock] using h.symm
     subst this
     exact r3 e
   clear hso hset7 hr7 hv7 hg7 ha7 hm7 hs7 hn7
   go_wp2_with fail
   refine bodyPost_ret (v:=.tuple #[v7,.int .i64 (V.length:Int)]) (by simp [results,Tryz.results42,go_sem]) rfl ?_
   exact HR.out
  ·obtain⟨b,s⟩:=bs
   obtain⟨g,c,cs,rfl,hgB,hglt,hgc,hc9,hcell,hq,hpop⟩:=RowOf.pop (qst_congr _) (by omega) hsr.out.stk
   have hq:cs 0=.iface 157 (.pointer (some ⟨b,0,none⟩)):=hq
   have hcell:=hcell 0 (by omega)
   rw [hq,Nat.mul_one,Nat.add_zero] at hcell
   have hRs:=hsr.out.sts (b,s) (by simp)
   have hsV:=hdfs.out.sub s (by simp)
   have hre:=hdfs.out.reach s hsV
   have Hat:Hid (DfsAt M.succ M.s0 V (Kt.map Prod.snd) s 0):=Dfs.pop (by have h:=hdfs.out; rw [List.map_append] at h; exact h)
   have hdn:=hC.done s hre wr b (hM.le _ _ _ _ (Le.hidS _ _ _ _) hRs)
   have hlen:V.length+Kt.length+1≤10000000000000∧os.length+Kt.length+1≤V.length:=by have:=hsr.out.few; rw [List.length_append] at this; simp only [List.length_singleton] at this; omega
   have HR:=Lib.hid hRs
   have Hpop:=Lib.hid hpop
   have Hre:=Lib.hid hre
   have HsV:=Lib.hid hsV
   have Hgc:=Lib.hid hgc
   rw [List.length_append,List.length_singleton] at hg
   clear hq hre hRs hsV Hpop
   go_wp2_with fail
   refine hdn.mono ?_
   rintro e8 w8 ⟨rfl,hb8⟩
   have hB8:=hb.trans (hb8.mono hb.size)
   have hsr8:=hsr.out.below hM hb8
   have hpop8:=hpop.grown (grown_of_below hb8) (row:=none) (fun _ _=>by simp)
   have HR8:Hid (M.R (hidS W.heap.size v5 (.slice (some ⟨g,0,none⟩) (Kt.length+1) c) w8) b s):=hM.le _ _ _ _ (Le.hidS_below hb8) HR.out
   have hne:∀ g',v5.ownBlock=some g'→g'≠g:=fun g' h e=>hsr.out.sep g' h (by rw [e]; rfl)
   have Hsz:=Lib.hid hb8.size
   clear hdn hsr hcell hb8
   cases hdo:M.done s
   case' false=>
    have hsr9:Hid (Srch M 157 W.heap.size w8 v5 (.slice (some ⟨g,0,none⟩) Kt.length c) V Kt os):=Srch.pop hM hdo hsr8 rfl hpop8
    have HR9:Hid (M.R (hidS W.heap.size v5 (.slice (some ⟨g,0,none⟩) Kt.length c) w8) b s):=HR8.out
    have hmv:=hC.mv s Hre.out w8 b (hM.le _ _ _ _ (Le.hidS _ _ _ _) HR9.out)
    obtain⟨v5n,rfl⟩:∃ x,x=v5:=⟨_,rfl⟩
    obtain⟨osn,rfl⟩:∃ x,x=os:=⟨_,rfl⟩
    have hB9:=hB8
    clear hdo hsr8 hpop8 HR8 hne hlen
    go_wp2_with fail
   case' true=>
    have hou:=hC.out s Hre.out w8 b (hM.le _ _ _ _ (Le.hidS _ _ _ _) HR8.out)
    have hop:=hM.opos s Hre.out
    have Hdo:=Lib.hid hdo
    have Hsr8:=Lib.hid hsr8
    have Hpop8:=Lib.hid hpop8
    clear hdo hsr8 hpop8
    go_wp2_with fail
    refine hou.mono ?_
    rintro e9 w9 ⟨A9,c9,rfl,hrow9,hb9⟩
    have hB9':=hB8.trans (hb9.mono hB8.size)
    obtain⟨go,rfl,hgo8,hgo9⟩:∃ go,A9=some ⟨go,0,none⟩∧w8.heap.size≤go∧go<w9.heap.size:=by
     obtain⟨cs',ho,_⟩:=hrow9
     obtain⟨go,cap,e,h1,h2⟩:=owns_cell ho (by omega) (i:=0) (j:=0) hop (by omega)
     injection e with e1
     exact⟨go,e1,h1,World.block_lt_of_cell? _ _ h2⟩
    have hsz9:=hb9.size
    have hszr:=Hsz.out
    have H5lt:Hid (∀ g',v5.ownBlock=some g'→W.heap.size+1≤g'∧g'<w8.heap.size):=fun g' h=>Hsr8.out.outs.own_lt h
    have Hon:Hid (go∉os.map OE.g):=fun h=>by
     obtain⟨q,hq1,hq2⟩:=List.mem_map.1 h
     have:=((Hsr8.out.rows q hq1).1.own_lt (g:=q.g) rfl).2
     omega
    have hBs8:=hB8.size
    have hsrA:=(Hsr8.out.below hM hb9).below hM ((Below.refl _ _).alloc (Nat.le_refl _) (.cells #[.slice (some ⟨go,0,none⟩) (M.out s).length c9] 31))
    have hpopA:Hid (RowOf 1 (QSt 157) (w9.alloc (.cells #[.slice (some ⟨go,0,none⟩) (M.out s).length c9] 31)) (W.heap.size+1) 55 (.slice (some ⟨g,0,none⟩) Kt.length c) Kt):=(Hpop8.out.grown (grown_of_below hb9) (row:=none) (fun _ _=>by simp)).grown (grown_of_below ((Below.refl _ _).alloc (Nat.le_refl _) _)) (row:=none) (fun _ _=>by simp)
    have hrowo:Hid (RowI (w9.alloc (.cells #[.slice (some ⟨go,0,none⟩) (M.out s).length c9] 31)) (W.heap.size+1) (OE.v ⟨go,c9,M.out s⟩) (M.out s)):=by
     have hlb:=Hsr8.out.map.lt
     obtain⟨cs',hw,hq'⟩:=hrow9
     refine⟨cs',⟨hw.1,?_⟩,hq'⟩
     rcases hw.2 with ⟨h,h'⟩ | ⟨g',cap,cur,e,hb',hh,r⟩
     ·cases h
     ·exact .inr ⟨g',cap,cur,e,by omega,by rw [Go.Deep.blk_alloc_lt _ _ _ ((Array.getElem?_eq_some_iff.1 hh).elim fun h _=>h)]; exact hh,r⟩
    have hBA:=hB9'.alloc hB9'.size (.cells #[.slice (some ⟨go,0,none⟩) (M.out s).length c9] 31)
    have HRA:Hid (M.R (hidS W.heap.size v5 (.slice (some ⟨g,0,none⟩) (Kt.length+1) c) (w9.alloc (.cells #[.slice (some ⟨go,0,none⟩) (M.out s).length c9] 31))) b s):=hM.le _ _ _ _ ((Le.hidS_below hb9).trans (Le.hidS_below ((Below.refl _ _).alloc (Nat.le_refl _) _))) HR8.out
    obtain⟨cs5,hown5,hq5⟩:=hsrA.outs
    have hsrA:=Lib.hid hsrA
    have Hown5:=Lib.hid hown5
    have Hq5:=Lib.hid hq5
    clear hou hrow9 hb9 hown5 hq5 Hsr8 Hpop8 HR8
    go_wp2_with (at_builtin; refine wpList_append_lies _ (by rfl) _ _ _ (by rfl) (W.heap.size+1) 31 i1 _ 1 24 Tryz.underlying25 hi1 hy0 hy1 hy2 rfl (by omega) v5 os.length cs5 (by rfl) Hown5.out ⟨w9.heap.size,0,none⟩ 1 1 [.slice (some ⟨go,0,none⟩) (M.out s).length c9] (by rfl) (by rfl) (World.news_of_block (cs:=#[.slice (some ⟨go,0,none⟩) (M.out s).length c9]) (t:=31) (fr:=(0,0)) (heap_alloc_new w9 _)) (by simp [Value.oneCell']) (by omega) (by simp [maxLen]; omega) (by omega) (by simp; omega) (w9.heap.size+1) (by simp) ?_; intro gg cap w10 hown10 hgrow10 hat10 hlt10)
    have Hh5:Hid (∀ g',(Value.slice (some ⟨gg,0,none⟩) (os.length+1) cap).ownBlock=some g'→v5.ownBlock=some g'∨(w9.alloc (.cells #[.slice (some ⟨go,0,none⟩) (M.out s).length c9] 31)).heap.size≤g'):=fun g' h=>by
     simp only [Value.ownBlock,Option.some.injEq] at h
     subst h
     rcases hat10 with h | h
     ·exact .inl h
     ·right; simp; omega
    have hB9:Below W.heap.size W w10:=below_of_grown hBA hgrow10 (by simp; omega) (fun g' h=>by have:=(H5lt.out g' h).1; omega)
    have HR9:Hid (M.R (hidS W.heap.size (.slice (some ⟨gg,0,none⟩) (os.length+1) cap) (.slice (some ⟨g,0,none⟩) Kt.length c) w10) b s):=hM.le _ _ _ _ (Le.hidS_grown (v6:=.slice (some ⟨g,0,none⟩) (Kt.length+1) c) hgrow10 (.inr (.inr (.inl rfl))) Hh5.out (fun _ h=>.inl h)) HRA.out
    have hsr9:Hid (Srch M 157 W.heap.size w10 (.slice (some ⟨gg,0,none⟩) (os.length+1) cap) (.slice (some ⟨g,0,none⟩) Kt.length c) V Kt (os++[⟨go,c9,M.out s⟩])):=
     Srch.popOut hM HsV.out Hat.out.notk Hdo.out hsrA.out hgrow10 Hh5.out rfl hpopA.out rfl hrowo.out (fun h=>by have:=(H5lt.out _ h).2; simp only at this; omega) (fun h=>by simp only [Value.ownBlock,Option.some.injEq] at h; omega) Hon.out (RowOf.snoc (news:=[.slice (some ⟨go,0,none⟩) (M.out s).length c9]) qoe_congr Hown5.out Hq5.out rfl rfl hown10)
    have hmv:=hC.mv s Hre.out w10 b (hM.le _ _ _ _ (Le.hidS _ _ _ _) HR9.out)
    obtain⟨v5n,hv5n⟩:∃ x,x=Value.slice (some ⟨gg,0,none⟩) (os.length+1) cap:=⟨_,rfl⟩
    obtain⟨osn,hosn⟩:∃ x,x=os++[(⟨go,c9,M.out s⟩:OE)]:=⟨_,rfl⟩
    rw [← hv5n] at HR9 hsr9 ⊢
    rw [← hosn] at hsr9
    clear hv5n hosn Hh5 hrowo hsrA hpopA HRA hBA Hown5 Hq5 hown10 hgrow10 hat10 hlt10 hlen Hon H5lt hop Hdo hne hB8 hgo8 hgo9 hsz9 hszr
   all_goals
    refine hmv.mono ?_
    rintro e11 w11 ⟨Am,cm,rfl,hrowm,hb11⟩
    have hB11:=hB9.trans (hb11.mono hB9.size)
    have hsr11:=Lib.hid (hsr9.out.below hM hb11)
    have HR11:Hid (M.R (hidS W.heap.size v5n (.slice (some ⟨g,0,none⟩) Kt.length c) w11) b s):=hM.le _ _ _ _ (Le.hidS_below hb11) HR9.out
    have Hms:Hid (Ints (hidS W.heap.size v5n (.slice (some ⟨g,0,none⟩) Kt.length c) w11) Am cm (M.mv s)):=by
     obtain⟨A',c',e,hi⟩:=hrowm.ints
     injection e with e1 e2 e3
     subst e1 e3
     exact Ints.le hi (Le.above_hidS hsr9.out.map.lt (fun _ h=>(hsr9.out.outs.own_lt h).2) (fun _ h=>(hsr9.out.stk.own_lt h).2))
    have Hml:=Lib.hid (hM.len s Hre.out)
    clear hmv hrowm hsr9 HR9 hb11 hB9
    go_wp2_with fail
    go_loopg [6,42] (M.mv s).length (fun gi s6 s42 wi=>∃ (i:Nat) (V1:List σ) (K1:List (Nat×σ)) (v6:Value),i≤(M.mv s).length∧gi=(M.mv s).length-i∧v6=s6∧s42=.int .i64 i∧Hid (DfsAt M.succ M.s0 V1 (K1.map Prod.snd) s i)∧Hid (Srch M 157 W.heap.size wi v5n v6 V1 K1 osn)∧Hid (M.R (hidS W.heap.size v5n v6 wi) b s)∧Hid (Ints (hidS W.heap.size v5n v6 wi) Am cm (M.mv s))∧V1.length+Kt.length=K1.length+V.length∧Below W.heap.size W wi)
    case atStart=>exact⟨0,V,Kt,_,Nat.zero_le _,rfl,rfl,rfl,Hat.out,hsr11.out,HR11.out,Hms.out,Nat.add_comm _ _,hB11⟩
    case round=>
     obtain⟨i,V1,K1,v6,hi,rfl,rfl,rfl,hat1,hsr1,hR1,hms1,hcnt,hb1⟩:=hrel
     clear hsr11 HR11 Hms hB11
     have hmlen:=hms1.out.len
     by_cases hlt:i<(M.mv s).length
     ·have Hls:Hid (i<(M.succ s).length):=by show _<_; rw [← Hml.out]; exact hlt
      obtain⟨bm,om,rfl,hbm,hcm⟩:=hms1.out.get hlt
      have hcm:=Le.hidS _ _ _ _ _ _ hcm
      have haf:=hC.after s Hre.out i Hls.out hlt _ b _ (Le.hidS _ _ _ _) hR1.out
      obtain⟨t,ht⟩:∃ t,t=(M.succ s)[i]'Hls.out:=⟨_,rfl⟩
      have hrt:Reach M.succ M.s0 t:=.next Hre.out (by rw [ht]; exact List.getElem_mem Hls.out)
      rw [← ht] at haf
      have Ht:=Lib.hid ht
      have Hrt:=Lib.hid hrt
      generalize (M.mv s)[i]=mi at haf hcm
      clear ht hrt hbm
      go_wp2_with fail
      refine haf.mono ?_
      rintro e12 w12 ⟨b',rfl,hR12,hb12⟩
      have hB12:=hb1.trans (hb12.mono hb1.size)
      have hsr12:=Lib.hid (hsr1.out.below hM hb12)
      have hRt12:=Lib.hid (hR12 (hidS W.heap.size v5n v6 w12) (Le.hidS_below hb12) (Le.above_hidS hsr1.out.map.lt (fun _ h=>(hsr1.out.outs.own_lt h).2) (fun _ h=>(hsr1.out.stk.own_lt h).2)))
      have hRs12:=Lib.hid (hM.le _ _ _ _ (Le.hidS_below (m:=W.heap.size) (v5:=v5n) (v6:=v6) hb12) hR1.out)
      have hms12:=Lib.hid (Ints.le hms1.out (Le.hidS_below (m:=W.heap.size) (v5:=v5n) (v6:=v6) hb12))
      have hky:=hC.key t Hrt.out w12 b' (hM.le _ _ _ _ (Le.hidS _ _ _ _) hRt12.out)
      clear haf hcm hR12 hb12 hsr1 hR1 hms1
      go_wp2_with fail
      refine hky.mono ?_
      rintro e13 w13 ⟨rfl,hb13⟩
      have hB13:=hB12.trans (hb13.mono hB12.size)
      have hsr13:=Lib.hid (hsr12.out.below hM hb13)
      have hRt13:=Lib.hid (hM.le _ _ _ _ (Le.hidS_below (m:=W.heap.size) (v5:=v5n) (v6:=v6) hb13) hRt12.out)
      have hRs13:=Lib.hid (hM.le _ _ _ _ (Le.hidS_below (m:=W.heap.size) (v5:=v5n) (v6:=v6) hb13) hRs12.out)
      have hms13:=Lib.hid (Ints.le hms12.out (Le.hidS_below (m:=W.heap.size) (v5:=v5n) (v6:=v6) hb13))
      have hkl:=hM.klen t
      have hlk:=hsr13.out.map.look (k:=M.key t) (by simp [maxLen]; omega)
      clear hky hb13 hsr12 hRt12 hRs12 hms12
      by_cases hin:t∈V1
      ·rw [inB_true (List.mem_map.2 ⟨t,hin,rfl⟩)] at hlk
       have Hin:=Lib.hid hin
       clear hin
       go_wp2_with fail
       go_roundg ((M.mv s).length-(i+1))
       case measure=>omega
       case rel=>exact⟨i+1,V1,K1,_,by omega,rfl,rfl,by go_num,DfsAt.seen hat1.out Hls.out (by rw [← Ht.out]; exact Hin.out),hsr13.out,hRs13.out,hms13.out,hcnt,hB13⟩
      ·have hnk:M.key t∉V1.map M.key:=fun h=>by
        obtain⟨u,hu,e⟩:=List.mem_map.1 h
        exact hin (by rw [← hM.inj u t (hat1.out.reach u hu) Hrt.out e]; exact hu)
       have hf1:=hM.few V1 hat1.out.nd hat1.out.reach
       have hfs:=hsr13.out.few
       rw [inB_false hnk] at hlk
       obtain⟨w14,hrun14,hset14,hg14⟩:=hsr13.out.map.put (k:=M.key t) (by simp [maxLen]; omega) (by simp [maxLen]; omega) hnk
       have Hin:=Lib.hid hin
       have hs14:=World.grownBy.size hg14
       have hs13:=hB13.size
       have H6lt:Hid (∀ g',v6.ownBlock=some g'→W.heap.size+1≤g'∧g'<w13.heap.size):=fun g' h=>hsr13.out.stk.own_lt h
       have hm14:=Lib.hid (hset14.alloc (.cells #[.iface 157 (.pointer (some ⟨b',0,none⟩))] 55))
       have hgA:w13.grownBy (w14.alloc (.cells #[.iface 157 (.pointer (some ⟨b',0,none⟩))] 55)) (some W.heap.size):=grown_below hg14 ((Below.refl _ _).alloc (Nat.le_refl _) _)
       obtain⟨cs6,hown6,hq6⟩:=(hsr13.out.stk.grown hg14 (fun g' h e=>by injection e with e; have:=(H6lt.out g' h).1; omega)).grown (grown_of_below ((Below.refl _ _).alloc (Nat.le_refl _) (.cells #[.iface 157 (.pointer (some ⟨b',0,none⟩))] 55))) (row:=none) (fun _ _=>by simp)
       have Hown6:=Lib.hid hown6
       have Hq6:=Lib.hid hq6
       have HgA:=Lib.hid hgA
       clear hin hnk hset14 hown6 hq6 hg14 hgA
       go_wp2_with (at_builtin; refine wpList_append_lies _ (by rfl) _ _ _ (by rfl) (W.heap.size+1) 55 i0 _ 1 16 Tryz.underlying96 hi0 hz0 hz1 hz2 rfl (by omega) v6 K1.length cs6 (by rfl) Hown6.out ⟨w14.heap.size,0,none⟩ 1 1 [(.iface 157 (.pointer (some ⟨b',0,none⟩)))] (by rfl) (by rfl) (World.news_of_block (cs:=#[(.iface 157 (.pointer (some ⟨b',0,none⟩)))]) (t:=55) (fr:=(0,0)) (heap_alloc_new w14 _)) (by simp [Value.oneCell']) (by omega) (by simp [maxLen]; omega) (by omega) (by simp; omega) (w14.heap.size+1) (by simp) ?_; intro gg cap w15 hown15 hgrow15 hat15 hlt15)
       have Hh6:Hid (∀ g',(Value.slice (some ⟨gg,0,none⟩) (K1.length+1) cap).ownBlock=some g'→v6.ownBlock=some g'∨(w14.alloc (.cells #[.iface 157 (.pointer (some ⟨b',0,none⟩))] 55)).heap.size≤g'):=fun g' h=>by
        simp only [Value.ownBlock,Option.some.injEq] at h
        subst h
        rcases hat15 with h | h
        ·exact .inl h
        ·right; simp; omega
       have hsr15:Hid (Srch M 157 W.heap.size w15 v5n (.slice (some ⟨gg,0,none⟩) (K1.length+1) cap) (V1++[t]) (K1++[(b',t)]) osn):=
        Srch.put hM Hin.out hsr13.out hRt13.out hm14.out HgA.out hgrow15 Hh6.out (RowOf.snoc (news:=[(.iface 157 (.pointer (some ⟨b',0,none⟩)))]) (qst_congr _) Hown6.out Hq6.out rfl rfl hown15)
       have hLe15:Le (hidS W.heap.size v5n v6 w13) (hidS W.heap.size v5n (.slice (some ⟨gg,0,none⟩) (K1.length+1) cap) w15):=(Le.hidS_grown HgA.out (.inr (.inl rfl)) (fun _ h=>.inl h) (fun _ h=>.inl h)).trans (Le.hidS_grown (v6:=v6) hgrow15 (.inr (.inr (.inr rfl))) (fun _ h=>.inl h) Hh6.out)
       have hR15:=Lib.hid (hM.le _ _ _ _ hLe15 hRs13.out)
       have hms15:=Lib.hid (Ints.le hms13.out hLe15)
       have hB15:Below W.heap.size W w15:=below_of_grown (below_of_grown hB13 HgA.out hs13 (fun g' h=>by injection h with h; omega)) hgrow15 (by simp; omega) (fun g' h=>by have:=(H6lt.out g' h).1; omega)
       have hat16:Hid (DfsAt M.succ M.s0 (V1++[t]) ((K1++[(b',t)]).map Prod.snd) s (i+1)):=by
        have h:=DfsAt.new hat1.out Hls.out (by rw [← Ht.out]; exact Hin.out)
        rw [← Ht.out] at h
        show DfsAt _ _ _ _ _ _
        rw [List.map_append]
        exact h
       have hcnt':(V1++[t]).length+Kt.length=(K1++[(b',t)]).length+V.length:=by simp only [List.length_append,List.length_singleton]; omega
       clear hsr13 hRt13 hRs13 hms13 hown15 hgrow15 hat15 hLe15 Hown6 Hq6 HgA hm14 hfs hf1
       go_wp2_with fail
       go_roundg ((M.mv s).length-(i+1))
       case measure=>omega
       case rel=>exact⟨i+1,V1++[t],K1++[(b',t)],_,by omega,rfl,rfl,by go_num,hat16.out,hsr15.out,hR15.out,hms15.out,hcnt',hB15⟩
     ·have hil:i=(M.mv s).length:=by omega
      have Hdf:Hid (Dfs M.succ M.s0 V1 (K1.map Prod.snd)):=DfsAt.fin hat1.out (by rw [← Hml.out]; omega)
      have hcl:gk-1+V1.length=5000000000000+K1.length:=by omega
      subst hil
      go_wp2_with fail
      go_roundg (gk-1)
      case measure=>omega
      case rel=>exact⟨V1,K1,osn,_,_,hcl,rfl,rfl,Hdf.out,hsr1.out,hb1⟩
end Go.Proofs.YtojmofnamppbdaaGreat
