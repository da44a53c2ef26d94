/-
  The walk of FnRaFence: it answers true.
-/
import Derived.Test.YtojmofnamppbdaaGreatWiV
import Derived.Test.YtojmofnamppbdaaGreatDpP
namespace Go.Proofs.YtojmofnamppbdaaGreat
open Go.RowKit
set_option linter.unusedVariables false
set_option maxRecDepth 100000
theorem one_ins {x:Ins}:∀ i (hi:i<[x].length),QIn (fun j=>[Value.int .i64 x.op,.int .i64 x.loc,.int .i64 x.reg,.int .i64 x.val].getD (i*4+j) undef) [x][i]
 | 0,_=>⟨rfl,rfl,rfl,rfl⟩
theorem dVg_any (w:World) (A:Option Addr) (n c:Nat) (h:Bys w A n) (hnc:n≤c) (hA:A=none→n=0):Calls Tryz.prog 39 #[.slice A n c] w (RetDrP w):=by
 have hd:=drawPV_any w A n c h hnc hA
 go_enter Tryz.func39,Tryz.ntmps39
 go_wp2_with fail
 refine hd.mono ?_
 rintro e1 w1 ⟨pr,v,rfl,h1,h2,h3⟩
 go_wp2_with fail
 go_ret
 exact⟨pr,v,rfl,h1,h2,h3⟩
set_option maxHeartbeats 4000000 in
theorem lawVg_walk (w:World) (A:Option Addr) (n c:Nat) (h:Bys w A n) (hnc:n≤c) (hA:A=none→n=0):
  Calls Tryz.prog 8 #[.slice A n c] w (RetB w true):=by
 have hdr:=dVg_any w A n c h hnc hA
 have hn:=h.1
 clear h
 go_enter Tryz.func8,Tryz.ntmps8
 by_cases hsz:(1048576:Int)<(n:Int)
 ·have hd:decide ((n:Int)>1048576)=true:=by simpa using hsz
  go_wp2_with fail
  go_ret
  exact⟨rfl,Below.refl _ _⟩
 have hd:decide ((n:Int)>1048576)=false:=by simpa using hsz
 go_wp2_with fail
 refine hdr.mono ?_
 rintro e1 w1 ⟨p,v,rfl,hps,hfew,hB1⟩
 have hp1:PrgS w1 v p:=PrgS.le hps (Le.above _ _)
 obtain⟨A1,c1,rfl,hpl⟩:=hp1.slice
 have hl:p.length≤1048576:=by have:=hfew.1; omega
 have Hls:=Lib.hid (hfew.mil (by omega))
 have HP1:=Lib.hid hp1
 have Hfw:=Lib.hid hfew
 clear hps hdr hp1 hfew
 have hc2:=implRaS_any p hl Hls.out w1 _ HP1.out
 go_wp2_with fail
 refine hc2.mono ?_
 rintro e2 w2 ⟨nb,rfl,hcb,hb2⟩
 have hB2:=hB1.trans (hb2.mono hB1.size)
 have HP2:=Lib.hid (PrgS.le HP1.out (Le.below hb2))
 have HCb:=Lib.hid hcb
 have hnb:=hcb.le
 clear hcb
 clear hc2
 have hc3:=specRaS_any p hl w2 _ HP2.out
 go_wp2_with fail
 refine hc3.mono ?_
 rintro e3 w3 ⟨nc,rfl,hcc,hb3⟩
 have hB3:=hB2.trans (hb3.mono hB2.size)
 have HP3:=Lib.hid (PrgS.le HP2.out (Le.below hb3))
 obtain rfl:nb=nc:=HCb.out.same hcc
 clear hcc
 clear hc3
 have hc4:=implPrg_any p hl Hls.out w3 _ HP3.out
 have hne:((nb:Int) != (nb:Int))=false:=by simp
 have hee:((nb:Int) == (nb:Int))=true:=by simp
 have HF:Hid (prgB p=false→nb=0):=fun h=>by
  rcases HCb.out with ⟨k,_⟩ | ⟨_,k⟩
  ·exact absurd k (prgB_false.1 h)
  ·exact k
 have HT:Hid (prgB p=true→PrgOk p):=fun h=>prgB_iff.1 h
 go_wp2_with fail
 refine hc4.mono ?_
 rintro e4 w4 ⟨rfl,hb4⟩
 have hB4:=hB3.trans (hb4.mono hB3.size)
 have HP4:=Lib.hid (PrgS.le HP3.out (Le.below hb4))
 clear hc4
 cases hpb:prgB p
 ·skip
  obtain rfl:=HF.out hpb
  have Hpb:=Lib.hid hpb
  clear hpb HT HF
  have hc5:=specRaS_any p hl w4 _ HP4.out
  go_wp2_with fail
  refine hc5.mono ?_
  rintro e5 w5 ⟨nc,rfl,hcc,hb5⟩
  have hB5:=hB4.trans (hb5.mono hB4.size)
  have HP5:=Lib.hid (PrgS.le HP4.out (Le.below hb5))
  obtain rfl:0=nc:=HCb.out.same hcc
  clear hcc
  clear hc5
  have hc6:=(show Calls _ _ _ _ (RetB w5 false) from by have h:=implPrg_any p hl Hls.out w5 _ HP5.out; rw [Hpb.out] at h; exact h)
  go_wp2_with fail
  refine hc6.mono ?_
  rintro e6 w6 ⟨rfl,hb6⟩
  have hB6:=hB5.trans (hb6.mono hB5.size)
  have HP6:=Lib.hid (PrgS.le HP5.out (Le.below hb6))
  clear hc6
  go_wp2_with fail
  go_ret
  exact⟨rfl,hB6⟩
 ·skip
  have Hp:Hid (PrgOk p):=HT.out hpb
  clear hpb HT HF
  obtain⟨i0,hi0,hz0,hz1,hz2⟩:=info_parts Tryz.infoIns
  obtain⟨i1,hi1,hy0,hy1,hy2⟩:=info_parts Tryz.infoInsS
  have hB0:Below w4.heap.size w4 (w4.alloc (.cells #[] 48)):=(Below.refl _ _).alloc (Nat.le_refl _) _
  have hrow0:Hid (RowW 1 48 (rowP 4 50 QIn) (w4.alloc (.cells #[] 48)) w4.heap.size (.slice (some ⟨w4.heap.size,0,none⟩) 0 0) [] [] (fun _=>[])):=RowW.made 1 _ (Own.new w4 _ _) (Nat.le_refl _)
  have HP0:=Lib.hid HP4.out
  go_wp2_with fail
  go_loopg [5,6] p.length (fun g s5 s6 wr=>∃ (i:Nat) (v5:Value) (cs:List Value) (Fs:Nat→List Nat),i≤p.length∧g=p.length-i∧v5=s5∧s6=.int .i64 i∧Hid (RowW 1 48 (rowP 4 50 QIn) wr w4.heap.size v5 (ffP (p.take i)) cs Fs)∧Below w4.heap.size w4 wr)
  case atStart=>exact⟨0,_,[],fun _=>[],Nat.zero_le _,rfl,rfl,rfl,hrow0.out,hB0⟩
  case round=>
   obtain⟨wo,rfl⟩:∃ wo:World,wo=wr:=⟨_,rfl⟩
   clear hrow0
   obtain⟨i,v5,cs,Fs,hi,rfl,rfl,rfl,hrow,hb⟩:=hrel
   have hbs:=hb.size
   by_cases hlt:i<p.length
   ·obtain⟨bp,op,A2,c2,e,hbl,k0,hlm,hx⟩:=SlR.getSub HP0.out hlt
    have htl:p[i].length≤2000:=Hfw.out.2 _ (List.getElem_mem hlt)
    have Hnext:Hid (ffP (p.take (i+1))=ffP (p.take i)++[p[i].filter nf]):=by
     show _=_
     unfold ffP
     rw [List.take_succ_eq_append_getElem hlt,List.map_append]
     rfl
    have hpl2:(ffP (p.take i)).length≤2000:=by rw [ff_len,List.length_take]; have:=Hfw.out.1; omega
    have K0:Hid (∀ U,Below w4.heap.size w4 U→U.cell? ⟨bp,op+i,none⟩=some (.slice A2 p[i].length c2)):=fun U hU=>Le.below hU _ _ k0
    have k0':=K0.out wo hb
    subst e
    have Hx:=Lib.hid hx
    generalize p[i]=t at htl Hnext K0 k0' Hx hlm
    generalize ffP (p.take i)=qs at hrow hpl2 Hnext
    have he0:Hid (RowT (wo.alloc (.cells #[] 50)) wo.heap.size (.slice (some ⟨wo.heap.size,0,none⟩) 0 0) []):=RowOf.made _ (Own.new wo _ _) (Nat.le_refl _)
    have hbe:Below wo.heap.size wo (wo.alloc (.cells #[] 50)):=(Below.refl _ _).alloc (Nat.le_refl _) _
    clear hx k0
    go_wp2_with fail
    clear k0'
    go_loopg [7,8] t.length (fun g s7 s8 wr=>∃ (k:Nat) (v7:Value),k≤t.length∧g=t.length-k∧v7=s7∧s8=.int .i64 k∧Hid (RowT wr wo.heap.size v7 ((t.take k).filter nf))∧Below wo.heap.size wo wr)
    case atStart=>exact⟨0,_,Nat.zero_le _,rfl,rfl,rfl,he0.out,hbe⟩
    case round=>
     obtain⟨wi,rfl⟩:∃ wi:World,wi=wr:=⟨_,rfl⟩
     clear he0 hbe
     obtain⟨k,v7,hk,rfl,rfl,rfl,hin,hbi⟩:=hrel
     have hBi:=hb.trans (hbi.mono hb.size)
     have hbis:=hbi.size
     have k0i:=K0.out wi hBi
     by_cases hkl:k<t.length
     ·obtain⟨b2,o2,e2,hb2,ii0,ii1,ii2,ii3⟩:=InsS.get (InsS.le Hx.out (Le.below hBi)) hkl
      subst e2
      have Hnk:Hid ((t.take (k+1)).filter nf=(t.take k).filter nf++if nf t[k] then [t[k]] else []):=by
       show _=_
       rw [List.take_succ_eq_append_getElem hkl,List.filter_append,List.filter_cons,List.filter_nil]
      have hml:((t.take k).filter nf).length≤2000:=Nat.le_trans (List.length_filter_le _ _) (by rw [List.length_take]; omega)
      generalize t[k]=x at ii0 ii1 ii2 ii3 Hnk
      generalize (t.take k).filter nf=ms at hin hml Hnk
      by_cases h4:x.op=4
      ·have hop:((x.op:Int) != 4)=false:=by simp [h4]
       have Hn2:=Lib.hid (Hnk.out.trans (by rw [show nf x=false by unfold nf; simp [h4],if_neg (by simp),List.append_nil]))
       clear h4 Hnk
       go_wp2_with fail
       go_roundg (t.length-(k+1))
       case measure=>omega
       case rel=>exact⟨k+1,_,by omega,rfl,rfl,by go_num,by rw [Hn2.out]; exact hin.out,hbi⟩
      ·have hop:((x.op:Int) != 4)=true:=by simp [h4]
       have Hn2:=Lib.hid (Hnk.out.trans (by rw [show nf x=true by unfold nf; simp [h4],if_pos rfl]))
       clear h4 Hnk
       obtain⟨cs6,hown,hqq⟩:=hin.out
       have Hown:=Lib.hid hown
       have Hqq:=Lib.hid hqq
       have Hv6:Hid (∀ g,v7.ownBlock=some g→wo.heap.size≤g):=fun g hg=>(hin.out.blk hg).1
       clear hin hown hqq
       go_wp2_with (at_builtin; refine wpList_append_lies _ (by rfl) _ _ _ (by rfl) wo.heap.size 50 i0 _ 4 32 Tryz.underlying48 hi0 hz0 hz1 hz2 rfl (by omega) v7 ms.length cs6 (by rfl) (owns_alloc Hown.out _) ⟨wi.heap.size,0,none⟩ 1 1 [.int .i64 x.op,.int .i64 x.loc,.int .i64 x.reg,.int .i64 x.val] (by rfl) (by rfl) (World.news_of_block (cs:=#[.int .i64 x.op,.int .i64 x.loc,.int .i64 x.reg,.int .i64 x.val]) (t:=50) (fr:=(0,0)) (heap_alloc_new wi _)) (by simp [Value.oneCell']) (by omega) (by simp [maxLen]; omega) (by omega) (by simp; omega) (wi.heap.size+1) (by simp) ?_; intro gg cap w8 hown8 hgrow8 hat8 hlt8)
       have hB8:Below wo.heap.size wo w8:=below_of_grown (hbi.alloc hbis _) hgrow8 (by simp; omega) (fun g hg=>Hv6.out g hg)
       have hr8:Hid (RowT w8 wo.heap.size (.slice (some ⟨gg,0,none⟩) (ms.length+1) cap) (ms++[x])):=RowOf.more qin_congr Hown.out Hqq.out (ys:=[x]) rfl one_ins hown8
       clear hown8 hgrow8 hat8
       go_wp2_with fail
       go_roundg (t.length-(k+1))
       case measure=>omega
       case rel=>exact⟨k+1,_,by omega,rfl,rfl,by go_num,by rw [Hn2.out]; exact hr8.out,hB8⟩
     ·obtain rfl:k=t.length:=by omega
      rw [List.take_length] at hin
      obtain⟨A7,c7,e7,hle7,hc79⟩:=RowOf.slice hin.out
      have hml:(t.filter nf).length≤2000:=Nat.le_trans (List.length_filter_le _ _) htl
      subst e7
      have Hown:=Lib.hid hrow.out.own
      have Hv4:Hid (∀ g,v5.ownBlock=some g→w4.heap.size≤g):=fun g hg=>(World.ownsRow.lt hrow.out.own g hg).1
      have Hv4l:Hid (∀ g,v5.ownBlock=some g→g<wo.heap.size):=fun g hg=>(World.ownsRow.lt hrow.out.own g hg).2
      have Howi:Hid (wi.ownsRow w4.heap.size 48 1 v5 qs.length cs):=owns_of_block Hown.out fun g _ _ hl=>hbi.block g hl
      generalize t.filter nf=ts at hin hle7 hml Hnext
      go_wp2_with (at_builtin; refine wpList_append_lies _ (by rfl) _ _ _ (by rfl) w4.heap.size 48 i1 _ 1 24 Tryz.underlying23 hi1 hy0 hy1 hy2 rfl (by omega) v5 qs.length cs (by rfl) (owns_alloc Howi.out _) ⟨wi.heap.size,0,none⟩ 1 1 [.slice A7 ts.length c7] (by rfl) (by rfl) (World.news_of_block (cs:=#[.slice A7 ts.length c7]) (t:=48) (fr:=(0,0)) (heap_alloc_new wi _)) (by simp [Value.oneCell']) (by omega) (by simp [maxLen]; omega) (by omega) (by simp; omega) (wi.heap.size+1) (by simp) ?_; intro gg cap w9 hown9 hgrow9 hat9 hlt9)
      have hB9:Below w4.heap.size w4 w9:=below_of_grown (hBi.alloc hBi.size _) hgrow9 (by simp; omega) (fun g hg=>Hv4.out g hg)
      obtain⟨Fs9,hp9⟩:=hrow.out.pushRow (t:=ts) (A:=A7) (c:=c7) (wr:=wi) (fun b _ hl=>hbi.block b hl) hbis hbs hin.out hgrow9 hown9 hat9 rfl
      have Hp9:=Lib.hid hp9
      clear hown9 hgrow9 hat9 hp9 k0i
      go_wp2_with fail
      go_roundg (p.length-(i+1))
      case measure=>omega
      case rel=>exact⟨i+1,_,_,Fs9,by omega,rfl,rfl,by go_num,by rw [Hnext.out]; exact Hp9.out,hB9⟩
   ·obtain rfl:i=p.length:=by omega
    rw [List.take_length] at hrow
    have hqs:PrgS (above w4.heap.size wo) v5 (ffP p):=hrow.out.slR2 (R:=RIns) (by omega) fun _ _ _ h=>h
    obtain⟨Aq,cq,eq,hqm⟩:=hqs.slice
    subst eq
    have HQ5:=Lib.hid (PrgS.le hqs (Le.above _ _))
    have HP5:=Lib.hid (PrgS.le HP0.out (Le.below hb))
    have hB5:=hB4.trans (hb.mono hB4.size)
    have hlq:(ffP p).length≤1048576:=by rw [ff_len]; exact hl
    have Hlsq:Hid (∀ t∈ffP p,t.length≤1048576):=fun t ht=>by
     obtain⟨u,hu,rfl⟩:=List.mem_map.1 ht
     exact Nat.le_trans (List.length_filter_le _ _) (Nat.le_trans (Hfw.out.2 u hu) (by decide))
    clear hrow hqs
    obtain⟨w5,rfl⟩:∃ w2:World,w2=wo:=⟨_,rfl⟩
    have hc6:=implRa_any (ffP p) hlq Hlsq.out w5 _ HQ5.out
    go_wp2_with fail
    refine hc6.mono ?_
    rintro e6 w6 ⟨v6,LQ,F6,rfl,ho6,_,_,hout6,_,hb6⟩
    have hB6:=hB5.trans (hb6.mono hB5.size)
    have HP6:=Lib.hid (PrgS.le HP5.out (Le.below hb6))
    have HQ6:=Lib.hid (PrgS.le HQ5.out (Le.below hb6))
    obtain⟨AQ,cQ,ef⟩:=OwI2.formV ho6
    subst ef
    have HoQ:=Lib.hid hout6
    have HiQ6:=Lib.hid ho6.intss0
    clear hc6 ho6 hout6
    have hc7:=implRa_any p hl Hls.out w6 _ HP6.out
    go_wp2_with fail
    refine hc7.mono ?_
    rintro e7 w7 ⟨v7,LV,F7,rfl,ho7,_,_,hout7,_,hb7⟩
    have hB7:=hB6.trans (hb7.mono hB6.size)
    have HP7:=Lib.hid (PrgS.le HP6.out (Le.below hb7))
    have HQ7:=Lib.hid (PrgS.le HQ6.out (Le.below hb7))
    have HiQ7:=Lib.hid (Intss.le HiQ6.out (Le.below hb7))
    obtain⟨AV,cV,ef⟩:=OwI2.formV ho7
    subst ef
    have HoV:=Lib.hid hout7
    have HiV7:=Lib.hid ho7.intss0
    clear hc7 ho7 hout7
    obtain rfl:LQ=LV:=asc_uniq LQ LV HoQ.out.asc HoV.out.asc fun x=>by rw [HoQ.out.iff (ff_ok Hp.out),HoV.out.iff Hp.out]; exact ff_outs Hp.out x
    have hc8:=(show Calls _ _ _ _ (RetB w7 true) from by have h:=wmLists_any LQ LQ w7 AQ AV cQ cV HiQ7.out HiV7.out; rw [eqB_self] at h; exact h)
    go_wp2_with fail
    refine hc8.mono ?_
    rintro e8 w8 ⟨rfl,hb8⟩
    have hB8:=hB7.trans (hb8.mono hB7.size)
    have HP8:=Lib.hid (PrgS.le HP7.out (Le.below hb8))
    have HQ8:=Lib.hid (PrgS.le HQ7.out (Le.below hb8))
    have HiQ8:=Lib.hid (Intss.le HiQ7.out (Le.below hb8))
    have HiV8:=Lib.hid (Intss.le HiV7.out (Le.below hb8))
    clear hc8
    have hc9:=implRaS_any (ffP p) hlq Hlsq.out w8 _ HQ8.out
    go_wp2_with fail
    refine hc9.mono ?_
    rintro e9 w9 ⟨nq,rfl,hcq,hb9⟩
    have hB9:=hB8.trans (hb9.mono hB8.size)
    have HP9:=Lib.hid (PrgS.le HP8.out (Le.below hb9))
    have HQ9:=Lib.hid (PrgS.le HQ8.out (Le.below hb9))
    have HiQ9:=Lib.hid (Intss.le HiQ8.out (Le.below hb9))
    have HiV9:=Lib.hid (Intss.le HiV8.out (Le.below hb9))
    have hle:decide ((nq:Int)≤(nb:Int))=true:=by
     rw [decide_eq_true_iff]
     rcases HCb.out with ⟨_,V,hV,rfl⟩ | ⟨h,_⟩
     ·rcases hcq with ⟨_,U,hU,rfl⟩ | ⟨h,_⟩
      ·have:=ff_count Hp.out hV hU
       omega
      ·exact absurd (ff_ok Hp.out) h
     ·exact absurd Hp.out h
    have hle2:decide (nq≤nb)=true:=by simpa using hle
    clear hcq
    clear hc9
    go_wp2_with fail
    go_ret
    exact⟨rfl,hB9⟩
end Go.Proofs.YtojmofnamppbdaaGreat
