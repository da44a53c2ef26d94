/-
  The walk of FnRaOneLocation: it answers true.
-/
import Derived.Test.YtojmofnamppbdaaGreatWiV
import Derived.Test.YtojmofnamppbdaaGreatDpP
import Derived.Test.YtojmofnamppbdaaGreatLoc
import Derived.Test.YtojmofnamppbdaaGreatVwE
namespace Go.Proofs.YtojmofnamppbdaaGreat
open Go.RowKit
set_option linter.unusedVariables false
set_option maxRecDepth 100000
theorem one_of {p:Prg} {l0:Nat} (h3:l0<3) (hl:LocP p l0) (h1:∀ (j:Nat) (h:j<p.length),p[j].length≤1):OneQ p l0 where
 l3:=h3
 len:=fun t=>by
  unfold thrP
  rcases Nat.lt_or_ge t p.length with h | h
  ·rw [List.getD_eq_getElem?_getD,List.getElem?_eq_getElem h]
   exact h1 t h
  ·rw [List.getD_eq_getElem?_getD,List.getElem?_eq_none h]
   exact Nat.zero_le _
 loc:=fun t ht h0 h4=>by
  have hm:insQ p t∈thrP p t:=by
   unfold insQ
   rw [List.getD_eq_getElem?_getD,List.getElem?_eq_getElem h0]
   exact List.getElem_mem _
  rcases hl t _ hm with h | h
  ·exact absurd h h4
  ·omega
theorem dVo_any (w:World) (A:Option Addr) (n c:Nat) (h:Bys w A n) (hnc:n≤c) (hA:A=none→n=0):Calls Tryz.prog 11 #[.slice A n c] w (RetDrP w):=by
 have hd:=drawPV_any w A n c h hnc hA
 go_enter Tryz.func11,Tryz.ntmps11
 go_wp2_with fail
 refine hd.mono ?_
 rintro e1 w1 ⟨pr,v,rfl,h1,h2,h3⟩
 go_wp2_with fail
 go_ret
 exact⟨pr,v,rfl,h1,h2,h3⟩
set_option maxHeartbeats 4000000 in
theorem lawVo_walk (w:World) (A:Option Addr) (n c:Nat) (h:Bys w A n) (hnc:n≤c) (hA:A=none→n=0):
  Calls Tryz.prog 10 #[.slice A n c] w (RetB w true):=by
 have hdr:=dVo_any w A n c h hnc hA
 have hn:=h.1
 clear h
 go_enter Tryz.func10,Tryz.ntmps10
 by_cases hsz:(1048576:Int)<(n:Int)
 ·have hd:decide ((n:Int)>1048576)=true:=by simpa using hsz
  go_wp2_with fail
  go_ret
  exact⟨rfl,Below.refl _ _⟩
 have hd:decide ((n:Int)>1048576)=false:=by simpa using hsz
 go_wp2_with fail
 refine hdr.mono ?_
 rintro e1 w1 ⟨p,v,rfl,hps,hfew,hB1⟩
 have hp1:PrgS w1 v p:=PrgS.le hps (Le.above _ _)
 obtain⟨A1,c1,rfl,hpl⟩:=hp1.slice
 have hl:p.length≤1048576:=by have:=hfew.1; omega
 have Hls:=Lib.hid (hfew.mil (by omega))
 have HP1:=Lib.hid hp1
 clear hps hdr hp1 hfew
 have hc2:=implRa_any p hl Hls.out w1 _ HP1.out
 go_wp2_with fail
 refine hc2.mono ?_
 rintro e2 w2 ⟨v2,LV,F2,rfl,ho2,_,_,hout2,_,hb2⟩
 have hB2:=hB1.trans (hb2.mono hB1.size)
 have HP2:=Lib.hid (PrgS.le HP1.out (Le.below hb2))
 obtain⟨AV,cV,ef⟩:=OwI2.formV ho2
 subst ef
 have HoV:=Lib.hid hout2
 have HiV2:=Lib.hid ho2.intss0
 clear hc2 ho2 hout2
 have hc3:=specRa_any p hl w2 _ HP2.out
 go_wp2_with fail
 refine hc3.mono ?_
 rintro e3 w3 ⟨A3,L3,c3,rfl,hi3,hout3,hb3⟩
 have hB3:=hB2.trans (hb3.mono hB2.size)
 have HP3:=Lib.hid (PrgS.le HP2.out (Le.below hb3))
 have HiV3:=Lib.hid (Intss.le HiV2.out (Le.below hb3))
 obtain rfl:LV=L3:=(HoV.out.same hout3)
 clear hc3 hout3
 have hc4:=(show Calls _ _ _ _ (RetB w3 true) from by have h:=wmLists_any LV LV w3 AV A3 cV c3 HiV3.out hi3; rw [eqB_self] at h; exact h)
 go_wp2_with fail
 refine hc4.mono ?_
 rintro e4 w4 ⟨rfl,hb4⟩
 have hB4:=hB3.trans (hb4.mono hB3.size)
 have HP4:=Lib.hid (PrgS.le HP3.out (Le.below hb4))
 have HiV4:=Lib.hid (Intss.le HiV3.out (Le.below hb4))
 clear hc4
 clear hi3
 have hc5:=locsOf_any p hl Hls.out w4 _ HP4.out
 go_wp2_with fail
 refine hc5.mono ?_
 rintro e5 w5 ⟨A9,nL,c9,rfl,hone5,hnL5,hb5⟩
 have hB5:=hB4.trans (hb5.mono hB4.size)
 have HP5:=Lib.hid (PrgS.le HP4.out (Le.below hb5))
 have HiV5:=Lib.hid (Intss.le HiV4.out (Le.below hb5))
 have Hone:=Lib.hid hone5
 clear hone5
 clear hc5
 by_cases h1:nL≤1
 ·skip
  have hd1:decide ((1:Int)<(nL:Int))=false:=by rw [decide_eq_false_iff_not]; omega
  have hd2:decide (1<nL)=false:=by rw [decide_eq_false_iff_not]; omega
  have H1:=Lib.hid h1
  clear h1
  have hc6:=implPrg_any p hl Hls.out w5 _ HP5.out
  have HT:Hid (prgB p=true→PrgOk p):=fun h=>prgB_iff.1 h
  go_wp2_with fail
  refine hc6.mono ?_
  rintro e6 w6 ⟨rfl,hb6⟩
  have hB6:=hB5.trans (hb6.mono hB5.size)
  have HP6:=Lib.hid (PrgS.le HP5.out (Le.below hb6))
  have HiV6:=Lib.hid (Intss.le HiV5.out (Le.below hb6))
  clear hc6
  cases hpb:prgB p
  ·skip
   clear hpb HT
   have hc7:=specRa_any p hl w6 _ HP6.out
   go_wp2_with fail
   refine hc7.mono ?_
   rintro e7 w7 ⟨A7,L7,c7,rfl,hi7,hout7,hb7⟩
   have hB7:=hB6.trans (hb7.mono hB6.size)
   have HP7:=Lib.hid (PrgS.le HP6.out (Le.below hb7))
   have HiV7:=Lib.hid (Intss.le HiV6.out (Le.below hb7))
   obtain rfl:LV=L7:=(HoV.out.same hout7)
   clear hc7 hout7
   have hc8:=(show Calls _ _ _ _ (RetB w7 true) from by have h:=wmLists_any LV LV w7 AV A7 cV c7 HiV7.out hi7; rw [eqB_self] at h; exact h)
   go_wp2_with fail
   refine hc8.mono ?_
   rintro e8 w8 ⟨rfl,hb8⟩
   have hB8:=hB7.trans (hb8.mono hB7.size)
   have HP8:=Lib.hid (PrgS.le HP7.out (Le.below hb8))
   have HiV8:=Lib.hid (Intss.le HiV7.out (Le.below hb8))
   clear hc8
   clear hi7
   go_wp2_with fail
   go_ret
   exact⟨rfl,hB8⟩
  ·skip
   have Hp:Hid (PrgOk p):=HT.out hpb
   clear hpb HT
   have hp3:=Hp.out.1.1
   have Hk:=HP6
   go_wp2_with fail
   go_loopg [5] p.length (fun g s5 wr=>∃ i:Nat,i≤p.length∧g=p.length-i∧s5=.int .i64 i∧Hid (∀ (j:Nat) (h:j<p.length),j<i→p[j].length≤1)∧w6=wr)
   case atStart=>exact⟨0,Nat.zero_le _,rfl,rfl,fun j _ h=>absurd h (Nat.not_lt_zero _),rfl⟩
   case round=>
    obtain⟨i,hi,rfl,rfl,hall,rfl⟩:=hrel
    by_cases hlt:i<p.length
    ·obtain⟨b2,o2,A5,c5,e2,hb2,k2,_,_⟩:=SlR.getSub Hk.out hlt
     subst e2
     have hli:(i:Int)<(p.length:Int):=by omega
     have Hpi:=Lib.hid (rfl:p[i]=p[i])
     have hil:p[i].length≤1048576:=Hls.out _ (List.getElem_mem hlt)
     obtain⟨ln,hln⟩:∃ ln,ln=p[i].length:=⟨_,rfl⟩
     rw [← hln] at k2 hil
     have Hln:=Lib.hid hln
     clear hln
     by_cases hle:ln≤1
     ·have hd3:decide ((1:Int)<(ln:Int))=false:=by rw [decide_eq_false_iff_not]; omega
      have hd4:decide (1<ln)=false:=by rw [decide_eq_false_iff_not]; omega
      have hd5:decide ((ln:Int)>1)=false:=hd3
      have Hn:Hid (∀ (j:Nat) (h:j<p.length),j<i+1→p[j].length≤1):=fun j h hj=>by
       by_cases e:j=i
       ·subst e; rw [← Hln.out]; exact hle
       ·exact hall.out j h (by omega)
      clear hle
      go_wp2_with fail
      go_roundg (p.length-(i+1))
      case measure=>omega
      case rel=>exact⟨i+1,by omega,rfl,by go_num,Hn.out,rfl⟩
     ·have hd3:decide ((1:Int)<(ln:Int))=true:=by rw [decide_eq_true_iff]; omega
      have hd4:decide (1<ln)=true:=by rw [decide_eq_true_iff]; omega
      have hd5:decide ((ln:Int)>1)=true:=hd3
      clear hle
      go_wp2_with fail
      go_ret
      exact⟨rfl,hB6⟩
    ·obtain rfl:i=p.length:=by omega
     have HAll:Hid (∀ (j:Nat) (h:j<p.length),p[j].length≤1):=fun j h=>hall.out j h h
     clear hall
     have hc7:=implRn_any p hl Hls.out w6 _ HP6.out
     go_wp2_with fail
     refine hc7.mono ?_
     rintro e7 w7 ⟨v7,LS,F7,rfl,ho7,_,_,hout7,_,hb7⟩
     have hB7:=hB6.trans (hb7.mono hB6.size)
     have HP7:=Lib.hid (PrgS.le HP6.out (Le.below hb7))
     have HiV7:=Lib.hid (Intss.le HiV6.out (Le.below hb7))
     obtain⟨AS,cS,ef⟩:=OwI2.formV ho7
     subst ef
     have HoS:=Lib.hid hout7
     have HiS7:=Lib.hid ho7.intss0
     clear hc7 ho7 hout7
     obtain rfl:LV=LS:=by
      obtain⟨l0,h0,hl0⟩:=Hone.out H1.out Hp.out
      exact outV_eq Hp.out HoV.out HoS.out fun y h=>ra_one Hp.out (one_of h0 hl0 HAll.out) h
     have hc8:=(show Calls _ _ _ _ (RetB w7 true) from by have h:=wmLists_any LV LV w7 AV AS cV cS HiV7.out HiS7.out; rw [eqB_self] at h; exact h)
     go_wp2_with fail
     refine hc8.mono ?_
     rintro e8 w8 ⟨rfl,hb8⟩
     have hB8:=hB7.trans (hb8.mono hB7.size)
     have HP8:=Lib.hid (PrgS.le HP7.out (Le.below hb8))
     have HiV8:=Lib.hid (Intss.le HiV7.out (Le.below hb8))
     have HiS8:=Lib.hid (Intss.le HiS7.out (Le.below hb8))
     clear hc8
     go_wp2_with fail
     go_ret
     exact⟨rfl,hB8⟩
 ·skip
  have hd1:decide ((1:Int)<(nL:Int))=true:=by rw [decide_eq_true_iff]; omega
  have hd2:decide (1<nL)=true:=by rw [decide_eq_true_iff]; omega
  clear h1
  have hc6:=specRa_any p hl w5 _ HP5.out
  go_wp2_with fail
  refine hc6.mono ?_
  rintro e6 w6 ⟨A6,L6,c6,rfl,hi6,hout6,hb6⟩
  have hB6:=hB5.trans (hb6.mono hB5.size)
  have HP6:=Lib.hid (PrgS.le HP5.out (Le.below hb6))
  have HiV6:=Lib.hid (Intss.le HiV5.out (Le.below hb6))
  obtain rfl:LV=L6:=(HoV.out.same hout6)
  clear hc6 hout6
  have hc7:=(show Calls _ _ _ _ (RetB w6 true) from by have h:=wmLists_any LV LV w6 AV A6 cV c6 HiV6.out hi6; rw [eqB_self] at h; exact h)
  go_wp2_with fail
  refine hc7.mono ?_
  rintro e7 w7 ⟨rfl,hb7⟩
  have hB7:=hB6.trans (hb7.mono hB6.size)
  have HP7:=Lib.hid (PrgS.le HP6.out (Le.below hb7))
  have HiV7:=Lib.hid (Intss.le HiV6.out (Le.below hb7))
  clear hc7
  clear hi6
  go_wp2_with fail
  go_ret
  exact⟨rfl,hB7⟩
end Go.Proofs.YtojmofnamppbdaaGreat
