/-
  The walk of FnRunRa: it answers true.
-/
import Derived.Test.YtojmofnamppbdaaGreatWiV
import Derived.Test.YtojmofnamppbdaaGreatRunI
import Derived.Test.YtojmofnamppbdaaGreatDpP
namespace Go.Proofs.YtojmofnamppbdaaGreat
open Go.RowKit
set_option linter.unusedVariables false
set_option maxRecDepth 100000
theorem dVr_any (w:World) (A:Option Addr) (n c:Nat) (h:Bys w A n) (hnc:n≤c) (hA:A=none→n=0):Calls Tryz.prog 11 #[.slice A n c] w (RetDrP w):=by
 have hd:=drawPV_any w A n c h hnc hA
 go_enter Tryz.func11,Tryz.ntmps11
 go_wp2_with fail
 refine hd.mono ?_
 rintro e1 w1 ⟨pr,v,rfl,h1,h2,h3⟩
 go_wp2_with fail
 go_ret
 exact⟨pr,v,rfl,h1,h2,h3⟩
set_option maxHeartbeats 4000000 in
theorem lawVr_walk (w:World) (A:Option Addr) (n c:Nat) (h:Bys w A n) (hnc:n≤c) (hA:A=none→n=0):
  Calls Tryz.prog 3 #[.slice A n c] w (RetB w true):=by
 have hdr:=dVr_any w A n c h hnc hA
 have hn:=h.1
 clear h
 go_enter Tryz.func3,Tryz.ntmps3
 by_cases hsz:(1048576:Int)<(n:Int)
 ·have hd:decide ((n:Int)>1048576)=true:=by simpa using hsz
  go_wp2_with fail
  go_ret
  exact⟨rfl,Below.refl _ _⟩
 have hd:decide ((n:Int)>1048576)=false:=by simpa using hsz
 go_wp2_with fail
 refine hdr.mono ?_
 rintro e1 w1 ⟨p,v,rfl,hps,hfew,hB1⟩
 have hp1:PrgS w1 v p:=PrgS.le hps (Le.above _ _)
 obtain⟨A1,c1,rfl,hpl⟩:=hp1.slice
 have hl:p.length≤1048576:=by have:=hfew.1; omega
 have Hls:=Lib.hid (hfew.mil (by omega))
 have HP1:=Lib.hid hp1
 clear hps hdr hp1 hfew
 have hc2:=implRa_any p hl Hls.out w1 _ HP1.out
 go_wp2_with fail
 refine hc2.mono ?_
 rintro e2 w2 ⟨v2,LV,F2,rfl,ho2,_,_,hout2,_,hb2⟩
 have hB2:=hB1.trans (hb2.mono hB1.size)
 have HP2:=Lib.hid (PrgS.le HP1.out (Le.below hb2))
 obtain⟨AV,cV,ef⟩:=OwI2.formV ho2
 subst ef
 have HoV:=Lib.hid hout2
 have HiV2:=Lib.hid ho2.intss0
 clear hc2 ho2 hout2
 have hc3:=specRa_any p hl w2 _ HP2.out
 go_wp2_with fail
 refine hc3.mono ?_
 rintro e3 w3 ⟨A3,L3,c3,rfl,hi3,hout3,hb3⟩
 have hB3:=hB2.trans (hb3.mono hB2.size)
 have HP3:=Lib.hid (PrgS.le HP2.out (Le.below hb3))
 have HiV3:=Lib.hid (Intss.le HiV2.out (Le.below hb3))
 obtain rfl:LV=L3:=(HoV.out.same hout3)
 clear hc3 hout3
 have hc4:=(show Calls _ _ _ _ (RetB w3 true) from by have h:=wmLists_any LV LV w3 AV A3 cV c3 HiV3.out hi3; rw [eqB_self] at h; exact h)
 go_wp2_with fail
 refine hc4.mono ?_
 rintro e4 w4 ⟨rfl,hb4⟩
 have hB4:=hB3.trans (hb4.mono hB3.size)
 have HP4:=Lib.hid (PrgS.le HP3.out (Le.below hb4))
 have HiV4:=Lib.hid (Intss.le HiV3.out (Le.below hb4))
 clear hc4
 clear hi3
 have hc5:=implPrg_any p hl Hls.out w4 _ HP4.out
 have HF:Hid (prgB p=false→LV=[]):=fun h=>HoV.out.none (prgB_false.1 h)
 have HT:Hid (prgB p=true→PrgOk p):=fun h=>prgB_iff.1 h
 go_wp2_with fail
 refine hc5.mono ?_
 rintro e5 w5 ⟨rfl,hb5⟩
 have hB5:=hB4.trans (hb5.mono hB4.size)
 have HP5:=Lib.hid (PrgS.le HP4.out (Le.below hb5))
 have HiV5:=Lib.hid (Intss.le HiV4.out (Le.below hb5))
 clear hc5
 cases hpb:prgB p
 ·skip
  obtain rfl:=HF.out hpb
  have Hpb:=Lib.hid hpb
  clear hpb HT HF
  have hc6:=specRa_any p hl w5 _ HP5.out
  go_wp2_with fail
  refine hc6.mono ?_
  rintro e6 w6 ⟨A6,L6,c6,rfl,hi6,hout6,hb6⟩
  have hB6:=hB5.trans (hb6.mono hB5.size)
  have HP6:=Lib.hid (PrgS.le HP5.out (Le.below hb6))
  have HiV6:=Lib.hid (Intss.le HiV5.out (Le.below hb6))
  obtain rfl:([]:List (List Int))=L6:=(HoV.out.same hout6)
  clear hc6 hout6
  have hc7:=(show Calls _ _ _ _ (RetB w6 true) from by have h:=wmLists_any [] [] w6 AV A6 cV c6 HiV6.out hi6; rw [eqB_self] at h; exact h)
  go_wp2_with fail
  refine hc7.mono ?_
  rintro e7 w7 ⟨rfl,hb7⟩
  have hB7:=hB6.trans (hb7.mono hB6.size)
  have HP7:=Lib.hid (PrgS.le HP6.out (Le.below hb7))
  have HiV7:=Lib.hid (Intss.le HiV6.out (Le.below hb7))
  clear hc7
  clear hi6
  have hc8:=(show Calls _ _ _ _ (RetB w7 false) from by have h:=implPrg_any p hl Hls.out w7 _ HP7.out; rw [Hpb.out] at h; exact h)
  go_wp2_with fail
  refine hc8.mono ?_
  rintro e8 w8 ⟨rfl,hb8⟩
  have hB8:=hB7.trans (hb8.mono hB7.size)
  have HP8:=Lib.hid (PrgS.le HP7.out (Le.below hb8))
  have HiV8:=Lib.hid (Intss.le HiV7.out (Le.below hb8))
  clear hc8
  go_wp2_with fail
  go_ret
  exact⟨rfl,hB8⟩
 ·skip
  have Hp:Hid (PrgOk p):=HT.out hpb
  clear hpb HT HF
  have hc6:=sorted_any LV (p.length*3+3) HoV.out.size HoV.out.asc w5 AV cV HiV5.out
  go_wp2_with fail
  refine hc6.mono ?_
  rintro e6 w6 ⟨rfl,hb6⟩
  have hB6:=hB5.trans (hb6.mono hB5.size)
  have HP6:=Lib.hid (PrgS.le HP5.out (Le.below hb6))
  have HiV6:=Lib.hid (Intss.le HiV5.out (Le.below hb6))
  clear hc6
  have hc7:=implRn_any p hl Hls.out w6 _ HP6.out
  go_wp2_with fail
  refine hc7.mono ?_
  rintro e7 w7 ⟨v7,LS,F7,rfl,ho7,_,_,hout7,_,hb7⟩
  have hB7:=hB6.trans (hb7.mono hB6.size)
  have HP7:=Lib.hid (PrgS.le HP6.out (Le.below hb7))
  have HiV7:=Lib.hid (Intss.le HiV6.out (Le.below hb7))
  obtain⟨AS,cS,ef⟩:=OwI2.formV ho7
  subst ef
  have HoS:=Lib.hid hout7
  have HiS7:=Lib.hid ho7.intss0
  clear hc7 ho7 hout7
  have hc8:=wmWi_any LS LV (fun x hx=>(HoV.out.iff Hp.out x).2 (ra_sc Hp.out ((HoS.out.iff Hp.out x).1 hx))) w7 AS AV cS cV HiS7.out HiV7.out
  go_wp2_with fail
  refine hc8.mono ?_
  rintro e8 w8 ⟨rfl,hb8⟩
  have hB8:=hB7.trans (hb8.mono hB7.size)
  have HP8:=Lib.hid (PrgS.le HP7.out (Le.below hb8))
  have HiV8:=Lib.hid (Intss.le HiV7.out (Le.below hb8))
  have HiS8:=Lib.hid (Intss.le HiS7.out (Le.below hb8))
  clear hc8
  have hc9:=implRt_any p hl Hls.out w8 _ HP8.out
  go_wp2_with fail
  refine hc9.mono ?_
  rintro e9 w9 ⟨v9,LT,F9,rfl,ho9,_,_,hout9,_,hb9⟩
  have hB9:=hB8.trans (hb9.mono hB8.size)
  have HP9:=Lib.hid (PrgS.le HP8.out (Le.below hb9))
  have HiV9:=Lib.hid (Intss.le HiV8.out (Le.below hb9))
  have HiS9:=Lib.hid (Intss.le HiS8.out (Le.below hb9))
  obtain⟨AT,cT,ef⟩:=OwI2.formV ho9
  subst ef
  have HoT:=Lib.hid hout9
  have HiT9:=Lib.hid ho9.intss0
  clear hc9 ho9 hout9
  have hc10:=wmWi_any LT LV (fun x hx=>(HoV.out.iff Hp.out x).2 (out_ra Hp.out ((HoT.out.iff Hp.out x).1 hx))) w9 AT AV cT cV HiT9.out HiV9.out
  go_wp2_with fail
  refine hc10.mono ?_
  rintro e10 w10 ⟨rfl,hb10⟩
  have hB10:=hB9.trans (hb10.mono hB9.size)
  have HP10:=Lib.hid (PrgS.le HP9.out (Le.below hb10))
  have HiV10:=Lib.hid (Intss.le HiV9.out (Le.below hb10))
  have HiS10:=Lib.hid (Intss.le HiS9.out (Le.below hb10))
  have HiT10:=Lib.hid (Intss.le HiT9.out (Le.below hb10))
  clear hc10
  go_wp2_with fail
  go_ret
  exact⟨rfl,hB10⟩
end Go.Proofs.YtojmofnamppbdaaGreat
