/-
  The walk of FnFindChoices: it answers true.
-/
import Derived.Test.YtojmofnamppbdaaGreatVsV
namespace Go.Proofs.YtojmofnamppbdaaGreat
open Go.RowKit
set_option linter.unusedVariables false
set_option maxRecDepth 100000
set_option maxHeartbeats 6000000 in
theorem lawVf_walk (w:World) (A:Option Addr) (n c:Nat) (h:Bys w A n) (hnc:n≤c) (hA:A=none→n=0):
  Calls Tryz.prog 4 #[.slice A n c] w (RetB w true):=by
 have hdr:=drawFC_any w A n c h hnc hA
 have hn:=h.1
 clear h
 go_enter Tryz.func4,Tryz.ntmps4
 by_cases hsz:(1048576:Int)<(n:Int)
 ·have hd:decide ((n:Int)>1048576)=true:=by simpa using hsz
  go_wp2_with fail
  go_ret
  exact⟨rfl,Below.refl _ _⟩
 have hd:decide ((n:Int)>1048576)=false:=by simpa using hsz
 go_wp2_with fail
 refine hdr.mono ?_
 rintro e1 w1 ⟨p,v,B1,d1,o,rfl,hps,hfew,hi1,hol,hb1⟩
 have hp1:PrgS w1 v p:=PrgS.le hps (Le.above _ _)
 obtain⟨A1,c1,rfl,hpl⟩:=hp1.slice
 have hl:p.length≤1048576:=by have:=hfew.1; omega
 have Hls:=Lib.hid (hfew.mil (by omega))
 have HP1:=Lib.hid hp1
 have HI1:=Lib.hid (hi1.le (Le.above _ _))
 have hfi:=implFC_any p hl Hls.out o w1 _ hp1 B1 d1 HI1.out
 clear hps hdr hp1 hfew hi1
 go_wp2_with fail
 refine hfi.mono ?_
 rintro e2 w2 ⟨A2,c2,r,rfl,hi2,hb2,hf2⟩
 have hB2:=hb1.trans (hb2.mono hb1.size)
 have HI2:=Lib.hid hi2
 have Hf2:=Lib.hid hf2
 have hfs:=specFC_any p hl o w2 _ (HP1.out.le (Le.below hb2)) B1 d1 (HI1.out.le (Le.below hb2))
 clear hfi hi2 hf2
 obtain⟨xs,hxs⟩:∃ xs,xs=r.getD []:=⟨_,rfl⟩
 obtain⟨bo,hbo⟩:∃ bo,bo=r.isSome:=⟨_,rfl⟩
 have Hxs:=Lib.hid (And.intro hxs hbo)
 rw [← hxs] at HI2
 rw [← hxs,← hbo]
 clear hxs hbo
 go_wp2_with fail
 refine hfs.mono ?_
 rintro e3 w3 ⟨A3,c3,r',rfl,hi3,hb3,hf3⟩
 obtain rfl:=hf3.uniq Hf2.out
 have hB3:=hB2.trans (hb3.mono hB2.size)
 rw [← Hxs.out.1] at hi3
 rw [← Hxs.out.1,← Hxs.out.2]
 have HI3:=Lib.hid hi3
 have hne:(bo != bo)=false:=by cases bo <;> rfl
 have heq:(bo == bo)=true:=by cases bo <;> rfl
 have hwm:=wmInts_any xs xs w3 A2 A3 c2 c3 (HI2.out.le (Le.below hb3)) hi3
 rw [eqB_self] at hwm
 clear hfs hi3 hf3
 go_wp2_with fail
 refine hwm.mono ?_
 rintro e4 w4 ⟨rfl,hb4⟩
 have hB4:=hB3.trans (hb4.mono hB3.size)
 have hb34:=hb3.trans (hb4.mono hb3.size)
 have hb14:=hb2.trans (hb34.mono hb2.size)
 have HP4:=Lib.hid (HP1.out.le (Le.below hb14))
 have HO4:=Lib.hid (HI1.out.le (Le.below hb14))
 have HX4:=Lib.hid (HI2.out.le (Le.below hb34))
 have HY4:=Lib.hid (HI3.out.le (Le.below hb4))
 have hov:=implOV_any p hl Hls.out o w4 _ HP4.out B1 d1 HO4.out
 have HF:Hid (ovB p o=false→¬ OutOk p o):=fun h=>ovB_false.1 h
 have HT:Hid (ovB p o=true→OutOk p o):=fun h=>ovB_iff.1 h
 clear hwm
 go_wp2_with fail
 refine hov.mono ?_
 rintro e5 w5 ⟨rfl,hb5⟩
 have hB5:=hB4.trans (hb5.mono hB4.size)
 clear hov
 cases hob:ovB p o
 ·have hwm:=wmInts_any xs xs w5 A2 A3 c2 c3 (HX4.out.le (Le.below hb5)) (HY4.out.le (Le.below hb5))
  rw [eqB_self] at hwm
  clear hob HF HT
  go_wp2_with fail
  refine hwm.mono ?_
  rintro e6 w6 ⟨rfl,hb6⟩
  go_wp2_with fail
  go_ret
  exact⟨rfl,hB5.trans (hb6.mono hB5.size)⟩
 ·have Hok:Hid (OutOk p o):=HT.out hob
  have HP5:=Lib.hid (HP4.out.le (Le.below hb5))
  have HO5:=Lib.hid (HO4.out.le (Le.below hb5))
  have HX5:=Lib.hid (HX4.out.le (Le.below hb5))
  clear hob HF HT
  have HQ:Hid ((bo=true∧vwR p xs=some o∧∀ L,IsOutV p L→o∈L)∨(bo=false∧∀ L,IsOutV p L→o∉L)):=by
   rcases Hf2.out with ⟨_,⟨l,e,hf⟩ | ⟨e,hg⟩⟩ | ⟨hn,_⟩
   ·left
    subst e
    have e1:xs=l:=Hxs.out.1
    refine⟨Hxs.out.2,by rw [e1]; exact fst_runV Hok.out.1 hf,fun L hL=>(good_outV Hok.out.1 hL).2 hf.good⟩
   ·right
    subst e
    exact⟨Hxs.out.2,fun L hL h=>hg ((good_outV Hok.out.1 hL).1 h)⟩
   ·exact absurd Hok.out hn
  have HRm:Hid (∀ U,Below w5.heap.size w5 U→Calls Tryz.prog 25 #[.slice A1 p.length c1,.slice A2 xs.length c2] U (RetOv U (vwR p xs))):=fun U hU=>implRC_any p hl Hls.out xs U _ (HP5.out.le (Le.below hU)) A2 c2 (HX5.out.le (Le.below hU))
  generalize vwR p xs=sr at HRm HQ
  clear Hf2
  have hrm:=HRm.out w5 (Below.refl _ _)
  obtain⟨ys,hys⟩:∃ ys,ys=sr.getD []:=⟨_,rfl⟩
  obtain⟨fo,hfo⟩:∃ fo,fo=sr.isSome:=⟨_,rfl⟩
  have Hys:=Lib.hid (And.intro hys hfo)
  clear hys hfo HRm
  go_wp2_with fail
  refine hrm.mono ?_
  rintro e8 w8 ⟨A8,c8,rfl,hi8,hb8⟩
  have hB8:=hB5.trans (hb8.mono hB5.size)
  rw [← Hys.out.1] at hi8
  rw [← Hys.out.1,← Hys.out.2]
  have HI8:=Lib.hid (hi8.le (Le.above _ _))
  have HO8:=Lib.hid (HO5.out.le (Le.below hb8))
  have HP8:=Lib.hid (HP5.out.le (Le.below hb8))
  have hrt:=implRa_any p hl Hls.out w8 _ HP8.out
  clear hrm hi8
  go_wp2_with fail
  refine hrt.mono ?_
  rintro e6 w6 ⟨v6,LT,F6,rfl,ho6,_,_,hout6,_,hb6⟩
  obtain⟨A6,c6,e6',_,_⟩:=OwRow.slice ho6
  subst e6'
  have hB6:=hB8.trans (hb6.mono hB8.size)
  have Hss6:=Lib.hid ho6.intss0
  have HL:Hid ((bo=true∧sr=some o∧inL LT o=true)∨(bo=false∧inL LT o=false)):=by
   rcases HQ.out with ⟨h1,h2,h3⟩ | ⟨h1,h2⟩
   ·exact .inl ⟨h1,h2,inL_iff.2 (h3 LT hout6)⟩
   ·exact .inr ⟨h1,inL_false.2 (h2 LT hout6)⟩
  have hwo:=wmOut_any LT o w6 A6 B1 c6 d1 Hss6.out (HO8.out.le (Le.below hb6))
  have HI6:=Lib.hid (HI8.out.le (Le.below hb6))
  have HO6:=Lib.hid (HO8.out.le (Le.below hb6))
  generalize inL LT o=io at hwo HL
  clear hrt ho6 hout6 HQ
  go_wp2_with fail
  refine hwo.mono ?_
  rintro e9 w9 ⟨rfl,hb9⟩
  have hB9:=hB6.trans (hb9.mono hB6.size)
  clear hwo
  cases bo
  ·have Hio:Hid (io=false):=by
    rcases HL.out with ⟨h,_⟩ | ⟨_,h⟩
    ·cases h
    ·exact h
   obtain rfl:=Hio.out
   clear HL Hio
   go_wp2_with fail
   go_ret
   exact⟨rfl,hB9⟩
  ·have Hio:Hid (sr=some o∧io=true):=by
    rcases HL.out with ⟨_,h⟩ | ⟨h,_⟩
    ·exact h
    ·cases h
   obtain⟨rfl,rfl⟩:=Hio.out
   obtain rfl:ys=o:=Hys.out.1
   obtain rfl:fo=true:=Hys.out.2
   have hwm:=wmInts_any ys ys w9 A8 B1 c8 d1 (HI6.out.le (Le.below hb9)) (HO6.out.le (Le.below hb9))
   rw [eqB_self] at hwm
   clear HL Hio
   go_wp2_with fail
   refine hwm.mono ?_
   rintro ea wa ⟨rfl,hba⟩
   go_wp2_with fail
   go_ret
   exact⟨rfl,hB9.trans (hba.mono hB9.size)⟩
end Go.Proofs.YtojmofnamppbdaaGreat
