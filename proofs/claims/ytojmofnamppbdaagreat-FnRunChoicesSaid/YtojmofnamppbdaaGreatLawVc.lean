/-
  The walk of FnRunChoices: it answers true.
-/
import Derived.Test.YtojmofnamppbdaaGreatVsT
import Derived.Test.YtojmofnamppbdaaGreatWmA
namespace Go.Proofs.YtojmofnamppbdaaGreat
open Go.RowKit
set_option linter.unusedVariables false
set_option maxRecDepth 100000
theorem vws_out {p:Prg} {ms:List Int} {o:List Int} (h:vwR p ms=some o):PrgOk p∧(∀ L,IsOutV p L→o∈L)∧vwA p ms=[]:=by
 unfold vwR at h
 cases hpb:prgB p
 ·rw [hpb] at h; cases h
 ·rw [if_pos hpb] at h
  have hp:=prgB_iff.1 hpb
  unfold resW at h
  cases hr:runW (sucV p) (mvZ p) (vt0 p) ms with
  | none=>rw [hr] at h; cases h
  | some t=>
   rw [hr] at h
   simp only [Option.bind_some] at h
   split at h
   ·rename_i hd
    injection h with h
    have hre:=run_reach (vwZ_len p) _ _ .start hr
    refine⟨hp,fun L hL=>(hL.iff hp o).2 ⟨t,hre,hd,h⟩,?_⟩
    unfold vwA
    rw [if_pos hpb,hr]
    show mvZ p t=[]
    unfold mvZ
    rw [done_mvV hd]
    rfl
   ·cases h
set_option maxHeartbeats 4000000 in
theorem lawVc_walk (w:World) (A:Option Addr) (n c:Nat) (h:Bys w A n) (hnc:n≤c) (hA:A=none→n=0):
  Calls Tryz.prog 7 #[.slice A n c] w (RetB w true):=by
 have hdr:=drawRC_any w A n c h hnc hA
 have hn:=h.1
 clear h
 go_enter Tryz.func7,Tryz.ntmps7
 by_cases hsz:(1048576:Int)<(n:Int)
 ·have hd:decide ((n:Int)>1048576)=true:=by simpa using hsz
  go_wp2_with fail
  go_ret
  exact⟨rfl,Below.refl _ _⟩
 have hd:decide ((n:Int)>1048576)=false:=by simpa using hsz
 go_wp2_with fail
 refine hdr.mono ?_
 rintro e1 w1 ⟨p,v,B1,d1,ms,rfl,hps,hfew,hi1,hml,hsm,hb1⟩
 have hp1:PrgS w1 v p:=PrgS.le hps (Le.above _ _)
 obtain⟨A1,c1,rfl,hpl⟩:=hp1.slice
 have hl:p.length≤1048576:=by have:=hfew.1; omega
 have Hls:=Lib.hid (hfew.mil (by omega))
 have HP1:=Lib.hid hp1
 have HI1:=Lib.hid (hi1.le (Le.above _ _))
 have hsc:=implRC_any p hl Hls.out ms w1 _ hp1 B1 d1 HI1.out
 have Hr:Hid (∀ o,vwR p ms=some o→PrgOk p∧(∀ L,IsOutV p L→o∈L)∧vwA p ms=[]):=fun o h=>vws_out h
 have HSp:Hid (∀ U,Below w1.heap.size w1 U→Calls Tryz.prog 37 #[.slice A1 p.length c1,.slice B1 ms.length d1] U (RetOv U (vwR p ms))):=fun U hU=>specRC_any p hl ms (fun m hm=>by have:=hsm m hm; omega) U _ (HP1.out.le (Le.below hU)) B1 d1 (HI1.out.le (Le.below hU))
 generalize vwR p ms=r at hsc Hr HSp
 clear hps hdr hp1 hfew hi1 hsm
 go_wp2_with fail
 refine hsc.mono ?_
 rintro e2 w2 ⟨A2,c2,rfl,hi2,hb2⟩
 have hB2:=hb1.trans (hb2.mono hb1.size)
 have HI2:=Lib.hid (hi2.le (Le.above _ _))
 have hsp:=HSp.out w2 hb2
 clear hsc hi2 HSp
 cases r with
 | none=>
  go_wp2_with fail
  refine hsp.mono ?_
  rintro e3 w3 ⟨A3,c3,rfl,hi3,hb3⟩
  have hB3:=hB2.trans (hb3.mono hB2.size)
  have HI3:=Lib.hid (hi3.le (Le.above _ _))
  have hwm:=wmInts_any [] [] w3 A2 A3 c2 c3 (HI2.out.le (Le.below hb3)) HI3.out
  rw [eqB_self] at hwm
  clear hsp hi3
  go_wp2_with fail
  refine hwm.mono ?_
  rintro e4 w4 ⟨rfl,hb4⟩
  have hB4:=hB3.trans (hb4.mono hB3.size)
  have hwm:=wmInts_any [] [] w4 A2 A3 c2 c3 (HI2.out.le (Le.below (hb3.trans (hb4.mono hb3.size)))) (HI3.out.le (Le.below hb4))
  rw [eqB_self] at hwm
  go_wp2_with fail
  refine hwm.mono ?_
  rintro e5 w5 ⟨rfl,hb5⟩
  go_wp2_with fail
  go_ret
  exact⟨rfl,hB4.trans (hb5.mono hB4.size)⟩
 | some o=>
  obtain⟨hp,hin,hma⟩:=Hr.out o rfl
  have Hin:=Lib.hid hin
  have Hma:=Lib.hid hma
  clear hp hin hma Hr
  have HI2':Hid (Ints w2 A2 c2 o):=HI2.out
  obtain⟨m,hm⟩:∃ m,m=o.length:=⟨_,rfl⟩
  have Hm:=Lib.hid hm
  have e0:((some o).getD []).length=m:=hm.symm
  rw [e0]
  have hsp':Calls Tryz.prog 37 #[.slice A1 p.length c1,.slice B1 ms.length d1] w2 (fun e W'=>∃ A c,e=.returned (.tuple #[.slice A m c,.bool true])∧Ints W' A c o∧Below w2.heap.size w2 W'):=hsp.mono fun e W' ⟨A,c,h1,h2,h3⟩=>⟨A,c,by rw [h1,e0]; rfl,h2.le (Le.above _ _),h3⟩
  clear hsp HI2 e0 hm
  simp only [Option.isSome_some]
  go_wp2_with fail
  refine hsp'.mono ?_
  rintro e3 w3 ⟨A3,c3,rfl,hi3,hb3⟩
  have hB3:=hB2.trans (hb3.mono hB2.size)
  have hwm:=wmInts_any o o w3 A2 A3 c2 c3 (HI2'.out.le (Le.below hb3)) hi3
  rw [eqB_self,← Hm.out] at hwm
  clear hsp' hi3
  go_wp2_with fail
  refine hwm.mono ?_
  rintro e4 w4 ⟨rfl,hb4⟩
  have hB4:=hB3.trans (hb4.mono hB3.size)
  have hb24:=hb3.trans (hb4.mono hb3.size)
  have hb14:=hb2.trans (hb24.mono hb2.size)
  have HP4:=Lib.hid (HP1.out.le (Le.below hb14))
  have HI4:=Lib.hid (HI2'.out.le (Le.below hb24))
  have HJ4:=Lib.hid (HI1.out.le (Le.below hb14))
  have hrt:=implRa_any p hl Hls.out w4 _ HP4.out
  clear hwm hb24 hb14
  go_wp2_with fail
  refine hrt.mono ?_
  rintro e5 w5 ⟨v5,LT,F5,rfl,ho5,_,_,hout5,_,hb5⟩
  obtain⟨A5,c5,e5',_,_⟩:=OwRow.slice ho5
  subst e5'
  have hB5:=hB4.trans (hb5.mono hB4.size)
  have HP5:=Lib.hid (HP4.out.le (Le.below hb5))
  have HI5:=Lib.hid (HI4.out.le (Le.below hb5))
  have HJ5:=Lib.hid (HJ4.out.le (Le.below hb5))
  have Hout5:=Lib.hid hout5
  have Hss5:=Lib.hid ho5.intss0
  clear hrt ho5 hout5
  have hwo:=wmOut_any LT o w5 A5 A2 c5 c2 Hss5.out HI5.out
  rw [inL_iff.2 (Hin.out LT Hout5.out),← Hm.out] at hwo
  go_wp2_with fail
  refine hwo.mono ?_
  rintro e7 w7 ⟨rfl,hb7⟩
  have hB7:=hB5.trans (hb7.mono hB5.size)
  have hma:=implCA_any p hl Hls.out ms w7 _ (HP5.out.le (Le.below hb7)) B1 d1 (HJ5.out.le (Le.below hb7))
  rw [Hma.out] at hma
  clear hwo
  go_wp2_with fail
  refine hma.mono ?_
  rintro e8 w8 ⟨A8,c8,rfl,_,hb8⟩
  go_wp2_with fail
  go_ret
  exact⟨rfl,hB7.trans (hb8.mono hB7.size)⟩
end Go.Proofs.YtojmofnamppbdaaGreat
