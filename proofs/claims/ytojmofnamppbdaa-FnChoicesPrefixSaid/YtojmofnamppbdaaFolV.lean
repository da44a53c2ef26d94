/-
  Choices that are made one after the other: follow, finished, RunChoices, ChoicesAfter of the program.
-/
import Derived.Test.YtojmofnamppbdaaRunP
import Derived.Test.YtojmofnamppbdaaVxJ
import Derived.Test.YtojmofnamppbdaaSl
namespace Go.Proofs.Ytojmofnamppbdaa
open Go.RowKit
set_option linter.unusedVariables false
set_option maxRecDepth 100000
def RetFoV {σ:Type} (M:Mach σ) (W:World) (r:Option σ) (e:Ending) (W':World):Prop:=
 ((∃ b t,r=some t∧e=.returned (.tuple #[.iface 95 (.pointer (some ⟨b,0,none⟩)),.bool true])∧M.R W' b t)∨(r=none∧e=.returned (.tuple #[.nilIface,.bool false])))∧Below W.heap.size W W'
def RetOv (W:World) (r:Option (List Int)) (e:Ending) (W':World):Prop:=
 ∃ A c,e=.returned (.tuple #[.slice A (r.getD []).length c,.bool r.isSome])∧Ints (above W.heap.size W') A c (r.getD [])∧Below W.heap.size W W'
set_option maxHeartbeats 1500000 in
theorem followV_any {σ:Type} (M:Mach σ) (hM:MachP M) (hC:MachCV M) (ms:List Int) (W:World) (b0:Nat) (h0:M.R W b0 M.s0) (A:Option Addr) (c:Nat) (hI:Ints W A c ms):
  Calls Try.prog 41 #[.iface 95 (.pointer (some ⟨b0,0,none⟩)),.slice A ms.length c] W (RetFoV M W (runW M.succ M.mv M.s0 ms)):=by
 have hm:=hI.len
 have HI:=Lib.hid hI
 clear hI
 go_enter Try.func41,Try.ntmps41
 go_wp2_with fail
 go_loopg [0,10] ms.length (fun g s0 s10 wr=>∃ (i b:Nat) (t:σ),i≤ms.length∧g=ms.length-i∧s0=.iface 95 (.pointer (some ⟨b,0,none⟩))∧s10=.int .i64 i∧Hid (runW M.succ M.mv M.s0 (ms.take i)=some t)∧Hid (M.R wr b t)∧Below W.heap.size W wr)
 case atStart=>exact⟨0,b0,M.s0,Nat.zero_le _,rfl,rfl,rfl,by rw [List.take_zero]; rfl,h0,Below.refl _ _⟩
 case round=>
  obtain⟨i,b,t,hi,rfl,rfl,rfl,hrun,hR,hb⟩:=hrel
  have hre:=run_reach (fun s h=>hM.len s h) _ _ .start hrun.out
  by_cases hlt:i<ms.length
  ·obtain⟨bm,om,rfl,hbm,k0⟩:=(HI.out.le (Le.below hb)).get hlt
   have Hre:=Lib.hid hre
   have hmv:=hC.mv t hre wr b hR.out
   have Hstep:Hid (runW M.succ M.mv M.s0 (ms.take (i+1))=stepW M.succ M.mv t ms[i]):=by
    show _=_
    rw [run_take hlt,hrun.out]
    rfl
   have Hnone:Hid (runW M.succ M.mv M.s0 (ms.take (i+1))=none→runW M.succ M.mv M.s0 ms=none):=run_take_none hlt
   generalize ms[i]=m at k0 Hstep
   clear hre hrun
   go_wp2_with fail
   refine hmv.mono ?_
   rintro e5 w5 ⟨A5,c5,rfl,hrow5,hb5⟩
   have hB5:=hb.trans (hb5.mono hb.size)
   have hR5:=Lib.hid (hM.le _ _ _ _ (Le.below hb5) hR.out)
   obtain⟨A6,c6,e6,hi6⟩:=RowI.ints hrow5
   injection e6 with e6 _ e7
   subst e6 e7
   have hct:=contI_any (M.mv t) m w5 A5 c5 (Ints.le hi6 (Le.above _ _))
   clear hmv hrow5 hi6 hR k0
   by_cases hin:m∈M.mv t
   ·rw [decide_eq_true hin] at hct
    obtain⟨j,hj,hj',e1,e2⟩:=lookup_in (M.mv t) (M.succ t) m (hM.len t Hre.out) hin
    have haf:=hC.after t Hre.out j hj' hj w5 b w5 (Le.refl _) hR5.out
    rw [e1] at haf
    have Hrn:Hid (runW M.succ M.mv M.s0 (ms.take (i+1))=some (M.succ t)[j]):=by
     show _=_
     rw [Hstep.out]
     exact e2
    clear hin e1 e2 Hstep Hnone
    go_wp2_with fail
    refine hct.mono ?_
    rintro e8 w8 ⟨rfl,rfl⟩
    clear hct
    go_wp2_with fail
    refine haf.mono ?_
    rintro e9 w9 ⟨b',rfl,hR9,hb9⟩
    have hB9:=hB5.trans (hb9.mono hB5.size)
    have HR9:=Lib.hid (hR9 w9 (Le.below hb9) (Le.above _ _))
    clear haf hR9
    go_wp2_with fail
    go_roundg (ms.length-(i+1))
    case measure=>omega
    case rel=>exact⟨i+1,b',_,by omega,rfl,rfl,by go_num,Hrn.out,HR9.out,hB9⟩
   ·rw [decide_eq_false hin] at hct
    have Hr:Hid (runW M.succ M.mv M.s0 ms=none):=Hnone.out (by rw [Hstep.out]; exact step_none hin)
    clear hin Hstep Hnone
    go_wp2_with fail
    refine hct.mono ?_
    rintro e8 w8 ⟨rfl,rfl⟩
    clear hct
    go_wp2_with fail
    refine bodyPost_ret (v:=.tuple #[.nilIface,.bool false]) (by simp [results,Try.results41,go_sem]) rfl ?_
    exact⟨.inr ⟨Hr.out,rfl⟩,hB5⟩
  ·obtain rfl:i=ms.length:=by omega
   have Hr:Hid (runW M.succ M.mv M.s0 ms=some t):=by
    show _=_
    have h:=hrun.out
    rwa [List.take_length] at h
   clear hre hrun
   go_wp2_with fail
   refine bodyPost_ret (v:=.tuple #[.iface 95 (.pointer (some ⟨b,0,none⟩)),.bool true]) (by simp [results,Try.results41,go_sem]) rfl ?_
   exact⟨.inl ⟨b,t,Hr.out,rfl,hR.out⟩,hb⟩
set_option maxHeartbeats 1500000 in
theorem finishedV_any {σ:Type} (M:Mach σ) (hM:MachP M) (hC:MachCV M) (ms:List Int) (W:World) (b0:Nat) (h0:M.R W b0 M.s0) (A:Option Addr) (c:Nat) (hI:Ints W A c ms):
  Calls Try.prog 36 #[.iface 95 (.pointer (some ⟨b0,0,none⟩)),.slice A ms.length c] W (RetOv W (resW M.succ M.mv M.done M.out M.s0 ms)):=by
 have hfo:=followV_any M hM hC ms W b0 h0 A c hI
 have Hreach:Hid (∀ t,runW M.succ M.mv M.s0 ms=some t→Reach M.succ M.s0 t):=fun t h=>run_reach (fun s h=>hM.len s h) _ _ .start h
 have Hres:Hid (∀ t,runW M.succ M.mv M.s0 ms=some t→resW M.succ M.mv M.done M.out M.s0 ms=if M.done t=true then some (M.out t) else none):=fun t h=>by unfold resW; rw [h]; rfl
 have Hnone:Hid (runW M.succ M.mv M.s0 ms=none→resW M.succ M.mv M.done M.out M.s0 ms=none):=fun h=>by unfold resW; rw [h]; rfl
 go_enter Try.func36,Try.ntmps36
 go_wp2_with fail
 refine hfo.mono ?_
 rintro e1 w1 ⟨⟨b,t,hrun,rfl,hR⟩ | ⟨hrun,rfl⟩,hb1⟩
 ·have Hre:=Lib.hid (Hreach.out t hrun)
  have Hr:=Lib.hid (Hres.out t hrun)
  have HR:=Lib.hid hR
  have hdn:=hC.done t Hre.out w1 b hR
  clear hfo hrun hR Hreach Hres Hnone
  go_wp2_with fail
  refine hdn.mono ?_
  rintro e2 w2 ⟨rfl,hb2⟩
  have hB2:=hb1.trans (hb2.mono hb1.size)
  have HR2:=Lib.hid (hM.le _ _ _ _ (Le.below hb2) HR.out)
  clear hdn HR
  cases hd:M.done t
  ·have Hr2:Hid (resW M.succ M.mv M.done M.out M.s0 ms=none):=by show _=_; rw [Hr.out,hd]; rfl
   clear hd Hr
   go_wp2_with fail
   refine bodyPost_ret (v:=.tuple #[.slice none 0 0,.bool false]) (by simp [results,Try.results36,go_sem]) rfl ?_
   rw [Hr2.out]
   exact⟨none,0,rfl,Ints.nil _ _,hB2⟩
  ·have Hr2:Hid (resW M.succ M.mv M.done M.out M.s0 ms=some (M.out t)):=by show _=_; rw [Hr.out,hd]; rfl
   have hou:=hC.out t Hre.out w2 b HR2.out
   clear hd Hr
   go_wp2_with fail
   refine hou.mono ?_
   rintro e3 w3 ⟨A3,c3,rfl,hrow3,hb3⟩
   have hB3:=hB2.trans (hb3.mono hB2.size)
   have Hrow:=Lib.hid hrow3
   have hsz:=hB2.size
   clear hou hrow3
   go_wp2_with fail
   refine bodyPost_ret (v:=.tuple #[.slice A3 (M.out t).length c3,.bool true]) (by simp [results,Try.results36,go_sem]) rfl ?_
   obtain⟨A4,c4,e4,hi4⟩:=RowI.ints Hrow.out
   injection e4 with e4 _ e5
   subst e4 e5
   rw [Hr2.out]
   exact⟨A3,c3,rfl,hi4.le (Le.above_mono hsz _),hB3⟩
 ·have Hr:=Lib.hid (Hnone.out hrun)
  clear hfo hrun Hreach Hres Hnone
  go_wp2_with fail
  refine bodyPost_ret (v:=.tuple #[.slice none 0 0,.bool false]) (by simp [results,Try.results36,go_sem]) rfl ?_
  rw [Hr.out]
  exact⟨none,0,rfl,Ints.nil _ _,hb1⟩
abbrev mvZ (p:Prg) (s:VSt):List Int:=(mvV p s).map fun c=>((c:Nat):Int)
noncomputable def vwR (p:Prg) (ms:List Int):Option (List Int):=if prgB p=true then resW (sucV p) (mvZ p) (doneV p) outV (vt0 p) ms else none
noncomputable def vwA (p:Prg) (ms:List Int):List Int:=if prgB p=true then match runW (sucV p) (mvZ p) (vt0 p) ms with
 | some t=>mvZ p t
 | none=>[] else []
set_option maxHeartbeats 1000000 in
theorem implRC_any (p:Prg) (hl:p.length≤1048576) (hls:∀ t∈p,t.length≤1048576) (ms:List Int) (W:World) (v:Value) (hr:PrgS W v p) (B:Option Addr) (d:Nat) (hI:Ints W B d ms):Calls Try.prog 16 #[v,.slice B ms.length d] W (RetOv W (vwR p ms)):=by
 have hv:=implPrg_any p hl hls W v hr
 have HR:=Lib.hid hr
 have HI:=Lib.hid hI
 have hm:=hI.len
 obtain⟨A,c,rfl,_⟩:=hr.slice
 have HF:Hid (prgB p=false→vwR p ms=none):=fun h=>by unfold vwR; rw [h]; rfl
 have HT:Hid (prgB p=true→PrgOk p∧vwR p ms=resW (sucV p) (mvZ p) (doneV p) outV (vt0 p) ms):=fun h=>⟨prgB_iff.1 h,by unfold vwR; rw [if_pos h]⟩
 clear hI
 go_enter Try.func16,Try.ntmps16
 go_wp2_with fail
 refine hv.mono ?_
 rintro e1 w1 ⟨rfl,hb1⟩
 clear hv
 cases hpb:prgB p
 ·have Hn:=Lib.hid (HF.out hpb)
  clear hpb HT HF
  go_wp2_with fail
  refine bodyPost_ret (v:=.tuple #[.slice none 0 0,.bool false]) (by simp [results,Try.results16,go_sem]) rfl ?_
  rw [Hn.out]
  exact⟨none,0,rfl,Ints.nil _ _,hb1⟩
 ·obtain⟨hp,hs⟩:=HT.out hpb
  have Hp:=Lib.hid hp
  have Hs:=Lib.hid hs
  have hns:=newViews_any p (by have:=Hp.out.1.1; omega) w1 _ (HR.out.le (Le.below hb1))
  clear hpb HT HF hp hs
  go_wp2_with fail
  refine hns.mono ?_
  rintro e2 w2 ⟨Ap,cp,b,e,rfl,hR,hpr2,hb2⟩
  injection e with e1 _ e3
  subst e1 e3
  have hB2:=hb1.trans (hb2.mono hb1.size)
  have hfi:=finishedV_any (viewM p A c) (viewM_P Hp.out A c) (viewM_C Hp.out A c) ms w2 b ⟨hR,hpr2⟩ B d (HI.out.le (Le.below hB2))
  clear hns hR hpr2
  go_wp2_with fail
  refine hfi.mono ?_
  rintro e3 w3 ⟨A3,c3,rfl,hi3,hb3⟩
  have hB3:=hB2.trans (hb3.mono hB2.size)
  have hsz:=hB2.size
  have Hi3:=Lib.hid hi3
  clear hfi hi3
  obtain⟨r,hr3⟩:∃ r,r=resW (viewM p A c).succ (viewM p A c).mv (viewM p A c).done (viewM p A c).out (viewM p A c).s0 ms:=⟨_,rfl⟩
  have Hr3:Hid (vwR p ms=r):=by show _=_; rw [hr3]; exact Hs.out
  rw [← hr3] at Hi3 ⊢
  clear hr3 Hs
  go_wp2_with fail
  refine bodyPost_ret (v:=.tuple #[.slice A3 (r.getD []).length c3,.bool r.isSome]) (by simp [results,Try.results16,go_sem]) rfl ?_
  rw [Hr3.out]
  exact⟨A3,c3,rfl,Hi3.out.le (Le.above_mono hsz _),hB3⟩
def RetIv (W:World) (r:List Int) (e:Ending) (W':World):Prop:=
 ∃ A c,e=.returned (.slice A r.length c)∧Ints (above W.heap.size W') A c r∧Below W.heap.size W W'
set_option maxHeartbeats 1000000 in
theorem implCA_any (p:Prg) (hl:p.length≤1048576) (hls:∀ t∈p,t.length≤1048576) (ms:List Int) (W:World) (v:Value) (hr:PrgS W v p) (B:Option Addr) (d:Nat) (hI:Ints W B d ms):Calls Try.prog 20 #[v,.slice B ms.length d] W (RetIv W (vwA p ms)):=by
 have hv:=implPrg_any p hl hls W v hr
 have HR:=Lib.hid hr
 have HI:=Lib.hid hI
 have hm:=hI.len
 obtain⟨A,c,rfl,_⟩:=hr.slice
 have HF:Hid (prgB p=false→vwA p ms=[]):=fun h=>by unfold vwA; rw [h]; rfl
 have HN:Hid (runW (sucV p) (mvZ p) (vt0 p) ms=none→vwA p ms=[]):=fun h=>by unfold vwA; rw [h]; split <;> rfl
 have HT:Hid (prgB p=true→PrgOk p∧∀ t,runW (sucV p) (mvZ p) (vt0 p) ms=some t→vwA p ms=mvZ p t):=fun h=>⟨prgB_iff.1 h,fun t ht=>by unfold vwA; rw [if_pos h,ht]⟩
 clear hI
 go_enter Try.func20,Try.ntmps20
 go_wp2_with fail
 refine hv.mono ?_
 rintro e1 w1 ⟨rfl,hb1⟩
 clear hv
 cases hpb:prgB p
 ·have Hn:=Lib.hid (HF.out hpb)
  clear hpb HT HF HN
  go_wp2_with fail
  go_ret
  rw [Hn.out]
  exact⟨none,0,rfl,Ints.nil _ _,hb1⟩
 ·obtain⟨hp,hs⟩:=HT.out hpb
  have Hp:=Lib.hid hp
  have Hs:=Lib.hid hs
  have hns:=newViews_any p (by have:=Hp.out.1.1; omega) w1 _ (HR.out.le (Le.below hb1))
  clear hpb HT HF hp hs
  go_wp2_with fail
  refine hns.mono ?_
  rintro e2 w2 ⟨Ap,cp,b,e,rfl,hR,hpr2,hb2⟩
  injection e with e1 _ e3
  subst e1 e3
  have hB2:=hb1.trans (hb2.mono hb1.size)
  have hfi:=followV_any (viewM p A c) (viewM_P Hp.out A c) (viewM_C Hp.out A c) ms w2 b ⟨hR,hpr2⟩ B d (HI.out.le (Le.below hB2))
  have Hrun:Hid (∀ t,runW (viewM p A c).succ (viewM p A c).mv (viewM p A c).s0 ms=some t→Reach (viewM p A c).succ (viewM p A c).s0 t∧vwA p ms=(viewM p A c).mv t):=fun t h=>⟨run_reach (fun s h=>(viewM_P Hp.out A c).len s h) _ _ .start h,Hs.out t h⟩
  have HNo:Hid (runW (viewM p A c).succ (viewM p A c).mv (viewM p A c).s0 ms=none→vwA p ms=[]):=fun h=>HN.out h
  clear hns hR hpr2 Hs HN
  go_wp2_with fail
  refine hfi.mono ?_
  rintro e3 w3 ⟨⟨b',t,hrt,rfl,hRt⟩ | ⟨hno,rfl⟩,hb3⟩
  ·obtain⟨hre,hma⟩:=Hrun.out t hrt
   have Hma:=Lib.hid hma
   have hB3:=hB2.trans (hb3.mono hB2.size)
   have hmv:=(viewM_C Hp.out A c).mv t hre w3 b' hRt
   clear hfi hrt hRt hre hma Hrun HNo
   generalize (viewM p A c).mv t=zs at hmv Hma
   go_wp2_with fail
   refine hmv.mono ?_
   rintro e5 w5 ⟨A5,c5,rfl,hrow5,hb5⟩
   have hsz:=hB3.size
   have hB5:=hB3.trans (hb5.mono hB3.size)
   obtain⟨A6,c6,e6,hi6⟩:=RowI.ints hrow5
   injection e6 with e6 _ e7
   subst e6 e7
   have Hi6:=Lib.hid hi6
   clear hmv hrow5 hi6
   go_wp2_with fail
   go_ret
   rw [Hma.out]
   exact⟨_,_,rfl,Hi6.out.le (Le.above_mono hsz _),hB5⟩
  ·have Hn:=Lib.hid (HNo.out hno)
   have hB3:=hB2.trans (hb3.mono hB2.size)
   clear hfi hno Hrun HNo
   go_wp2_with fail
   go_ret
   rw [Hn.out]
   exact⟨none,0,rfl,Ints.nil _ _,hB3⟩
end Go.Proofs.Ytojmofnamppbdaa
