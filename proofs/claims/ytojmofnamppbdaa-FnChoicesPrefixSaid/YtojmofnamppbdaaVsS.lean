/-
  The reference's states with views: l5After, RunChoices.
-/
import Derived.Test.YtojmofnamppbdaaFolV
import Derived.Test.YtojmofnamppbdaaVsZ
namespace Go.Proofs.Ytojmofnamppbdaa
open Go.RowKit
set_option linter.unusedVariables false
set_option maxRecDepth 100000
structure Bx5 (w:World) (b:Nat) (q:L5) (p:Prg) (s:VSt):Prop where
 own:Own w b 48 #[.slice (some ⟨q.b1,0,none⟩) p.length q.c1,.slice (some ⟨q.b2,0,none⟩) (p.length*3) q.c2,.slice (some ⟨q.b3,0,none⟩) p.length q.c3,.slice (some ⟨q.b4,0,none⟩) 3 q.c4]
 rep:Rep5 (hidP (fun x=>x=b) w) q p s
section
variable {w w':World} {b:Nat} {q:L5} {p:Prg} {s:VSt}
theorem Bx5.below (h:Bx5 w b q p s) (hb:Below w.heap.size w w'):Bx5 w' b q p s:=
 ⟨h.own.under hb,h.rep.le (Le.hidP_below hb (fun _ _=>.inr trivial))⟩
theorem Bx5.new (hr:Rep5 w q p s):Bx5 (w.alloc (.cells #[.slice (some ⟨q.b1,0,none⟩) p.length q.c1,.slice (some ⟨q.b2,0,none⟩) (p.length*3) q.c2,.slice (some ⟨q.b3,0,none⟩) p.length q.c3,.slice (some ⟨q.b4,0,none⟩) 3 q.c4] 48)) w.heap.size q p s:=
 ⟨Own.new _ _ _,hr.le fun x v hc=>cell_hidP.2 ⟨by have:=World.block_lt_of_cell? _ _ hc; omega,Le.alloc _ _ _ _ hc⟩⟩
theorem Bx5.cells (h:Bx5 w b q p s):w.cell? ⟨b,0,none⟩=some (.slice (some ⟨q.b1,0,none⟩) p.length q.c1)∧w.cell? ⟨b,1,none⟩=some (.slice (some ⟨q.b2,0,none⟩) (p.length*3) q.c2)∧w.cell? ⟨b,2,none⟩=some (.slice (some ⟨q.b3,0,none⟩) p.length q.c3)∧w.cell? ⟨b,3,none⟩=some (.slice (some ⟨q.b4,0,none⟩) 3 q.c4):=
 ⟨h.own.cell (i:=0) rfl,h.own.cell (i:=1) rfl,h.own.cell (i:=2) rfl,h.own.cell (i:=3) rfl⟩
theorem Bx5.put {d:L5} {B:Nat} {s':VSt} (h:Bx5 w b q p s) (hB:b<B) (hr:Rep5 (above B w) d p s'):Bx5 ((((w.setCell ⟨b,0,none⟩ (.slice (some ⟨d.b1,0,none⟩) p.length d.c1)).setCell ⟨b,1,none⟩ (.slice (some ⟨d.b2,0,none⟩) (p.length*3) d.c2)).setCell ⟨b,2,none⟩ (.slice (some ⟨d.b3,0,none⟩) p.length d.c3)).setCell ⟨b,3,none⟩ (.slice (some ⟨d.b4,0,none⟩) 3 d.c4)) b d p s':=by
 refine⟨(((h.own.set 0 _).set 1 _).set 2 _).set 3 _,hr.le fun x v hc=>?_⟩
 obtain⟨h1,h2⟩:=cell_above_lt hc
 have hne:∀ i,(⟨b,i,none⟩:Addr)≠x:=fun i e=>by rw [← e] at h1; simp only at h1; omega
 refine cell_hidP.2 ⟨by omega,?_⟩
 rw [World.cell?_setCell_other _ _ _ _ (hne 3),World.cell?_setCell_other _ _ _ _ (hne 2),World.cell?_setCell_other _ _ _ _ (hne 1),World.cell?_setCell_other _ _ _ _ (hne 0)]
 exact h2
end
theorem Rep5.setR {B R:Nat} {w:World} {q:L5} {p:Prg} {s:VSt} (h:Rep5 (above B w) q p s) (hR:R<B) (v0 v1 v2 v3:Value):Rep5 (above B ((((w.setCell ⟨R,0,none⟩ v0).setCell ⟨R,1,none⟩ v1).setCell ⟨R,2,none⟩ v2).setCell ⟨R,3,none⟩ v3)) q p s:=h.le fun x v hc=>by
 obtain⟨h1,h2⟩:=cell_above_lt hc
 have hne:∀ i,(⟨R,i,none⟩:Addr)≠x:=fun i e=>by rw [← e] at h1; simp only at h1; omega
 refine cell_above_of h1 ?_
 rw [World.cell?_setCell_other _ _ _ _ (hne 3),World.cell?_setCell_other _ _ _ _ (hne 2),World.cell?_setCell_other _ _ _ _ (hne 1),World.cell?_setCell_other _ _ _ _ (hne 0)]
 exact h2
def can5 (p:Prg) (s:VSt) (m:Int):Bool:=!decide (m<0) && canV p s (m.toNat % 3) (m.toNat / 3)
theorem mvZ_mem {p:Prg} (hp:PrgOk p) {s:VSt} (hs:VOk p s) {m:Int}:m∈mvZ p s↔can5 p s m=true:=by
 unfold mvZ can5
 rw [List.mem_map]
 constructor
 ·rintro ⟨c,h,rfl⟩
  rw [Int.toNat_natCast,(mem_mvV_iff.1 h).2.2,decide_eq_false (by omega)]
  rfl
 ·intro h
  obtain⟨h1,h2⟩:=Bool.and_eq_true_iff.1 h
  have h3:¬ m<0:=by
   intro hm
   rw [decide_eq_true hm] at h1
   cases h1
  have ht:m.toNat % 3<p.length:=by
   rcases Nat.lt_or_ge (m.toNat % 3) p.length with h' | h'
   ·exact h'
   ·rw [canV_off (by unfold thrP; rw [List.getD_eq_getElem?_getD,List.getElem?_eq_none h']; exact Nat.not_lt_zero _)] at h2
    cases h2
  have hm:=(can_mem hp hs ht h2).1
  rw [show 3*(m.toNat / 3)+m.toNat % 3=m.toNat by omega] at hm
  exact⟨m.toNat,hm,by omega⟩
theorem vwZ_len (p:Prg):∀ s,Reach (sucV p) (vt0 p) s→(mvZ p s).length=(sucV p s).length:=fun s _=>by
 unfold mvZ sucV
 rw [List.length_map,List.length_map]
theorem vwZ_step {p:Prg} (hp:PrgOk p) {s:VSt} (hs:VOk p s) {m:Nat} (h:can5 p s (m:Int)=true):stepW (sucV p) (mvZ p) s (m:Int)=some (nxV p s m):=by
 have hl:(mvZ p s).length=(sucV p s).length:=by unfold mvZ sucV; rw [List.length_map,List.length_map]
 obtain⟨i,hi,hj,h1,h2⟩:=lookup_in (mvZ p s) (sucV p s) (m:Int) hl ((mvZ_mem hp hs).2 h)
 unfold stepW
 rw [h2]
 have h3:(mvV p s)[i]'(by unfold sucV at hj; rw [List.length_map] at hj; exact hj)=m:=by
  simp only [mvZ,List.getElem_map] at h1
  omega
 simp only [sucV,List.getElem_map,h3]
theorem vwZ_none {p:Prg} (hp:PrgOk p) {s:VSt} (hs:VOk p s) {m:Int} (h:can5 p s m=false):stepW (sucV p) (mvZ p) s m=none:=
 step_none fun hm=>by
  rw [(mvZ_mem hp hs).1 hm] at h
  cases h
def RetAf5 (p:Prg) (ms:List Int) (W:World) (e:Ending) (W':World):Prop:=∃ (s:VSt) (ok:Bool) (q:L5),e=.returned (.tuple #[v5 q p.length,.bool ok]) ∧
 Rep5 (above W.heap.size W') q p s∧Reach (sucV p) (vt0 p) s∧runW (sucV p) (mvZ p) (vt0 p) ms=(if ok=true then some s else none)∧Below W.heap.size W W'
set_option maxHeartbeats 3000000 in
theorem l5After_any (p:Prg) (hp:PrgOk p) (ms:List Int) (hms:∀ m∈ms,m≤1000000) (W:World) (v:Value) (hr:PrgS W v p) (B:Option Addr) (cm:Nat) (hI:Ints W B cm ms):Calls Try.prog 38 #[v,.slice B ms.length cm] W (RetAf5 p ms W):=by
 obtain⟨V0,hV0⟩:∃ V0,V0=W.alloc (.cells #[.slice none 0 0,.slice none 0 0,.slice none 0 0,.slice none 0 0] 48):=⟨_,rfl⟩
 have hB0:Below W.heap.size W V0:=by rw [hV0]; exact (Below.refl _ _).alloc (Nat.le_refl _) _
 have o0:Own V0 W.heap.size 48 #[.slice none 0 0,.slice none 0 0,.slice none 0 0,.slice none 0 0]:=by rw [hV0]; exact Own.new _ _ _
 have hs0:V0.heap.size=W.heap.size+1:=by rw [hV0]; simp
 have hst:=l5Start_any p hp V0 v (hr.le (Le.below hB0))
 have HR:=Lib.hid hr
 have HI:=Lib.hid hI
 have Hp:=Lib.hid hp
 have Hms:=Lib.hid hms
 have hm:=hI.len
 obtain⟨A,c,rfl,_⟩:=hr.slice
 clear hI hr hp hms
 go_enter Try.func38,Try.ntmps38
 have oR0:Hid (∀ U,Below V0.heap.size V0 U→Own U W.heap.size 48 #[.slice none 0 0,.slice none 0 0,.slice none 0 0,.slice none 0 0]):=fun U hU=>o0.under hU
 have HFin:Hid (∀ U,Below V0.heap.size V0 U→∀ v0 v1 v2 v3,Below W.heap.size W ((((U.setCell ⟨W.heap.size,0,none⟩ v0).setCell ⟨W.heap.size,1,none⟩ v1).setCell ⟨W.heap.size,2,none⟩ v2).setCell ⟨W.heap.size,3,none⟩ v3)):=fun U hU v0 v1 v2 v3=>((((hB0.trans (hU.mono (by omega))).setCell (Nat.le_refl _) _).setCell (Nat.le_refl _) _).setCell (Nat.le_refl _) _).setCell (Nat.le_refl _) _
 clear o0
 go_upto_region 1 with (fail)
 rw [← hV0]
 clear hV0
 go_wp2_with fail
 refine hst.mono ?_
 rintro e5 w5 ⟨q,rfl,hr5,hb5⟩
 unfold v5 v5C
 clear hst
 have hbx:=Bx5.new (hr5.le (Le.above _ _))
 obtain⟨b,hbe⟩:∃ b,b=w5.heap.size:=⟨_,rfl⟩
 have hbW:V0.heap.size≤b:=by rw [hbe]; exact hb5.size
 have hB6:=hb5.alloc hb5.size (.cells #[.slice (some ⟨q.b1,0,none⟩) p.length q.c1,.slice (some ⟨q.b2,0,none⟩) (p.length*3) q.c2,.slice (some ⟨q.b3,0,none⟩) p.length q.c3,.slice (some ⟨q.b4,0,none⟩) 3 q.c4] 48)
 obtain⟨w6,hw6⟩:∃ w6,w6=w5.alloc (.cells #[.slice (some ⟨q.b1,0,none⟩) p.length q.c1,.slice (some ⟨q.b2,0,none⟩) (p.length*3) q.c2,.slice (some ⟨q.b3,0,none⟩) p.length q.c3,.slice (some ⟨q.b4,0,none⟩) 3 q.c4] 48):=⟨_,rfl⟩
 have hr6:Hid (Rep5 (above V0.heap.size w6) q p (vt0 p)):=by
  show Rep5 _ _ _ _
  rw [hw6]
  exact hr5.le (Le.above_le _ (Le.alloc _ _))
 rw [← hw6] at hbx hB6
 rw [← hbe] at hbx
 have Hbx:=Lib.hid hbx
 clear hr5 hb5 hbx
 go_upto_region 2 with (fail)
 rw [← hw6,← hbe]
 clear hw6 hbe
 go_wp2_with fail
 go_loopg [7] ms.length (fun g s7 wr=>∃ (i:Nat) (s:VSt) (q:L5),i≤ms.length∧g=ms.length-i∧s7=.int .i64 i∧Hid (runW (sucV p) (mvZ p) (vt0 p) (ms.take i)=some s)∧Hid (Bx5 wr b q p s)∧Hid (Rep5 (above V0.heap.size wr) q p s)∧Below V0.heap.size V0 wr)
 case atStart=>exact⟨0,vt0 p,q,Nat.zero_le _,rfl,rfl,by rw [List.take_zero]; rfl,Hbx.out,hr6.out,hB6⟩
 case round=>
  clear Hbx hB6 hr6
  obtain⟨wo,rfl⟩:∃ wo:World,wo=wr:=⟨_,rfl⟩
  obtain⟨i,s,q,hi,rfl,rfl,hrun,hbx,hrep,hb⟩:=hrel
  have hre:=run_reach (vwZ_len p) _ _ .start hrun.out
  have hok:=reachV_ok Hp.out hre
  have Hok:=Lib.hid hok
  have hbl:=hbx.out.own.lt
  obtain⟨q0,q1,q2,q3⟩:=hbx.out.cells
  have hpr:=HR.out.le (Le.below (hB0.trans (hb.mono (by omega))))
  have Hre:=Lib.hid hre
  by_cases hlt:i<ms.length
  ·obtain⟨bm,om,rfl,hbm,k0⟩:=(HI.out.le (Le.below (hB0.trans (hb.mono (by omega))))).get hlt
   have Hstep:Hid (runW (sucV p) (mvZ p) (vt0 p) (ms.take (i+1))=stepW (sucV p) (mvZ p) s ms[i]):=by
    show _=_
    rw [run_take hlt,hrun.out]
    rfl
   have Hnone:Hid (runW (sucV p) (mvZ p) (vt0 p) (ms.take (i+1))=none→runW (sucV p) (mvZ p) (vt0 p) ms=none):=run_take_none hlt
   have hm6:=Hms.out _ (List.getElem_mem hlt)
   have hil:(i:Int)<(ms.length:Int):=by omega
   generalize ms[i]=m at k0 Hstep Hnone hm6
   obtain⟨cn,hcn⟩:∃ cn,cn=can5 p s m:=⟨_,rfl⟩
   have Hcn:=Lib.hid hcn
   by_cases hneg:m<0
   ·have hd:decide (m<0)=true:=decide_eq_true hneg
    have hcf:cn=false:=by rw [hcn]; unfold can5; rw [hd]; rfl
    have Hcf:=Lib.hid hcf
    clear hre hrun hok hpr hcn hcf q0 q1 q2 q3
    go_upto_region 6 with (fail)
    obtain⟨w7,rfl⟩:∃ w7:World,w7=wo:=⟨_,rfl⟩
    have hb7:Below w7.heap.size w7 w7:=Below.refl _ _
    obtain rfl:=Hcf.out
    have hB7:=hb.trans (hb7.mono hb.size)
    have hbx7:=Lib.hid (hbx.out.below hb7)
    have hrep7:Hid (Rep5 (above V0.heap.size w7) q p s):=hrep.out.le (Le.above_le _ (Le.below hb7))
    obtain⟨q0,q1,q2,q3⟩:=hbx7.out.cells
    have hbl7:=hbx7.out.own.lt
    clear hbx hrep hb7 k0
    have hcf2:Hid (can5 p s m=false):=Hcn.out.symm
    have Hr:Hid (runW (sucV p) (mvZ p) (vt0 p) ms=none):=Hnone.out (by rw [Hstep.out]; exact vwZ_none Hp.out Hok.out hcf2.out)
    have oR:=oR0.out w7 hB7
    have f0:=oR.frozen 0
    have f1:=oR.frozen 1
    have f2:=oR.frozen 2
    have f3:=oR.frozen 3
    have x0:=oR.cell (i:=0) rfl
    have x1:=oR.cell (i:=1) rfl
    have x2:=oR.cell (i:=2) rfl
    have x3:=oR.cell (i:=3) rfl
    have hlR:=oR.lt
    clear Hstep Hnone oR Hcn hcf2
    go_wp2_with fail
    refine bodyPost_ret (v:=.tuple #[.agg #[.slice (some ⟨q.b1,0,none⟩) p.length q.c1,.slice (some ⟨q.b2,0,none⟩) (p.length*3) q.c2,.slice (some ⟨q.b3,0,none⟩) p.length q.c3,.slice (some ⟨q.b4,0,none⟩) 3 q.c4],.bool false]) (by simp [results,Try.results38,go_sem,x0,x1,x2,x3]) rfl ?_
    exact⟨s,false,q,rfl,(hrep7.out.setR (by omega) _ _ _ _).le (Le.above_mono hB0.size _),Hre.out,Hr.out,HFin.out w7 hB7 _ _ _ _⟩
   ·have hd:decide (m<0)=false:=decide_eq_false hneg
    obtain⟨k,rfl⟩:∃ k:Nat,m=(k:Int):=⟨m.toNat,by omega⟩
    have HCan:Hid (∀ U,Below wo.heap.size wo U→Calls Try.prog 67 #[.slice A p.length c,.agg #[.slice (some ⟨q.b1,0,none⟩) p.length q.c1,.slice (some ⟨q.b2,0,none⟩) (p.length*3) q.c2,.slice (some ⟨q.b3,0,none⟩) p.length q.c3,.slice (some ⟨q.b4,0,none⟩) 3 q.c4],.int .i64 ((k % 3:Nat):Int),.int .i64 ((k / 3:Nat):Int)] U (fun e U'=>e=.returned (.bool cn)∧Below U.heap.size U U')):=fun U hU=>by
     have h:=l5Can_any p Hp.out s Hok.out (k % 3) (k / 3) (by omega) (by omega) U (.slice A p.length c) (hpr.le (Le.below hU)) q ((hbx.out.below hU).rep.le (Le.hidP _ _))
     unfold v5 v5C at h
     rw [hcn]
     unfold can5
     rw [hd,Int.toNat_natCast]
     exact h
    have hq1:(k:Int) % 3=((k % 3:Nat):Int):=by omega
    have hq2:(k:Int) / 3=((k / 3:Nat):Int):=by omega
    have hq3:(k:Int).tmod 3=((k % 3:Nat):Int):=by rw [Int.tmod_eq_emod_of_nonneg (by omega)]; omega
    have hq4:(k:Int).tdiv 3=((k / 3:Nat):Int):=by rw [Int.tdiv_eq_ediv_of_nonneg (by omega)]; omega
    have hr1:k % 3<3:=by omega
    have hr2:k / 3≤1000000:=by omega
    obtain⟨r1,hr1e⟩:∃ r,r=k % 3:=⟨_,rfl⟩
    obtain⟨r2,hr2e⟩:∃ r,r=k / 3:=⟨_,rfl⟩
    rw [← hr1e] at HCan hq1 hq3 hr1
    rw [← hr2e] at HCan hq2 hq4 hr2
    have Hr12:=Lib.hid (And.intro hr1e hr2e)
    have Hq:=Lib.hid (And.intro hq3 hq4)
    clear hre hrun hok hpr hcn hr1e hr2e
    go_wp2_with fail
    refine (HCan.out _ (Below.refl _ _)).mono ?_
    rintro e7 w7 ⟨rfl,hb7⟩
    clear HCan q0 q1 q2 q3
    cases cn
    ·have hB7:=hb.trans (hb7.mono hb.size)
     have hbx7:=Lib.hid (hbx.out.below hb7)
     have hrep7:Hid (Rep5 (above V0.heap.size w7) q p s):=hrep.out.le (Le.above_le _ (Le.below hb7))
     obtain⟨q0,q1,q2,q3⟩:=hbx7.out.cells
     have hbl7:=hbx7.out.own.lt
     clear hbx hrep hb7 k0
     have hcf2:Hid (can5 p s (k:Int)=false):=Hcn.out.symm
     have Hr:Hid (runW (sucV p) (mvZ p) (vt0 p) ms=none):=Hnone.out (by rw [Hstep.out]; exact vwZ_none Hp.out Hok.out hcf2.out)
     have oR:=oR0.out w7 hB7
     have f0:=oR.frozen 0
     have f1:=oR.frozen 1
     have f2:=oR.frozen 2
     have f3:=oR.frozen 3
     have x0:=oR.cell (i:=0) rfl
     have x1:=oR.cell (i:=1) rfl
     have x2:=oR.cell (i:=2) rfl
     have x3:=oR.cell (i:=3) rfl
     have hlR:=oR.lt
     clear Hstep Hnone oR Hcn hcf2
     go_wp2_with fail
     refine bodyPost_ret (v:=.tuple #[.agg #[.slice (some ⟨q.b1,0,none⟩) p.length q.c1,.slice (some ⟨q.b2,0,none⟩) (p.length*3) q.c2,.slice (some ⟨q.b3,0,none⟩) p.length q.c3,.slice (some ⟨q.b4,0,none⟩) 3 q.c4],.bool false]) (by simp [results,Try.results38,go_sem,x0,x1,x2,x3]) rfl ?_
     exact⟨s,false,q,rfl,(hrep7.out.setR (by omega) _ _ _ _).le (Le.above_mono hB0.size _),Hre.out,Hr.out,HFin.out w7 hB7 _ _ _ _⟩
    ·have hB7:=hb.trans (hb7.mono hb.size)
     have hbx7:=Lib.hid (hbx.out.below hb7)
     have hrep7:Hid (Rep5 (above V0.heap.size w7) q p s):=hrep.out.le (Le.above_le _ (Le.below hb7))
     obtain⟨q0,q1,q2,q3⟩:=hbx7.out.cells
     have hbl7:=hbx7.out.own.lt
     clear hbx hrep hb7 k0
     have hcn:can5 p s (k:Int)=true:=Hcn.out.symm
     have Hrn:Hid (runW (sucV p) (mvZ p) (vt0 p) (ms.take (i+1))=some (nxV p s k)):=by
      show _=_
      rw [Hstep.out]
      exact vwZ_step Hp.out Hok.out hcn
     have hkm:k∈mvV p s:=by
      have h:=(mvZ_mem Hp.out Hok.out).2 hcn
      unfold mvZ at h
      obtain⟨c',h1,h2⟩:=List.mem_map.1 h
      rw [show k=c' by omega]
      exact h1
     obtain⟨_,hc2,hc3⟩:=mem_mvV_iff.1 hkm
     have HDo:=(l5Do_any p Hp.out s Hok.out (k % 3) (k / 3) hc2 hc3 w7 _ (HR.out.le (Le.below (hB0.trans (hB7.mono (by omega))))) q (hbx7.out.rep.le (Le.hidP _ _)))
     rw [← Hr12.out.1,← Hr12.out.2] at HDo
     unfold v5 v5C at HDo
     have Hnx:Hid (doV s r1 (insS p s.s r1) r2=nxV p s k):=by show _=_; rw [Hr12.out.1,Hr12.out.2]; rfl
     rw [Hnx.out] at HDo
     have hq3:=Hq.out.1
     have hq4:=Hq.out.2
     clear Hstep Hnone hcn Hcn hkm hc2 hc3 Hnx
     go_wp2_with fail
     refine HDo.mono ?_
     rintro e8 w8 h8
     obtain⟨d,rfl,hr8,hb8⟩:=h8.ret
     unfold v5 v5C
     have hbx8:=hbx7.out.below hb8
     have hput:=Lib.hid (hbx8.put hbl7 hr8)
     have hrp:=Lib.hid ((hr8.setR hbl7 (.slice (some ⟨d.b1,0,none⟩) p.length d.c1) (.slice (some ⟨d.b2,0,none⟩) (p.length*3) d.c2) (.slice (some ⟨d.b3,0,none⟩) p.length d.c3) (.slice (some ⟨d.b4,0,none⟩) 3 d.c4)).le (Le.above_mono hB7.size _))
     have hB8:=hB7.trans (hb8.mono hB7.size)
     obtain⟨p0,p1,p2,p3⟩:=hbx8.cells
     have y0:=hbx8.own.frozen 0
     have y1:=hbx8.own.frozen 1
     have y2:=hbx8.own.frozen 2
     have y3:=hbx8.own.frozen 3
     have hbl8:=hbx8.own.lt
     clear HDo hr8 hb8 h8 q0 q1 q2 q3
     go_wp2_with fail
     go_roundg (ms.length-(i+1))
     case measure=>omega
     case rel=>exact⟨i+1,nxV p s k,d,by omega,rfl,by go_num,Hrn.out,hput.out,hrp.out,(((hB8.setCell (p:=⟨b,0,none⟩) hbW _).setCell (p:=⟨b,1,none⟩) hbW _).setCell (p:=⟨b,2,none⟩) hbW _).setCell (p:=⟨b,3,none⟩) hbW _⟩
  ·obtain rfl:i=ms.length:=by omega
   have Hr:Hid (runW (sucV p) (mvZ p) (vt0 p) ms=some s):=by
    show _=_
    have h:=hrun.out
    rwa [List.take_length] at h
   have oR:=oR0.out wo hb
   have f0:=oR.frozen 0
   have f1:=oR.frozen 1
   have f2:=oR.frozen 2
   have f3:=oR.frozen 3
   have x0:=oR.cell (i:=0) rfl
   have x1:=oR.cell (i:=1) rfl
   have x2:=oR.cell (i:=2) rfl
   have x3:=oR.cell (i:=3) rfl
   have hlR:=oR.lt
   clear hre hrun hok hpr oR
   go_wp2_with fail
   refine bodyPost_ret (v:=.tuple #[.agg #[.slice (some ⟨q.b1,0,none⟩) p.length q.c1,.slice (some ⟨q.b2,0,none⟩) (p.length*3) q.c2,.slice (some ⟨q.b3,0,none⟩) p.length q.c3,.slice (some ⟨q.b4,0,none⟩) 3 q.c4],.bool true]) (by simp [results,Try.results38,go_sem,x0,x1,x2,x3]) rfl ?_
   exact⟨s,true,q,rfl,(hrep.out.setR (by omega) _ _ _ _).le (Le.above_mono hB0.size _),Hre.out,Hr.out,HFin.out wo hb _ _ _ _⟩
set_option maxHeartbeats 2000000 in
theorem specRC_any (p:Prg) (hl:p.length≤1048576) (ms:List Int) (hms:∀ m∈ms,m≤1000000) (W:World) (v:Value) (hr:PrgS W v p) (B:Option Addr) (cm:Nat) (hI:Ints W B cm ms):Calls Try.prog 17 #[v,.slice B ms.length cm] W (RetOv W (vwR p ms)):=by
 have hv:=specPrg_any p hl W v hr
 have HR:=Lib.hid hr
 have HI:=Lib.hid hI
 have hm:=hI.len
 obtain⟨A,c,rfl,_⟩:=hr.slice
 have HF:Hid (prgB p=false→vwR p ms=none):=fun h=>by unfold vwR; rw [h]; rfl
 have HT:Hid (prgB p=true→PrgOk p∧vwR p ms=resW (sucV p) (mvZ p) (doneV p) outV (vt0 p) ms):=fun h=>⟨prgB_iff.1 h,by unfold vwR; rw [if_pos h]⟩
 generalize vwR p ms=r at HF HT
 clear hI
 go_enter Try.func17,Try.ntmps17
 go_wp2_with fail
 refine hv.mono ?_
 rintro e1 w1 ⟨rfl,hb1⟩
 clear hv
 cases hpb:prgB p
 ·obtain rfl:=HF.out hpb
  clear hpb HT HF
  go_wp2_with fail
  refine bodyPost_ret (v:=.tuple #[.slice (some ⟨w1.heap.size,0,none⟩) 0 0,.bool false]) (by simp [results,Try.results17,go_sem]) rfl ?_
  exact⟨_,_,rfl,⟨_,_,rfl,by simp,fun i hi=>absurd hi (Nat.not_lt_zero _)⟩,hb1.alloc hb1.size _⟩
 ·obtain⟨hp,hs⟩:=HT.out hpb
  have Hp:=Lib.hid hp
  have Hs:=Lib.hid hs
  have h3:=hp.1.1
  have haf:=l5After_any p hp ms hms w1 _ (HR.out.le (Le.below hb1)) B cm (HI.out.le (Le.below hb1))
  clear hpb HT HF hp hs
  go_wp2_with fail
  refine haf.mono ?_
  rintro e5 w5 ⟨b,ok,q,rfl,hr5,hre,hrun,hb5⟩
  unfold v5 v5C
  have hB5:=hb1.trans (hb5.mono hb1.size)
  have Hrun:=Lib.hid hrun
  have hok:=reachV_ok Hp.out hre
  have Hok:=Lib.hid hok
  have Hr5:=Lib.hid hr5
  clear haf hrun hr5 hre hok
  obtain⟨w6,hw6⟩:∃ w6,w6=w5.alloc (.cells #[.slice (some ⟨q.b1,0,none⟩) p.length q.c1,.slice (some ⟨q.b2,0,none⟩) (p.length*3) q.c2,.slice (some ⟨q.b3,0,none⟩) p.length q.c3,.slice (some ⟨q.b4,0,none⟩) 3 q.c4] 48):=⟨_,rfl⟩
  have hb6:Below w5.heap.size w5 w6:=by rw [hw6]; exact (Below.refl _ _).alloc (Nat.le_refl _) _
  have hB6:=hB5.trans (hb6.mono hB5.size)
  have o6:Own w6 w5.heap.size 48 #[.slice (some ⟨q.b1,0,none⟩) p.length q.c1,.slice (some ⟨q.b2,0,none⟩) (p.length*3) q.c2,.slice (some ⟨q.b3,0,none⟩) p.length q.c3,.slice (some ⟨q.b4,0,none⟩) 3 q.c4]:=by rw [hw6]; exact Own.new _ _ _
  have q0:=o6.cell (i:=0) rfl
  have q1:=o6.cell (i:=1) rfl
  have q2:=o6.cell (i:=2) rfl
  have q3:=o6.cell (i:=3) rfl
  have hl6:=o6.lt
  have O6:=Lib.hid o6
  clear o6
  go_upto_region 4 with (fail)
  rw [← hw6]
  clear hw6
  cases ok
  ·obtain rfl:r=none:=by rw [Hs.out]; unfold resW; rw [Hrun.out]; rfl
   go_wp2_with fail
   refine bodyPost_ret (v:=.tuple #[.slice (some ⟨w6.heap.size,0,none⟩) 0 0,.bool false]) (by simp [results,Try.results17,go_sem]) rfl ?_
   exact⟨_,_,rfl,⟨_,_,rfl,by simp,fun i hi=>absurd hi (Nat.not_lt_zero _)⟩,hB6.alloc hB6.size _⟩
  ·have hdn:=l5Done_any p Hp.out b w6 _ (HR.out.le (Le.below hB6)) q (Hr5.out.le ((Le.above _ _).trans (Le.below hb6)))
   unfold v5 v5C at hdn
   have Hr:Hid (r=if doneV p b=true then some (outV b) else none):=by
    show _=_
    rw [Hs.out]
    unfold resW
    rw [Hrun.out]
    rfl
   go_wp2_with fail
   refine hdn.mono ?_
   rintro e8 w8 ⟨rfl,hb8⟩
   have hB8:=hB6.trans (hb8.mono hB6.size)
   have o8:=O6.out.under hb8
   have p0:=o8.cell (i:=0) rfl
   have p1:=o8.cell (i:=1) rfl
   have p2:=o8.cell (i:=2) rfl
   have p3:=o8.cell (i:=3) rfl
   have hl8:=o8.lt
   clear hdn q0 q1 q2 q3 o8
   cases hdo:doneV p b
   ·obtain rfl:r=none:=by rw [Hr.out,hdo]; rfl
    clear hdo Hr
    go_wp2_with fail
    refine bodyPost_ret (v:=.tuple #[.slice (some ⟨w8.heap.size,0,none⟩) 0 0,.bool false]) (by simp [results,Try.results17,go_sem]) rfl ?_
    exact⟨_,_,rfl,⟨_,_,rfl,by simp,fun i hi=>absurd hi (Nat.not_lt_zero _)⟩,hB8.alloc hB8.size _⟩
   ·obtain rfl:r=some (outV b):=by rw [Hr.out,hdo]; rfl
    have hou:=l5Outcome_any p Hp.out b Hok.out w8 q (Hr5.out.le (((Le.above _ _).trans (Le.below hb6)).trans (Le.below hb8)))
    unfold v5 v5C at hou
    clear hdo Hr
    go_wp2_with fail
    refine hou.mono ?_
    rintro e9 w9 ⟨A9,c9,rfl,hrow9,hb9⟩
    have hB9:=hB8.trans (hb9.mono hB8.size)
    have hsz:=hB8.size
    have Hrow:=Lib.hid hrow9
    clear hou hrow9
    go_wp2_with fail
    refine bodyPost_ret (v:=.tuple #[.slice A9 (outV b).length c9,.bool true]) (by simp [results,Try.results17,go_sem]) rfl ?_
    obtain⟨A4,c4,e4,hi4⟩:=RowI.ints Hrow.out
    injection e4 with e4 _ e5
    subst e4 e5
    exact⟨A9,c9,rfl,hi4.le (Le.above_mono hsz _),hB9⟩
end Go.Proofs.Ytojmofnamppbdaa
