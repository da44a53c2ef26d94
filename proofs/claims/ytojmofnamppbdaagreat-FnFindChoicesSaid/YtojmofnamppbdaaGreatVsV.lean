/-
  FindChoices of the program; the draw of an outcome with views: DrawFindChoices.
-/
import Derived.Test.YtojmofnamppbdaaGreatVsT
import Derived.Test.YtojmofnamppbdaaGreatVsU
import Derived.Test.YtojmofnamppbdaaGreatFndV
import Derived.Test.YtojmofnamppbdaaGreatWmA
namespace Go.Proofs.YtojmofnamppbdaaGreat
open Go.RowKit
set_option linter.unusedVariables false
set_option maxRecDepth 100000
theorem viewM_E {p:Prg} (hp:PrgOk p) (Ap:Option Addr) (cp:Nat):MachE (viewM p Ap cp) potV where
 dec:=fun s t hs ht=>potV_lt hp hs ht
 low:=fun s hs=>by
  have:=potV_le s
  omega
set_option maxHeartbeats 1000000 in
theorem implFC_any (p:Prg) (hl:p.length≤1048576) (hls:∀ t∈p,t.length≤1048576) (o:List Int) (W:World) (v:Value) (hr:PrgS W v p) (B:Option Addr) (d:Nat) (hI:Ints W B d o):Calls Tryz.prog 21 #[v,.slice B o.length d] W (RetFSV p o W):=by
 have hov:=implOV_any p hl hls o W v hr B d hI
 have HR:=Lib.hid hr
 have HI:=Lib.hid hI
 have hm:=hI.len
 obtain⟨A,c,rfl,_⟩:=hr.slice
 have HF:Hid (ovB p o=false→¬ OutOk p o):=fun h=>ovB_false.1 h
 have HT:Hid (ovB p o=true→OutOk p o):=fun h=>ovB_iff.1 h
 clear hI
 go_enter Tryz.func21,Tryz.ntmps21
 go_wp2_with fail
 refine hov.mono ?_
 rintro e1 w1 ⟨rfl,hb1⟩
 clear hov
 cases hb:ovB p o
 ·have Hn:=Lib.hid (HF.out hb)
  clear hb HT HF
  go_wp2_with fail
  refine bodyPost_ret (v:=.tuple #[.slice none 0 0,.bool false]) (by simp [results,Tryz.results21,go_sem]) rfl ?_
  exact⟨none,0,none,rfl,Ints.nil _ _,hb1,.inr ⟨Hn.out,rfl⟩⟩
 ·have Hok:Hid (OutOk p o):=HT.out hb
  have hns:=newViews_any p (by have:=Hok.out.1.1.1; omega) w1 _ (HR.out.le (Le.below hb1))
  clear hb HT HF
  go_wp2_with fail
  refine hns.mono ?_
  rintro e2 w2 ⟨Ap,cp,b,e,rfl,hR,hpr2,hb2⟩
  injection e with e1 _ e3
  subst e1 e3
  have hB2:=hb1.trans (hb2.mono hb1.size)
  have hse:=search_any (viewM p A c) (viewM_P Hok.out.1 A c) (viewM_C Hok.out.1 A c) potV (viewM_E Hok.out.1 A c) o w2 b ⟨hR,hpr2⟩ B d (HI.out.le (Le.below hB2))
  clear hns hR hpr2
  go_wp2_with fail
  refine hse.mono ?_
  rintro e3 w3 ⟨A3,c3,r,rfl,hi3,hb3,hf3⟩
  have hB3:=hB2.trans (hb3.mono hB2.size)
  have Hi3:=Lib.hid hi3
  have Hf3:=Lib.hid hf3
  clear hse hi3 hf3
  go_wp2_with fail
  refine bodyPost_ret (v:=.tuple #[.slice A3 (r.getD []).length c3,.bool r.isSome]) (by simp [results,Tryz.results21,go_sem]) rfl ?_
  exact⟨A3,c3,r,rfl,Hi3.out.le (Le.above _ _),hB3,.inl ⟨Hok.out,Hf3.out⟩⟩
theorem good_outV {p:Prg} {o:List Int} {L:List (List Int)} (hp:PrgOk p) (hL:IsOutV p L):o∈L↔Good (sucV p) (goalV p o) (vt0 p):=by
 rw [hL.iff hp o,good_iff]
 constructor
 ·rintro ⟨s,h1,h2,h3⟩
  exact⟨s,h1,by unfold goalV; rw [h2,h3,eqB_self]; rfl⟩
 ·rintro ⟨s,h1,h2⟩
  unfold goalV at h2
  rw [Bool.and_eq_true,eqB_iff] at h2
  exact⟨s,h1,h2⟩
theorem mvZ_nodup (p:Prg) (s:VSt):(mvZ p s).Nodup:=by
 unfold mvZ
 rw [List.Nodup,List.pairwise_map]
 exact (mvV_nodup p s).imp fun h e=>h (by omega)
theorem fst_runV {p:Prg} {o:List Int} {l:List Int} (hp:PrgOk p) (h:FstP (sucV p) (mvZ p) (goalV p o) (vt0 p) l):vwR p l=some o:=by
 obtain⟨t,h1,h2⟩:=h.way
 have hr:runW (sucV p) (mvZ p) (vt0 p) l=some t:=Way.run (fun s _=>mvZ_lenV p s) (fun s _=>mvZ_nodup p s) h1 .start
 unfold goalV at h2
 rw [Bool.and_eq_true,eqB_iff] at h2
 unfold vwR
 rw [if_pos (prgB_iff.2 hp)]
 unfold resW
 rw [show runW (sucV p) (mvZ p) (vt0 p) l=some t from hr]
 simp only [Option.bind_some]
 rw [if_pos h2.1,h2.2]
def Kp (R K:Nat) (a b:World):Prop:=K≤b.heap.size∧∀ i,i<K→i≠R→b.heap[i]?=a.heap[i]?
section
variable {R K:Nat} {a b c:World}
theorem Kp.refl (h:K≤a.heap.size):Kp R K a a:=⟨h,fun _ _ _=>rfl⟩
theorem Kp.mv (h:Kp R K a b) (m:Mv R b c):Kp R K a c:=⟨Nat.le_trans h.1 m.size,fun i hi hn=>(m.block (by have:=h.1; omega) hn).trans (h.2 i hi hn)⟩
theorem Kp.below (h:Kp R K a b) (m:Below b.heap.size b c):Kp R K a c:=⟨Nat.le_trans h.1 m.size,fun i hi hn=>(m.block i (by have:=h.1; omega)).trans (h.2 i hi hn)⟩
theorem Kp.set (h:Kp R K a b) {p:Addr} (hp:K≤p.block) (v:Value):Kp R K a (b.setCell p v):=⟨by simpa [World.setCell] using h.1,fun i hi hn=>(Go.Deep.blk_setCell_other _ _ _ _ (by omega)).trans (h.2 i hi hn)⟩
theorem Kp.alloc (h:Kp R K a b) (o:Obj):Kp R K a (b.alloc o):=h.below ((Below.refl _ _).alloc (Nat.le_refl _) o)
theorem Kp.le {B:Nat} (h:Kp R K a b) (hB:R<B) (hK:a.heap.size≤K):Le (above B a) (above B b):=fun x u hc=>by
 obtain⟨h1,h2⟩:=cell_above_lt hc
 have hl:=World.block_lt_of_cell? _ _ h2
 refine cell_above_of h1 ?_
 rw [World.cell?_of_block (w:=a) (h.2 x.block (by omega) (by omega))]
 exact h2
end
def RetDF (w:World) (e:Ending) (w':World):Prop:=∃ (p:Prg) (v:Value) (A:Option Addr) (c:Nat) (o:List Int),e=.returned (.tuple #[v,.slice A o.length c])∧PrgS (above w.heap.size w') v p∧Few 2000 2000 p∧Ints (above w.heap.size w') A c o∧o.length≤101∧Below w.heap.size w w'
set_option maxHeartbeats 4000000 in
theorem drawFC_any (w:World) (A:Option Addr) (n c:Nat) (h:Bys w A n) (hnc:n≤c) (hA:A=none→n=0):Calls Tryz.prog 20 #[.slice A n c] w (RetDF w):=by
 obtain⟨i0,hi0,hz0,hz1,hz2⟩:=info_parts Tryz.infoInt
 have hop:=open_any w A n c h hnc hA
 go_enter Tryz.func20,Tryz.ntmps20
 go_wp2_with fail
 refine hop.mono ?_
 rintro e1 w1 ⟨R,rfl,hR,hr1,hb1⟩
 have hod:=drawP_any w1 R 0 (by omega) hr1
 have hRl:=hr1.lt
 clear hop hr1
 go_wp2_with fail
 refine hod.mono ?_
 rintro e2 w2 ⟨p,v,q',rfl,hp,hpq,hfew,m2,r2,hq⟩
 have HPQ:=Lib.hid hpq
 have Hp:=Lib.hid hp
 have Hfew:=Lib.hid hfew
 have hs2:=m2.size
 have hb2:=Mv.belowR hb1 hR m2
 have hw1:=hb1.size
 have hp3:=hp.1.1
 clear hod hp hpq hfew
 obtain⟨w3,hw3⟩:∃ w3,w3=w2:=⟨_,rfl⟩
 have m3:Mv R w2 w2:=Mv.refl R w2
 rw [← hw3] at m2 r2 HPQ hs2 hb2 m3 ⊢
 have hb3:=hb2
 have hs3:=Nat.le_refl w3.heap.size
 have HP3:Hid (PrgS (above w1.heap.size w3) v p):=HPQ.out.1
 have hsq:=l5Run_any p Hp.out w3 v (PrgS.le HP3.out (Le.above _ _))
 have HR3:=Lib.hid r2
 clear r2 hw3
 go_wp2_with fail
 refine hsq.mono ?_
 rintro e4 w4 ⟨V,L,go,oo,co,rfl,hdfs,hwh,hI,hs4,hb4⟩
 have hfld:=(fldV (V.length:Int) (some ⟨go,oo,none⟩) L.length co).2
 have hLl:0<L.length:=by
  obtain⟨s,k1,k2⟩:=exists_done Hp.out
  obtain⟨b,h1,h2,h3⟩:=ra_sc Hp.out ⟨s,k1,k2,rfl⟩
  have:=(hwh.2.1 (outS s)).2 ⟨b,hdfs.all.2 h1,by simp,h2,h3⟩
  exact List.length_pos_of_mem this
 have HLen:Hid (∀ x∈L,x.length=p.length*3+3):=fun x hx=>by
  obtain⟨s,k1,_,_,k4⟩:=(hwh.2.1 x).1 hx
  rw [← k4]
  exact outV_len (reachV_ok Hp.out (hdfs.reach s k1))
 have hLm:=hI.len
 have HI:=Lib.hid hI
 have hm4:=Mv.of_below (R:=R) hb4
 have HR4:=Lib.hid (HR3.out.below hb4)
 have HP4:Hid (PrgS (above w1.heap.size w4) v p):=HP3.out.le (Le.above_le _ (Le.below hb4))
 have hb4w:=hb3.trans (hb4.mono (hb3.size))
 clear hsq hdfs hwh hI HR3 HP3 m3
 go_upto_region 4 with (fail)
 obtain⟨V5,hV5⟩:∃ V5,V5=w4.alloc (.cells #[] 3):=⟨_,rfl⟩
 have oE:Own V5 w4.heap.size 3 #[]:=by rw [hV5]; exact Own.new _ _ _
 have hm5:Mv R w4 V5:=by rw [hV5]; exact (Mv.refl R w4).alloc _
 have hL5:Le w4 V5:=by rw [hV5]; exact Le.alloc _ _
 have hs5:V5.heap.size=w4.heap.size+1:=by rw [hV5]; simp
 have hpk:=pick_any V5 R q' L.length (by omega) (by rw [hV5]; exact HR4.out.alloc _)
 have hRG:R<w4.heap.size:=by omega
 have HK5:Hid (Kp R w4.heap.size w4 V5):=by show Kp _ _ _ _; rw [hV5]; exact (Kp.refl (Nat.le_refl _)).alloc _
 have HI5:Hid (Intss (above w3.heap.size V5) (some ⟨go,oo,none⟩) co L):=HI.out.le (Le.above_le _ hL5)
 have HE:=Lib.hid oE
 rw [hV5] at hpk
 have Hs5:=Lib.hid hs5
 clear oE HI hs5 HR4
 go_wp2_with fail
 refine hpk.mono ?_
 rw [← hV5]
 rintro e6 w6 ⟨tw,rfl,h0t,hlt,m6,r6⟩
 clear hV5 hpk
 obtain⟨t,rfl⟩:∃ t:Nat,tw=(t:Int):=⟨tw.toNat,by omega⟩
 have htL:t<L.length:=by have:=hlt (by omega); omega
 have htI:(t:Int)<(L.length:Int):=by omega
 have hm6:=hm5.trans m6
 have hs6:=m6.size
 have HLe:Hid (Le (above w3.heap.size V5) w6):=fun x u hc=>by
  obtain⟨h1,h2⟩:=cell_above_lt hc
  exact m6.cell h2 (by omega)
 have HI6:=Lib.hid (HI5.out.le HLe.out)
 have HE6:=Lib.hid (HE.out.mv m6 (by omega))
 have HK6:=Lib.hid (HK5.out.mv m6)
 have HR6:=Lib.hid r6
 obtain⟨bL,oL,A5,c5,e5,hbL,k0,hI5⟩:=HI6.out.get htL
 injection e5 with e5
 injection e5 with e5 e6
 subst e5 e6
 have hol:=HLen.out _ (List.getElem_mem htL)
 have HI7:=Lib.hid hI5
 generalize L[t]=o at k0 HI7 hol
 rw [hol] at k0
 have Hol:=Lib.hid hol
 have hs5':w4.heap.size<V5.heap.size:=by have:=Hs5.out; omega
 clear hI5 HE HI5 HLe HK5 m6 r6 hol
 go_wp2_with (at_builtin; refine wpList_append_emp (o:=⟨some _,_,_,_,_,_⟩) (by rfl) _ _ _ (by rfl) qint_congr (R:=RInt) w4.heap.size 3 i0 _ 8 Tryz.underlying31 hi0 hz0 hz1 hz2 rfl (by omega) w4.heap.size (by rfl) HE6.out (Nat.le_refl _) A5 c5 o (by rw [Hol.out]; rfl) HI7.out (fun cs y h=>h) qint_one (by rw [Hol.out]; simp [maxLen]; omega) (by rw [Hol.out]; omega) ?_; intro A7 c7 w7 hrow7 hnx7 hbk7)
 have hb7:Below w6.heap.size w6 w7:=hnx7
 have HK7:=Lib.hid (HK6.out.below hb7)
 have HR7:=Lib.hid (HR6.out.below hb7)
 have hm7:=hm6.trans (Mv.of_below hb7)
 have hs7:=hb7.size
 have HFin:Hid (∀ U A' c' o' q2,RowI U w4.heap.size (.slice A' o'.length c') o'→o'.length≤13→Mv R w4 U→Rd U R q2→q2≤q'+2000→Kp R w4.heap.size w4 U →
   Calls Tryz.prog 55 #[.pointer (some ⟨R,0,none⟩),v] U (fun e W'=>∃ v5,e=.returned v5∧RetDF w (.returned (.tuple #[v5,.slice A' o'.length c'])) W')):=fun U A' c' o' q2 h1 h2 h3 h4 h5 h6=>by
  have hPU:PrgS (above w1.heap.size U) v p:=HP4.out.le (h6.le hRl (by omega))
  refine (mutP_any U R q2 v p (by omega) h4 (PrgS.le hPU (Le.above _ _)) (Hfew.out.mono (by omega) (by omega))).mono ?_
  rintro e W' ⟨p5,v5,q5,rfl,hpq5,hfew5,m5,r5,hq5⟩
  obtain⟨A9,c9',e9,hi9⟩:=RowI.ints h1
  injection e9 with e9 _ e10
  subst e9 e10
  have hUw:w.heap.size≤U.heap.size:=by have:=h3.size; omega
  exact⟨v5,rfl,p5,v5,A',c',o',rfl,PrgS.le hpq5.1 (Le.above_mono hUw _),hfew5,(hi9.le (m5.aboveB (by omega))).le (Le.above_mono (by omega) _),by omega,Mv.belowR (hb4w.trans ((h3.below hR hb4w.size))) hR m5⟩
 have hpk2:=pick_any w7 R (q'+1) 4 (by omega) HR7.out
 have Hrow7:=Lib.hid hrow7
 clear hrow7 hnx7 hbk7 hb7 HK6 HR6 HE6 HI6 HI7 k0 hm6 hm5 hfld HLen
 rw [Hol.out] at Hrow7 ⊢
 go_wp2_with fail
 refine hpk2.mono ?_
 rintro e8 w8 ⟨sv,rfl,_,_,m8,r8⟩
 have HK8:=Lib.hid (HK7.out.mv m8)
 have HR8:=Lib.hid r8
 have hm8:=hm7.trans m8
 have hs8:=m8.size
 have hrow8:=RowI.mvR2 Hrow7.out m8 hRG
 obtain⟨g6,e6,hg6,hgl7,hfz7,hcl7⟩:=RowI.at hrow8 (i:=0) (by rw [Hol.out]; omega)
 subst e6
 have Hrow8:=Lib.hid hrow8
 clear hpk2 m8 r8 HK7 HR7 hm7 Hrow7 hrow8 hfz7 hcl7
 by_cases hs0:sv=0
 ·subst hs0
  have hpk3:=pick_any w8 R (q'+1+1) ((p.length*3+3:Nat):Int) (by omega) HR8.out
  go_wp2_with fail
  refine hpk3.mono ?_
  rintro e9 w9 ⟨jv,rfl,h0j,hjl,m9,r9⟩
  obtain⟨j,rfl⟩:∃ j:Nat,jv=(j:Int):=⟨jv.toNat,by omega⟩
  have hj:j<p.length*3+3:=by have:=hjl (by omega); omega
  have hjI:(j:Int)<((p.length*3+3:Nat):Int):=by omega
  have HK9:=Lib.hid (HK8.out.mv m9)
  have hm9:=hm8.trans m9
  have hs9:=m9.size
  have hrow9:=Lib.hid (RowI.mvR2 Hrow8.out m9 hRG)
  obtain⟨V9,hV9⟩:∃ V9,V9=w9.alloc (.cells #[.int .i64 1,.int .i64 0,.int .i64 3,.int .i64 4] 3):=⟨_,rfl⟩
  have oX:Own V9 w9.heap.size 3 #[.int .i64 1,.int .i64 0,.int .i64 3,.int .i64 4]:=by rw [hV9]; exact Own.new _ _ _
  have hnum:=num4_any V9 R (q'+1+1+1) w9.heap.size 1 0 3 4 (by omega) (by rw [hV9]; exact r9.alloc _) oX (by omega)
  have HKA:Hid (Kp R w4.heap.size w4 V9):=by show Kp _ _ _ _; rw [hV9]; exact HK9.out.alloc _
  have hmA:Mv R w4 V9:=by rw [hV9]; exact hm9.alloc _
  have hrowA:Hid (RowI V9 w4.heap.size (.slice (some ⟨g6,0,none⟩) (p.length*3+3) c7) o):=by show RowI _ _ _ _; rw [hV9]; exact RowOf.below hrow9.out ((Below.refl _ _).alloc (Nat.le_refl _) _)
  rw [hV9] at hnum
  clear hpk3 oX hrow9 HK9 HK8 HR8 Hrow8 m9 r9
  go_wp2_with fail
  refine hnum.mono ?_
  rw [← hV9]
  rintro eb wb ⟨x,rfl,_,mb,rb⟩
  clear hnum hV9
  have hrowb:=RowI.mvR2 hrowA.out mb hRG
  obtain⟨g7,e7,_,hglb,hfzb,hclb⟩:=RowI.at hrowb (i:=j) (by rw [Hol.out]; exact hj)
  obtain rfl:g6=g7:=by injection e7 with e7; injection e7 with e7
  have kc:=hclb j (by rw [Hol.out]; exact hj)
  have kf:=hfzb j
  have hset:=Lib.hid (RowI.set hrowb (i:=j) (by rw [Hol.out]; exact hj) x)
  have HKb:=Lib.hid (HKA.out.mv mb)
  have hmb:=hmA.trans mb
  have HRb:=Lib.hid rb
  have hl9:(o.set j x).length=p.length*3+3:=by rw [List.length_set]; exact Hol.out
  have hfin:=HFin.out (wb.setCell ⟨g6,j,none⟩ (.int .i64 x)) (some ⟨g6,0,none⟩) c7 (o.set j x) (q'+1+1+1+1) (by rw [hl9]; exact hset.out) (by rw [hl9]; omega) (hmb.setNew (p:=⟨g6,j,none⟩) (by show w4.heap.size≤g6; omega) _) (HRb.out.setNew (q:=⟨g6,j,none⟩) (by show R<g6; omega) _) (by omega) (HKb.out.set (p:=⟨g6,j,none⟩) hg6 _)
  rw [hl9] at hfin
  clear hrowA hrowb hfzb hclb e7 mb rb HKA hset HKb hmb HRb hl9
  go_wp2_with fail
  refine hfin.mono ?_
  rintro ec wc ⟨v5,rfl,hD⟩
  have HD:=Lib.hid hD
  clear hfin hD
  go_wp2_with fail
  refine bodyPost_ret (v:=.tuple #[v5,.slice (some ⟨g6,0,none⟩) (p.length*3+3) c7]) (by simp [results,Tryz.results20,go_sem]) rfl ?_
  exact HD.out
 ·have hd0:(sv == 0)=false:=beq_eq_false_iff_ne.2 hs0
  have hfin:=HFin.out w8 (some ⟨g6,0,none⟩) c7 o (q'+1+1) (by rw [Hol.out]; exact Hrow8.out) (by rw [Hol.out]; omega) hm8 HR8.out (by omega) HK8.out
  rw [Hol.out] at hfin
  go_wp2_with fail
  refine hfin.mono ?_
  rintro e9 w9 ⟨v5,rfl,hD⟩
  have HD:=Lib.hid hD
  clear hfin hD
  go_wp2_with fail
  refine bodyPost_ret (v:=.tuple #[v5,.slice (some ⟨g6,0,none⟩) (p.length*3+3) c7]) (by simp [results,Tryz.results20,go_sem]) rfl ?_
  exact HD.out
end Go.Proofs.YtojmofnamppbdaaGreat
