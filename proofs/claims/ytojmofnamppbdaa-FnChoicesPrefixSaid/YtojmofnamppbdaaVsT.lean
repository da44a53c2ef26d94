/-
  The draw of choices: l5Draw, DrawRunChoices.
-/
import Derived.Test.YtojmofnamppbdaaVsS
import Derived.Test.YtojmofnamppbdaaDpP
namespace Go.Proofs.Ytojmofnamppbdaa
open Go.RowKit
set_option linter.unusedVariables false
set_option maxRecDepth 100000
theorem Rd.of_blocks {w w':World} {R p:Nat} (h:Rd w R p) (hb:∀ b,b≤R→w'.heap[b]?=w.heap[b]?):Rd w' R p:=by
 obtain⟨A,n,c,h,hn,hc⟩:=h
 refine⟨A,n,c,h.of_block (hb R (Nat.le_refl _)),hn,fun i hi=>?_⟩
 obtain⟨b,o,v,h1,h2,h3,h4⟩:=hc i hi
 refine⟨b,o,v,h1,h2,?_,h4⟩
 rw [World.cell?_of_block (w:=w) (hb b (by omega))]
 exact h3
theorem num5_any (X:World) (R q b:Nat) (a0 a1 a2 a3 a4:Int) (hq:q≤1000000000) (hr:Rd X R q) (ho:Own X b 3 #[.int .i64 a0,.int .i64 a1,.int .i64 a2,.int .i64 a3,.int .i64 a4]) (hb:R<b):
  Calls Try.prog 60 #[.pointer (some ⟨R,0,none⟩),.slice (some ⟨b,0,none⟩) 5 5] X (RetNum X R q [a0,a1,a2,a3,a4]):=
 num_any X R q _ 5 [a0,a1,a2,a3,a4] (by omega) hr (ints_lit [a0,a1,a2,a3,a4] ho hb rfl (by omega) (fun i hi=>by
  match i,hi with
  | 0,_=>rfl
  | 1,_=>rfl
  | 2,_=>rfl
  | 3,_=>rfl
  | 4,_=>rfl)) (by simp)
theorem RowI.mvR2 {a b:World} {R base:Nat} {v:Value} {xs:List Int} (h:RowI a base v xs) (m:Mv R a b) (hR:R<base):RowI b base v xs:=h.of_block fun g hg _ hl=>m.block hl (by omega)
theorem Mv.aboveB {R B:Nat} {a b:World} (m:Mv R a b) (hR:R<B):Le (Go.Proofs.Ytojmofnamppbdaa.above B a) (Go.Proofs.Ytojmofnamppbdaa.above B b):=fun x u hc=>by
 obtain⟨h1,h2⟩:=cell_above_lt hc
 exact cell_above_of h1 (m.cell h2 (by omega))
def SmC (ms:List Int) (c:Nat):Prop:=(∀ m∈ms,m≤1000)∧ms.length≤c
theorem RowI.ints2 {w:World} {B:Nat} {v:Value} {xs:List Int} (h:RowI w B v xs):∃ A c,v=.slice A xs.length c∧xs.length≤c∧Ints (above B w) A c xs:=by
 obtain⟨A,c,rfl,h1,_⟩:=RowOf.slice h
 obtain⟨A',c',e,h2⟩:=RowI.ints h
 injection e with e1 _ e3
 subst e1 e3
 exact⟨A,c,rfl,h1,h2⟩
def RetCh (w:World) (R q:Nat) (e:Ending) (w':World):Prop:=∃ (A:Option Addr) (c:Nat) (ms:List Int) (q':Nat),e=.returned (.slice A ms.length c)∧Ints (above w.heap.size w') A c ms∧ms.length≤101∧SmC ms c∧Mv R w w'∧Rd w' R q'∧q'≤q+1000
set_option maxHeartbeats 4000000 in
theorem draw5_any (p:Prg) (hp:PrgOk p) (W:World) (R q:Nat) (hq:q≤900000000) (hr:Rd W R q) (v:Value) (hv:PrgS (above (R+1) W) v p):Calls Try.prog 33 #[.pointer (some ⟨R,0,none⟩),v] W (RetCh W R q):=by
 obtain⟨i0,hi0,hz0,hz1,hz2⟩:=info_parts Try.infoInt
 obtain⟨A,c,rfl,_⟩:=hv.slice
 have hR:=hr.lt
 have HV:Hid (∀ U,Mv R W U→PrgS U (.slice A p.length c) p):=fun U hU=>PrgS.le hv ((Mv.above hU).trans (Le.above _ _))
 have Hp:=Lib.hid hp
 have h3:=hp.1.1
 obtain⟨w1,hw1⟩:∃ w1,w1=W.alloc (.cells #[] 3):=⟨_,rfl⟩
 have hb1:Below W.heap.size W w1:=by rw [hw1]; exact (Below.refl _ _).alloc (Nat.le_refl _) _
 have hs1:w1.heap.size=W.heap.size+1:=by rw [hw1]; simp
 have hrow1:Hid (RowI w1 W.heap.size (.slice (some ⟨W.heap.size,0,none⟩) 0 0) []):=by show RowI _ _ _ _; rw [hw1]; exact RowOf.made _ (Own.new W _ _) (Nat.le_refl _)
 have hst:=l5Start_any p hp w1 _ (HV.out w1 (Mv.of_below hb1))
 have Hr:=Lib.hid hr
 clear hv hp hr
 go_enter Try.func33,Try.ntmps33
 go_upto_region 2 with (fail)
 rw [← hw1]
 clear hw1
 go_wp2_with fail
 refine hst.mono ?_
 rintro e5 w5 ⟨d0,rfl,hr5,hb5⟩
 unfold v5 v5C
 clear hst
 have Hok0:Hid (Reach (sucV p) (vt0 p) (vt0 p)):=.start
 obtain⟨b,hbe⟩:∃ b,b=w5.heap.size:=⟨_,rfl⟩
 have hs15:=hb5.size
 obtain⟨w6,hw6⟩:∃ w6,w6=w5.alloc (.cells #[.slice (some ⟨d0.b1,0,none⟩) p.length d0.c1,.slice (some ⟨d0.b2,0,none⟩) (p.length*3) d0.c2,.slice (some ⟨d0.b3,0,none⟩) p.length d0.c3,.slice (some ⟨d0.b4,0,none⟩) 3 d0.c4] 48):=⟨_,rfl⟩
 have hb56:Below w5.heap.size w5 w6:=by rw [hw6]; exact (Below.refl _ _).alloc (Nat.le_refl _) _
 have hs6:w6.heap.size=w5.heap.size+1:=by rw [hw6]; simp
 have HO6:Hid (Own w6 b 48 #[.slice (some ⟨d0.b1,0,none⟩) p.length d0.c1,.slice (some ⟨d0.b2,0,none⟩) (p.length*3) d0.c2,.slice (some ⟨d0.b3,0,none⟩) p.length d0.c3,.slice (some ⟨d0.b4,0,none⟩) 3 d0.c4]):=by show Own _ _ _ _; rw [hw6,hbe]; exact Own.new _ _ _
 have hb16:Below w1.heap.size w1 w6:=hb5.trans (hb56.mono hs15)
 have HR6:Hid (Rep5 (above w1.heap.size w6) d0 p (vt0 p)):=hr5.le (Le.above_le _ (Le.below hb56))
 have hrow6:Hid (RowI w6 W.heap.size (.slice (some ⟨W.heap.size,0,none⟩) 0 0) []):=RowOf.below hrow1.out hb16
 have hm6:Mv R W w6:=Mv.of_below (hb1.trans (hb16.mono (by omega)))
 have hrd6:Hid (Rd w6 R q):=Hr.out.below (hb1.trans (hb16.mono (by omega)))
 clear hr5 hb5 hrow1 Hr
 go_upto_region 3 with (fail)
 rw [← hw6,← hbe]
 clear hw6
 obtain⟨V7,hV7⟩:∃ V7,V7=w6.alloc (.cells #[.int .i64 100,.int .i64 100,.int .i64 3,.int .i64 1,.int .i64 0] 3):=⟨_,rfl⟩
 have oX:Own V7 w6.heap.size 3 #[.int .i64 100,.int .i64 100,.int .i64 3,.int .i64 1,.int .i64 0]:=by rw [hV7]; exact Own.new _ _ _
 have hb67:Below w6.heap.size w6 V7:=by rw [hV7]; exact (Below.refl _ _).alloc (Nat.le_refl _) _
 have hs7:V7.heap.size=w6.heap.size+1:=by rw [hV7]; simp
 have hnum:=num5_any V7 R q w6.heap.size 100 100 3 1 0 (by omega) (hrd6.out.below hb67) oX (by omega)
 have HS:=Lib.hid (And.intro hs1 (And.intro hs6 (And.intro hs7 hbe)))
 clear hs1 hs6 hs7 hbe
 rw [hV7] at hnum
 go_wp2_with fail
 refine hnum.mono ?_
 rw [← hV7]
 rintro e8 w8 ⟨stop,rfl,hstop,m8,r8⟩
 obtain⟨hs1,hs6,hs7,hbe⟩:=HS.out
 clear hnum hV7 oX
 have hst100:stop≤100:=by
  simp only [List.mem_cons,List.not_mem_nil,or_false] at hstop
  omega
 have hs8:=m8.size
 have hbK:W.heap.size+1≤b:=by omega
 have HO8:=Lib.hid ((HO6.out.under hb67).of_block (m8.block (by omega) (by omega)))
 have HR8:=Lib.hid (HR6.out.le ((Le.above_le _ (Le.below hb67)).trans (m8.aboveB (by omega))))
 have hrow8:Hid (RowI w8 W.heap.size (.slice (some ⟨W.heap.size,0,none⟩) 0 0) []):=RowI.mvR2 (RowOf.below hrow6.out hb67) m8 hR
 have hrd8:=Lib.hid r8
 have hm8:Mv R W w8:=(hm6.trans (Mv.of_below hb67)).trans m8
 have hbl8:b<w8.heap.size:=by omega
 have hK1:R<w1.heap.size:=by omega
 clear hstop m8 r8 HO6 HR6 hrow6 hrd6 hm6 hbe hs6 hs7 hs15 hs8 hs1 HS hb67 hb16 hb56
 go_wp2_with fail
 go_loopg [5] 100 (fun g s7 wr=>∃ (s:VSt) (ms:List Int) (q' K:Nat) (v7:Value) (d:L5),g=100-ms.length∧v7=s7∧ms.length≤100∧Hid (Reach (sucV p) (vt0 p) s)∧Hid (RowI wr W.heap.size v7 ms∧∀ g,v7.ownBlock=some g→g≠b)∧Hid (Own wr b 48 #[.slice (some ⟨d.b1,0,none⟩) p.length d.c1,.slice (some ⟨d.b2,0,none⟩) (p.length*3) d.c2,.slice (some ⟨d.b3,0,none⟩) p.length d.c3,.slice (some ⟨d.b4,0,none⟩) 3 d.c4])∧R<K∧Hid (Rep5 (above K wr) d p s)∧Hid (Rd wr R q')∧q'≤q+1+ms.length∧Hid (∀ m∈ms,m≤1000)∧Mv R W wr)
 case atStart=>exact⟨vt0 p,[],q+1,w1.heap.size,_,d0,rfl,rfl,by simp,Hok0.out,⟨hrow8.out,fun g hg=>by simp only [Value.ownBlock,Option.some.injEq] at hg; omega⟩,HO8.out,hK1,HR8.out,hrd8.out,by simp,fun m hm=>absurd hm (List.not_mem_nil),hm8⟩
 case round=>
  clear HO8 HR8 hrow8 hrd8 hm8 hbl8 Hok0
  obtain⟨wo,rfl⟩:∃ wo:World,wo=wr:=⟨_,rfl⟩
  obtain⟨s,ms,q',K,v7,d,rfl,rfl,hml,hre,hrow,ho,hRK,hrep,hrd,hqq,hsm,hmv⟩:=hrel
  have hok:Hid (VOk p s):=reachV_ok Hp.out hre.out
  obtain⟨A7,c7,rfl,_,_⟩:=RowOf.slice hrow.out.1
  have hbl:=ho.out.lt
  have x0:=ho.out.cell (i:=0) rfl
  have x1:=ho.out.cell (i:=1) rfl
  have x2:=ho.out.cell (i:=2) rfl
  have x3:=ho.out.cell (i:=3) rfl
  have hdn:=l5Done_any p Hp.out s wo _ (HV.out wo hmv) d (hrep.out.le (Le.above _ _))
  unfold v5 v5C at hdn
  by_cases hlt:(ms.length:Int)<stop
  case' pos=>
   have hlt':decide ((ms.length:Int)<stop)=true:=decide_eq_true hlt
   have hml2:ms.length<100:=by omega
   go_wp2_with fail
   refine hdn.mono ?_
   rintro e9 w9 ⟨rfl,hb9'⟩
   have Hb9:=Lib.hid hb9'
   have hs9:=hb9'.size
   have ho9:=Lib.hid (ho.out.under hb9')
   have hrep9:=Lib.hid (hrep.out.le (Le.above_le _ (Le.below hb9')))
   have hrow9:Hid (RowI w9 W.heap.size (.slice A7 ms.length c7) ms):=RowOf.below hrow.out.1 hb9'
   have Hblk:Hid (∀ g,(Value.slice A7 ms.length c7).ownBlock=some g→g≠b):=hrow.out.2
   have hrd9:=Lib.hid (hrd.out.below hb9')
   have hmv9:=hmv.trans (Mv.of_below hb9')
   have hbl9:b<w9.heap.size:=by omega
   clear hdn hb9' x0 x1 x2 x3 ho hrep hrow hrd hlt hmv Hb9 hs9
   cases hdo:doneV p s
   ·have hlv:=Lib.hid (view_live Hp.out hre.out hdo)
    have x0:=ho9.out.cell (i:=0) rfl
    have x1:=ho9.out.cell (i:=1) rfl
    have x2:=ho9.out.cell (i:=2) rfl
    have x3:=ho9.out.cell (i:=3) rfl
    have hch:=l5Choices_any p Hp.out s hok.out w9 _ (HV.out w9 hmv9) d (hrep9.out.le (Le.above _ _))
    unfold v5 v5C at hch
    clear hdo
    go_wp2_with fail
    refine hch.mono ?_
    rintro ec wc ⟨Al,cl,rfl,hrl,hbc⟩
    obtain⟨ls,hls⟩:∃ ls,ls=(mvV p s).map fun c=>((c:Nat):Int):=⟨_,rfl⟩
    rw [← hls] at hrl ⊢
    have hIl:Ints (above w9.heap.size wc) Al cl ls:=by
     obtain⟨A',c',e,hI⟩:=hrl.ints
     injection e with e1 e2 e3
     subst e1 e3
     exact hI
    have HIl:=Lib.hid hIl
    have Hls:=Lib.hid hls
    have hpos:0<ls.length:=by
     obtain⟨c',hc'⟩:=hlv.out
     rw [hls,List.length_map]
     exact List.length_pos_iff.2 fun e=>by rw [e] at hc'; cases hc'
    have hl42:ls.length≤42:=by
     have:=most_le Hp.out hok.out
     have h:ls.length≤3*mostV s:=by
      rw [hls,List.length_map]
      unfold mvV
      exact Nat.le_trans (List.length_filter_le _ _) (by rw [List.length_range]; exact Nat.le_refl _)
     omega
    have hoc9:=Lib.hid (ho9.out.under hbc)
    have hrepc9:=Lib.hid (hrep9.out.le (Le.above_le _ (Le.below hbc)))
    have hrowc9:Hid (RowI wc W.heap.size (.slice A7 ms.length c7) ms):=RowOf.below hrow9.out hbc
    have hmvc9:=hmv9.trans (Mv.of_below hbc)
    have hsc9:=hbc.size
    have hR9:R<w9.heap.size:=by have:=hmv9.size; omega
    have hpk:=pick_any wc R q' (ls.length:Int) (by omega) (hrd9.out.below hbc)
    clear hch hrl hls hIl x0 x1 x2 x3 ho9 hrep9 hrow9 hrd9 hbc
    go_wp2_with fail
    refine hpk.mono ?_
    rintro ea wa ⟨tv,rfl,h0t,htl,ma,ra⟩
    obtain⟨t0,rfl⟩:∃ t0:Nat,tv=(t0:Int):=⟨tv.toNat,by omega⟩
    have ht0:t0<ls.length:=by have:=htl (by omega); omega
    have hsa:=ma.size
    have hoc:=Lib.hid (hoc9.out.of_block (ma.block (by omega) (by omega)))
    have hrepc:=Lib.hid (hrepc9.out.le (ma.aboveB hRK))
    have hrowa:=Lib.hid (RowI.mvR2 hrowc9.out ma hR)
    have hrda:=Lib.hid ra
    have hmvc:=hmvc9.trans ma
    have hblc:b<wa.heap.size:=by omega
    obtain⟨bl,ol,el,hbl',hl0⟩:=Ints.get (HIl.out.le ((ma.aboveB hR9).trans (Le.above _ _))) ht0
    subst el
    have hcl:t0<(mvV p s).length:=by have h:=ht0; rw [Hls.out,List.length_map] at h; exact h
    obtain⟨cc,hce⟩:∃ c,c=(mvV p s)[t0]:=⟨_,rfl⟩
    have hlc:ls[t0]=(cc:Int):=by simp only [Hls.out,List.getElem_map,hce]
    rw [hlc] at hl0
    have hcm:cc∈mvV p s:=by rw [hce]; exact List.getElem_mem _
    obtain⟨hc1,hc2,hc3⟩:=mem_mvV_iff.1 hcm
    have hc42:cc≤42:=by have:=most_le Hp.out hok.out; omega
    have hre2:Hid (Reach (sucV p) (vt0 p) (nxV p s cc)):=.next hre.out (List.mem_map.2 ⟨cc,hcm,rfl⟩)
    have hdo4:=l5Do_any p Hp.out s hok.out (cc % 3) (cc / 3) hc2 hc3 wa _ (HV.out wa hmvc) d (hrepc.out.le (Le.above _ _))
    unfold v5 v5C at hdo4
    rw [show doV s (cc % 3) (insS p s.s (cc % 3)) (cc / 3)=nxV p s cc from rfl] at hdo4
    have hq3:(cc:Int).tmod 3=((cc % 3:Nat):Int):=by rw [Int.tmod_eq_emod_of_nonneg (by omega)]; omega
    have hq4:(cc:Int).tdiv 3=((cc / 3:Nat):Int):=by rw [Int.tdiv_eq_ediv_of_nonneg (by omega)]; omega
    have hq1:(cc:Int) % 3=((cc % 3:Nat):Int):=by omega
    have hq2:(cc:Int) / 3=((cc / 3:Nat):Int):=by omega
    have hr2:cc / 3≤14:=by omega
    obtain⟨nx,hnx⟩:∃ nx,nx=nxV p s cc:=⟨_,rfl⟩
    rw [← hnx] at hre2 hdo4
    obtain⟨r1,hr1e⟩:∃ r,r=cc % 3:=⟨_,rfl⟩
    obtain⟨r2,hr2e⟩:∃ r,r=cc / 3:=⟨_,rfl⟩
    rw [← hr1e] at hq1 hq3 hdo4
    rw [← hr2e] at hq2 hq4 hdo4 hr2
    have ht0i:(t0:Int)<(ls.length:Int):=by omega
    have x0:=hoc.out.cell (i:=0) rfl
    have x1:=hoc.out.cell (i:=1) rfl
    have x2:=hoc.out.cell (i:=2) rfl
    have x3:=hoc.out.cell (i:=3) rfl
    clear hpk h0t htl ra hoc9 hrepc9 hrowc9 hmvc9 hcl hlc hcm hce hc1 hc2 hc3 hnx hr1e hr2e hmv9
    go_wp2_with fail
    refine hdo4.mono ?_
    rintro ed wd h8
    obtain⟨D,rfl,hrd',hbd⟩:=h8.ret
    unfold v5 v5C
    clear h8
    have hod:=Lib.hid (hoc.out.under hbd)
    have hrowd:Hid (RowI wd W.heap.size (.slice A7 ms.length c7) ms):=RowOf.below hrowa.out hbd
    have hrdd:=Lib.hid (hrda.out.below hbd)
    have hmvd:=hmvc.trans (Mv.of_below hbd)
    have hsd:=hbd.size
    have z0:=hod.out.frozen 0
    have z1:=hod.out.frozen 1
    have z2:=hod.out.frozen 2
    have z3:=hod.out.frozen 3
    have v0:=hod.out.cell (i:=0) rfl
    have v1:=hod.out.cell (i:=1) rfl
    have v2:=hod.out.cell (i:=2) rfl
    have v3:=hod.out.cell (i:=3) rfl
    have hbld:=hod.out.lt
    clear hdo4 x0 x1 x2 x3 hl0 hq1 hq2 hq3 hq4 hr2 ht0i
    obtain⟨ve,hve⟩:∃ ve,ve=(((wd.setCell ⟨b,0,none⟩ (.slice (some ⟨D.b1,0,none⟩) p.length D.c1)).setCell ⟨b,1,none⟩ (.slice (some ⟨D.b2,0,none⟩) (p.length*3) D.c2)).setCell ⟨b,2,none⟩ (.slice (some ⟨D.b3,0,none⟩) p.length D.c3)).setCell ⟨b,3,none⟩ (.slice (some ⟨D.b4,0,none⟩) 3 D.c4):=⟨_,rfl⟩
    have hoe:Hid (Own ve b 48 #[.slice (some ⟨D.b1,0,none⟩) p.length D.c1,.slice (some ⟨D.b2,0,none⟩) (p.length*3) D.c2,.slice (some ⟨D.b3,0,none⟩) p.length D.c3,.slice (some ⟨D.b4,0,none⟩) 3 D.c4]):=by
     show Own _ _ _ _
     rw [hve]
     exact (((hod.out.set 0 _).set 1 _).set 2 _).set 3 _
    have hrepe:Hid (Rep5 (above wa.heap.size ve) D p nx):=by
     show Rep5 _ _ _ _
     rw [hve]
     exact hrd'.setR hblc _ _ _ _
    have hve0:∀ g,g≠b→ve.heap[g]?=wd.heap[g]?:=fun g hg=>by
     rw [hve,Go.Deep.blk_setCell_other _ _ _ _ hg,Go.Deep.blk_setCell_other _ _ _ _ hg,Go.Deep.blk_setCell_other _ _ _ _ hg,Go.Deep.blk_setCell_other _ _ _ _ hg]
    have hse:wd.heap.size≤ve.heap.size:=by rw [hve]; simp
    have hmve:Mv R W ve:=by
     rw [hve]
     exact (((hmvd.setNew (p:=⟨b,0,none⟩) (by show W.heap.size≤b; omega) _).setNew (p:=⟨b,1,none⟩) (by show W.heap.size≤b; omega) _).setNew (p:=⟨b,2,none⟩) (by show W.heap.size≤b; omega) _).setNew (p:=⟨b,3,none⟩) (by show W.heap.size≤b; omega) _
    have hrowe:RowI ve W.heap.size (.slice A7 ms.length c7) ms:=RowOf.of_block hrowd fun g _ hg _=>hve0 g (Hblk.out g hg)
    have hrde:Hid (Rd ve R (q'+1)):=Rd.of_blocks hrdd.out fun g hg=>hve0 g (by omega)
    have Hown0:Hid (∀ g,(Value.slice A7 ms.length c7).ownBlock=some g→W.heap.size≤g∧g<wa.heap.size):=fun g hg=>by
     have h1:=RowOf.blk hrowa.out hg
     exact⟨h1.1,h1.2⟩
    obtain⟨cells,hown,hqq8⟩:=hrowe
    have Hown:=Lib.hid hown
    have Hqq:=Lib.hid hqq8
    clear hown hqq8 hoc hrepc hrowa hrda hrd' hod hrdd hrowd hmvd hve0
    go_upto_region 8 with (fail)
    rw [← hve]
    clear hve v0 v1 v2 v3 z0 z1 z2 z3
    have hmn:ms.length+1≤100:=by omega
    go_wp2_with (at_builtin; refine wpList_append_lies _ (by rfl) _ _ _ (by rfl) W.heap.size 3 i0 _ 1 8 Try.underlying23 hi0 hz0 hz1 hz2 rfl (by omega) (.slice A7 ms.length c7) ms.length cells (by rfl) (owns_alloc Hown.out _) ⟨ve.heap.size,0,none⟩ 1 1 [.int .i64 (cc:Int)] (by rfl) (by rfl) (World.news_of_block (cs:=#[.int .i64 (cc:Int)]) (t:=3) (fr:=(0,0)) (heap_alloc_new ve _)) (by simp [Value.oneCell']) (by omega) (by simp [maxLen]; omega) (by omega) (by simp; have:=hmve.size; omega) (ve.heap.size+1) (by simp) ?_; intro gg cap wf hownf hgrowf hatf hltf)
    have hkeep:∀ k,k<ve.heap.size→(∀ g,(Value.slice A7 ms.length c7).ownBlock=some g→k≠g)→wf.heap[k]?=ve.heap[k]?:=fun k hk hn=>(World.grownBy.block hgrowf k (by simp; omega) (fun e=>hn k e.symm rfl)).trans (Go.Deep.blk_alloc_lt _ _ _ hk)
    have hrf:=Lib.hid (RowOf.snoc (news:=[.int .i64 (cc:Int)]) (x:=(cc:Int)) qint_congr Hown.out Hqq.out rfl rfl hownf)
    have hgb:gg≠b:=by
     rcases hatf with h | h
     ·exact Hblk.out gg h
     ·omega
    have hof:=Lib.hid (hoe.out.of_block (hkeep b (by omega) (fun g hg e=>Hblk.out g hg e.symm)))
    have hrepf:=Lib.hid (hrepe.out.le ((Le.above_le _ (Le.alloc ve (.cells #[.int .i64 (cc:Int)] 3))).trans (Le.above_grown hgrowf (fun g hg=>(Hown0.out g hg).2))))
    have hrdf:Hid (Rd wf R (q'+1)):=Rd.of_blocks hrde.out fun g hg=>hkeep g (by omega) (fun k hk e=>by have:=(Hown0.out k hk).1; omega)
    have hmvf:Mv R W wf:=mv_grown2 (hmve.alloc _) hgrowf (fun g hg=>(Hown0.out g hg).1)
    have hRc:R<wa.heap.size:=by omega
    clear hgrowf hownf hatf hkeep hoe hrepe hrde hmve
    go_wp2_with fail
    go_roundg (100-(ms.length+1))
    case measure=>omega
    case rel=>exact⟨nx,ms++[(cc:Int)],q'+1,wa.heap.size,_,D,by simp,rfl,by simp; omega,hre2.out,⟨hrf.out,fun g hg=>by simp only [Value.ownBlock,Option.some.injEq] at hg; omega⟩,hof.out,hRc,hrepf.out,hrdf.out,by simp; omega,fun m hm=>by
     rcases List.mem_append.1 hm with hm | hm
     ·exact hsm.out m hm
     ·rw [List.mem_singleton.1 hm]; omega,hmvf⟩
  case' neg=>
   have hlt':decide ((ms.length:Int)<stop)=false:=decide_eq_false hlt
   obtain⟨w9,rfl⟩:∃ w9:World,w9=wo:=⟨_,rfl⟩
   have hrow9:Hid (RowI w9 W.heap.size (.slice A7 ms.length c7) ms):=hrow.out.1
   have hrd9:=hrd
   have hmv9:=hmv
   clear hdn x0 x1 x2 x3 ho hrep hrow hrd hlt hmv
  all_goals
   have hpk:=pick_any w9 R q' 12 (by omega) hrd9.out
   go_wp2_with fail
   refine hpk.mono ?_
   rintro ea wa ⟨tv,rfl,h0t,htl,ma,ra⟩
   have hrowa:=Lib.hid (RowI.mvR2 hrow9.out ma hR)
   have hrda:=Lib.hid ra
   have hmva:=hmv9.trans ma
   have hsa:=ma.size
   have hsW:=hmv9.size
   clear hpk h0t htl ma ra hrow9 hrd9 hmv9
   by_cases ht0:tv=0
   ·subst ht0
    obtain⟨V7,hV7⟩:∃ V7,V7=wa.alloc (.cells #[.int .i64 0,.int .i64 9,.int .i64 (-1),.int .i64 50] 3):=⟨_,rfl⟩
    have oX:Own V7 wa.heap.size 3 #[.int .i64 0,.int .i64 9,.int .i64 (-1),.int .i64 50]:=by rw [hV7]; exact Own.new _ _ _
    have hs7:wa.heap.size≤V7.heap.size:=by rw [hV7]; simp
    have hnum:=num4_any V7 R (q'+1) wa.heap.size 0 9 (-1) 50 (by omega) (by rw [hV7]; exact hrda.out.alloc _) oX (by omega)
    have hrow7:Hid (RowI V7 W.heap.size (.slice A7 ms.length c7) ms):=by show RowI _ _ _ _; rw [hV7]; exact RowOf.below hrowa.out ((Below.refl _ _).alloc (Nat.le_refl _) _)
    have hmv7:Mv R W V7:=by rw [hV7]; exact hmva.alloc _
    rw [hV7] at hnum
    clear oX hrowa hrda hmva hsa
    go_wp2_with fail
    refine hnum.mono ?_
    rw [← hV7]
    rintro eb wb ⟨x,rfl,hxm,mb,rb⟩
    have hx1000:x≤1000:=by
     simp only [List.mem_cons,List.not_mem_nil,or_false] at hxm
     omega
    clear hxm
    clear hnum hV7
    have hrowb:RowI wb W.heap.size (.slice A7 ms.length c7) ms:=RowI.mvR2 hrow7.out mb hR
    have hmvb:=hmv7.trans mb
    have hsb:=mb.size
    have hrdb:=Lib.hid rb
    have Hown0:Hid (∀ g,(Value.slice A7 ms.length c7).ownBlock=some g→W.heap.size≤g):=fun g hg=>(RowOf.blk hrowb hg).1
    obtain⟨cells,hown,hqq8⟩:=hrowb
    have Hown:=Lib.hid hown
    have Hqq:=Lib.hid hqq8
    clear hown hqq8 mb rb hrow7 hmv7
    go_wp2_with (at_builtin; refine wpList_append_lies _ (by rfl) _ _ _ (by rfl) W.heap.size 3 i0 _ 1 8 Try.underlying23 hi0 hz0 hz1 hz2 rfl (by omega) (.slice A7 ms.length c7) ms.length cells (by rfl) (owns_alloc Hown.out _) ⟨wb.heap.size,0,none⟩ 1 1 [.int .i64 x] (by rfl) (by rfl) (World.news_of_block (cs:=#[.int .i64 x]) (t:=3) (fr:=(0,0)) (heap_alloc_new wb _)) (by simp [Value.oneCell']) (by omega) (by simp [maxLen]; omega) (by omega) (by simp; have:=hmvb.size; omega) (wb.heap.size+1) (by simp) ?_; intro gg cap wf hownf hgrowf hatf hltf)
    have hrf:=Lib.hid (RowOf.snoc (news:=[.int .i64 x]) (x:=x) qint_congr Hown.out Hqq.out rfl rfl hownf)
    have hrdf:Hid (Rd wf R (q'+1+1)):=Rd.of_blocks hrdb.out fun g hg=>(World.grownBy.block hgrowf g (by simp; have:=hmvb.size; omega) (fun e=>by have:=Hown0.out g e.symm; omega)).trans (Go.Deep.blk_alloc_lt _ _ _ (by have:=hmvb.size; omega))
    have hmvf:Mv R W wf:=mv_grown2 (hmvb.alloc _) hgrowf (fun g hg=>Hown0.out g hg)
    clear hgrowf hownf hatf hrdb hmvb
    go_wp2_with fail
    go_ret
    obtain⟨A9,c9,e9,hle9,hi9⟩:=RowI.ints2 hrf.out
    have hlx:(ms++[x]).length=ms.length+1:=by simp
    rw [hlx] at e9
    injection e9 with e9 _ e10
    subst e9 e10
    exact⟨_,_,ms++[x],_,by rw [hlx]; rfl,hi9,by rw [hlx]; omega,⟨fun m hm=>by
     rcases List.mem_append.1 hm with hm | hm
     ·exact hsm.out m hm
     ·rw [List.mem_singleton.1 hm]; exact hx1000,hle9⟩,hmvf,hrdf.out,by omega⟩
   ·have hd0:(tv == 0)=false:=beq_eq_false_iff_ne.2 ht0
    go_wp2_with fail
    go_ret
    obtain⟨A9,c9,e9,hle9,hi9⟩:=RowI.ints2 hrowa.out
    injection e9 with e9 _ e10
    subst e9 e10
    exact⟨_,_,ms,_,rfl,hi9,by omega,⟨hsm.out,hle9⟩,hmva,hrda.out,by omega⟩
def RetD2 (w:World) (e:Ending) (w':World):Prop:=∃ (p:Prg) (v:Value) (A:Option Addr) (c:Nat) (o:List Int),e=.returned (.tuple #[v,.slice A o.length c])∧PrgS (above w.heap.size w') v p∧Few 2000 2000 p∧Ints (above w.heap.size w') A c o∧o.length≤101∧SmC o c∧Below w.heap.size w w'
set_option maxHeartbeats 1000000 in
theorem drawRC_any (w:World) (A:Option Addr) (n c:Nat) (h:Bys w A n) (hnc:n≤c) (hA:A=none→n=0):Calls Try.prog 15 #[.slice A n c] w (RetD2 w):=by
 have hop:=open_any w A n c h hnc hA
 go_enter Try.func15,Try.ntmps15
 go_wp2_with fail
 refine hop.mono ?_
 rintro e1 w1 ⟨R,rfl,hR,hr1,hb1⟩
 have hod:=drawP_any w1 R 0 (by omega) hr1
 have hRl:=hr1.lt
 clear hop hr1
 go_wp2_with fail
 refine hod.mono ?_
 rintro e2 w2 ⟨p,v,q',rfl,hp,hpq,hfew,m2,r2,hq⟩
 have HPQ:=Lib.hid hpq
 have Hp:=Lib.hid hp
 have Hfew:=Lib.hid hfew
 have hs2:=m2.size
 have hb2:=Mv.belowR hb1 hR m2
 have hw1:=hb1.size
 clear hod hp hpq hfew
 have hmo:=draw5_any p Hp.out w2 R q' (by omega) r2 v (HPQ.out.1.le (Le.above_mono (by omega) _))
 clear r2
 go_wp2_with fail
 refine hmo.mono ?_
 rintro e4 w4 ⟨B,d,ms,q4,rfl,hi4,hml,hsm,m4,r4,hq4⟩
 have hb4:=Mv.belowR hb2 hR m4
 have hs4:=m4.size
 have HP4:Hid (PrgS (above w1.heap.size w4) v p):=PrgS.le HPQ.out.1 (m4.aboveB hRl)
 have hmu:=mutP_any w4 R q4 v p (by omega) r4 (PrgS.le HP4.out (Le.above _ _)) (Hfew.out.mono (by omega) (by omega))
 have HI4:=Lib.hid hi4
 have Hsm:=Lib.hid hsm
 clear hmo hi4 r4 hsm
 go_wp2_with fail
 refine hmu.mono ?_
 rintro e5 w5 ⟨p5,v5,q5,rfl,hpq5,hfew5,m5,r5,hq5⟩
 have hb5:=Mv.belowR hb4 hR m5
 have HI5:=Lib.hid (((HI4.out.le (m5.aboveB (by omega))).le (Le.above_mono (show w.heap.size≤w2.heap.size by omega) _)))
 have HP5:=Lib.hid hpq5
 have Hfew5:=Lib.hid hfew5
 clear hmu hpq5 r5 hfew5
 go_wp2_with fail
 refine bodyPost_ret (v:=.tuple #[v5,.slice B ms.length d]) (by simp [results,Try.results15,go_sem]) rfl ?_
 exact⟨p5,v5,B,d,ms,rfl,PrgS.le HP5.out.1 (Le.above_mono (by omega) _),Hfew5.out,HI5.out,hml,Hsm.out,hb5⟩
end Go.Proofs.Ytojmofnamppbdaa
