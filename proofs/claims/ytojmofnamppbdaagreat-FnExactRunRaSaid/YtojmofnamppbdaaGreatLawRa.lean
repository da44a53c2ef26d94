/-
  The walk of FnExactRunRa: it answers true.
-/
import Derived.Test.YtojmofnamppbdaaGreatVsZ
namespace Go.Proofs.YtojmofnamppbdaaGreat
open Go.RowKit
set_option linter.unusedVariables false
set_option maxRecDepth 100000
set_option maxHeartbeats 4000000 in
theorem lawRa_walk (p:Prg) (w:World) (v:Value) (hr:PrgS w v p):Calls Tryz.prog 6 #[v] w (RetB w true):=by
 obtain⟨A,c,rfl,hlen⟩:=hr.slice
 go_enter Tryz.func6,Tryz.ntmps6
 go_wp2_with fail
 refine (szInsSS_any p _ A c 1048576 hr (by omega) (by omega)).mono ?_
 rintro e1 w1 ⟨rfl,hb1⟩
 by_cases hfit:((p.length+wSum List.length p:Nat):Int)≤1048576
 ·rw [restI_le hfit]
  have hl:p.length≤1048576:=by omega
  have hls:∀ t∈p,t.length≤1048576:=fun t ht=>by have:=wSum_mem List.length ht; omega
  have Hls:=Lib.hid hls
  clear hls
  have hr1:=PrgS.le hr (Le.below hb1)
  go_wp2_with fail
  refine (toInsSS_any p hl Hls.out _ A c hr1).mono ?_
  rintro e2 w2 ⟨v2,F2,rfl,ho2,_,_,hb2⟩
  have hB2:=hb1.trans (hb2.mono hb1.size)
  go_wp2_with fail
  refine (specRa_any p hl _ _ ho2.prgSR).mono ?_
  rintro e3 w3 ⟨A3,L,c3,rfl,hi3,hout,hb3⟩
  have Hout:=Lib.hid hout
  have hB3:=hB2.trans (hb3.mono hB2.size)
  have hr3:=PrgS.le hr (Le.below hB3)
  have hwt:wSum wtIs p≤4*1048576:=by
   rw [wtIs_smallR]
   omega
  clear ho2 hb2 hb3 hr1 hout
  go_wp2_with fail
  refine (toInsSS_any p hl Hls.out _ A c hr3).mono ?_
  rintro e4 w4 ⟨v4,F4,rfl,ho4,hn4,hF4,hb4⟩
  have hB4:=hB3.trans (hb4.mono hB3.size)
  have hL4:=ho4.lt pinsS_loc
  go_wp2_with fail
  refine (implRa_any p hl Hls.out _ _ ho4.prgSR).mono ?_
  rintro e5 w5 ⟨v5,L5,F5,rfl,ho5,hn5,hF5,hout5,hfew,hb5⟩
  obtain rfl:=hout5.same Hout.out
  have hsum:=wSum_small hout5.small
  have hB5:=hB4.trans (hb5.mono hB4.size)
  have hi5:=hi3.le ((Le.below hb4).trans (Le.below hb5))
  have ho45:OwPr w5 v4 p F4:=ho4.below pinsS_loc hb5
  obtain⟨A5,c5,e5',_,_⟩:=OwRow.slice ho5
  subst e5'
  clear hout5
  go_wp2_with fail
  refine (eqIntss_any L5 L5 _ A5 A3 c5 c3 ho5.intss0 hi5).mono ?_
  rintro e6 w6 ⟨rfl,hb6⟩
  rw [eqB_iff.2 rfl]
  have hB6:=hB5.trans (hb6.mono hB5.size)
  have ho46:OwPr w6 v4 p F4:=ho45.below pinsS_loc hb6
  have ho56:OwI2 w6 _ L5 F5:=OwRow.below pi1_loc ho5 hb6
  have hr6:=PrgS.le hr (Le.below hB6)
  clear hi5 ho45 ho5 ho4 hr3
  go_wp2_with fail
  refine (toInsSS_any p hl Hls.out _ A c hr6).mono ?_
  rintro e7 w7 ⟨v7,F7,rfl,ho7,_,_,hb7⟩
  have hB7:=hB6.trans (hb7.mono hB6.size)
  have ho47:OwPr w7 v4 p F4:=ho46.below pinsS_loc hb7
  go_wp2_with fail
  refine (eqInsSS_any p _ _ _ ho47.prgSR ho7.prgSR).mono ?_
  rintro e8 w8 ⟨rfl,hb8⟩
  have hB8:=hB7.trans (hb8.mono hB7.size)
  have ho48:OwPr w8 v4 p F4:=ho47.below pinsS_loc hb8
  have ho58:OwI2 w8 _ L5 F5:=OwRow.below pi1_loc (OwRow.below pi1_loc ho56 hb7) hb8
  clear ho46 ho47 ho56 ho7 hr6
  obtain⟨M,hM⟩:∃ M:Nat,M=1+wSum wtIs p:=⟨_,rfl⟩
  have Mk1:Hid (Calls Tryz.prog 33 #[v4,.int .i64 1] w8 (fun e w'=>e=.returned (.int .i64 (M:Int))∧MvO F4 w8 w')):=by
   rw [hM]
   exact (markInsSS_any p w8 v4 F4 1 ho48 hn4 (by omega)).mono fun e w' h=>⟨h.1,h.2.2⟩
  have bM:decide ((M:Int)<0)=false:=by rw [decide_eq_false_iff_not]; omega
  clear hwt hM ho48
  go_wp2_with fail
  refine Mk1.out.mono ?_
  rintro e9 w9 ⟨rfl,m9⟩
  have hB9:Below w.heap.size w w9:=hB8.trans (m9.below (fun b hb=>Nat.le_trans hB3.size (hF4 b hb)) hB8.size)
  have ho59:OwI2 w9 _ L5 F5:=OwRow.move pi1_loc ho58 fun b hm=>m9.block b (OwRow.lt pi1_loc ho58 b hm) fun h4=>by
   have:=hF5 b hm
   have:=hL4 b h4
   omega
  have hL9:Le w3 w9:=fun a x hc=>m9.cell (((Le.below hb4).trans ((Le.below hb5).trans ((Le.below hb6).trans ((Le.below hb7).trans (Le.below hb8))))) a x hc) fun h4=>by
   have:=hF4 _ h4
   have:=World.block_lt_of_cell? _ _ hc
   omega
  have hi9:=hi3.le hL9
  clear ho58 Mk1
  go_wp2_with fail
  refine (eqIntss_any L5 L5 _ A5 A3 c5 c3 ho59.intss0 hi9).mono ?_
  rintro e10 w10 ⟨rfl,hb10⟩
  rw [eqB_iff.2 rfl]
  have hB10:=hB9.trans (hb10.mono hB9.size)
  have ho5x:OwI2 w10 _ L5 F5:=OwRow.below pi1_loc ho59 hb10
  obtain⟨N,hN⟩:∃ N:Nat,N=1+wSum List.length L5:=⟨_,rfl⟩
  have bN:decide ((N:Int)<0)=false:=by rw [decide_eq_false_iff_not]; omega
  have Mk2:Hid (Calls Tryz.prog 34 #[.slice A5 L5.length c5,.int .i64 1] w10 (fun e w'=>e=.returned (.int .i64 (N:Int))∧Intss w' A5 c5 (mkNss 1 L5)∧MvO F5 w10 w')):=by
   rw [hN]
   exact (markIntss_any L5 w10 _ F5 1 ho5x hn5 (by omega)).mono fun e w' h=>⟨h.1,h.2.1.intss0,h.2.2⟩
  have Held:Hid (∀ (w:World),Intss w A5 c5 (mkNss 1 L5)→Calls Tryz.prog 35 #[.slice A5 L5.length c5,.int .i64 1] w (RetHd w N)):=fun w h=>by
   rw [hN]; exact heldIntss_any L5 w _ _ 1 h (by omega)
  clear hN ho59 hsum hfew ho5x
  go_wp2_with fail
  refine Mk2.out.mono ?_
  rintro e11 w11 ⟨rfl,hmk,m11⟩
  have hB11:Below w.heap.size w w11:=hB10.trans (m11.below (fun b hb=>Nat.le_trans hB4.size (hF5 b hb)) hB10.size)
  have hi11:=hi3.le (w':=w11) fun a x hc=>m11.cell (Le.below hb10 a x (hL9 a x hc)) fun h5=>by
   have:=hF5 _ h5
   have:=hb4.size
   have:=World.block_lt_of_cell? _ _ hc
   omega
  go_wp2_with fail
  refine (Held.out w11 hmk).mono ?_
  rintro e12 w12 ⟨rfl,hb12⟩
  have hB12:=hB11.trans (hb12.mono hB11.size)
  have hr12:=PrgS.le hr (Le.below hB12)
  go_wp2_with fail
  refine (toInsSS_any p hl Hls.out _ A c hr12).mono ?_
  rintro e13 w13 ⟨v13,F13,rfl,ho13,_,_,hb13⟩
  have hB13:=hB12.trans (hb13.mono hB12.size)
  go_wp2_with fail
  refine (implRa_any p hl Hls.out _ _ ho13.prgSR).mono ?_
  rintro e14 w14 ⟨v14,L14,F14,rfl,ho14,_,_,hout14,_,hb14⟩
  obtain rfl:=hout14.same Hout.out
  have hB14:=hB13.trans (hb14.mono hB13.size)
  have hL14:=(Le.below hb12).trans ((Le.below hb13).trans (Le.below hb14))
  obtain⟨A14,c14,e14',_,_⟩:=OwRow.slice ho14
  subst e14'
  go_wp2_with fail
  refine (eqIntss_any _ _ _ A14 A3 c14 c3 ho14.intss0 (hi11.le hL14)).mono ?_
  rintro e15 w15 ⟨rfl,hb15⟩
  rw [eqB_iff.2 rfl]
  have hB15:=hB14.trans (hb15.mono hB14.size)
  go_wp2_with fail
  refine (Held.out w15 (hmk.le (hL14.trans (Le.below hb15)))).mono ?_
  rintro e16 w16 ⟨rfl,hb16⟩
  have hB16:=hB15.trans (hb16.mono hB15.size)
  go_wp2_with fail
  go_ret
  exact⟨rfl,hB16⟩
 ·rw [restI_gt (Int.not_le.1 hfit)]
  go_wp2_with fail
  go_ret
  exact⟨rfl,hb1⟩
end Go.Proofs.YtojmofnamppbdaaGreat
