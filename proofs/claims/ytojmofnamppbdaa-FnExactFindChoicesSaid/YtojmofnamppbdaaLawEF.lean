/-
  The walk of FnExactFindChoices: it answers true.
-/
import Derived.Test.YtojmofnamppbdaaVsV
import Derived.Test.YtojmofnamppbdaaWInsP
import Derived.Test.YtojmofnamppbdaaInts
namespace Go.Proofs.Ytojmofnamppbdaa
open Go.RowKit
set_option linter.unusedVariables false
set_option maxRecDepth 100000
theorem OwPr.prgSF {w:World} {v:Value} {p:Prg} {F:List Nat} (h:OwPr w v p F):PrgS w v p:=PrgS.le (h.prgS (B:=0) (fun _ _=>Nat.zero_le _)) (Le.above _ _)
theorem OwI1.ints0 {w:World} {A:Option Addr} {c n:Nat} {xs:List Int} {F:List Nat} (h:OwI1 w (.slice A n c) xs F):Ints w A c xs:=by
 have h6:=OwI1.ints h (B:=0) (fun _ _=>Nat.zero_le _)
 obtain⟨A',c',e,h'⟩:=h.slice
 injection e with e1 e2 e3
 subst e1 e2 e3
 have h7:Ints (above 0 w) A c xs:=h6
 exact h7.le (Le.above _ _)
theorem FndSV.few {p:Prg} {o:List Int} {r:Option (List Int)} (h:FndSV p o r):(r.getD []).length≤200:=by
 rcases h with ⟨h1,h⟩ | ⟨h1,rfl⟩
 ·rcases h with ⟨l,rfl,h⟩ | ⟨rfl,_⟩
  ·exact Nat.le_trans (fst_lenV h1.1 h .start) (potV_le _)
  ·exact Nat.zero_le _
 ·exact Nat.zero_le _
def RetIF (w:World) (xs:List Int) (e:Ending) (w':World):Prop:=∃ A c F,e=.returned (.slice A xs.length c)∧OwI1 w' (.slice A xs.length c) xs F∧F.Nodup∧(∀ b∈F,w.heap.size≤b)∧Below w.heap.size w w'
set_option maxHeartbeats 1000000 in
theorem toIF_any (xs:List Int) (hlen:xs.length≤1048576) (w:World) (A:Option Addr) (c:Nat) (hr:Ints w A c xs):
  Calls Try.prog 8 #[.slice A xs.length c] w (RetIF w xs):=by
 have hmk:=run_make_any (P:=Try.prog) 23 3 _ 1 8 Try.underlying23 Try.infoInt xs.length (by omega) (by omega)
 go_enter Try.func8,Try.ntmps8
 go_wp2_with fail
 clear hmk
 go_loopg [4] xs.length (fun g s4 wr=>∃ (k:Nat) (F:Nat→Value),k≤xs.length∧g=xs.length-k∧s4=.int .i64 k∧Below w.heap.size w wr ∧
  wr.rowIs w.heap.size 3 xs.length F∧Hid (∀ i (h:i<k) (h':i<xs.length),F i=.int .i64 xs[i]))
 case atStart=>
  obtain⟨F,hF⟩:=rowIs_made_any w #[.int .i64 0] (xs.length*1) 3
  rw [Nat.mul_one] at hF
  first
   | exact⟨0,F,Nat.zero_le _,rfl,rfl,(Below.refl _ _).alloc (Nat.le_refl _) _,hF,fun i h=>absurd h (Nat.not_lt_zero _)⟩
   | exact⟨0,F,Nat.zero_le _,rfl,rfl,(Below.refl _ _).alloc (Nat.le_refl _) _,by simpa using hF,fun i h=>absurd h (Nat.not_lt_zero _)⟩
 case round=>
  obtain⟨k,F,hk,rfl,rfl,hb,hF,hall⟩:=hrel
  by_cases hlt:k<xs.length
  ·obtain⟨b,o,rfl,hbl,k0⟩:=(hr.le (Le.below hb)).get hlt
   clear hr
   have f0:=hF.cell hlt
   have g0:=hF.frozen k
   go_wp2_with fail
   go_roundg (xs.length-(k+1))
   case measure=>omega
   case rel=>
    refine⟨k+1,_,by omega,rfl,by go_num,hb.setCell (p:=⟨w.heap.size,k,none⟩) (Nat.le_refl _) _,hF.set k _,fun i hi hi'=>?_⟩
    by_cases e:i=k
    ·subst e
     exact if_pos rfl
    ·exact (if_neg e).trans (hall.out i (by omega) hi')
  ·go_wp2_with fail
   go_ret
   obtain rfl:k=xs.length:=by omega
   refine⟨_,_,_,rfl,OwRow.made (fun _=>[]) hF (Nat.le_refl _) (by omega) (by omega) (fun i hi=>⟨(by have:=hall.out i hi hi; simpa [QInt] using this),rfl⟩),?_,?_,hb⟩
   ·rw [flat_ft _ _ (fun _ _=>rfl)]; simp
   ·rw [flat_ft _ _ (fun _ _=>rfl)]; simp
set_option maxHeartbeats 4000000 in
theorem lawEF_walk (p:Prg) (o:List Int) (w:World) (v:Value) (hr:PrgS w v p) (B:Option Addr) (d:Nat) (hI:Ints w B d o):Calls Try.prog 3 #[v,.slice B o.length d] w (RetB w true):=by
 obtain⟨A,c,rfl,hlen⟩:=hr.slice
 have hon:=hI.len
 go_enter Try.func3,Try.ntmps3
 by_cases hso:(1048576:Int)<(o.length:Int)
 ·have hd:decide ((o.length:Int)>1048576)=true:=by simpa using hso
  go_wp2_with fail
  go_ret
  exact⟨rfl,Below.refl _ _⟩
 have hd:decide ((o.length:Int)>1048576)=false:=by simpa using hso
 have ho:o.length≤1048576:=by omega
 go_wp2_with fail
 refine (szInsSS_any p _ A c 1048576 hr (by omega) (by omega)).mono ?_
 rintro e1 w1 ⟨rfl,hb1⟩
 by_cases hfit:((p.length+wSum List.length p:Nat):Int)≤1048576
 ·rw [restI_le hfit]
  have hl:p.length≤1048576:=by omega
  have hls:∀ t∈p,t.length≤1048576:=fun t ht=>by have:=wSum_mem List.length ht; omega
  have Hls:=Lib.hid hls
  clear hls
  have hr1:=PrgS.le hr (Le.below hb1)
  go_wp2_with fail
  refine (toInsSS_any p hl Hls.out _ A c hr1).mono ?_
  rintro e2 w2 ⟨v2,F2,rfl,ho2,_,_,hb2⟩
  have hB2:=hb1.trans (hb2.mono hb1.size)
  go_wp2_with fail
  refine (toIF_any o ho _ B d (hI.le (Le.below hB2))).mono ?_
  rintro e2b w2b ⟨B2,d2,G2,rfl,hg2,_,_,hb2b⟩
  have hB2b:=hB2.trans (hb2b.mono hB2.size)
  go_wp2_with fail
  refine (specFC_any p hl o _ _ (PrgS.le ho2.prgSF (Le.below hb2b)) _ _ hg2.ints0).mono ?_
  rintro e3 w3 ⟨A3,c3,r,rfl,hi3,hb3,hf3⟩
  have Hf3:=Lib.hid hf3
  have hB3:=hB2b.trans (hb3.mono hB2b.size)
  have hr3:=PrgS.le hr (Le.below hB3)
  have hwt:wSum wtIs p≤4*1048576:=by
   rw [wtIs_smallR]
   omega
  have Hi3:=Lib.hid hi3
  clear ho2 hb2 hb2b hb3 hr1 hf3 hg2 hi3
  go_wp2_with fail
  refine (toInsSS_any p hl Hls.out _ A c hr3).mono ?_
  rintro e4 w4 ⟨v4,F4,rfl,ho4,hn4,hF4,hb4⟩
  have hB4:=hB3.trans (hb4.mono hB3.size)
  have hL4:=ho4.lt pinsS_loc
  have Ho4:=Lib.hid ho4
  clear ho4 hr3
  go_wp2_with fail
  refine (toIF_any o ho _ B d (hI.le (Le.below hB4))).mono ?_
  rintro e4b w4b ⟨B4,d4,G4,rfl,hg4,hm4,hG4,hb4b⟩
  have hB4b:=hB4.trans (hb4b.mono hB4.size)
  have hK4:=hg4.lt (flat_loc qint_congr)
  have Ho4b:Hid (OwPr w4b v4 p F4):=Ho4.out.below pinsS_loc hb4b
  have Hg4:=Lib.hid hg4
  clear hg4
  go_wp2_with fail
  refine (implFC_own p hl Hls.out o _ _ Ho4b.out.prgSF _ _ Hg4.out.ints0).mono ?_
  rintro e5 w5 ⟨A5,c5,r5,F5,rfl,ho5,hn5,hF5,hb5,hf5⟩
  obtain rfl:=hf5.uniq Hf3.out
  obtain⟨L,hL⟩:∃ L,L=r5.getD []:=⟨_,rfl⟩
  obtain⟨bo,hbo⟩:∃ bo,bo=r5.isSome:=⟨_,rfl⟩
  have HR:Hid (L=r5.getD []∧bo=r5.isSome):=⟨hL,hbo⟩
  rw [← hL] at ho5 Hi3
  rw [← hL,← hbo]
  have Hr:Hid (∀ r,FndSV p o r→r.getD []=L∧r.isSome=bo):=fun r h=>by rw [h.uniq Hf3.out]; exact⟨hL.symm,hbo.symm⟩
  have hlL:L.length≤200:=by rw [hL]; exact hf5.few
  have hB5:=hB4b.trans (hb5.mono hB4b.size)
  have Hi5:=Lib.hid (Hi3.out.le ((Le.below hb4).trans ((Le.below hb4b).trans (Le.below hb5))))
  have Ho45:Hid (OwPr w5 v4 p F4):=Ho4b.out.below pinsS_loc hb5
  have Hg45:Hid (OwI1 w5 (.slice B4 o.length d4) o G4):=Hg4.out.below (flat_loc qint_congr) hb5
  have Ho5:=Lib.hid ho5
  have hbb:(bo != bo)=false:=by cases bo <;> rfl
  clear hf5 Hf3 hL hbo Ho4 Ho4b Hg4 ho5 HR
  go_wp2_with fail
  refine (eqInts_any L L _ A5 A3 c5 c3 Ho5.out.ints0 Hi5.out).mono ?_
  rintro e6 w6 ⟨rfl,hb6⟩
  rw [eqB_iff.2 rfl]
  have hB6:=hB5.trans (hb6.mono hB5.size)
  have Ho46:Hid (OwPr w6 v4 p F4):=Ho45.out.below pinsS_loc hb6
  have Hg46:Hid (OwI1 w6 (.slice B4 o.length d4) o G4):=Hg45.out.below (flat_loc qint_congr) hb6
  have Ho56:Hid (OwI1 w6 (.slice A5 L.length c5) L F5):=Ho5.out.below (flat_loc qint_congr) hb6
  have hr6:=PrgS.le hr (Le.below hB6)
  clear Hi5 Ho45 Hg45 Ho5
  go_wp2_with fail
  refine (toInsSS_any p hl Hls.out _ A c hr6).mono ?_
  rintro e7 w7 ⟨v7,F7,rfl,ho7,_,_,hb7⟩
  have hB7:=hB6.trans (hb7.mono hB6.size)
  have ho47:OwPr w7 v4 p F4:=Ho46.out.below pinsS_loc hb7
  go_wp2_with fail
  refine (eqInsSS_any p _ _ _ ho47.prgSF ho7.prgSF).mono ?_
  rintro e8 w8 ⟨rfl,hb8⟩
  have hB8:=hB7.trans (hb8.mono hB7.size)
  have Ho48:Hid (OwPr w8 v4 p F4):=ho47.below pinsS_loc hb8
  have Hg48:Hid (OwI1 w8 (.slice B4 o.length d4) o G4):=(Hg46.out.below (flat_loc qint_congr) hb7).below (flat_loc qint_congr) hb8
  have Ho58:Hid (OwI1 w8 (.slice A5 L.length c5) L F5):=(Ho56.out.below (flat_loc qint_congr) hb7).below (flat_loc qint_congr) hb8
  clear Ho46 ho47 Ho56 ho7 hr6 Hg46
  go_wp2_with fail
  refine (toIF_any o ho _ B d (hI.le (Le.below hB8))).mono ?_
  rintro e8b w8b ⟨B8,d8,G8,rfl,hg8,_,_,hb8b⟩
  have hB8b:=hB8.trans (hb8b.mono hB8.size)
  have Hg48b:Hid (OwI1 w8b (.slice B4 o.length d4) o G4):=Hg48.out.below (flat_loc qint_congr) hb8b
  have Hg8:=Lib.hid hg8.ints0
  clear hg8
  go_wp2_with fail
  refine (eqInts_any o o _ B4 B8 d4 d8 Hg48b.out.ints0 Hg8.out).mono ?_
  rintro e8c w8c ⟨rfl,hb8c⟩
  rw [eqB_iff.2 rfl]
  have hB8c:=hB8b.trans (hb8c.mono hB8b.size)
  have Ho4c:Hid (OwPr w8c v4 p F4):=(Ho48.out.below pinsS_loc hb8b).below pinsS_loc hb8c
  have Hg4c:Hid (OwI1 w8c (.slice B4 o.length d4) o G4):=Hg48b.out.below (flat_loc qint_congr) hb8c
  have Ho5c:Hid (OwI1 w8c (.slice A5 L.length c5) L F5):=(Ho58.out.below (flat_loc qint_congr) hb8b).below (flat_loc qint_congr) hb8c
  clear Ho48 Hg48 Ho58 Hg48b Hg8
  obtain⟨M,hM⟩:∃ M:Nat,M=1+wSum wtIs p:=⟨_,rfl⟩
  have Mk1:Hid (Calls Try.prog 12 #[v4,.int .i64 1] w8c (fun e w'=>e=.returned (.int .i64 (M:Int))∧MvO F4 w8c w')):=by
   rw [hM]
   exact (markInsSS_any p w8c v4 F4 1 Ho4c.out hn4 (by omega)).mono fun e w' h=>⟨h.1,h.2.2⟩
  have hM9:M≤5000000:=by omega
  clear hwt hM Ho4c
  go_wp2_with fail
  refine Mk1.out.mono ?_
  rintro e9 w9 ⟨rfl,m9⟩
  have hB9:Below w.heap.size w w9:=hB8c.trans (m9.below (fun b hb=>Nat.le_trans hB3.size (hF4 b hb)) hB8c.size)
  have Hg49:Hid (OwI1 w9 (.slice B4 o.length d4) o G4):=Hg4c.out.move (flat_loc qint_congr) fun b hm=>m9.block b (Hg4c.out.lt (flat_loc qint_congr) b hm) fun h4=>by
   have:=hG4 b hm
   have:=hL4 b h4
   omega
  have Ho59:Hid (OwI1 w9 (.slice A5 L.length c5) L F5):=Ho5c.out.move (flat_loc qint_congr) fun b hm=>m9.block b (Ho5c.out.lt (flat_loc qint_congr) b hm) fun h4=>by
   have:=hF5 b hm
   have:=hL4 b h4
   have:=hb4b.size
   omega
  have hL9:Le w3 w9:=fun a x hc=>m9.cell (((Le.below hb4).trans ((Le.below hb4b).trans ((Le.below hb5).trans ((Le.below hb6).trans ((Le.below hb7).trans ((Le.below hb8).trans ((Le.below hb8b).trans (Le.below hb8c)))))))) a x hc) fun h4=>by
   have:=hF4 _ h4
   have:=World.block_lt_of_cell? _ _ hc
   omega
  have HL9:=Lib.hid hL9
  clear Ho5c Hg4c Mk1 hL9
  obtain⟨M2,hM2⟩:∃ M2:Nat,M2=M+o.length:=⟨_,rfl⟩
  have Mk3:Hid (Calls Try.prog 13 #[.slice B4 o.length d4,.int .i64 M] w9 (fun e w'=>e=.returned (.int .i64 (M2:Int))∧MvO G4 w9 w')):=by
   rw [hM2]
   exact (markInts_any o w9 _ G4 M Hg49.out hm4 (by omega)).mono fun e w' h=>⟨h.1,h.2.2⟩
  have bM:decide ((M2:Int)<0)=false:=by rw [decide_eq_false_iff_not]; omega
  clear hM2 Hg49
  go_wp2_with fail
  refine Mk3.out.mono ?_
  rintro e9b w9b ⟨rfl,m9b⟩
  have hB9b:Below w.heap.size w w9b:=hB9.trans (m9b.below (fun b hb=>Nat.le_trans hB4.size (hG4 b hb)) hB9.size)
  have Ho5b:Hid (OwI1 w9b (.slice A5 L.length c5) L F5):=Ho59.out.move (flat_loc qint_congr) fun b hm=>m9b.block b (Ho59.out.lt (flat_loc qint_congr) b hm) fun h4=>by
   have:=hF5 b hm
   have:=hK4 b h4
   omega
  have HL9b:Hid (Le w3 w9b):=fun a x hc=>m9b.cell (HL9.out a x hc) fun h4=>by
   have:=hG4 _ h4
   have:=hb4.size
   have:=World.block_lt_of_cell? _ _ hc
   omega
  have Hi9:=Lib.hid (Hi3.out.le HL9b.out)
  clear Mk3 Ho59
  go_wp2_with fail
  refine (eqInts_any L L _ A5 A3 c5 c3 Ho5b.out.ints0 Hi9.out).mono ?_
  rintro e10 w10 ⟨rfl,hb10⟩
  rw [eqB_iff.2 rfl]
  have hB10:=hB9b.trans (hb10.mono hB9b.size)
  have Ho5x:Hid (OwI1 w10 (.slice A5 L.length c5) L F5):=Ho5b.out.below (flat_loc qint_congr) hb10
  obtain⟨N,hN⟩:∃ N:Nat,N=1+L.length:=⟨_,rfl⟩
  have bN:decide ((N:Int)<0)=false:=by rw [decide_eq_false_iff_not]; omega
  have Mk2:Hid (Calls Try.prog 13 #[.slice A5 L.length c5,.int .i64 1] w10 (fun e w'=>e=.returned (.int .i64 (N:Int))∧Ints w' A5 c5 (mkNs 1 L)∧MvO F5 w10 w')):=by
   rw [hN]
   exact (markInts_any L w10 _ F5 1 Ho5x.out hn5 (by omega)).mono fun e w' h=>⟨h.1,h.2.1.ints0,h.2.2⟩
  have Held:Hid (∀ (w:World),Ints w A5 c5 (mkNs 1 L)→Calls Try.prog 14 #[.slice A5 L.length c5,.int .i64 1] w (RetHd w N)):=fun w h=>by
   rw [hN]; exact heldInts_any L w _ _ 1 h (by omega)
  have hN9:N≤10 ^ 18:=by omega
  clear hN Ho5b Ho5x Hi9
  go_wp2_with fail
  refine Mk2.out.mono ?_
  rintro e11 w11 ⟨rfl,hmk,m11⟩
  have hB11:Below w.heap.size w w11:=hB10.trans (m11.below (fun b hb=>Nat.le_trans hB4b.size (hF5 b hb)) hB10.size)
  have Hi11:=Lib.hid (Hi3.out.le (w':=w11) fun a x hc=>m11.cell (Le.below hb10 a x (HL9b.out a x hc)) fun h5=>by
   have:=hF5 _ h5
   have:=hb4.size
   have:=hb4b.size
   have:=World.block_lt_of_cell? _ _ hc
   omega)
  have Hmk:=Lib.hid hmk
  clear hmk Mk2
  go_wp2_with fail
  refine (Held.out w11 Hmk.out).mono ?_
  rintro e12 w12 ⟨rfl,hb12⟩
  have hB12:=hB11.trans (hb12.mono hB11.size)
  have hr12:=PrgS.le hr (Le.below hB12)
  go_wp2_with fail
  refine (toInsSS_any p hl Hls.out _ A c hr12).mono ?_
  rintro e13 w13 ⟨v13,F13,rfl,ho13,_,_,hb13⟩
  have hB13:=hB12.trans (hb13.mono hB12.size)
  have Ho13:=Lib.hid ho13.prgSF
  clear ho13 hr12
  go_wp2_with fail
  refine (toIF_any o ho _ B d (hI.le (Le.below hB13))).mono ?_
  rintro e13b w13b ⟨B13,d13,G13,rfl,hg13,_,_,hb13b⟩
  have hB13b:=hB13.trans (hb13b.mono hB13.size)
  have Hg13:=Lib.hid hg13.ints0
  clear hg13
  go_wp2_with fail
  refine (implFC_any p hl Hls.out o _ _ (PrgS.le Ho13.out (Le.below hb13b)) _ _ Hg13.out).mono ?_
  rintro e14 w14 ⟨A14,c14,r14,rfl,hi14,hb14,hf14⟩
  obtain⟨h14,k14⟩:=Hr.out _ hf14
  rw [h14] at hi14 ⊢
  rw [k14]
  have hB14:=hB13b.trans (hb14.mono hB13b.size)
  have HL14:=Lib.hid ((Le.below hb12).trans ((Le.below hb13).trans ((Le.below hb13b).trans (Le.below hb14))))
  have Hi14:=Lib.hid hi14
  clear hf14 h14 k14 hi14
  go_wp2_with fail
  refine (eqInts_any L L _ A14 A3 c14 c3 Hi14.out (Hi11.out.le HL14.out)).mono ?_
  rintro e15 w15 ⟨rfl,hb15⟩
  rw [eqB_iff.2 rfl]
  have hB15:=hB14.trans (hb15.mono hB14.size)
  go_wp2_with fail
  refine (Held.out w15 (Hmk.out.le (HL14.out.trans (Le.below hb15)))).mono ?_
  rintro e16 w16 ⟨rfl,hb16⟩
  have hB16:=hB15.trans (hb16.mono hB15.size)
  go_wp2_with fail
  go_ret
  exact⟨rfl,hB16⟩
 ·rw [restI_gt (Int.not_le.1 hfit)]
  go_wp2_with fail
  go_ret
  exact⟨rfl,hb1⟩
end Go.Proofs.Ytojmofnamppbdaa
