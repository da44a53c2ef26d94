/-
  The walks of szInstrS, szInstrSS, toInstr, toInstrS, toInstrSS, eqInstr, eqInstrS, eqInstrSS, markInstrS, markInstrSS. The walks of eqInstr, eqInstrS, eqInstrSS at equal data, markInstrS, markInstrSS; eqEvent, eqEventS, markEventS, heldEventS. Events: the walks of eqEvent, eqEventS at equal data, markEventS, heldEventS.
-/
import Derived.Test.YtojmofnamppbdaaPrg
import Derived.Test.YtojmofnamppbdaaOwA
import Derived.StillTailTactics
namespace Go.Proofs.Ytojmofnamppbdaa
open Go.RowKit
set_option linter.unusedVariables false
set_option maxRecDepth 100000
theorem Try.infoIns:(Try.prog.info? 84).map (fun i=>(i.zero,i.size,i.bytes))=some (some (.agg #[.int .i64 0,.int .i64 0,.int .i64 0,.int .i64 0]),4,32):=by kernel_rfl
theorem Try.infoInsS:(Try.prog.info? 51).map (fun i=>(i.zero,i.size,i.bytes))=some (some (.slice none 0 0),1,24):=by kernel_rfl
set_option maxHeartbeats 400000 in
theorem szInsS_any (n:Nat) (w:World) (A:Option Addr) (c:Nat) (l:Int) (hx:n≤9223372036854775807) (h0:0≤l) (h1:l≤1048576):
  Calls Try.prog 21 #[.slice A n c,.int .i64 l] w (RetI w (restI l n)):=by
 go_enter Try.func21,Try.ntmps21
 by_cases hl:l<n
 ·go_wp2_with fail
  go_ret
  exact⟨ret_int (restI_gt (by omega)).symm,Below.refl _ _⟩
 ·go_wp2_with fail
  go_ret
  exact⟨ret_int (restI_le (by omega)).symm,Below.refl _ _⟩
set_option maxHeartbeats 400000 in
theorem szInsSS_any (xss:Prg) (w:World) (A:Option Addr) (c:Nat) (l:Int) (hr:PrgS w (.slice A xss.length c) xss) (h0:0≤l) (h1:l≤1048576):
  Calls Try.prog 5 #[.slice A xss.length c,.int .i64 l] w (RetI w (restI l (xss.length+wSum List.length xss))):=by
 have hlen:xss.length≤9223372036854775807:=hr.slice.elim fun _ h=>h.elim fun _ h=>h.2
 go_enter Try.func5,Try.ntmps5
 by_cases hl:l<xss.length
 ·go_wp2_with fail
  go_ret
  exact⟨ret_int (restI_gt (by omega)).symm,Below.refl _ _⟩
 ·go_wp2_with fail
  go_loopg [1,5] xss.length (fun g s1 s5 wr=>∃ (k:Nat) (l':Int),k≤xss.length∧g=xss.length-k∧s5=.int .i64 k∧s1=.int .i64 l'∧0≤l'∧l'≤1048576∧Hid (l'+wSum List.length (xss.take k)+xss.length=l)∧Below w.heap.size w wr)
  case atStart=>exact⟨0,_,Nat.zero_le _,rfl,rfl,rfl,by omega,by omega,by show _=_; simp [wSum],Below.refl _ _⟩
  case round=>
   obtain⟨k,l',hk,rfl,rfl,rfl,hl0,hl1,hsum,hb⟩:=hrel
   by_cases hlt:k<xss.length
   ·obtain⟨b,o,A',c',rfl,hbl,k0,hre',_⟩:=SlR.getSub (hr.le (Le.below hb)) hlt
    clear hr
    have Hw:=Lib.hid (wSum_take_succ List.length xss k hlt)
    by_cases hfit:(xss[k].length:Int)≤l'
    ·have Hr:Hid _:=restI_le hfit
     go_wp2_with fail
     refine (szInsS_any xss[k].length _ _ _ l' hre' hl0 hl1).mono ?_
     rintro e' w' ⟨rfl,hb'⟩
     rw [Hr.out]
     go_wp2_with fail
     go_roundg (xss.length-(k+1))
     case measure=>omega
     case rel=>exact⟨k+1,_,by omega,rfl,by go_num,rfl,by omega,by omega,by have h1:=hsum.out; have h2:=Hw.out; show _=_; omega,hb.trans (hb'.mono hb.size)⟩
    ·have Hr:Hid _:=restI_gt (Int.not_le.1 hfit)
     go_wp2_with fail
     refine (szInsS_any xss[k].length _ _ _ l' hre' hl0 hl1).mono ?_
     rintro e' w' ⟨rfl,hb'⟩
     rw [Hr.out]
     go_wp2_with fail
     go_ret
     refine⟨ret_int (restI_gt ?_).symm,hb.trans (hb'.mono hb.size)⟩
     have h1:=hsum.out
     have h2:=Hw.out
     have h3:=wSum_take_le List.length xss (k+1)
     omega
   ·go_wp2_with fail
    go_ret
    obtain rfl:k=xss.length:=by omega
    refine⟨ret_int ?_,hb⟩
    have h1:=hsum.out
    rw [List.take_length] at h1
    rw [restI_le (by omega)]
    omega
def QIns (cs:Nat→Value) (x:Ins):Prop:=cs 0=.int .i64 x.op∧cs 1=.int .i64 x.loc∧cs 2=.int .i64 x.reg∧cs 3=.int .i64 x.val
theorem qins_congr:∀ (f g:Nat→Value) (x:Ins),(∀ j,j<4→f j=g j)→QIns f x→QIns g x:=fun f g x h hq=>⟨(h 0 (by omega)).symm.trans hq.1,(h 1 (by omega)).symm.trans hq.2.1,(h 2 (by omega)).symm.trans hq.2.2.1,(h 3 (by omega)).symm.trans hq.2.2.2⟩
abbrev PIns:OwP Ins:=flat QIns
theorem pins_loc:OwLoc 4 PIns:=flat_loc qins_congr
abbrev OwI (w:World) (v:Value) (xs:List Ins) (F:List Nat):Prop:=OwRow 4 84 PIns w v xs F
abbrev PInsS:OwP (List Ins):=sub 4 84 PIns
theorem pinsS_loc:OwLoc 1 PInsS:=sub_loc pins_loc
abbrev OwPr (w:World) (v:Value) (p:Prg) (F:List Nat):Prop:=OwRow 1 51 PInsS w v p F
theorem OwI.insS {w:World} {v:Value} {xs:List Ins} {F:List Nat} {B:Nat} (h:OwI w v xs F) (hB:∀ b∈F,B≤b):InsS (above B w) v xs:=OwRow.slR h (fun cs x F' _ hx=>hx.1) hB
theorem OwPr.prgS {w:World} {v:Value} {p:Prg} {F:List Nat} {B:Nat} (h:OwPr w v p F) (hB:∀ b∈F,B≤b):PrgS (above B w) v p:=
 OwRow.slR h (fun cs x F' hF' hx=>by
  have hx':OwI w (cs 0) x F':=hx
  have hs:=OwI.insS hx' hF'
  obtain⟨A,c,hv,_⟩:=hx'.slice
  exact⟨A,c,hv,by rw [← hv]; exact hs⟩) hB
set_option maxHeartbeats 400000 in
theorem toIns_any (x:Ins) (w:World):Calls Try.prog 50 #[.agg #[.int .i64 x.op,.int .i64 x.loc,.int .i64 x.reg,.int .i64 x.val]] w (fun e w'=>e=.returned (.agg #[.int .i64 x.op,.int .i64 x.loc,.int .i64 x.reg,.int .i64 x.val])∧Below w.heap.size w w'):=by
 go_enter Try.func50,Try.ntmps50
 go_wp2_with fail
 refine bodyPost_ret (v:=.agg #[.int .i64 x.op,.int .i64 x.loc,.int .i64 x.reg,.int .i64 x.val]) (by simp [results,Try.results50,go_sem]) rfl ?_
 refine⟨rfl,?_⟩
 repeat (first | exact Below.refl _ _ | (refine Below.alloc ?_ (by simp <;> omega) _) | refine Below.setCell ?_ (by simp <;> omega) _)
def RetOwI (w:World) (xs:List Ins) (e:Ending) (w':World):Prop:=∃ v F,e=.returned v∧OwI w' v xs F∧F.Nodup∧(∀ b∈F,w.heap.size≤b)∧Below w.heap.size w w'
def RetOwPr (w:World) (p:Prg) (e:Ending) (w':World):Prop:=∃ v F,e=.returned v∧OwPr w' v p F∧F.Nodup∧(∀ b∈F,w.heap.size≤b)∧Below w.heap.size w w'
theorem cells4 {w:World} {b:Nat} {t:TypeId} {n:Nat} {F:Nat→Value} (h:w.rowIs b t n F) {k:Nat} (hk:k*4+4≤n):
  (w.cell? ⟨b,k*4,none⟩=some (F (k*4))∧w.cell? ⟨b,k*4+1,none⟩=some (F (k*4+1))∧w.cell? ⟨b,k*4+2,none⟩=some (F (k*4+2))∧w.cell? ⟨b,k*4+3,none⟩=some (F (k*4+3))) ∧
   w.frozen? ⟨b,k*4,none⟩=false∧w.frozen? ⟨b,k*4+1,none⟩=false∧w.frozen? ⟨b,k*4+2,none⟩=false∧w.frozen? ⟨b,k*4+3,none⟩=false:=
 ⟨⟨h.cell (by omega),h.cell (by omega),h.cell (by omega),h.cell (by omega)⟩,h.frozen _,h.frozen _,h.frozen _,h.frozen _⟩
def up4 (F:Nat→Value) (k:Nat) (v0 v1 v2 v3:Value):Nat→Value:=fun j=>if j=k*4+3 then v3 else if j=k*4+2 then v2 else if j=k*4+1 then v1 else if j=k*4 then v0 else F j
theorem up4_other (F:Nat→Value) {k i j:Nat} (v0 v1 v2 v3:Value) (h:i≠k) (hj:j<4):up4 F k v0 v1 v2 v3 (i*4+j)=F (i*4+j):=by
 unfold up4
 rw [if_neg (by omega),if_neg (by omega),if_neg (by omega),if_neg (by omega)]
theorem up4_self (F:Nat→Value) (k:Nat) (v0 v1 v2 v3:Value):up4 F k v0 v1 v2 v3 (k*4+0)=v0∧up4 F k v0 v1 v2 v3 (k*4+1)=v1∧up4 F k v0 v1 v2 v3 (k*4+2)=v2∧up4 F k v0 v1 v2 v3 (k*4+3)=v3:=by
 unfold up4
 refine⟨?_,?_,?_,?_⟩
 ·rw [if_neg (by omega),if_neg (by omega),if_neg (by omega),if_pos (by omega)]
 ·rw [if_neg (by omega),if_neg (by omega),if_pos rfl]
 ·rw [if_neg (by omega),if_pos rfl]
 ·rw [if_pos rfl]
theorem row_set4 {w:World} {b:Nat} {t:TypeId} {n:Nat} {F:Nat→Value} (h:w.rowIs b t n F) (k:Nat) (v0 v1 v2 v3:Value):
  ((((w.setCell ⟨b,k*4,none⟩ v0).setCell ⟨b,k*4+1,none⟩ v1).setCell ⟨b,k*4+2,none⟩ v2).setCell ⟨b,k*4+3,none⟩ v3).rowIs b t n (up4 F k v0 v1 v2 v3):=
 (((h.set (k*4) v0).set (k*4+1) v1).set (k*4+2) v2).set (k*4+3) v3
theorem below_s4 {B b o0 o1 o2 o3:Nat} {a w:World} (h:Below B a w) (hb:B≤b) (v0 v1 v2 v3:Value):
  Below B a ((((w.setCell ⟨b,o0,none⟩ v0).setCell ⟨b,o1,none⟩ v1).setCell ⟨b,o2,none⟩ v2).setCell ⟨b,o3,none⟩ v3):=
 (((h.setCell (p:=⟨b,o0,none⟩) hb _).setCell (p:=⟨b,o1,none⟩) hb _).setCell (p:=⟨b,o2,none⟩) hb _).setCell (p:=⟨b,o3,none⟩) hb _
set_option maxHeartbeats 1000000 in
theorem toInsS_any (xs:List Ins) (hlen:xs.length≤1048576) (w:World) (A:Option Addr) (c:Nat) (hr:InsS w (.slice A xs.length c) xs):
  Calls Try.prog 25 #[.slice A xs.length c] w (RetOwI w xs):=by
 have hmk:=run_make_any (P:=Try.prog) 51 84 _ 4 32 Try.underlying51 Try.infoIns xs.length (by omega) (by omega)
 go_enter Try.func25,Try.ntmps25
 go_wp2_with fail
 clear hmk
 go_loopg [4] xs.length (fun g s4 wr=>∃ (k:Nat) (F:Nat→Value),k≤xs.length∧g=xs.length-k∧s4=.int .i64 k∧Below w.heap.size w wr ∧
  wr.rowIs w.heap.size 84 (xs.length*4) F∧Hid (∀ i (h:i<k) (h':i<xs.length),QIns (fun j=>F (i*4+j)) xs[i]))
 case atStart=>
  obtain⟨F,hF⟩:=rowIs_made_any w #[.int .i64 0,.int .i64 0,.int .i64 0,.int .i64 0] (xs.length*4) 84
  exact⟨0,F,Nat.zero_le _,rfl,rfl,(Below.refl _ _).alloc (Nat.le_refl _) _,hF,fun i h=>absurd h (Nat.not_lt_zero _)⟩
 case round=>
  obtain⟨k,F,hk,rfl,rfl,hb,hF,hall⟩:=hrel
  by_cases hlt:k<xs.length
  ·obtain⟨b,o,rfl,hbl,k0,k1,k2,k3⟩:=(InsS.le hr (Le.below hb)).get hlt
   clear hr
   go_wp2_with fail
   refine (toIns_any xs[k] _).mono ?_
   rintro e' w' ⟨rfl,hb'⟩
   have hF':w'.rowIs w.heap.size 84 (xs.length*4) F:=hF.of_block (hb'.block _ hF.lt)
   obtain⟨⟨f0,f1,f2,f3⟩,g0,g1,g2,g3⟩:=cells4 hF' (k:=k) (by omega)
   clear k0 k1 k2 k3
   go_wp2_with fail
   go_roundg (xs.length-(k+1))
   case measure=>omega
   case rel=>
    refine⟨k+1,_,by omega,rfl,by go_num,below_s4 (hb.trans (hb'.mono hb.size)) (Nat.le_refl _) _ _ _ _,row_set4 hF' k _ _ _ _,fun i hi hi'=>?_⟩
    by_cases e:i=k
    ·subst e
     exact up4_self _ _ _ _ _ _
    ·exact qins_congr _ _ _ (fun j hj=>(up4_other _ _ _ _ _ e hj).symm) (hall.out i (by omega) hi')
  ·go_wp2_with fail
   go_ret
   obtain rfl:k=xs.length:=by omega
   refine⟨_,_,rfl,OwRow.made (fun _=>[]) hF (Nat.le_refl _) (Nat.le_refl _) (by omega) (fun i hi=>⟨hall.out i hi hi,rfl⟩),?_,?_,hb⟩
   ·rw [flat_ft _ _ (fun _ _=>rfl)]; simp
   ·rw [flat_ft _ _ (fun _ _=>rfl)]; simp
set_option maxHeartbeats 1000000 in
theorem toInsSS_any (p:Prg) (hlen:p.length≤1048576) (hlens:∀ xs∈p,xs.length≤1048576) (w:World) (A:Option Addr) (c:Nat) (hr:PrgS w (.slice A p.length c) p):
  Calls Try.prog 7 #[.slice A p.length c] w (RetOwPr w p):=by
 have hmk:=run_make_any (P:=Try.prog) 27 51 _ 1 24 Try.underlying27 Try.infoInsS p.length (by omega) (by omega)
 go_enter Try.func7,Try.ntmps7
 go_wp2_with fail
 clear hmk
 go_loopg [4] p.length (fun g s4 wr=>∃ (k:Nat) (G:Nat→Value) (Fs:Nat→List Nat),k≤p.length∧g=p.length-k∧s4=.int .i64 k∧Below w.heap.size w wr ∧
  wr.rowIs w.heap.size 51 p.length G∧Hid (Fill 1 PInsS wr w.heap.size w.heap.size G p k Fs))
 case atStart=>
  obtain⟨F,hF⟩:=rowIs_made_any w #[.slice none 0 0] (p.length*1) 51
  rw [Nat.mul_one] at hF
  first
   | exact⟨0,F,_,Nat.zero_le _,rfl,rfl,(Below.refl _ _).alloc (Nat.le_refl _) _,hF,Fill.zero _ _ _ _ _ _⟩
   | exact⟨0,F,_,Nat.zero_le _,rfl,rfl,(Below.refl _ _).alloc (Nat.le_refl _) _,by simpa using hF,Fill.zero _ _ _ _ _ _⟩
 case round=>
  obtain⟨k,G,Fs,hk,rfl,rfl,hb,hF,hfill⟩:=hrel
  by_cases hlt:k<p.length
  ·obtain⟨b,o,A0,c0,rfl,hbl,k0,_,hre⟩:=SlR.getSub (PrgS.le hr (Le.below hb)) hlt
   clear hr
   have hgl:=hF.lt
   go_wp2_with fail
   refine (toInsS_any p[k] (hlens _ (List.getElem_mem hlt)) _ _ _ hre).mono ?_
   rintro e' w' ⟨v',F',rfl,how,hnd,hge,hb'⟩
   obtain⟨A',c',rfl,_⟩:=how.slice
   have hF':w'.rowIs w.heap.size 51 p.length G:=hF.of_block (hb'.block _ hF.lt)
   have f0:=hF'.cell hlt
   have g0:=hF'.frozen k
   have How:=Lib.hid how
   have Hnd:=Lib.hid hnd
   have Hge:=Lib.hid hge
   clear k0 hre how hnd hge
   go_wp2_with fail
   go_roundg (p.length-(k+1))
   case measure=>omega
   case rel=>
    refine⟨k+1,_,fun i=>if i=k then F' else Fs i,by omega,rfl,by go_num,(hb.trans (hb'.mono hb.size)).setCell (p:=⟨w.heap.size,k,none⟩) (Nat.le_refl _) _,hF'.set k _,?_⟩
    refine Fill.step (P:=PInsS) pinsS_loc hfill.out hlt (cs:=fun _=>.slice A' p[k].length c') hb.size hgl hb' How.out Hge.out Hnd.out (fun b hne _=>Below.heap_setCell _ _ _ _ hne) (fun j hj=>?_) (fun t j ht hj=>?_)
    ·obtain rfl:j=0:=by omega
     simp
    ·obtain rfl:j=0:=by omega
     simp [ht]
  ·go_wp2_with fail
   go_ret
   obtain rfl:k=p.length:=by omega
   obtain⟨F,h1,h2,h3⟩:=hfill.out.done hF (Nat.le_refl _) (by omega) (by omega) (Nat.le_refl _)
   exact⟨_,F,rfl,h1,h2,h3,hb⟩
end Go.Proofs.Ytojmofnamppbdaa
namespace Go.Proofs.Ytojmofnamppbdaa
open Go.RowKit
set_option linter.unusedVariables false
set_option maxRecDepth 100000
set_option maxHeartbeats 400000 in
theorem eqIns_any (x:Ins) (w:World):Calls Try.prog 56 #[.agg #[.int .i64 x.op,.int .i64 x.loc,.int .i64 x.reg,.int .i64 x.val],.agg #[.int .i64 x.op,.int .i64 x.loc,.int .i64 x.reg,.int .i64 x.val]] w (RetB w true):=by
 have hb2:Below w.heap.size w ((w.alloc (.cells #[.int .i64 x.op,.int .i64 x.loc,.int .i64 x.reg,.int .i64 x.val] 84)).alloc (.cells #[.int .i64 x.op,.int .i64 x.loc,.int .i64 x.reg,.int .i64 x.val] 84)):=(((Below.refl _ _).alloc (Nat.le_refl _) _).alloc (by simp) _)
 have Hb2:=Lib.hid hb2
 clear hb2
 go_enter Try.func56,Try.ntmps56
 go_wp2_with fail
 go_ret
 exact⟨rfl,Hb2.out⟩
set_option maxHeartbeats 1000000 in
theorem eqInsS_any (xs:List Ins) (w:World) (v u:Value) (hr:InsS w v xs) (hr':InsS w u xs):Calls Try.prog 29 #[v,u] w (RetB w true):=by
 obtain⟨A,c,rfl,hm⟩:=hr.slice
 obtain⟨A',c',rfl,hm'⟩:=hr'.slice
 go_enter Try.func29,Try.ntmps29
 go_wp2_with fail
 go_loopg [5] xs.length (fun g s5 wr=>∃ k:Nat,k≤xs.length∧g=xs.length-k∧s5=.int .i64 k∧Below w.heap.size w wr)
 case atStart=>exact⟨0,Nat.zero_le _,rfl,rfl,Below.refl _ _⟩
 case round=>
  obtain⟨k,hk,rfl,rfl,hb⟩:=hrel
  by_cases hlt:k<xs.length
  ·obtain⟨b,o,rfl,hbl,k0,k1,k2,k3⟩:=(InsS.le hr (Le.below hb)).get hlt
   obtain⟨b',o',rfl,hbl',d0,d1,d2,d3⟩:=(InsS.le hr' (Le.below hb)).get hlt
   clear hr hr'
   go_wp2_with fail
   go_still_tail 8,(by kernel_rfl)
   go_wp2_with fail
   refine (eqIns_any xs[k] _).mono ?_
   rintro e' w' ⟨rfl,hb'⟩
   have hb'':=hb.drew.trans (hb'.mono hb.size)
   clear k0 k1 k2 k3 d0 d1 d2 d3 hbl hbl'
   go_wp2_with fail
   go_roundg (xs.length-(k+1))
   case measure=>omega
   case rel=>exact⟨k+1,by omega,rfl,by go_num,hb''⟩
  ·obtain rfl:k=xs.length:=by omega
   go_wp2_with fail
   go_ret
   exact⟨rfl,hb⟩
set_option maxHeartbeats 1000000 in
theorem eqInsSS_any (p:Prg) (w:World) (v u:Value) (hr:PrgS w v p) (hr':PrgS w u p):Calls Try.prog 11 #[v,u] w (RetB w true):=by
 obtain⟨A,c,rfl,hm⟩:=hr.slice
 obtain⟨A',c',rfl,hm'⟩:=hr'.slice
 go_enter Try.func11,Try.ntmps11
 go_wp2_with fail
 go_loopg [5] p.length (fun g s5 wr=>∃ k:Nat,k≤p.length∧g=p.length-k∧s5=.int .i64 k∧Below w.heap.size w wr)
 case atStart=>exact⟨0,Nat.zero_le _,rfl,rfl,Below.refl _ _⟩
 case round=>
  obtain⟨k,hk,rfl,rfl,hb⟩:=hrel
  by_cases hlt:k<p.length
  ·obtain⟨b,o,A1,c1,rfl,hbl,k0,_,hx⟩:=SlR.getSub (PrgS.le hr (Le.below hb)) hlt
   obtain⟨b',o',A2,c2,rfl,hbl',d0,_,hy⟩:=SlR.getSub (PrgS.le hr' (Le.below hb)) hlt
   clear hr hr'
   go_wp2_with fail
   go_still_tail 8,(by kernel_rfl)
   go_wp2_with fail
   refine (eqInsS_any p[k] _ _ _ (InsS.le hx (Le.drew _)) (InsS.le hy (Le.drew _))).mono ?_
   rintro e' w' ⟨rfl,hb'⟩
   have hb'':=hb.drew.trans (hb'.mono hb.size)
   clear k0 d0 hbl hbl' hx hy
   go_wp2_with fail
   go_roundg (p.length-(k+1))
   case measure=>omega
   case rel=>exact⟨k+1,by omega,rfl,by go_num,hb''⟩
  ·obtain rfl:k=p.length:=by omega
   go_wp2_with fail
   go_ret
   exact⟨rfl,hb⟩
def mkI (k:Nat) (_:Ins):Ins:=⟨k,(k:Int)+1,(k:Int)+1+1,(k:Int)+1+1+1⟩
def RetMkI (w:World) (v:Value) (xs:List Ins) (F:List Nat) (k:Nat) (e:Ending) (w':World):Prop:=
 e=.returned (.int .i64 ((k+4*xs.length:Nat):Int))∧OwI w' v (mkG mkI (fun _=>4) k xs) F∧MvO F w w'
theorem wSum4 {α:Type} (n:Nat) (xs:List α):wSum (fun _=>n) xs=n*xs.length:=by
 induction xs with
 | nil=>simp [wSum]
 | cons x xs ih=>rw [wSum,ih,List.length_cons,Nat.mul_add]; omega
set_option maxHeartbeats 1000000 in
theorem markInsS_any (xs:List Ins) (w:World) (v:Value) (F:List Nat) (k:Nat) (h:OwI w v xs F) (hnd:F.Nodup) (hk:k+4*xs.length<10 ^ 18):Calls Try.prog 30 #[v,.int .i64 k] w (RetMkI w v xs F k):=by
 obtain⟨A,c,rfl,_,hlen⟩:=h.slice
 go_enter Try.func30,Try.ntmps30
 go_wp2_with fail
 go_loopg [1,5] xs.length (fun g s1 s5 wr=>∃ i:Nat,i≤xs.length∧g=xs.length-i∧s5=.int .i64 i∧s1=.int .i64 ((k+4*i:Nat):Int)∧OwI wr (.slice A xs.length c) (midG mkI (fun _=>4) k xs i) F∧MvO F w wr)
 case atStart=>exact⟨0,Nat.zero_le _,rfl,rfl,rfl,by rw [midG_zero]; exact h,MvO.refl _ _⟩
 case round=>
  obtain⟨i,hi,rfl,rfl,rfl,ho,m⟩:=hrel
  by_cases hlt:i<xs.length
  ·have hml:=midG_length mkI (fun _=>4) k xs i hi
   obtain⟨g,N,G,Fi,rfl,hn',hgl,hgF,hsub,hndi,hgi,hrow,hN,⟨⟨q0,q1,q2,q3⟩,rfl⟩,hback⟩:=ho.elem pins_loc hnd (i:=i) (by omega)
   obtain⟨⟨c0,c1,c2,c3⟩,z0,z1,z2,z3⟩:=cells4 hrow (k:=i) (by omega)
   have hset:=midG_set mkI (fun _=>4) k xs i hlt
   rw [wSum4,List.length_take,show min i xs.length=i by omega] at hset
   obtain⟨q,hq⟩:∃ q:Nat,q=k+4*i:=⟨_,rfl⟩
   rw [← hq] at hset ⊢
   have hq1:q+4<10 ^ 18:=by omega
   have hnx:q+4=k+4*(i+1):=by omega
   have hW:=row_set4 hrow i (.int .i64 q) (.int .i64 ((q:Int)+1)) (.int .i64 ((q:Int)+1+1)) (.int .i64 ((q:Int)+1+1+1))
   have hres:=hback _ _ (mkI q xs[i]) hW (fun t j ht hj=>up4_other _ _ _ _ _ ht hj) (fun b hb hne _=>(Below.heap_setCell _ _ _ _ hne).trans ((Below.heap_setCell _ _ _ _ hne).trans ((Below.heap_setCell _ _ _ _ hne).trans (Below.heap_setCell _ _ _ _ hne)))) ⟨up4_self _ _ _ _ _ _,rfl⟩
   rw [hset] at hres
   have Hres:=Lib.hid hres
   have hm4:=(((m.set (p:=⟨g,i*4,none⟩) hgF (.int .i64 q)).set (p:=⟨g,i*4+1,none⟩) hgF (.int .i64 ((q:Int)+1))).set (p:=⟨g,i*4+2,none⟩) hgF (.int .i64 ((q:Int)+1+1))).set (p:=⟨g,i*4+3,none⟩) hgF (.int .i64 ((q:Int)+1+1+1))
   have Hm4:=Lib.hid hm4
   have Nx:=Lib.hid hnx
   clear hback hset hnx hn' hml hq ho h hrow hres hm4 hW q0 q1 q2 q3
   go_wp2_with fail
   go_roundg (xs.length-(i+1))
   case measure=>omega
   case rel=>exact⟨i+1,by omega,rfl,by go_num,congrArg (Value.int .i64) (by have:=Nx.out; omega),Hres.out,Hm4.out⟩
  ·obtain rfl:i=xs.length:=by omega
   go_wp2_with fail
   go_ret
   rw [midG_all] at ho
   exact⟨rfl,ho,m⟩
def mkIs (k:Nat) (xs:List Ins):List Ins:=mkG mkI (fun _=>4) k xs
def wtIs (xs:List Ins):Nat:=4*xs.length
def RetMkPr (w:World) (v:Value) (p:Prg) (F:List Nat) (k:Nat) (e:Ending) (w':World):Prop:=
 e=.returned (.int .i64 ((k+wSum wtIs p:Nat):Int))∧OwPr w' v (mkG mkIs wtIs k p) F∧MvO F w w'
set_option maxHeartbeats 1000000 in
theorem markInsSS_any (p:Prg) (w:World) (v:Value) (F:List Nat) (k:Nat) (h:OwPr w v p F) (hnd:F.Nodup) (hk:k+wSum wtIs p<10 ^ 18):Calls Try.prog 12 #[v,.int .i64 k] w (RetMkPr w v p F k):=by
 obtain⟨A,c,rfl,_,hlen⟩:=h.slice
 go_enter Try.func12,Try.ntmps12
 go_wp2_with fail
 go_loopg [1,5] p.length (fun g s1 s5 wr=>∃ i:Nat,i≤p.length∧g=p.length-i∧s5=.int .i64 i∧s1=.int .i64 ((k+wSum wtIs (p.take i):Nat):Int)∧OwPr wr (.slice A p.length c) (midG mkIs wtIs k p i) F∧MvO F w wr)
 case atStart=>exact⟨0,Nat.zero_le _,rfl,rfl,by simp [wSum],by rw [midG_zero]; exact h,MvO.refl _ _⟩
 case round=>
  obtain⟨i,hi,rfl,rfl,rfl,ho,m⟩:=hrel
  by_cases hlt:i<p.length
  ·have hml:=midG_length mkIs wtIs k p i hi
   obtain⟨g,N,G,Fi,rfl,hn',hgl,hgF,hsub,hndi,hgi,hrow,hN,hPi,hback⟩:=ho.elem pinsS_loc hnd (i:=i) (by omega)
   rw [midG_get mkIs wtIs k p i hlt] at hPi
   have hPi':OwI wr (G (i*1+0)) p[i] Fi:=hPi
   rw [Nat.mul_one,Nat.add_zero] at hPi'
   obtain⟨A1,c1,hv,_⟩:=hPi'.slice
   rw [hv] at hPi'
   have c0:=hrow.cell (i:=i) (by omega)
   rw [hv] at c0
   have hset:=midG_set mkIs wtIs k p i hlt
   have hct:=wSum_take_succ wtIs p i hlt
   have hcl:=wSum_take_le wtIs p (i+1)
   have hwt:wtIs p[i]=4*p[i].length:=rfl
   obtain⟨q,hq⟩:∃ q:Nat,q=k+wSum wtIs (p.take i):=⟨_,rfl⟩
   rw [← hq] at hset ⊢
   have hcall:=markInsS_any p[i] wr _ Fi q hPi' hndi (by omega)
   have hnx:q+4*p[i].length=k+wSum wtIs (p.take (i+1)):=by omega
   have Nx:=Lib.hid hnx
   have Back:=Lib.hid hback
   have Set:=Lib.hid hset
   have Hrow:=Lib.hid hrow
   have Hv:=Lib.hid hv
   have Flt:=Lib.hid (ho.lt pinsS_loc)
   clear hback hset hnx hn' hml hct hcl hq ho h hPi hPi' hrow hv hwt
   go_wp2_with fail
   refine hcall.mono ?_
   rintro e2 w2 ⟨rfl,ho2,m2⟩
   have hr2:=Hrow.out.of_block (m2.block g hgl hgi)
   have hres:=Back.out w2 G (mkIs q p[i]) hr2 (fun t j _ _=>rfl) (fun b hb hne hni=>m2.block b (Flt.out b hb) hni) (by show OwI w2 (G (i*1+0)) _ Fi; rw [Nat.mul_one,Nat.add_zero,Hv.out]; exact ho2)
   rw [Set.out] at hres
   have Hres:=Lib.hid hres
   have hm:=m.trans (m2.mono hsub)
   clear hcall m2 ho2 hres hr2 m c0
   go_wp2_with fail
   go_roundg (p.length-(i+1))
   case measure=>omega
   case rel=>exact⟨i+1,by omega,rfl,by go_num,congrArg (Value.int .i64) (by have:=Nx.out; omega),Hres.out,hm⟩
  ·obtain rfl:i=p.length:=by omega
   go_wp2_with fail
   go_ret
   rw [midG_all] at ho
   rw [List.take_length]
   exact⟨rfl,ho,m⟩
end Go.Proofs.Ytojmofnamppbdaa
