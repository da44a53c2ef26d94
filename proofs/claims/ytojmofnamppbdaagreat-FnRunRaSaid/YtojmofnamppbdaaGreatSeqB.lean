/-
  A state with one memory in a block; the walks of what reads it. The walks of the machine with one memory: done, moves, after, key, outcome.
-/
import Derived.Test.YtojmofnamppbdaaGreatPlM
import Derived.Test.YtojmofnamppbdaaGreatImPa
import Derived.Test.YtojmofnamppbdaaGreatThr2
import Derived.Deep.RegionLaw
import Derived.Deep.RegionWith
import Derived.StillTailTactics
namespace Go.Proofs.YtojmofnamppbdaaGreat
open Go.RowKit
set_option linter.unusedVariables false
set_option maxRecDepth 100000
def pcV (s:St) (t:Nat):Value:=.int .u8 ((pcS s t:Nat):Int)
def rgF (s:St) (i:Nat):Int:=s.regs.getD i 0
def meF (s:St) (l:Nat):Int:=s.mem.getD l 0
def rgV (s:St) (i:Nat):Value:=.int .u8 (rgF s i)
def meV (s:St) (l:Nat):Value:=.int .u8 (meF s l)
def seqC (Ap:Option Addr) (cp:Nat) (p:Prg) (s:St):Array Value:=
 #[.slice Ap p.length cp,pcV s 0,pcV s 1,pcV s 2,rgV s 0,rgV s 1,rgV s 2,rgV s 3,rgV s 4,rgV s 5,rgV s 6,rgV s 7,rgV s 8,meV s 0,meV s 1,meV s 2]
def SeqO (W:World) (b:Nat) (Ap:Option Addr) (cp:Nat) (p:Prg) (s:St):Prop:=Own W b 123 (seqC Ap cp p s)
section
variable {W W':World} {b:Nat} {Ap:Option Addr} {cp:Nat} {p:Prg} {s:St}
theorem SeqO.pc (h:SeqO W b Ap cp p s) {t:Nat} (ht:t<3):W.cell? ⟨b,1+t,none⟩=some (.int .u8 ((pcS s t:Nat):Int)):=by
 match t,ht with
 | 0,_=>exact Own.cell h (i:=1) rfl
 | 1,_=>exact Own.cell h (i:=2) rfl
 | 2,_=>exact Own.cell h (i:=3) rfl
theorem SeqO.reg (h:SeqO W b Ap cp p s) {i:Nat} (hi:i<9):W.cell? ⟨b,4+i,none⟩=some (.int .u8 (rgF s i)):=by
 match i,hi with
 | 0,_=>exact Own.cell h (i:=4) rfl
 | 1,_=>exact Own.cell h (i:=5) rfl
 | 2,_=>exact Own.cell h (i:=6) rfl
 | 3,_=>exact Own.cell h (i:=7) rfl
 | 4,_=>exact Own.cell h (i:=8) rfl
 | 5,_=>exact Own.cell h (i:=9) rfl
 | 6,_=>exact Own.cell h (i:=10) rfl
 | 7,_=>exact Own.cell h (i:=11) rfl
 | 8,_=>exact Own.cell h (i:=12) rfl
theorem SeqO.mem (h:SeqO W b Ap cp p s) {l:Nat} (hl:l<3):W.cell? ⟨b,13+l,none⟩=some (.int .u8 (meF s l)):=by
 match l,hl with
 | 0,_=>exact Own.cell h (i:=13) rfl
 | 1,_=>exact Own.cell h (i:=14) rfl
 | 2,_=>exact Own.cell h (i:=15) rfl
end
def SeqL (W:World) (b:Nat) (Ap:Option Addr) (cp:Nat) (p:Prg) (s:St):Prop:=∀ i v,(seqC Ap cp p s)[i]?=some v→W.cell? ⟨b,i,none⟩=some v
section
variable {W W':World} {b:Nat} {Ap:Option Addr} {cp:Nat} {p:Prg} {s:St}
theorem SeqO.l (h:SeqO W b Ap cp p s):SeqL W b Ap cp p s:=fun i v hv=>Own.cell h hv
theorem SeqL.prg (h:SeqL W b Ap cp p s):W.cell? ⟨b,0,none⟩=some (.slice Ap p.length cp):=h 0 _ rfl
theorem SeqL.pc (h:SeqL W b Ap cp p s) {t:Nat} (ht:t<3):W.cell? ⟨b,1+t,none⟩=some (.int .u8 ((pcS s t:Nat):Int)):=by
 match t,ht with
 | 0,_=>exact h 1 _ rfl
 | 1,_=>exact h 2 _ rfl
 | 2,_=>exact h 3 _ rfl
theorem SeqL.reg (h:SeqL W b Ap cp p s) {i:Nat} (hi:i<9):W.cell? ⟨b,4+i,none⟩=some (.int .u8 (rgF s i)):=by
 match i,hi with
 | 0,_=>exact h 4 _ rfl
 | 1,_=>exact h 5 _ rfl
 | 2,_=>exact h 6 _ rfl
 | 3,_=>exact h 7 _ rfl
 | 4,_=>exact h 8 _ rfl
 | 5,_=>exact h 9 _ rfl
 | 6,_=>exact h 10 _ rfl
 | 7,_=>exact h 11 _ rfl
 | 8,_=>exact h 12 _ rfl
theorem SeqL.mem (h:SeqL W b Ap cp p s) {l:Nat} (hl:l<3):W.cell? ⟨b,13+l,none⟩=some (.int .u8 (meF s l)):=by
 match l,hl with
 | 0,_=>exact h 13 _ rfl
 | 1,_=>exact h 14 _ rfl
 | 2,_=>exact h 15 _ rfl
theorem SeqL.le (h:SeqL W b Ap cp p s) (hl:Le W W'):SeqL W' b Ap cp p s:=fun i v hv=>hl _ _ (h i v hv)
theorem SeqL.lt (h:SeqL W b Ap cp p s):b<W.heap.size:=World.block_lt_of_cell? _ _ h.prg
theorem SeqL.under (h:SeqL W b Ap cp p s) (hb:Below W.heap.size W W'):SeqL W' b Ap cp p s:=h.le (Le.below hb)
theorem SeqL.drew (h:SeqL W b Ap cp p s):SeqL W.drew b Ap cp p s:=h
theorem SeqL.far (h:SeqL W b Ap cp p s) {a:Addr} (ha:b≠a.block) (v:Value):SeqL (W.setCell a v) b Ap cp p s:=fun i u hu=>by
 have hne:a≠(⟨b,i,none⟩:Addr):=fun e=>by subst e; exact absurd rfl ha
 exact (World.cell?_setCell_other W a _ v hne).trans (h i u hu)
end
theorem thrP_get {p:Prg} {t:Nat} (h:t<p.length):thrP p t=p[t]:=by
 unfold thrP
 rw [List.getD_eq_getElem?_getD,List.getElem?_eq_getElem h]
 rfl
def RetNx (W:World) (p:Prg) (s:St) (t:Nat) (e:Ending) (W':World):Prop:=
 e=.returned (if onS p s t=true then .tuple #[.agg #[.int .i64 (insS p s t).op,.int .i64 (insS p s t).loc,.int .i64 (insS p s t).reg,.int .i64 (insS p s t).val],.bool true] else .tuple #[.agg #[.int .i64 0,.int .i64 0,.int .i64 0,.int .i64 0],.bool false])∧Below W.heap.size W W'
set_option maxHeartbeats 1500000 in
theorem next_any (p:Prg) (hp:PrgOk p) (s:St) (hs:StOk p s) (t:Nat) (ht:t<p.length) (W:World) (b:Nat) (Ap:Option Addr) (cp:Nat) (ho:SeqL W b Ap cp p s) (hpr:PrgS W (.slice Ap p.length cp) p):
  Calls Tryz.prog 183 #[.pointer (some ⟨b,0,none⟩),.int .i64 t] W (RetNx W p s t):=by
 have h3:=hp.1.1
 have ht3:t<3:=by omega
 obtain⟨V,hV⟩:∃ V,V=W.alloc (.cells #[.int .i64 0,.int .i64 0,.int .i64 0,.int .i64 0] 50):=⟨_,rfl⟩
 have hlV:Le W V:=by rw [hV]; exact Le.alloc _ _
 have hB:Below W.heap.size W V:=by rw [hV]; exact (Below.refl _ _).alloc (Nat.le_refl _) _
 have oI:Own V W.heap.size 50 #[.int .i64 0,.int .i64 0,.int .i64 0,.int .i64 0]:=by rw [hV]; exact Own.new _ _ _
 obtain⟨bp,op,A1,c1,rfl,hbp,k0,_,hins⟩:=SlR.getSub hpr ht
 obtain⟨th,hth⟩:∃ th,th=p[t]:=⟨_,rfl⟩
 have hte:thrP p t=th:=by rw [hth]; exact thrP_get ht
 rw [← hth] at k0 hins
 have q0:=hlV _ _ ho.prg
 have q1:=hlV _ _ (ho.pc ht3)
 have q2:=hlV _ _ k0
 have HI:Hid (∀ i (h:i<th.length),∃ b o,A1=some ⟨b,o,none⟩∧b<V.heap.size∧V.cell? ⟨b,o+i*4,none⟩=some (.int .i64 th[i].op)∧V.cell? ⟨b,o+i*4+1,none⟩=some (.int .i64 th[i].loc)∧V.cell? ⟨b,o+i*4+2,none⟩=some (.int .i64 th[i].reg)∧V.cell? ⟨b,o+i*4+3,none⟩=some (.int .i64 th[i].val)):=fun i hi=>InsS.get (InsS.le hins hlV) hi
 have hm7:=(thr_ok hp t).1
 have hn7:=hs.pcb t
 rw [hte] at hm7 hn7
 have Hon:Hid (onS p s t=decide (pcS s t<th.length)):=by show onS p s t=_; unfold onS; rw [hte]
 have Hix:Hid (∀ h:pcS s t<th.length,insS p s t=th[pcS s t]):=fun h=>by
  have h':pcS s t<(thrP p t).length:=by rw [hte]; exact h
  rw [ins_get h']
  congr 1
 have hbl:b<V.heap.size:=by have:=ho.lt; have:=hB.size; omega
 have ht':(t:Int)<3:=by omega
 have ht'':(t:Int)<(p.length:Int):=by omega
 generalize pcS s t=n at q1 hn7 Hon Hix
 clear ho hpr k0 hins hlV hte hth
 go_enter Tryz.func183,Tryz.ntmps183
 go_wp2_with fail
 try rw [← hV]
 clear hV
 have f0:=fun n:Ext V=>n.le _ _ q0
 have f1:=fun n:Ext V=>n.le _ _ q1
 have f2:=fun n:Ext V=>n.le _ _ q2
 refine wp_region_ext _ (by kernel_rfl) (by kernel_rfl) (Below.refl _ _) ?_
 repeat (go_big_quiet_step (fail))
 refine wpQuiet_nil ?_
 rintro wn ⟨⟨_,hbn⟩,rfl⟩
 have hBn:=hB.trans (hbn.mono hB.size)
 have oN:=oI.under hbn
 clear f0 f1 f2
 by_cases hlt:n<th.length
 ·have hd:decide (th.length≤n)=false:=by rw [decide_eq_false_iff_not]; omega
  have Hon':Hid (onS p s t=true):=by show _=_; rw [Hon.out,decide_eq_true_iff]; exact hlt
  have Hin:=Lib.hid (Hix.out hlt)
  obtain⟨b1,o1,rfl,hb1,i0,i1,i2,i3⟩:=HI.out n hlt
  have hln:=Le.below hbn
  have r0:=hln _ _ q0
  have r1:=hln _ _ q1
  have r2:=hln _ _ q2
  have i0:=hln _ _ i0
  have i1:=hln _ _ i1
  have i2:=hln _ _ i2
  have i3:=hln _ _ i3
  have z0:=oN.cell (i:=0) rfl
  have z1:=oN.cell (i:=1) rfl
  have z2:=oN.cell (i:=2) rfl
  have z3:=oN.cell (i:=3) rfl
  have y0:=oN.frozen 0
  have y1:=oN.frozen 1
  have y2:=oN.frozen 2
  have y3:=oN.frozen 3
  have hn':(n:Int)<(th.length:Int):=by omega
  generalize th[n]=x at i0 i1 i2 i3 Hin
  clear q0 q1 q2 Hon Hix HI
  go_wp2_with fail
  go_region_with (fail)
  all_goals (go_wp2_with fail)
  all_goals
   refine bodyPost_ret (v:=.tuple #[.agg #[.int .i64 x.op,.int .i64 x.loc,.int .i64 x.reg,.int .i64 x.val],.bool true]) (by simp [results,Tryz.results183,go_sem,z0,z1,z2,z3]) rfl ?_
   refine⟨by rw [Hon'.out,Hin.out]; rfl,?_⟩
   repeat (first | exact hBn | exact hBn.drew | (refine Below.setCell ?_ (by simp) _) | (refine Below.drew ?_))
 ·have hd:decide (th.length≤n)=true:=by rw [decide_eq_true_iff]; omega
  have Hon':Hid (onS p s t=false):=by show _=_; rw [Hon.out,decide_eq_false_iff_not]; exact hlt
  have z0:=oN.cell (i:=0) rfl
  have z1:=oN.cell (i:=1) rfl
  have z2:=oN.cell (i:=2) rfl
  have z3:=oN.cell (i:=3) rfl
  have y0:=oN.frozen 0
  have y1:=oN.frozen 1
  have y2:=oN.frozen 2
  have y3:=oN.frozen 3
  clear q0 q1 q2 Hon Hix HI
  go_wp2_with fail
  all_goals
   refine bodyPost_ret (v:=.tuple #[.agg #[.int .i64 0,.int .i64 0,.int .i64 0,.int .i64 0],.bool false]) (by simp [results,Tryz.results183,go_sem,z0,z1,z2,z3]) rfl ?_
   refine⟨by rw [Hon'.out]; rfl,?_⟩
   repeat (first | exact hBn | exact hBn.drew | (refine Below.setCell ?_ (by simp) _) | (refine Below.drew ?_))
end Go.Proofs.YtojmofnamppbdaaGreat
namespace Go.Proofs.YtojmofnamppbdaaGreat
open Go.RowKit
set_option linter.unusedVariables false
set_option maxRecDepth 100000
theorem below_of_drewS {B:Nat} {a b:World} (h:Below B a.drew b):Below B a b:=⟨h.os,h.tape,h.output,h.size,h.block⟩
section
variable {p:Prg} {s:St} {t:Nat} {W:World} {b:Nat} {Ap:Option Addr} {cp:Nat}
theorem next_on (hp:PrgOk p) (hs:StOk p s) (ht:t<p.length) (ho:SeqL W b Ap cp p s) (hpr:PrgS W (.slice Ap p.length cp) p) (h:onS p s t=true):
  Calls Tryz.prog 183 #[.pointer (some ⟨b,0,none⟩),.int .i64 t] W fun e W'=>e=.returned (.tuple #[.agg #[.int .i64 (insS p s t).op,.int .i64 (insS p s t).loc,.int .i64 (insS p s t).reg,.int .i64 (insS p s t).val],.bool true])∧Below W.heap.size W W':=
 (next_any p hp s hs t ht W b Ap cp ho hpr).mono fun e W' hh=>by
  unfold RetNx at hh
  rwa [h,if_pos rfl] at hh
theorem next_off (hp:PrgOk p) (hs:StOk p s) (ht:t<p.length) (ho:SeqL W b Ap cp p s) (hpr:PrgS W (.slice Ap p.length cp) p) (h:onS p s t=false):
  Calls Tryz.prog 183 #[.pointer (some ⟨b,0,none⟩),.int .i64 t] W fun e W'=>e=.returned (.tuple #[.agg #[.int .i64 0,.int .i64 0,.int .i64 0,.int .i64 0],.bool false])∧Below W.heap.size W W':=
 (next_any p hp s hs t ht W b Ap cp ho hpr).mono fun e W' hh=>by
  unfold RetNx at hh
  rwa [h,if_neg (by decide)] at hh
theorem SeqO.under {W':World} (h:SeqO W b Ap cp p s) (hb:Below W.heap.size W W'):SeqO W' b Ap cp p s:=Own.under h hb
end
theorem doneS_false {p:Prg} {s:St} {t:Nat} (ht:t<p.length) (h:onS p s t=true):doneS p s=false:=by
 unfold doneS
 rw [List.all_eq_false]
 exact⟨t,List.mem_range.2 ht,by rw [h]; decide⟩
theorem doneS_true {p:Prg} {s:St} (h:∀ t,t<p.length→onS p s t=false):doneS p s=true:=by
 unfold doneS
 rw [List.all_eq_true]
 intro t ht
 rw [h t (List.mem_range.1 ht)]
 rfl
set_option maxHeartbeats 1000000 in
theorem allDone_any (p:Prg) (hp:PrgOk p) (s:St) (hs:StOk p s) (W:World) (b:Nat) (Ap:Option Addr) (cp:Nat) (ho:SeqL W b Ap cp p s) (hpr:PrgS W (.slice Ap p.length cp) p):
  Calls Tryz.prog 177 #[.pointer (some ⟨b,0,none⟩)] W (RetB W (doneS p s)):=by
 have q0:=ho.prg
 have h3:=hp.1.1
 go_enter Tryz.func177,Tryz.ntmps177
 go_wp2_with fail
 go_loopg [11] p.length (fun g s11 wr=>∃ i:Nat,i≤p.length∧g=p.length-i∧s11=.int .i64 i∧Hid (∀ j,j<i→onS p s j=false)∧Below W.heap.size W wr)
 case atStart=>exact⟨0,Nat.zero_le _,rfl,rfl,fun j h=>absurd h (Nat.not_lt_zero _),Below.refl _ _⟩
 case round=>
  obtain⟨i,hi,rfl,rfl,hall,hb⟩:=hrel
  by_cases hlt:i<p.length
  ·have hO:=ho.under hb
   have hP:=PrgS.le hpr (Le.below hb)
   cases hon:onS p s i
   ·have hc:=next_off hp hs hlt hO hP hon
    have Hall:Hid (∀ j,j<i+1→onS p s j=false):=fun j hj=>by
     rcases Nat.lt_succ_iff_lt_or_eq.1 hj with h | h
     ·exact hall.out j h
     ·rw [h]; exact hon
    clear hon hall hO hP q0
    go_wp2_with fail
    refine hc.mono ?_
    rintro e5 w5 ⟨rfl,hb5⟩
    have hB5:=hb.trans (hb5.mono hb.size)
    clear hc
    go_wp2_with fail
    go_roundg (p.length-(i+1))
    case measure=>omega
    case rel=>exact⟨i+1,by omega,rfl,by go_num,Hall,hB5.alloc hB5.size _⟩
   ·have hc:=next_on hp hs hlt hO hP hon
    have Hd:=Lib.hid (doneS_false hlt hon)
    clear hon hall hO hP q0
    go_wp2_with fail
    refine hc.mono ?_
    rintro e5 w5 ⟨rfl,hb5⟩
    have hB5:=hb.trans (hb5.mono hb.size)
    clear hc
    go_wp2_with fail
    go_ret
    exact⟨ret_bool Hd.out.symm,hB5.alloc hB5.size _⟩
  ·obtain rfl:i=p.length:=by omega
   have Hd:Hid (doneS p s=true):=doneS_true hall.out
   clear hall
   go_wp2_with fail
   go_ret
   exact⟨ret_bool Hd.out.symm,hb⟩
theorem seqC_pc {Ap:Option Addr} {cp:Nat} {p:Prg} {s:St} {t v:Nat} (ht:t<3) (hl:t<s.pc.length):
  (seqC Ap cp p s).setIfInBounds (1+t) (.int .u8 ((v:Nat):Int))=seqC Ap cp p ⟨s.pc.set t v,s.regs,s.mem⟩:=by
 match t,ht with
 | 0,_=>simp [seqC,pcV,pcS,rgV,meV,rgF,meF,hl]
 | 1,_=>simp [seqC,pcV,pcS,rgV,meV,rgF,meF,hl]
 | 2,_=>simp [seqC,pcV,pcS,rgV,meV,rgF,meF,hl]
theorem seqC_reg {Ap:Option Addr} {cp:Nat} {p:Prg} {s:St} {i:Nat} {v:Int} (hi:i<9) (hl:i<s.regs.length):
  (seqC Ap cp p s).setIfInBounds (4+i) (.int .u8 v)=seqC Ap cp p ⟨s.pc,s.regs.set i v,s.mem⟩:=by
 match i,hi with
 | 0,_=>simp [seqC,pcV,pcS,rgV,meV,rgF,meF,hl]
 | 1,_=>simp [seqC,pcV,pcS,rgV,meV,rgF,meF,hl]
 | 2,_=>simp [seqC,pcV,pcS,rgV,meV,rgF,meF,hl]
 | 3,_=>simp [seqC,pcV,pcS,rgV,meV,rgF,meF,hl]
 | 4,_=>simp [seqC,pcV,pcS,rgV,meV,rgF,meF,hl]
 | 5,_=>simp [seqC,pcV,pcS,rgV,meV,rgF,meF,hl]
 | 6,_=>simp [seqC,pcV,pcS,rgV,meV,rgF,meF,hl]
 | 7,_=>simp [seqC,pcV,pcS,rgV,meV,rgF,meF,hl]
 | 8,_=>simp [seqC,pcV,pcS,rgV,meV,rgF,meF,hl]
theorem seqC_mem {Ap:Option Addr} {cp:Nat} {p:Prg} {s:St} {l:Nat} {v:Int} (hi:l<3) (hl:l<s.mem.length):
  (seqC Ap cp p s).setIfInBounds (13+l) (.int .u8 v)=seqC Ap cp p ⟨s.pc,s.regs,s.mem.set l v⟩:=by
 match l,hi with
 | 0,_=>simp [seqC,pcV,pcS,rgV,meV,rgF,meF,hl]
 | 1,_=>simp [seqC,pcV,pcS,rgV,meV,rgF,meF,hl]
 | 2,_=>simp [seqC,pcV,pcS,rgV,meV,rgF,meF,hl]
theorem do_nn {s:St} {t:Nat} {x:Ins} (hr:rdB x=false) (hw:wrB x=false):doS s t x=⟨s.pc.set t (pcS s t+1),s.regs,s.mem⟩:=by
 unfold doS
 rw [hr,hw]
 rfl
theorem do_nw {s:St} {t l:Nat} {x:Ins} (hl:x.loc=(l:Int)) (hr:rdB x=false) (hw:wrB x=true):doS s t x=⟨s.pc.set t (pcS s t+1),s.regs,s.mem.set l (valS s t x)⟩:=by
 unfold doS
 rw [hr,hw,hl,Int.toNat_natCast]
 rfl
theorem do_rn {s:St} {t l r:Nat} {x:Ins} (hl:x.loc=(l:Int)) (hg:x.reg=(r:Int)) (hr:rdB x=true) (hw:wrB x=false):doS s t x=⟨s.pc.set t (pcS s t+1),s.regs.set (t*3+r) (meF s l),s.mem⟩:=by
 unfold doS rgI
 rw [hr,hw,hl,hg,Int.toNat_natCast,Int.toNat_natCast]
 rfl
theorem do_rw {s:St} {t l r:Nat} {x:Ins} (hl:x.loc=(l:Int)) (hg:x.reg=(r:Int)) (hr:rdB x=true) (hw:wrB x=true):doS s t x=⟨s.pc.set t (pcS s t+1),s.regs.set (t*3+r) (meF s l),s.mem.set l (valS s t x)⟩:=by
 unfold doS rgI
 rw [hr,hw,hl,hg,Int.toNat_natCast,Int.toNat_natCast]
 rfl
set_option maxHeartbeats 1000000 in
theorem stored_any (p:Prg) (hp:PrgOk p) (s:St) (hs:StOk p s) (t:Nat) (ht:t<p.length) (x:Ins) (hx:InsOk x) (W:World) (b:Nat) (Ap:Option Addr) (cp:Nat) (ho:SeqL W b Ap cp p s):
  Calls Tryz.prog 186 #[.pointer (some ⟨b,0,none⟩),.int .i64 t,.agg #[.int .i64 x.op,.int .i64 x.loc,.int .i64 x.reg,.int .i64 x.val]] W (fun e W'=>e=.returned (.int .u8 (valS s t x))∧Below W.heap.size W W'):=by
 have h3:=hp.1.1
 obtain⟨V,hV⟩:∃ V,V=W.alloc (.cells #[.int .i64 x.op,.int .i64 x.loc,.int .i64 x.reg,.int .i64 x.val] 50):=⟨_,rfl⟩
 have hlV:Le W V:=by rw [hV]; exact Le.alloc _ _
 have hB:Below W.heap.size W V:=by rw [hV]; exact (Below.refl _ _).alloc (Nat.le_refl _) _
 have oI:Own V W.heap.size 50 #[.int .i64 x.op,.int .i64 x.loc,.int .i64 x.reg,.int .i64 x.val]:=by rw [hV]; exact Own.new _ _ _
 have i0:=oI.cell (i:=0) rfl
 have i1:=oI.cell (i:=1) rfl
 have i2:=oI.cell (i:=2) rfl
 have i3:=oI.cell (i:=3) rfl
 have hvb:=val_03 (p:=p) (t:=t) hs hx
 have Hv:=Lib.hid hvb
 go_enter Tryz.func186,Tryz.ntmps186
 by_cases h:x.op=3
 ·have hr:0≤x.reg∧x.reg≤2:=by
   rcases hx with h' | h' | h' | h' <;> omega
  obtain⟨r,hr2⟩:∃ r:Nat,x.reg=(r:Int):=⟨x.reg.toNat,by omega⟩
  have hval:valS s t x=rgF s (t*3+r):=by
   unfold valS rgI
   rw [if_pos h,hr2,Int.toNat_natCast]
   rfl
  have k0:=hlV _ _ (ho.reg (i:=t*3+r) (by omega))
  rw [show 4+(t*3+r)=4+t*3+r by omega] at k0
  rw [← hval] at k0
  have Hval:=Lib.hid hval
  have i2:V.cell? ⟨W.heap.size,2,none⟩=some (.int .i64 (r:Int)):=by rw [← hr2]; exact oI.cell (i:=2) rfl
  have hop:(x.op == 3)=true:=by rw [beq_iff_eq]; exact h
  have ht3:(t:Int)<3:=by omega
  have hr3:(r:Int)<3:=by omega
  generalize valS s t x=vv at k0 Hval Hv hvb
  have f0:=fun n:Ext V=>n.le _ _ k0
  have f2:=fun n:Ext V=>n.le _ _ i2
  clear ho hlV hx hr hr2 h hval i0 i1 i3
  go_wp2_with fail
  try rw [← hV]
  refine wp_region_ext _ (by kernel_rfl) (by kernel_rfl) (Below.refl _ _) ?_
  repeat (go_big_quiet_step (fail))
  refine wpQuiet_nil ?_
  rintro wn ⟨⟨_,hbn⟩,rfl⟩
  clear f0 f2
  go_wp2_with fail
  go_ret
  exact⟨rfl,hB.trans (hbn.mono hB.size)⟩
 ·have hop:(x.op == 3)=false:=by rw [beq_eq_false_iff_ne]; exact h
  have hval:valS s t x=x.val:=by unfold valS; rw [if_neg h]
  have hm:x.val % 256=x.val:=by
   have h1:=hvb.1
   have h2:=hvb.2
   rw [hval] at h1 h2
   omega
  have Hval:=Lib.hid hval
  rw [hval]
  have HB:=Lib.hid hB
  rw [hV] at HB
  clear ho hlV hx h i0 i1 i2 i3 hval oI
  go_wp2_with fail
  go_ret
  exact⟨rfl,HB.out⟩
def RetSt (W:World) (Ap:Option Addr) (cp:Nat) (p:Prg) (s:St) (e:Ending) (W':World):Prop:=
 ∃ b,e=.returned (.iface 121 (.pointer (some ⟨b,0,none⟩)))∧SeqO W' b Ap cp p s∧W.heap.size≤b∧Below W.heap.size W W'
set_option maxHeartbeats 1500000 in
theorem after_any (p:Prg) (hp:PrgOk p) (s:St) (hs:StOk p s) (t:Nat) (htm:t∈mvS p s) (W:World) (b:Nat) (Ap:Option Addr) (cp:Nat) (ho:SeqL W b Ap cp p s) (hpr:PrgS W (.slice Ap p.length cp) p):
  Calls Tryz.prog 196 #[.pointer (some ⟨b,0,none⟩),.int .i64 t] W (RetSt W Ap cp p (nxS p s t)):=by
 have h3:=hp.1.1
 obtain⟨ht,hpc⟩:=mem_mvS.1 htm
 have hon:onS p s t=true:=by unfold onS; rw [decide_eq_true_iff]; exact hpc
 have hix:=ins_ok hp hpc
 obtain⟨V,hV⟩:∃ V,V=W.alloc (.cells #[.slice Ap p.length cp,.int .u8 ((pcS s 0:Nat):Int),.int .u8 ((pcS s 1:Nat):Int),.int .u8 ((pcS s 2:Nat):Int),.int .u8 (rgF s 0),.int .u8 (rgF s 1),.int .u8 (rgF s 2),.int .u8 (rgF s 3),.int .u8 (rgF s 4),.int .u8 (rgF s 5),.int .u8 (rgF s 6),.int .u8 (rgF s 7),.int .u8 (rgF s 8),.int .u8 (meF s 0),.int .u8 (meF s 1),.int .u8 (meF s 2)] 123):=⟨_,rfl⟩
 have hB:Below W.heap.size W V:=by rw [hV]; exact (Below.refl _ _).alloc (Nat.le_refl _) _
 have oC:SeqO V W.heap.size Ap cp p s:=by rw [hV]; exact Own.new _ _ _
 have oS:SeqL V b Ap cp p s:=ho.under hB
 have c0:W.cell? ⟨b,0,none⟩=some (.slice Ap p.length cp):=ho 0 _ rfl
 have c1:W.cell? ⟨b,1,none⟩=some (.int .u8 ((pcS s 0:Nat):Int)):=ho 1 _ rfl
 have c2:W.cell? ⟨b,2,none⟩=some (.int .u8 ((pcS s 1:Nat):Int)):=ho 2 _ rfl
 have c3:W.cell? ⟨b,3,none⟩=some (.int .u8 ((pcS s 2:Nat):Int)):=ho 3 _ rfl
 have c4:W.cell? ⟨b,4,none⟩=some (.int .u8 (rgF s 0)):=ho 4 _ rfl
 have c5:W.cell? ⟨b,5,none⟩=some (.int .u8 (rgF s 1)):=ho 5 _ rfl
 have c6:W.cell? ⟨b,6,none⟩=some (.int .u8 (rgF s 2)):=ho 6 _ rfl
 have c7:W.cell? ⟨b,7,none⟩=some (.int .u8 (rgF s 3)):=ho 7 _ rfl
 have c8:W.cell? ⟨b,8,none⟩=some (.int .u8 (rgF s 4)):=ho 8 _ rfl
 have c9:W.cell? ⟨b,9,none⟩=some (.int .u8 (rgF s 5)):=ho 9 _ rfl
 have c10:W.cell? ⟨b,10,none⟩=some (.int .u8 (rgF s 6)):=ho 10 _ rfl
 have c11:W.cell? ⟨b,11,none⟩=some (.int .u8 (rgF s 7)):=ho 11 _ rfl
 have c12:W.cell? ⟨b,12,none⟩=some (.int .u8 (rgF s 8)):=ho 12 _ rfl
 have c13:W.cell? ⟨b,13,none⟩=some (.int .u8 (meF s 0)):=ho 13 _ rfl
 have c14:W.cell? ⟨b,14,none⟩=some (.int .u8 (meF s 1)):=ho 14 _ rfl
 have c15:W.cell? ⟨b,15,none⟩=some (.int .u8 (meF s 2)):=ho 15 _ rfl
 have hnx:=next_on hp hs ht oS (PrgS.le hpr (Le.below hB)) hon
 go_enter Tryz.func196,Tryz.ntmps196
 have hxl:(0≤(insS p s t).loc∧(insS p s t).loc≤2)∧(0≤(insS p s t).reg∧(insS p s t).reg≤2):=by
  rcases hix with h | h | h | h <;> omega
 have hp6:pcS s t≤6:=by have:=(thr_ok hp t).1; omega
 have ht3:t<3:=by omega
 have hbW:=ho.lt
 have Hnx:Hid (nxS p s t=doS s t (insS p s t)):=rfl
 generalize insS p s t=x at hnx hix Hnx hxl
 obtain⟨l,hl⟩:∃ l:Nat,x.loc=(l:Int):=⟨x.loc.toNat,by omega⟩
 obtain⟨r,hr⟩:∃ r:Nat,x.reg=(r:Int):=⟨x.reg.toNat,by omega⟩
 have hl3:l<3:=by omega
 have hr3:r<3:=by omega
 have Hix:=Lib.hid hix
 have Hl:=Lib.hid hl
 have Hr:=Lib.hid hr
 clear hix hxl hl hr
 go_wp2_with fail
 rw [← hV]
 refine hnx.mono ?_
 rintro e5 w5 ⟨rfl,hb5⟩
 have hB5:=hB.trans (hb5.mono hB.size)
 obtain⟨V6,hV6⟩:∃ V6,V6=w5.alloc (.cells #[.int .i64 x.op,.int .i64 x.loc,.int .i64 x.reg,.int .i64 x.val] 50):=⟨_,rfl⟩
 have hB6:Below V.heap.size V V6:=by rw [hV6]; exact hb5.alloc hb5.size _
 have hs5:V.heap.size≤w5.heap.size:=hb5.size
 have hVs:V.heap.size=W.heap.size+1:=by rw [hV]; simp
 have oI6:Own V6 w5.heap.size 50 #[.int .i64 x.op,.int .i64 x.loc,.int .i64 x.reg,.int .i64 x.val]:=by rw [hV6]; exact Own.new _ _ _
 have oC6:SeqO V6 W.heap.size Ap cp p s:=oC.under hB6
 have oS6:SeqL V6 b Ap cp p s:=oS.under hB6
 obtain⟨V7,hV7⟩:∃ V7,V7=V6.setCell ⟨W.heap.size,1+t,none⟩ (.int .u8 (((pcS s t:Nat):Int)+1)):=⟨_,rfl⟩
 have oC7:SeqO V7 W.heap.size Ap cp p ⟨s.pc.set t (pcS s t+1),s.regs,s.mem⟩:=by
  rw [hV7]
  have h:=Own.set oC6 (1+t) (.int .u8 ((pcS s t+1:Nat):Int))
  rw [seqC_pc ht3 (by rw [hs.pcl]; exact ht)] at h
  exact h
 have oS7:SeqL V7 b Ap cp p s:=by rw [hV7]; exact SeqL.far oS6 (by show b≠W.heap.size; omega) _
 have oI7:Own V7 w5.heap.size 50 #[.int .i64 x.op,.int .i64 x.loc,.int .i64 x.reg,.int .i64 x.val]:=by rw [hV7]; exact Own.far oI6 (by show w5.heap.size≠W.heap.size; omega) _
 have hB7:Below W.heap.size W V7:=by rw [hV7]; exact (hB.trans (hB6.mono hB.size)).setCell (Nat.le_refl _) _
 have k0:=oC6.pc ht3
 have k1:=Own.frozen oC6 (1+t)
 have k2:=Own.lt oC6
 have hw:(((pcS s t:Nat):Int)+1) % 256=((pcS s t:Nat):Int)+1:=by omega
 have hti:(t:Int)<3:=by omega
 rw [hV6] at k0 k1 k2
 have HK:=Lib.hid (And.intro oC7 (And.intro oS7 (And.intro oI7 hB7)))
 clear hb5 hB6 oI6 oC6 oS6 oC7 oS7 oI7 hB7 oS hnx c0 c1 c2 c3 c4 c5 c6 c7 c8 c9 c10 c11 c12 c13 c14 c15
 go_wp2_with fail
 rw [← hV6,← hV7]
 clear hV6 hV7 k0 k1 k2 hw
 have hsV7:w5.heap.size<V7.heap.size:=HK.out.2.2.1.lt
 have i0:=HK.out.2.2.1.cell (i:=0) rfl
 have i1:=HK.out.2.2.1.cell (i:=1) rfl
 have i2:=HK.out.2.2.1.cell (i:=2) rfl
 have i3:=HK.out.2.2.1.cell (i:=3) rfl
 have hst:=stored_any p hp s hs t ht x Hix.out V7.drew b Ap cp (SeqL.drew HK.out.2.1)
 go_wp2_with fail
 go_still_tail 5,(by kernel_rfl)
 go_wp2_with fail
 refine hst.mono ?_
 rintro e8 w8 ⟨rfl,hb8⟩
 have hb8':=below_of_drewS hb8
 have hB8:=HK.out.2.2.2.trans (hb8'.mono HK.out.2.2.2.size)
 have oC8:=Own.under HK.out.1 hb8'
 have oS8:=SeqL.under HK.out.2.1 hb8'
 have oI8:=HK.out.2.2.1.under hb8'
 have H8:=Lib.hid (And.intro oC8 (And.intro oS8 oI8))
 clear i0 i1 i2 i3 hst hb8 oC8 oS8 hb8'
 have i0:=oI8.cell (i:=0) rfl
 have i1:=oI8.cell (i:=1) rfl
 have i2:=oI8.cell (i:=2) rfl
 have i3:=oI8.cell (i:=3) rfl
 have hrd:=reads_any x w8
 clear oI8
 go_wp2_with fail
 refine hrd.mono ?_
 rintro e9 w9 ⟨rfl,hb9⟩
 have hB9:=hB8.trans (hb9.mono hB8.size)
 have oC9:=Own.under H8.out.1 hb9
 have oS9:=SeqL.under H8.out.2.1 hb9
 have oI9:=H8.out.2.2.under hb9
 clear i0 i1 i2 i3 hrd hb9 H8 HK hB8
 cases hre:rdB x
 ·have Hre:=Lib.hid hre
  have i0:=oI9.cell (i:=0) rfl
  have i1:=oI9.cell (i:=1) rfl
  have i2:=oI9.cell (i:=2) rfl
  have i3:=oI9.cell (i:=3) rfl
  have hwc:=writes_any x w9
  have H9:=Lib.hid (And.intro oC9 oI9)
  clear hre oS9 oC9 oI9
  go_wp2_with fail
  refine hwc.mono ?_
  rintro e11 w11 ⟨rfl,hb11⟩
  have hB11:=hB9.trans (hb11.mono hB9.size)
  have oC11:SeqO w11 W.heap.size Ap cp p ⟨s.pc.set t (pcS s t+1),s.regs,s.mem⟩:=Own.under H9.out.1 hb11
  have oI11:=H9.out.2.under hb11
  clear i0 i1 i2 i3 hwc hb11
  cases hwr:wrB x
  ·have Hwr:=Lib.hid hwr
   clear hwr
   go_wp2_with fail
   go_ret
   exact⟨W.heap.size,rfl,(by rw [Hnx.out,do_nn Hre.out Hwr.out]; exact oC11),Nat.le_refl _,hB11⟩
  ·have Hwr:=Lib.hid hwr
   have j1:=oI11.cell (i:=1) rfl
   rw [Hl.out] at j1
   have m0:=SeqO.mem oC11 hl3
   have m1:=Own.frozen oC11 (13+l)
   have m2:=Own.lt oC11
   have hli:(l:Int)<3:=by omega
   have HC:=Lib.hid oC11
   clear hwr oC11 oI11
   go_wp2_with fail
   go_ret
   refine⟨W.heap.size,rfl,?_,Nat.le_refl _,hB11.setCell (Nat.le_refl _) _⟩
   have h:=Own.set HC.out (13+l) (.int .u8 (valS s t x))
   rw [seqC_mem hl3 (by rw [hs.meml]; exact hl3)] at h
   rw [Hnx.out,do_nw Hl.out Hre.out Hwr.out]
   exact h
 ·have Hre:=Lib.hid hre
  have i0:=oI9.cell (i:=0) rfl
  have i3:=oI9.cell (i:=3) rfl
  have i1:w9.cell? ⟨w5.heap.size,1,none⟩=some (.int .i64 (l:Int)):=by rw [← Hl.out]; exact oI9.cell (i:=1) rfl
  have i2:w9.cell? ⟨w5.heap.size,2,none⟩=some (.int .i64 (r:Int)):=by rw [← Hr.out]; exact oI9.cell (i:=2) rfl
  have m0:=oS9.mem hl3
  have g0:=SeqO.reg oC9 (i:=t*3+r) (by omega)
  have g1:=Own.frozen oC9 (4+(t*3+r))
  rw [show 4+(t*3+r)=4+t*3+r by omega] at g0 g1
  have g2:=Own.lt oC9
  have hli:(l:Int)<3:=by omega
  have hri:(r:Int)<3:=by omega
  have hne:w5.heap.size≠W.heap.size:=by omega
  have hwc:=Lib.hid fun X=>(show Calls Tryz.prog 88 #[.agg #[.int .i64 x.op,.int .i64 (l:Int),.int .i64 (r:Int),.int .i64 x.val]] X (RetB X (wrB x)) from by have h:=writes_any x X; rw [Hl.out,Hr.out] at h; exact h)
  have hX:Hid (SeqO (w9.setCell ⟨W.heap.size,4+t*3+r,none⟩ (.int .u8 (meF s l))).drew W.heap.size Ap cp p ⟨s.pc.set t (pcS s t+1),s.regs.set (t*3+r) (meF s l),s.mem⟩):=by
   have h:=Own.set oC9 (4+(t*3+r)) (.int .u8 (meF s l))
   rw [seqC_reg (by omega) (by show t*3+r<s.regs.length; rw [hs.regl]; omega)] at h
   rw [show 4+(t*3+r)=4+t*3+r by omega] at h
   exact Own.drew h
  have hY:Hid (Own (w9.setCell ⟨W.heap.size,4+t*3+r,none⟩ (.int .u8 (meF s l))).drew w5.heap.size 50 #[.int .i64 x.op,.int .i64 x.loc,.int .i64 x.reg,.int .i64 x.val]):=(Own.far oI9 hne _).drew
  have hZ:Hid (Below W.heap.size W (w9.setCell ⟨W.heap.size,4+t*3+r,none⟩ (.int .u8 (meF s l))).drew):=(hB9.setCell (Nat.le_refl _) _).drew
  clear hre oS9 oC9 oI9 hB9
  go_wp2_with fail
  go_region_with (fail)
  all_goals (go_wp2_with fail)
  all_goals
   refine (hwc.out _).mono ?_
   rintro e11 w11 ⟨rfl,hb11⟩
   have hB11:=hZ.out.trans (hb11.mono hZ.out.size)
   have oC11:=SeqO.under hX.out hb11
   have oI11:=Own.under hY.out hb11
   clear i0 i1 i2 i3 m0 g0 g1 g2 hb11
   cases hwr:wrB x
   ·have Hwr:=Lib.hid hwr
    clear hwr
    go_wp2_with fail
    go_ret
    exact⟨W.heap.size,rfl,(by rw [Hnx.out,do_rn Hl.out Hr.out Hre.out Hwr.out]; exact oC11),Nat.le_refl _,hB11⟩
   ·have Hwr:=Lib.hid hwr
    have j1:w11.cell? ⟨w5.heap.size,1,none⟩=some (.int .i64 (l:Int)):=by rw [← Hl.out]; exact oI11.cell (i:=1) rfl
    have m0:=SeqO.mem oC11 hl3
    have m1:=Own.frozen oC11 (13+l)
    have m2:=Own.lt oC11
    have HC:=Lib.hid oC11
    clear hwr oC11 oI11
    go_wp2_with fail
    go_ret
    refine⟨W.heap.size,rfl,?_,Nat.le_refl _,hB11.setCell (Nat.le_refl _) _⟩
    have h:=Own.set HC.out (13+l) (.int .u8 (valS s t x))
    rw [seqC_mem hl3 (by show l<s.mem.length; rw [hs.meml]; exact hl3)] at h
    rw [Hnx.out,do_rw Hl.out Hr.out Hre.out Hwr.out]
    exact h
end Go.Proofs.YtojmofnamppbdaaGreat
