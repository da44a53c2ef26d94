/-
  A state with one memory in a block; the walks of what reads it. The walks of the machine with one memory: done, moves, after, key, outcome.
-/
import Derived.Test.YtojmofnamppbdaaPlM
import Derived.Test.YtojmofnamppbdaaImPa
import Derived.Test.YtojmofnamppbdaaThr2
import Derived.Deep.RegionLaw
import Derived.Deep.RegionWith
import Derived.StillTailTactics
namespace Go.Proofs.Ytojmofnamppbdaa
open Go.RowKit
set_option linter.unusedVariables false
set_option maxRecDepth 100000
def pcV (s:St) (t:Nat):Value:=.int .u8 ((pcS s t:Nat):Int)
def rgF (s:St) (i:Nat):Int:=s.regs.getD i 0
def meF (s:St) (l:Nat):Int:=s.mem.getD l 0
def rgV (s:St) (i:Nat):Value:=.int .u8 (rgF s i)
def meV (s:St) (l:Nat):Value:=.int .u8 (meF s l)
def seqC (Ap:Option Addr) (cp:Nat) (p:Prg) (s:St):Array Value:=
 #[.slice Ap p.length cp,pcV s 0,pcV s 1,pcV s 2,rgV s 0,rgV s 1,rgV s 2,rgV s 3,rgV s 4,rgV s 5,rgV s 6,rgV s 7,rgV s 8,meV s 0,meV s 1,meV s 2]
def SeqL (W:World) (b:Nat) (Ap:Option Addr) (cp:Nat) (p:Prg) (s:St):Prop:=∀ i v,(seqC Ap cp p s)[i]?=some v→W.cell? ⟨b,i,none⟩=some v
section
variable {W W':World} {b:Nat} {Ap:Option Addr} {cp:Nat} {p:Prg} {s:St}
theorem SeqL.prg (h:SeqL W b Ap cp p s):W.cell? ⟨b,0,none⟩=some (.slice Ap p.length cp):=h 0 _ rfl
theorem SeqL.pc (h:SeqL W b Ap cp p s) {t:Nat} (ht:t<3):W.cell? ⟨b,1+t,none⟩=some (.int .u8 ((pcS s t:Nat):Int)):=by
 match t,ht with
 | 0,_=>exact h 1 _ rfl
 | 1,_=>exact h 2 _ rfl
 | 2,_=>exact h 3 _ rfl
theorem SeqL.reg (h:SeqL W b Ap cp p s) {i:Nat} (hi:i<9):W.cell? ⟨b,4+i,none⟩=some (.int .u8 (rgF s i)):=by
 match i,hi with
 | 0,_=>exact h 4 _ rfl
 | 1,_=>exact h 5 _ rfl
 | 2,_=>exact h 6 _ rfl
 | 3,_=>exact h 7 _ rfl
 | 4,_=>exact h 8 _ rfl
 | 5,_=>exact h 9 _ rfl
 | 6,_=>exact h 10 _ rfl
 | 7,_=>exact h 11 _ rfl
 | 8,_=>exact h 12 _ rfl
theorem SeqL.mem (h:SeqL W b Ap cp p s) {l:Nat} (hl:l<3):W.cell? ⟨b,13+l,none⟩=some (.int .u8 (meF s l)):=by
 match l,hl with
 | 0,_=>exact h 13 _ rfl
 | 1,_=>exact h 14 _ rfl
 | 2,_=>exact h 15 _ rfl
theorem SeqL.le (h:SeqL W b Ap cp p s) (hl:Le W W'):SeqL W' b Ap cp p s:=fun i v hv=>hl _ _ (h i v hv)
theorem SeqL.lt (h:SeqL W b Ap cp p s):b<W.heap.size:=World.block_lt_of_cell? _ _ h.prg
theorem SeqL.under (h:SeqL W b Ap cp p s) (hb:Below W.heap.size W W'):SeqL W' b Ap cp p s:=h.le (Le.below hb)
end
theorem thrP_get {p:Prg} {t:Nat} (h:t<p.length):thrP p t=p[t]:=by
 unfold thrP
 rw [List.getD_eq_getElem?_getD,List.getElem?_eq_getElem h]
 rfl
def RetNx (W:World) (p:Prg) (s:St) (t:Nat) (e:Ending) (W':World):Prop:=
 e=.returned (if onS p s t=true then .tuple #[.agg #[.int .i64 (insS p s t).op,.int .i64 (insS p s t).loc,.int .i64 (insS p s t).reg,.int .i64 (insS p s t).val],.bool true] else .tuple #[.agg #[.int .i64 0,.int .i64 0,.int .i64 0,.int .i64 0],.bool false])∧Below W.heap.size W W'
set_option maxHeartbeats 1500000 in
theorem next_any (p:Prg) (hp:PrgOk p) (s:St) (hs:StOk p s) (t:Nat) (ht:t<p.length) (W:World) (b:Nat) (Ap:Option Addr) (cp:Nat) (ho:SeqL W b Ap cp p s) (hpr:PrgS W (.slice Ap p.length cp) p):
  Calls Try.prog 114 #[.pointer (some ⟨b,0,none⟩),.int .i64 t] W (RetNx W p s t):=by
 have h3:=hp.1.1
 have ht3:t<3:=by omega
 obtain⟨V,hV⟩:∃ V,V=W.alloc (.cells #[.int .i64 0,.int .i64 0,.int .i64 0,.int .i64 0] 84):=⟨_,rfl⟩
 have hlV:Le W V:=by rw [hV]; exact Le.alloc _ _
 have hB:Below W.heap.size W V:=by rw [hV]; exact (Below.refl _ _).alloc (Nat.le_refl _) _
 have oI:Own V W.heap.size 84 #[.int .i64 0,.int .i64 0,.int .i64 0,.int .i64 0]:=by rw [hV]; exact Own.new _ _ _
 obtain⟨bp,op,A1,c1,rfl,hbp,k0,_,hins⟩:=SlR.getSub hpr ht
 obtain⟨th,hth⟩:∃ th,th=p[t]:=⟨_,rfl⟩
 have hte:thrP p t=th:=by rw [hth]; exact thrP_get ht
 rw [← hth] at k0 hins
 have q0:=hlV _ _ ho.prg
 have q1:=hlV _ _ (ho.pc ht3)
 have q2:=hlV _ _ k0
 have HI:Hid (∀ i (h:i<th.length),∃ b o,A1=some ⟨b,o,none⟩∧b<V.heap.size∧V.cell? ⟨b,o+i*4,none⟩=some (.int .i64 th[i].op)∧V.cell? ⟨b,o+i*4+1,none⟩=some (.int .i64 th[i].loc)∧V.cell? ⟨b,o+i*4+2,none⟩=some (.int .i64 th[i].reg)∧V.cell? ⟨b,o+i*4+3,none⟩=some (.int .i64 th[i].val)):=fun i hi=>InsS.get (InsS.le hins hlV) hi
 have hm7:=(thr_ok hp t).1
 have hn7:=hs.pcb t
 rw [hte] at hm7 hn7
 have Hon:Hid (onS p s t=decide (pcS s t<th.length)):=by show onS p s t=_; unfold onS; rw [hte]
 have Hix:Hid (∀ h:pcS s t<th.length,insS p s t=th[pcS s t]):=fun h=>by
  have h':pcS s t<(thrP p t).length:=by rw [hte]; exact h
  rw [ins_get h']
  congr 1
 have hbl:b<V.heap.size:=by have:=ho.lt; have:=hB.size; omega
 have ht':(t:Int)<3:=by omega
 have ht'':(t:Int)<(p.length:Int):=by omega
 generalize pcS s t=n at q1 hn7 Hon Hix
 clear ho hpr k0 hins hlV hte hth
 go_enter Try.func114,Try.ntmps114
 go_wp2_with fail
 try rw [← hV]
 clear hV
 have f0:=fun n:Ext V=>n.le _ _ q0
 have f1:=fun n:Ext V=>n.le _ _ q1
 have f2:=fun n:Ext V=>n.le _ _ q2
 refine wp_region_ext _ (by kernel_rfl) (by kernel_rfl) (Below.refl _ _) ?_
 repeat (go_big_quiet_step (fail))
 refine wpQuiet_nil ?_
 rintro wn ⟨⟨_,hbn⟩,rfl⟩
 have hBn:=hB.trans (hbn.mono hB.size)
 have oN:=oI.under hbn
 clear f0 f1 f2
 by_cases hlt:n<th.length
 ·have hd:decide (th.length≤n)=false:=by rw [decide_eq_false_iff_not]; omega
  have Hon':Hid (onS p s t=true):=by show _=_; rw [Hon.out,decide_eq_true_iff]; exact hlt
  have Hin:=Lib.hid (Hix.out hlt)
  obtain⟨b1,o1,rfl,hb1,i0,i1,i2,i3⟩:=HI.out n hlt
  have hln:=Le.below hbn
  have r0:=hln _ _ q0
  have r1:=hln _ _ q1
  have r2:=hln _ _ q2
  have i0:=hln _ _ i0
  have i1:=hln _ _ i1
  have i2:=hln _ _ i2
  have i3:=hln _ _ i3
  have z0:=oN.cell (i:=0) rfl
  have z1:=oN.cell (i:=1) rfl
  have z2:=oN.cell (i:=2) rfl
  have z3:=oN.cell (i:=3) rfl
  have y0:=oN.frozen 0
  have y1:=oN.frozen 1
  have y2:=oN.frozen 2
  have y3:=oN.frozen 3
  have hn':(n:Int)<(th.length:Int):=by omega
  generalize th[n]=x at i0 i1 i2 i3 Hin
  clear q0 q1 q2 Hon Hix HI
  go_wp2_with fail
  go_region_with (fail)
  all_goals (go_wp2_with fail)
  all_goals
   refine bodyPost_ret (v:=.tuple #[.agg #[.int .i64 x.op,.int .i64 x.loc,.int .i64 x.reg,.int .i64 x.val],.bool true]) (by simp [results,Try.results114,go_sem,z0,z1,z2,z3]) rfl ?_
   refine⟨by rw [Hon'.out,Hin.out]; rfl,?_⟩
   repeat (first | exact hBn | exact hBn.drew | (refine Below.setCell ?_ (by simp) _) | (refine Below.drew ?_))
 ·have hd:decide (th.length≤n)=true:=by rw [decide_eq_true_iff]; omega
  have Hon':Hid (onS p s t=false):=by show _=_; rw [Hon.out,decide_eq_false_iff_not]; exact hlt
  have z0:=oN.cell (i:=0) rfl
  have z1:=oN.cell (i:=1) rfl
  have z2:=oN.cell (i:=2) rfl
  have z3:=oN.cell (i:=3) rfl
  have y0:=oN.frozen 0
  have y1:=oN.frozen 1
  have y2:=oN.frozen 2
  have y3:=oN.frozen 3
  clear q0 q1 q2 Hon Hix HI
  go_wp2_with fail
  all_goals
   refine bodyPost_ret (v:=.tuple #[.agg #[.int .i64 0,.int .i64 0,.int .i64 0,.int .i64 0],.bool false]) (by simp [results,Try.results114,go_sem,z0,z1,z2,z3]) rfl ?_
   refine⟨by rw [Hon'.out]; rfl,?_⟩
   repeat (first | exact hBn | exact hBn.drew | (refine Below.setCell ?_ (by simp) _) | (refine Below.drew ?_))
end Go.Proofs.Ytojmofnamppbdaa
namespace Go.Proofs.Ytojmofnamppbdaa
open Go.RowKit
set_option linter.unusedVariables false
set_option maxRecDepth 100000
theorem below_of_drewS {B:Nat} {a b:World} (h:Below B a.drew b):Below B a b:=⟨h.os,h.tape,h.output,h.size,h.block⟩
section
variable {p:Prg} {s:St} {t:Nat} {W:World} {b:Nat} {Ap:Option Addr} {cp:Nat}
theorem next_on (hp:PrgOk p) (hs:StOk p s) (ht:t<p.length) (ho:SeqL W b Ap cp p s) (hpr:PrgS W (.slice Ap p.length cp) p) (h:onS p s t=true):
  Calls Try.prog 114 #[.pointer (some ⟨b,0,none⟩),.int .i64 t] W fun e W'=>e=.returned (.tuple #[.agg #[.int .i64 (insS p s t).op,.int .i64 (insS p s t).loc,.int .i64 (insS p s t).reg,.int .i64 (insS p s t).val],.bool true])∧Below W.heap.size W W':=
 (next_any p hp s hs t ht W b Ap cp ho hpr).mono fun e W' hh=>by
  unfold RetNx at hh
  rwa [h,if_pos rfl] at hh
theorem next_off (hp:PrgOk p) (hs:StOk p s) (ht:t<p.length) (ho:SeqL W b Ap cp p s) (hpr:PrgS W (.slice Ap p.length cp) p) (h:onS p s t=false):
  Calls Try.prog 114 #[.pointer (some ⟨b,0,none⟩),.int .i64 t] W fun e W'=>e=.returned (.tuple #[.agg #[.int .i64 0,.int .i64 0,.int .i64 0,.int .i64 0],.bool false])∧Below W.heap.size W W':=
 (next_any p hp s hs t ht W b Ap cp ho hpr).mono fun e W' hh=>by
  unfold RetNx at hh
  rwa [h,if_neg (by decide)] at hh
end
theorem doneS_false {p:Prg} {s:St} {t:Nat} (ht:t<p.length) (h:onS p s t=true):doneS p s=false:=by
 unfold doneS
 rw [List.all_eq_false]
 exact⟨t,List.mem_range.2 ht,by rw [h]; decide⟩
theorem doneS_true {p:Prg} {s:St} (h:∀ t,t<p.length→onS p s t=false):doneS p s=true:=by
 unfold doneS
 rw [List.all_eq_true]
 intro t ht
 rw [h t (List.mem_range.1 ht)]
 rfl
set_option maxHeartbeats 1000000 in
theorem allDone_any (p:Prg) (hp:PrgOk p) (s:St) (hs:StOk p s) (W:World) (b:Nat) (Ap:Option Addr) (cp:Nat) (ho:SeqL W b Ap cp p s) (hpr:PrgS W (.slice Ap p.length cp) p):
  Calls Try.prog 108 #[.pointer (some ⟨b,0,none⟩)] W (RetB W (doneS p s)):=by
 have q0:=ho.prg
 have h3:=hp.1.1
 go_enter Try.func108,Try.ntmps108
 go_wp2_with fail
 go_loopg [11] p.length (fun g s11 wr=>∃ i:Nat,i≤p.length∧g=p.length-i∧s11=.int .i64 i∧Hid (∀ j,j<i→onS p s j=false)∧Below W.heap.size W wr)
 case atStart=>exact⟨0,Nat.zero_le _,rfl,rfl,fun j h=>absurd h (Nat.not_lt_zero _),Below.refl _ _⟩
 case round=>
  obtain⟨i,hi,rfl,rfl,hall,hb⟩:=hrel
  by_cases hlt:i<p.length
  ·have hO:=ho.under hb
   have hP:=PrgS.le hpr (Le.below hb)
   cases hon:onS p s i
   ·have hc:=next_off hp hs hlt hO hP hon
    have Hall:Hid (∀ j,j<i+1→onS p s j=false):=fun j hj=>by
     rcases Nat.lt_succ_iff_lt_or_eq.1 hj with h | h
     ·exact hall.out j h
     ·rw [h]; exact hon
    clear hon hall hO hP q0
    go_wp2_with fail
    refine hc.mono ?_
    rintro e5 w5 ⟨rfl,hb5⟩
    have hB5:=hb.trans (hb5.mono hb.size)
    clear hc
    go_wp2_with fail
    go_roundg (p.length-(i+1))
    case measure=>omega
    case rel=>exact⟨i+1,by omega,rfl,by go_num,Hall,hB5.alloc hB5.size _⟩
   ·have hc:=next_on hp hs hlt hO hP hon
    have Hd:=Lib.hid (doneS_false hlt hon)
    clear hon hall hO hP q0
    go_wp2_with fail
    refine hc.mono ?_
    rintro e5 w5 ⟨rfl,hb5⟩
    have hB5:=hb.trans (hb5.mono hb.size)
    clear hc
    go_wp2_with fail
    go_ret
    exact⟨ret_bool Hd.out.symm,hB5.alloc hB5.size _⟩
  ·obtain rfl:i=p.length:=by omega
   have Hd:Hid (doneS p s=true):=doneS_true hall.out
   clear hall
   go_wp2_with fail
   go_ret
   exact⟨ret_bool Hd.out.symm,hb⟩
set_option maxHeartbeats 1000000 in
theorem stored_any (p:Prg) (hp:PrgOk p) (s:St) (hs:StOk p s) (t:Nat) (ht:t<p.length) (x:Ins) (hx:InsOk x) (W:World) (b:Nat) (Ap:Option Addr) (cp:Nat) (ho:SeqL W b Ap cp p s):
  Calls Try.prog 117 #[.pointer (some ⟨b,0,none⟩),.int .i64 t,.agg #[.int .i64 x.op,.int .i64 x.loc,.int .i64 x.reg,.int .i64 x.val]] W (fun e W'=>e=.returned (.int .u8 (valS s t x))∧Below W.heap.size W W'):=by
 have h3:=hp.1.1
 obtain⟨V,hV⟩:∃ V,V=W.alloc (.cells #[.int .i64 x.op,.int .i64 x.loc,.int .i64 x.reg,.int .i64 x.val] 84):=⟨_,rfl⟩
 have hlV:Le W V:=by rw [hV]; exact Le.alloc _ _
 have hB:Below W.heap.size W V:=by rw [hV]; exact (Below.refl _ _).alloc (Nat.le_refl _) _
 have oI:Own V W.heap.size 84 #[.int .i64 x.op,.int .i64 x.loc,.int .i64 x.reg,.int .i64 x.val]:=by rw [hV]; exact Own.new _ _ _
 have i0:=oI.cell (i:=0) rfl
 have i1:=oI.cell (i:=1) rfl
 have i2:=oI.cell (i:=2) rfl
 have i3:=oI.cell (i:=3) rfl
 have hvb:=val_03 (p:=p) (t:=t) hs hx
 have Hv:=Lib.hid hvb
 go_enter Try.func117,Try.ntmps117
 by_cases h:x.op=3
 ·have hr:0≤x.reg∧x.reg≤2:=by
   rcases hx with h' | h' | h' | h' <;> omega
  obtain⟨r,hr2⟩:∃ r:Nat,x.reg=(r:Int):=⟨x.reg.toNat,by omega⟩
  have hval:valS s t x=rgF s (t*3+r):=by
   unfold valS rgI
   rw [if_pos h,hr2,Int.toNat_natCast]
   rfl
  have k0:=hlV _ _ (ho.reg (i:=t*3+r) (by omega))
  rw [show 4+(t*3+r)=4+t*3+r by omega] at k0
  rw [← hval] at k0
  have Hval:=Lib.hid hval
  have i2:V.cell? ⟨W.heap.size,2,none⟩=some (.int .i64 (r:Int)):=by rw [← hr2]; exact oI.cell (i:=2) rfl
  have hop:(x.op == 3)=true:=by rw [beq_iff_eq]; exact h
  have ht3:(t:Int)<3:=by omega
  have hr3:(r:Int)<3:=by omega
  generalize valS s t x=vv at k0 Hval Hv hvb
  have f0:=fun n:Ext V=>n.le _ _ k0
  have f2:=fun n:Ext V=>n.le _ _ i2
  clear ho hlV hx hr hr2 h hval i0 i1 i3
  go_wp2_with fail
  try rw [← hV]
  refine wp_region_ext _ (by kernel_rfl) (by kernel_rfl) (Below.refl _ _) ?_
  repeat (go_big_quiet_step (fail))
  refine wpQuiet_nil ?_
  rintro wn ⟨⟨_,hbn⟩,rfl⟩
  clear f0 f2
  go_wp2_with fail
  go_ret
  exact⟨rfl,hB.trans (hbn.mono hB.size)⟩
 ·have hop:(x.op == 3)=false:=by rw [beq_eq_false_iff_ne]; exact h
  have hval:valS s t x=x.val:=by unfold valS; rw [if_neg h]
  have hm:x.val % 256=x.val:=by
   have h1:=hvb.1
   have h2:=hvb.2
   rw [hval] at h1 h2
   omega
  have Hval:=Lib.hid hval
  rw [hval]
  have HB:=Lib.hid hB
  rw [hV] at HB
  clear ho hlV hx h i0 i1 i2 i3 hval oI
  go_wp2_with fail
  go_ret
  exact⟨rfl,HB.out⟩
end Go.Proofs.Ytojmofnamppbdaa
