/-
  The walk of FnChoicesPrefix: it answers true.
-/
import Derived.Test.YtojmofnamppbdaaVsT
import Derived.Test.YtojmofnamppbdaaWmA
namespace Go.Proofs.Ytojmofnamppbdaa
open Go.RowKit
set_option linter.unusedVariables false
set_option maxRecDepth 100000
theorem vws_prefix {p:Prg} {ms:List Int} {o:List Int} (h:vwR p ms=some o) {k:Nat} (hk:k<ms.length):ms[k]∈vwA p (ms.take k):=by
 unfold vwR at h
 cases hpb:prgB p
 ·rw [hpb] at h; cases h
 ·rw [if_pos hpb] at h
  unfold resW at h
  cases hr:runW (sucV p) (mvZ p) (vt0 p) ms with
  | none=>rw [hr] at h; cases h
  | some t=>
   cases h1:runW (sucV p) (mvZ p) (vt0 p) (ms.take (k+1)) with
   | none=>rw [run_take_none hk h1] at hr; cases hr
   | some u=>
    rw [run_take hk] at h1
    cases h2:runW (sucV p) (mvZ p) (vt0 p) (ms.take k) with
    | none=>rw [h2] at h1; cases h1
    | some s=>
     rw [h2,Option.bind_some] at h1
     have hm:=(step_some h1 (vwZ_len p s (run_reach (vwZ_len p) _ _ .start h2))).1
     unfold vwA
     rw [if_pos hpb,h2]
     exact hm
set_option maxHeartbeats 400000 in
theorem wmIn_any (xs:List Int) (n:Int) (hn:n∈xs) (w:World) (A:Option Addr) (c:Nat) (hr:Ints w A c xs):Calls Try.prog 19 #[.slice A xs.length c,.int .i64 n] w (RetB w true):=by
 have hlen:=hr.len
 have Hr:=Lib.hid hr
 have Hn:=Lib.hid hn
 clear hr hn
 go_enter Try.func19,Try.ntmps19
 go_wp2_with fail
 go_loopg [5] xs.length (fun g s5 wr=>∃ i:Nat,i≤xs.length∧g=xs.length-i∧s5=.int .i64 i∧Hid (∀ (j:Nat) (h:j<xs.length),j<i→xs[j]≠n)∧w=wr)
 case atStart=>exact⟨0,Nat.zero_le _,rfl,rfl,fun j _ h=>absurd h (Nat.not_lt_zero _),rfl⟩
 case round=>
  obtain⟨i,hi,rfl,rfl,hall,rfl⟩:=hrel
  by_cases hlt:i<xs.length
  ·obtain⟨b,o,rfl,hbl,k0⟩:=Hr.out.get hlt
   by_cases he:xs[i]=n
   ·have hb:((xs[i]:Int) == n)=true:=by rw [beq_iff_eq]; exact he
    rw [he] at k0
    have hb2:((n:Int) == n)=true:=by simp
    go_wp2_with fail
    go_ret
    exact⟨rfl,Below.refl _ _⟩
   ·have hb:((xs[i]:Int) == n)=false:=by rw [beq_eq_false_iff_ne]; exact he
    have Hall:Hid (∀ (j:Nat) (h:j<xs.length),j<i+1→xs[j]≠n):=fun j h hj=>by
     by_cases e:j=i
     ·subst e; exact he
     ·exact hall.out j h (by omega)
    generalize xs[i]=x at k0 hb
    clear he hall
    go_wp2_with fail
    go_roundg (xs.length-(i+1))
    case measure=>omega
    case rel=>exact⟨i+1,by omega,rfl,by go_num,Hall.out,rfl⟩
  ·exfalso
   obtain⟨j,hj,e⟩:=List.getElem_of_mem Hn.out
   exact hall.out j hj (by omega) e
set_option maxHeartbeats 4000000 in
theorem lawCP_walk (w:World) (A:Option Addr) (n c:Nat) (h:Bys w A n) (hnc:n≤c) (hA:A=none→n=0) (A':Option Addr) (n' c':Nat) (h':Bys w A' n'):
  Calls Try.prog 4 #[.slice A n c,.slice A' n' c'] w (RetB w true):=by
 have hdr:=drawRC_any w A n c h hnc hA
 have hn:=h.1
 have hn':=h'.1
 clear h h'
 go_enter Try.func4,Try.ntmps4
 by_cases hsz:(1048576:Int)<(n:Int)
 ·have hd:decide ((n:Int)>1048576)=true:=by simpa using hsz
  go_wp2_with fail
  go_ret
  exact⟨rfl,Below.refl _ _⟩
 have hd:decide ((n:Int)>1048576)=false:=by simpa using hsz
 by_cases hsz':(1048576:Int)<(n':Int)
 ·have hd':decide ((n':Int)>1048576)=true:=by simpa using hsz'
  go_wp2_with fail
  go_ret
  exact⟨rfl,Below.refl _ _⟩
 have hd':decide ((n':Int)>1048576)=false:=by simpa using hsz'
 go_wp2_with fail
 refine hdr.mono ?_
 rintro e1 w1 ⟨p,v,B1,d1,ms,rfl,hps,hfew,hi1,hml,hsm,hb1⟩
 have hp1:PrgS w1 v p:=PrgS.le hps (Le.above _ _)
 obtain⟨A1,c1,rfl,hpl⟩:=hp1.slice
 have hl:p.length≤1048576:=by have:=hfew.1; omega
 have Hls:=Lib.hid (hfew.mil (by omega))
 have HP1:=Lib.hid hp1
 have HI1:=Lib.hid (hi1.le (Le.above _ _))
 have hsc:=implRC_any p hl Hls.out ms w1 _ hp1 B1 d1 HI1.out
 have Hr:Hid (∀ o,vwR p ms=some o→∀ k (hk:k<ms.length),ms[k]∈vwA p (ms.take k)):=fun o h k hk=>vws_prefix h hk
 have HSp:Hid (∀ U,Below w1.heap.size w1 U→Calls Try.prog 17 #[.slice A1 p.length c1,.slice B1 ms.length d1] U (RetOv U (vwR p ms))):=fun U hU=>specRC_any p hl ms (fun m hm=>by have:=hsm.1 m hm; omega) U _ (HP1.out.le (Le.below hU)) B1 d1 (HI1.out.le (Le.below hU))
 generalize vwR p ms=r at hsc Hr HSp
 have hlc:=hsm.2
 clear hps hdr hp1 hfew hi1 hsm
 go_wp2_with fail
 refine hsc.mono ?_
 rintro e2 w2 ⟨A2,c2,rfl,hi2,hb2⟩
 have hB2:=hb1.trans (hb2.mono hb1.size)
 have HI2:=Lib.hid (hi2.le (Le.above _ _))
 have hsp:=HSp.out w2 hb2
 clear hsc hi2 HSp
 cases r with
 | none=>
  go_wp2_with fail
  refine hsp.mono ?_
  rintro e3 w3 ⟨A3,c3,rfl,hi3,hb3⟩
  have hB3:=hB2.trans (hb3.mono hB2.size)
  have HI3:=Lib.hid (hi3.le (Le.above _ _))
  have hwm:=wmInts_any [] [] w3 A2 A3 c2 c3 (HI2.out.le (Le.below hb3)) HI3.out
  rw [eqB_self] at hwm
  clear hsp hi3
  go_wp2_with fail
  refine hwm.mono ?_
  rintro e4 w4 ⟨rfl,hb4⟩
  have hB4:=hB3.trans (hb4.mono hB3.size)
  have hwm:=wmInts_any [] [] w4 A2 A3 c2 c3 (HI2.out.le (Le.below (hb3.trans (hb4.mono hb3.size)))) (HI3.out.le (Le.below hb4))
  rw [eqB_self] at hwm
  go_wp2_with fail
  refine hwm.mono ?_
  rintro e5 w5 ⟨rfl,hb5⟩
  go_wp2_with fail
  go_ret
  exact⟨rfl,hB4.trans (hb5.mono hB4.size)⟩
 | some o=>
  have Hm2:=Lib.hid (Hr.out o rfl)
  clear Hr
  have HI2':Hid (Ints w2 A2 c2 o):=HI2.out
  obtain⟨m,hm⟩:∃ m,m=o.length:=⟨_,rfl⟩
  have Hm:=Lib.hid hm
  have e0:((some o).getD []).length=m:=hm.symm
  rw [e0]
  have hsp':Calls Try.prog 17 #[.slice A1 p.length c1,.slice B1 ms.length d1] w2 (fun e W'=>∃ A c,e=.returned (.tuple #[.slice A m c,.bool true])∧Ints W' A c o∧Below w2.heap.size w2 W'):=hsp.mono fun e W' ⟨A,c,h1,h2,h3⟩=>⟨A,c,by rw [h1,e0]; rfl,h2.le (Le.above _ _),h3⟩
  clear hsp HI2 e0 hm
  simp only [Option.isSome_some]
  go_wp2_with fail
  refine hsp'.mono ?_
  rintro e3 w3 ⟨A3,c3,rfl,hi3,hb3⟩
  have hB3:=hB2.trans (hb3.mono hB2.size)
  have HI3:=Lib.hid hi3
  have hwm:=wmInts_any o o w3 A2 A3 c2 c3 (HI2'.out.le (Le.below hb3)) hi3
  rw [eqB_self,← Hm.out] at hwm
  clear hsp' hi3
  go_wp2_with fail
  refine hwm.mono ?_
  rintro e4 w4 ⟨rfl,hb4⟩
  have hB4:=hB3.trans (hb4.mono hB3.size)
  have hb24:=hb3.trans (hb4.mono hb3.size)
  have hb14:=hb2.trans (hb24.mono hb2.size)
  have HP4:=Lib.hid (HP1.out.le (Le.below hb14))
  have HI4:=Lib.hid (HI2'.out.le (Le.below hb24))
  have HJ4:=Lib.hid (HI1.out.le (Le.below hb14))
  clear hb24 hb14
  by_cases hz:ms.length=0
  ·have hz1:((ms.length:Int) == 0)=true:=by rw [beq_iff_eq]; omega
   have hwm2:=wmInts_any o o w4 A2 A3 c2 c3 HI4.out (HI3.out.le (Le.below hb4))
   rw [eqB_self,← Hm.out] at hwm2
   clear hz hwm
   go_wp2_with fail
   refine hwm2.mono ?_
   rintro e5 w5 ⟨rfl,hb5⟩
   go_wp2_with fail
   go_ret
   exact⟨rfl,hB4.trans (hb5.mono hB4.size)⟩
  ·have hz1:((ms.length:Int) == 0)=false:=by rw [beq_eq_false_iff_ne]; omega
   obtain⟨k,hk⟩:∃ k,k=n' % ms.length:=⟨_,rfl⟩
   have hkl:k<ms.length:=by rw [hk]; exact Nat.mod_lt _ (by omega)
   have hmod:((n':Int).tmod (ms.length:Int))=(k:Int):=by rw [hk,Int.ofNat_tmod]
   obtain⟨b,o2,eB,hbl,k4⟩:=HJ4.out.get hkl
   subst eB
   have hlk:(ms.take k).length=k:=by rw [List.length_take]; omega
   have HT4:Hid (Ints w4 (some ⟨b,o2,none⟩) d1 (ms.take k)):=(Ints.mk (by omega) fun i hi=>by
    obtain⟨b',o',e,_,h⟩:=HJ4.out.get (show i<ms.length by omega)
    injection e with e
    injection e with e1 e2
    subst e1 e2
    rw [h,List.getElem_take])
   have hx:=Hm2.out k hkl
   have HK4:Hid (∀ U,Below w4.heap.size w4 U→U.cell? ⟨b,o2+k,none⟩=some (.int .i64 ms[k])):=fun U hU=>Le.below hU _ _ k4
   have HCA:Hid (∀ U,Below w4.heap.size w4 U→Calls Try.prog 20 #[.slice A1 p.length c1,.slice (some ⟨b,o2,none⟩) k d1] U (RetIv U (vwA p (ms.take k)))):=fun U hU=>by
    have h:=implCA_any p hl Hls.out (ms.take k) U _ (HP4.out.le (Le.below hU)) (some ⟨b,o2,none⟩) d1 (HT4.out.le (Le.below hU))
    rw [hlk] at h
    exact h
   generalize ms[k]=x at hx k4 HK4
   generalize vwA p (ms.take k)=xs at hx HCA
   have Hx:=Lib.hid hx
   have hkd:k≤d1:=by omega
   have hbd4:Below w4.heap.size w4 w4.drew:=(Below.refl _ _).drew
   clear hz hk hwm hx hlk
   go_wp2_with fail
   go_region_law (first
    | (go_simp; go_at_call 20; ((with_reducible refine (HCA.out _ ?_).mono ?_); (first | exact (Below.refl _ _).drew | exact Below.refl _ _); rintro e5 w5 ⟨A5,c5,rfl,hi5,hb5⟩; have hB54:Below w4.heap.size w4 w5:=hbd4.trans (hb5.mono hbd4.size); have k5:=HK4.out w5 hB54; have hbs5:=hB54.size; have HWI:Hid (∀ U,Below w5.heap.size w5 U→Calls Try.prog 19 #[.slice A5 xs.length c5,.int .i64 x] U (RetB U true)):=fun U hU=>wmIn_any xs x Hx.out U A5 c5 ((hi5.le (Le.above _ _)).le (Le.below hU))); go_wp2_with fail)
    | (go_simp; go_at_call 19; ((with_reducible refine (HWI.out _ ?_).mono ?_); (first | exact Below.refl _ _ | exact (Below.refl _ _).drew); rintro e6 w6 ⟨rfl,hb6⟩); go_wp2_with fail))
   all_goals
    go_wp2_with fail
    go_ret
    exact⟨rfl,hB4.trans ((hB54.trans (hb6.mono hB54.size)).mono hB4.size)⟩
end Go.Proofs.Ytojmofnamppbdaa
