/-
  The program's within, reads, writes, InstrValid. The program's reads, writes, execs. The program's ProgramValid.
-/
import Derived.Test.YtojmofnamppbdaaGreatPrg
import Derived.Test.YtojmofnamppbdaaGreatSpPa
import Derived.BigRegion
import Derived.ChangeAlike
namespace Go.Proofs.YtojmofnamppbdaaGreat
open Go.RowKit
set_option linter.unusedVariables false
set_option maxRecDepth 100000
def wtn (n a b:Int):Bool:=decide (a≤n) && decide (n≤b)
set_option maxHeartbeats 400000 in
theorem withinQ_any (n a b:Int) (w:World):Calls Tryz.prog 46 #[.int .i64 n,.int .i64 a,.int .i64 b] w (fun e w'=>e=.returned (.bool (wtn n a b))∧w=w'):=by
 go_enter Tryz.func46,Tryz.ntmps46
 by_cases h1:a≤n
 ·by_cases h2:n≤b
  ·have hb:Hid (wtn n a b=true):=by show _=_; simp [wtn,h1,h2]
   go_wp2_with fail
   go_ret
   exact⟨ret_bool hb.out.symm,rfl⟩
  ·have hb:Hid (wtn n a b=false):=by show _=_; simp [wtn,h2]
   go_wp2_with fail
   go_ret
   exact⟨ret_bool hb.out.symm,rfl⟩
 ·have hb:Hid (wtn n a b=false):=by show _=_; simp [wtn,h1]
  go_wp2_with fail
  go_ret
  exact⟨ret_bool hb.out.symm,rfl⟩
theorem insB_load' {x:Ins} (h:x.op=1∨x.op=3):insB x=(decide (x.val=0) && (wtn x.loc 0 2 && wtn x.reg 0 2)):=by
 rw [Bool.eq_iff_iff,insB_iff]
 simp only [Bool.and_eq_true,wtn,decide_eq_true_eq]
 unfold InsOk
 omega
theorem insB_store' {x:Ins} (h:x.op=2):insB x=(decide (x.reg=0) && (wtn x.loc 0 2 && wtn x.val 0 3)):=by
 rw [Bool.eq_iff_iff,insB_iff]
 simp only [Bool.and_eq_true,wtn,decide_eq_true_eq]
 unfold InsOk
 omega
theorem insB_fence' {x:Ins} (h:x.op=4):insB x=(decide (x.loc=0) && (decide (x.reg=0) && decide (x.val=0))):=by
 rw [Bool.eq_iff_iff,insB_iff]
 simp only [Bool.and_eq_true,decide_eq_true_eq]
 unfold InsOk
 omega
theorem insB_swap' {x:Ins} (h:x.op=5):insB x=(wtn x.loc 0 2 && (wtn x.reg 0 2 && wtn x.val 0 3)):=by
 rw [Bool.eq_iff_iff,insB_iff]
 simp only [Bool.and_eq_true,wtn,decide_eq_true_eq]
 unfold InsOk
 omega
theorem insB_none' {x:Ins} (h1:x.op≠1) (h2:x.op≠2) (h3:x.op≠3) (h4:x.op≠4) (h5:x.op≠5):insB x=false:=by
 rw [insB_false]
 unfold InsOk
 omega
theorem wtn00 {b:Int} (h:0≤b):wtn 0 0 b=true:=by simp [wtn,h]
set_option maxHeartbeats 2000000 in
theorem implIns4 (x:Ins) (w:World) (h:x.op=4):Calls Tryz.prog 47 #[.agg #[.int .i64 x.op,.int .i64 x.loc,.int .i64 x.reg,.int .i64 x.val]] w (RetB w (insB x)):=by
 have He:=Lib.hid (insB_fence' h)
 have d1:((x.op:Int) == 1)=false:=by simp [h]
 have d2:((x.op:Int) == 2)=false:=by simp [h]
 have d3:((x.op:Int) == 3)=false:=by simp [h]
 have d4:((x.op:Int) == 4)=true:=by simp [h]
 clear h
 go_enter Tryz.func47,Tryz.ntmps47
 by_cases h0:x.loc=0
 ·by_cases h1:x.reg=0
  ·by_cases h2:x.val=0
   ·have Hr:Hid (insB x=true):=by show _=_; rw [He.out]; simp [h0,h1,h2]
    have w2:wtn 0 0 2=true:=wtn00 (by omega)
    have w3:wtn 0 0 3=true:=wtn00 (by omega)
    go_wp2_with (first | (go_at_call 46; refine (withinQ_any _ _ _ _).mono ?_; rintro e1 w1 ⟨rfl,rfl⟩))
    go_ret
    refine⟨ret_bool Hr.out.symm,?_⟩
    repeat (first | exact Below.refl _ _ | refine Below.alloc ?_ (by simp <;> omega) _ | refine Below.setCell ?_ (by simp <;> omega) _)
   ·have Hr:Hid (insB x=false):=by show _=_; rw [He.out]; simp [h2]
    go_wp2_with fail
    go_ret
    refine⟨ret_bool Hr.out.symm,?_⟩
    repeat (first | exact Below.refl _ _ | refine Below.alloc ?_ (by simp <;> omega) _ | refine Below.setCell ?_ (by simp <;> omega) _)
  ·have Hr:Hid (insB x=false):=by show _=_; rw [He.out]; simp [h1]
   go_wp2_with fail
   go_ret
   refine⟨ret_bool Hr.out.symm,?_⟩
   repeat (first | exact Below.refl _ _ | refine Below.alloc ?_ (by simp <;> omega) _ | refine Below.setCell ?_ (by simp <;> omega) _)
 ·have Hr:Hid (insB x=false):=by show _=_; rw [He.out]; simp [h0]
  go_wp2_with fail
  go_ret
  refine⟨ret_bool Hr.out.symm,?_⟩
  repeat (first | exact Below.refl _ _ | refine Below.alloc ?_ (by simp <;> omega) _ | refine Below.setCell ?_ (by simp <;> omega) _)
set_option maxHeartbeats 4000000 in
theorem implIns5 (x:Ins) (w:World) (h:x.op=5):Calls Tryz.prog 47 #[.agg #[.int .i64 x.op,.int .i64 x.loc,.int .i64 x.reg,.int .i64 x.val]] w (RetB w (insB x)):=by
 have He:=Lib.hid (insB_swap' h)
 have d1:((x.op:Int) == 1)=false:=by simp [h]
 have d2:((x.op:Int) == 2)=false:=by simp [h]
 have d3:((x.op:Int) == 3)=false:=by simp [h]
 have d4:((x.op:Int) == 4)=false:=by simp [h]
 have d5:((x.op:Int) == 5)=true:=by simp [h]
 clear h
 go_enter Tryz.func47,Tryz.ntmps47
 cases hl:wtn x.loc 0 2 <;> cases hr:wtn x.reg 0 2 <;> cases hv:wtn x.val 0 3
 all_goals
  rw [hl,hr,hv] at He
  go_wp2_with (first | (go_at_call 46; refine (withinQ_any _ _ _ _).mono ?_; rintro e1 w1 ⟨rfl,rfl⟩))
  go_ret
  refine⟨ret_bool He.out.symm,?_⟩
  repeat (first | exact Below.refl _ _ | refine Below.alloc ?_ (by simp <;> omega) _ | refine Below.setCell ?_ (by simp <;> omega) _)
set_option maxHeartbeats 4000000 in
theorem implIns0 (x:Ins) (w:World) (h:x.op≠1∧x.op≠2∧x.op≠3∧x.op≠4∧x.op≠5):Calls Tryz.prog 47 #[.agg #[.int .i64 x.op,.int .i64 x.loc,.int .i64 x.reg,.int .i64 x.val]] w (RetB w (insB x)):=by
 have He:=Lib.hid (insB_none' h.1 h.2.1 h.2.2.1 h.2.2.2.1 h.2.2.2.2)
 have d1:((x.op:Int) == 1)=false:=by simpa using h.1
 have d2:((x.op:Int) == 2)=false:=by simpa using h.2.1
 have d3:((x.op:Int) == 3)=false:=by simpa using h.2.2.1
 have d4:((x.op:Int) == 4)=false:=by simpa using h.2.2.2.1
 have d5:((x.op:Int) == 5)=false:=by simpa using h.2.2.2.2
 clear h
 go_enter Tryz.func47,Tryz.ntmps47
 go_wp2_with fail
 go_ret
 refine⟨ret_bool He.out.symm,?_⟩
 repeat (first | exact Below.refl _ _ | refine Below.alloc ?_ (by simp <;> omega) _ | refine Below.setCell ?_ (by simp <;> omega) _)
set_option maxHeartbeats 4000000 in
theorem implIns1 (x:Ins) (w:World) (h:x.op=1):Calls Tryz.prog 47 #[.agg #[.int .i64 x.op,.int .i64 x.loc,.int .i64 x.reg,.int .i64 x.val]] w (RetB w (insB x)):=by
 have He:=Lib.hid (insB_load' (Or.inl h))
 have d1:((x.op:Int) == 1)=true:=by simp [h]
 have d2:((x.op:Int) == 2)=false:=by simp [h]
 have d3:((x.op:Int) == 3)=false:=by simp [h]
 have d4:((x.op:Int) == 4)=false:=by simp [h]
 have d5:((x.op:Int) == 5)=false:=by simp [h]
 clear h
 go_enter Tryz.func47,Tryz.ntmps47
 by_cases hz:x.val=0
 ·have w0:wtn 0 0 3=true:=wtn00 (by omega)
  cases hl:wtn x.loc 0 2 <;> cases hr:wtn x.reg 0 2
  all_goals
   rw [hl,hr] at He
   have Hr:Hid (insB x=_):=He.out.trans (by simp [hz]; rfl)
   go_wp2_with fail
   go_region
   all_goals
    go_wp2_with (first | (go_at_call 46; refine (withinQ_any _ _ _ _).mono ?_; rintro e1 w1 ⟨rfl,rfl⟩))
    go_ret
    refine⟨ret_bool Hr.out.symm,?_⟩
    repeat (first | exact Below.refl _ _ | refine Below.alloc ?_ (by simp <;> omega) _ | refine Below.setCell ?_ (by simp <;> omega) _ | refine Below.drew ?_)
 ·have Hr:Hid (insB x=false):=by show _=_; rw [He.out]; simp [hz]
  go_wp2_with fail
  go_region
  all_goals
   go_wp2_with fail
   go_ret
   refine⟨ret_bool Hr.out.symm,?_⟩
   repeat (first | exact Below.refl _ _ | refine Below.alloc ?_ (by simp <;> omega) _ | refine Below.setCell ?_ (by simp <;> omega) _ | refine Below.drew ?_)
set_option maxHeartbeats 4000000 in
theorem implIns3 (x:Ins) (w:World) (h:x.op=3):Calls Tryz.prog 47 #[.agg #[.int .i64 x.op,.int .i64 x.loc,.int .i64 x.reg,.int .i64 x.val]] w (RetB w (insB x)):=by
 have He:=Lib.hid (insB_load' (Or.inr h))
 have d1:((x.op:Int) == 1)=false:=by simp [h]
 have d2:((x.op:Int) == 2)=false:=by simp [h]
 have d3:((x.op:Int) == 3)=true:=by simp [h]
 have d4:((x.op:Int) == 4)=false:=by simp [h]
 have d5:((x.op:Int) == 5)=false:=by simp [h]
 clear h
 go_enter Tryz.func47,Tryz.ntmps47
 by_cases hz:x.val=0
 ·have w0:wtn 0 0 3=true:=wtn00 (by omega)
  cases hl:wtn x.loc 0 2 <;> cases hr:wtn x.reg 0 2
  all_goals
   rw [hl,hr] at He
   have Hr:Hid (insB x=_):=He.out.trans (by simp [hz]; rfl)
   go_wp2_with fail
   go_region
   all_goals
    go_wp2_with (first | (go_at_call 46; refine (withinQ_any _ _ _ _).mono ?_; rintro e1 w1 ⟨rfl,rfl⟩))
    go_ret
    refine⟨ret_bool Hr.out.symm,?_⟩
    repeat (first | exact Below.refl _ _ | refine Below.alloc ?_ (by simp <;> omega) _ | refine Below.setCell ?_ (by simp <;> omega) _ | refine Below.drew ?_)
 ·have Hr:Hid (insB x=false):=by show _=_; rw [He.out]; simp [hz]
  go_wp2_with fail
  go_region
  all_goals
   go_wp2_with fail
   go_ret
   refine⟨ret_bool Hr.out.symm,?_⟩
   repeat (first | exact Below.refl _ _ | refine Below.alloc ?_ (by simp <;> omega) _ | refine Below.setCell ?_ (by simp <;> omega) _ | refine Below.drew ?_)
set_option maxHeartbeats 4000000 in
theorem implIns2 (x:Ins) (w:World) (h:x.op=2):Calls Tryz.prog 47 #[.agg #[.int .i64 x.op,.int .i64 x.loc,.int .i64 x.reg,.int .i64 x.val]] w (RetB w (insB x)):=by
 have He:=Lib.hid (insB_store' h)
 have d1:((x.op:Int) == 1)=false:=by simp [h]
 have d2:((x.op:Int) == 2)=true:=by simp [h]
 have d3:((x.op:Int) == 3)=false:=by simp [h]
 have d4:((x.op:Int) == 4)=false:=by simp [h]
 have d5:((x.op:Int) == 5)=false:=by simp [h]
 clear h
 go_enter Tryz.func47,Tryz.ntmps47
 by_cases hz:x.reg=0
 ·have w0:wtn 0 0 2=true:=wtn00 (by omega)
  cases hl:wtn x.loc 0 2 <;> cases hr:wtn x.val 0 3
  all_goals
   rw [hl,hr] at He
   have Hr:Hid (insB x=_):=He.out.trans (by simp [hz]; rfl)
   go_wp2_with fail
   go_region
   all_goals
    go_wp2_with (first | (go_at_call 46; refine (withinQ_any _ _ _ _).mono ?_; rintro e1 w1 ⟨rfl,rfl⟩))
    go_ret
    refine⟨ret_bool Hr.out.symm,?_⟩
    repeat (first | exact Below.refl _ _ | refine Below.alloc ?_ (by simp <;> omega) _ | refine Below.setCell ?_ (by simp <;> omega) _ | refine Below.drew ?_)
 ·have Hr:Hid (insB x=false):=by show _=_; rw [He.out]; simp [hz]
  go_wp2_with fail
  go_region
  all_goals
   go_wp2_with fail
   go_ret
   refine⟨ret_bool Hr.out.symm,?_⟩
   repeat (first | exact Below.refl _ _ | refine Below.alloc ?_ (by simp <;> omega) _ | refine Below.setCell ?_ (by simp <;> omega) _ | refine Below.drew ?_)
theorem implIns_any (x:Ins) (w:World):Calls Tryz.prog 47 #[.agg #[.int .i64 x.op,.int .i64 x.loc,.int .i64 x.reg,.int .i64 x.val]] w (RetB w (insB x)):=by
 rcases (show x.op=1∨x.op=2∨x.op=3∨x.op=4∨x.op=5∨(x.op≠1∧x.op≠2∧x.op≠3∧x.op≠4∧x.op≠5) by omega) with h | h | h | h | h | h
 ·exact implIns1 x w h
 ·exact implIns2 x w h
 ·exact implIns3 x w h
 ·exact implIns4 x w h
 ·exact implIns5 x w h
 ·exact implIns0 x w h
end Go.Proofs.YtojmofnamppbdaaGreat
namespace Go.Proofs.YtojmofnamppbdaaGreat
open Go.RowKit
set_option linter.unusedVariables false
set_option maxRecDepth 100000
theorem reads_any (x:Ins) (w:World):Calls Tryz.prog 87 #[.agg #[.int .i64 x.op,.int .i64 x.loc,.int .i64 x.reg,.int .i64 x.val]] w (RetB w (rdB x)):=by
 have hb1:Below w.heap.size w (w.alloc (.cells #[.int .i64 x.op,.int .i64 x.loc,.int .i64 x.reg,.int .i64 x.val] 50)):=(Below.refl _ _).alloc (Nat.le_refl _) _
 have Hb:=Lib.hid hb1
 clear hb1
 go_enter Tryz.func87,Tryz.ntmps87
 by_cases h1:x.op=1
 ·have e:Hid (rdB x=true):=by show _=_; simp [rdB,h1]
  have hd:((x.op:Int) == 1)=true:=by simp [h1]
  clear h1
  go_wp2_with fail
  go_ret
  exact⟨ret_bool e.out.symm,Hb.out⟩
 ·by_cases h5:x.op=5
  ·have e:Hid (rdB x=true):=by show _=_; simp [rdB,h5]
   have hd:((x.op:Int) == 1)=false:=by simpa using h1
   have hd5:((x.op:Int) == 5)=true:=by simp [h5]
   clear h1 h5
   go_wp2_with fail
   go_ret
   exact⟨ret_bool e.out.symm,Hb.out⟩
  ·have e:Hid (rdB x=false):=by show _=_; simp [rdB,h1,h5]
   have hd:((x.op:Int) == 1)=false:=by simpa using h1
   have hd5:((x.op:Int) == 5)=false:=by simpa using h5
   clear h1 h5
   go_wp2_with fail
   go_ret
   exact⟨ret_bool e.out.symm,Hb.out⟩
theorem writes_any (x:Ins) (w:World):Calls Tryz.prog 88 #[.agg #[.int .i64 x.op,.int .i64 x.loc,.int .i64 x.reg,.int .i64 x.val]] w (RetB w (wrB x)):=by
 have hb1:Below w.heap.size w (w.alloc (.cells #[.int .i64 x.op,.int .i64 x.loc,.int .i64 x.reg,.int .i64 x.val] 50)):=(Below.refl _ _).alloc (Nat.le_refl _) _
 have Hb:=Lib.hid hb1
 clear hb1
 go_enter Tryz.func88,Tryz.ntmps88
 by_cases h2:x.op=2
 ·have e:Hid (wrB x=true):=by show _=_; simp [wrB,h2]
  have hd:((x.op:Int) == 2)=true:=by simp [h2]
  clear h2
  go_wp2_with fail
  go_ret
  exact⟨ret_bool e.out.symm,Hb.out⟩
 ·have hd:((x.op:Int) == 2)=false:=by simpa using h2
  by_cases h3:x.op=3
  ·have e:Hid (wrB x=true):=by show _=_; simp [wrB,h3]
   have hd3:((x.op:Int) == 3)=true:=by simp [h3]
   clear h2 h3
   go_wp2_with fail
   go_ret
   exact⟨ret_bool e.out.symm,Hb.out⟩
  ·have hd3:((x.op:Int) == 3)=false:=by simpa using h3
   by_cases h5:x.op=5
   ·have e:Hid (wrB x=true):=by show _=_; simp [wrB,h5]
    have hd5:((x.op:Int) == 5)=true:=by simp [h5]
    clear h2 h3 h5
    go_wp2_with fail
    go_ret
    exact⟨ret_bool e.out.symm,Hb.out⟩
   ·have e:Hid (wrB x=false):=by show _=_; simp [wrB,h2,h3,h5]
    have hd5:((x.op:Int) == 5)=false:=by simpa using h5
    clear h2 h3 h5
    go_wp2_with fail
    go_ret
    exact⟨ret_bool e.out.symm,Hb.out⟩
set_option maxHeartbeats 400000 in
theorem times_any (n m:Nat) (hn:n≤100) (hm:m≤3001) (w:World) (B:Nat) (hB:Own w B 3 #[.int .i64 m]):
  Calls Tryz.prog 86 #[.int .i64 n,.pointer (some ⟨B,0,none⟩)] w (fun e w'=>e=.returned (.tuple #[])∧w.setCell ⟨B,0,none⟩ (.int .i64 (cap (m*n):Nat))=w'):=by
 have c0:=hB.cell (i:=0) rfl
 have f0:=hB.frozen 0
 obtain⟨q,hq⟩:∃ q:Nat,q=m*n:=⟨_,rfl⟩
 have hqI:(m:Int)*(n:Int)=(q:Int):=by rw [hq]; simp
 have hqb:q≤310000:=by rw [hq]; exact Nat.le_trans (Nat.mul_le_mul hm hn) (by omega)
 rw [← hq]
 clear hq hB
 go_enter Tryz.func86,Tryz.ntmps86
 by_cases h:q≤3001
 ·have Hc:Hid (cap q=q):=Nat.min_eq_left h
  have hi:(q:Int)≤3001:=by omega
  clear h
  go_wp2_with fail
  go_end0
  exact⟨rfl,by rw [Hc.out]⟩
 ·have Hc:Hid (cap q=3001):=cap_big (by omega)
  have hi:¬ (q:Int)≤3001:=by omega
  clear h
  go_wp2_with fail
  go_end0
  exact⟨rfl,by rw [Hc.out]; rfl⟩
set_option maxHeartbeats 4000000 in
theorem execs_any (p:Prg) (h3:p.length≤3) (h7:∀ t∈p,t.length≤7) (hs:∀ loc b,cntP loc b p≤21) (w:World) (v:Value) (hr:PrgS w v p):
  Calls Tryz.prog 48 #[v] w (RetI w (cap (exN p):Nat)):=by
 obtain⟨A,c,rfl,_⟩:=hr.slice
 have H7:=Lib.hid h7
 have Hs:=Lib.hid hs
 have own0:=Own.new w 3 #[.int .i64 1]
 have hb0:Below w.heap.size w (w.alloc (.cells #[.int .i64 1] 3)):=(Below.refl _ _).alloc (Nat.le_refl _) _
 clear h7 hs
 go_enter Tryz.func48,Tryz.ntmps48
 go_wp2_with fail
 go_loopg [14] 3 (fun g s14 wr=>∃ l:Nat,l≤3∧g=3-l∧s14=.int .i64 l∧Hid (Own wr w.heap.size 3 #[.int .i64 (cap (exK p l):Nat)])∧Below w.heap.size w wr)
 case atStart=>exact⟨0,by omega,rfl,rfl,own0,hb0⟩
 case round=>
  obtain⟨wo,rfl⟩:∃ wo:World,wo=wr:=⟨_,rfl⟩
  clear own0 hb0
  obtain⟨l,hl,rfl,rfl,ho,hb⟩:=hrel
  have hbs:=hb.size
  by_cases hl3:l<3
  ·have hl3i:decide ((l:Int)<3)=true:=by rw [decide_eq_true_iff]; omega
   go_wp2_with fail
   go_loopg [6,7,19] p.length (fun g s6 s7 s19 wr=>∃ i:Nat,i≤p.length∧g=p.length-i∧s19=.int .i64 i∧s6=.int .i64 (cntP l false (p.take i):Nat)∧s7=.int .i64 (cntP l true (p.take i):Nat)∧cntP l false (p.take i)≤7*i∧cntP l true (p.take i)≤7*i∧Below wo.heap.size wo wr)
   case atStart=>exact⟨0,Nat.zero_le _,rfl,rfl,by simp [cntP,wSum],by simp [cntP,wSum],by simp [cntP,wSum],by simp [cntP,wSum],Below.refl _ _⟩
   case round=>
    obtain⟨wi,rfl⟩:∃ wi:World,wi=wr:=⟨_,rfl⟩
    obtain⟨i,hi,rfl,rfl,rfl,rfl,hn1,hn2,hbi⟩:=hrel
    have hBi:=hb.trans (hbi.mono hbs)
    by_cases hlt:i<p.length
    ·obtain⟨bb,o,A1,c1,rfl,hbl,k00,hlm,hx⟩:=SlR.getSub hr hlt
     have k0:=Le.below hBi _ _ k00
     have ht7:=H7.out _ (List.getElem_mem hlt)
     have Hts1:=Lib.hid (cntP_take_succ l false p i hlt)
     have Hts2:=Lib.hid (cntP_take_succ l true p i hlt)
     have hct1:=cntT_le l false p[i]
     have hct2:=cntT_le l true p[i]
     generalize hnn1:cntP l false (p.take i)=n1 at hn1
     generalize hnn2:cntP l true (p.take i)=n2 at hn2
     rw [hnn1] at Hts1
     rw [hnn2] at Hts2
     generalize htt:p[i]=t at hx hlm k00 k0 Hts1 Hts2 hct1 hct2 ht7
     clear hr hnn1 hnn2 htt
     go_wp2_with fail
     go_loopg [6,7,25] t.length (fun g s6 s7 s25 wr=>∃ k:Nat,k≤t.length∧g=t.length-k∧s25=.int .i64 k∧s6=.int .i64 ((n1+cntT l false (t.take k):Nat):Int)∧s7=.int .i64 ((n2+cntT l true (t.take k):Nat):Int)∧cntT l false (t.take k)≤k∧cntT l true (t.take k)≤k∧Below wi.heap.size wi wr)
     case atStart=>exact⟨0,Nat.zero_le _,rfl,rfl,by simp [cntT],by simp [cntT],by simp [cntT],by simp [cntT],Below.refl _ _⟩
     case round=>
      obtain⟨wk,rfl⟩:∃ wk:World,wk=wr:=⟨_,rfl⟩
      obtain⟨k,hk,rfl,rfl,rfl,rfl,hm1,hm2,hbk⟩:=hrel
      by_cases hkt:k<t.length
      ·obtain⟨b2,o2,rfl,hbl2,d0,d1,d2,d3⟩:=(InsS.le hx ((Le.below hBi).trans (Le.below hbk))).get hkt
       have Hk1:=Lib.hid (cntT_take_succ l false t k hkt)
       have Hk2:=Lib.hid (cntT_take_succ l true t k hkt)
       generalize hmm1:cntT l false (t.take k)=m1 at hm1
       generalize hmm2:cntT l true (t.take k)=m2 at hm2
       rw [hmm1] at Hk1
       rw [hmm2] at Hk2
       generalize hxx:t[k]=x at d0 d1 d2 d3 Hk1 Hk2
       clear hmm1 hmm2 hxx
       obtain⟨V,hV⟩:∃ V,V=wk.alloc (.cells #[.int .i64 x.op,.int .i64 x.loc,.int .i64 x.reg,.int .i64 x.val] 50):=⟨_,rfl⟩
       have bx:Own V wk.heap.size 50 #[.int .i64 x.op,.int .i64 x.loc,.int .i64 x.reg,.int .i64 x.val]:=by rw [hV]; exact Own.new _ _ _
       have hbV:Below wi.heap.size wi V:=by rw [hV]; exact hbk.alloc hbk.size _
       have Bx:=Lib.hid bx
       by_cases hloc:x.loc=(l:Int)
       ·have el:((x.loc:Int) == (l:Int))=true:=by simpa using hloc
        have Hh1:Hid (hitB l false x=rdB x):=by show _=_; simp [hitB,hloc]
        have Hh2:Hid (hitB l true x=wrB x):=by show _=_; simp [hitB,hloc]
        have Hc1:=Lib.hid (fun W=>reads_any x W)
        have Hc2:=Lib.hid (fun W=>writes_any x W)
        generalize rdB x=y1 at Hh1 Hc1
        generalize wrB x=y2 at Hh2 Hc2
        clear hloc bx
        cases y1 <;> cases y2
        all_goals
         go_wp2_with fail
         rw [← hV]
         refine (Hc1.out _).mono ?_
         rintro e5 w5 ⟨rfl,hb5⟩
         have hb6:=hbV.trans (hb5.mono hbV.size)
         have x0:=(Bx.out.under hb5).cell (i:=0) rfl
         have x1:=(Bx.out.under hb5).cell (i:=1) rfl
         have x2:=(Bx.out.under hb5).cell (i:=2) rfl
         have x3:=(Bx.out.under hb5).cell (i:=3) rfl
         clear hV hb5
         go_wp2_with fail
         refine (Hc2.out _).mono ?_
         rintro e7 w7 ⟨rfl,hb7⟩
         have hb8:=hb6.trans (hb7.mono hb6.size)
         clear x0 x1 x2 x3 hb7 hb6
         go_wp2_with fail
         go_roundg (t.length-(k+1))
         case measure=>omega
         case rel=>exact⟨k+1,by omega,rfl,by go_num,congrArg (Value.int .i64) (by rw [Hk1.out,Hh1.out]; simp; try omega),congrArg (Value.int .i64) (by rw [Hk2.out,Hh2.out]; simp; try omega),by rw [Hk1.out,Hh1.out]; simp; try omega,by rw [Hk2.out,Hh2.out]; simp; try omega,hb8⟩
       ·have el:((x.loc:Int) == (l:Int))=false:=by simpa using hloc
        have Hh1:Hid (hitB l false x=false):=by show _=_; simp [hitB,hloc]
        have Hh2:Hid (hitB l true x=false):=by show _=_; simp [hitB,hloc]
        have HbV:=Lib.hid hbV
        rw [hV] at HbV
        clear hloc bx hbV hV Bx
        go_wp2_with fail
        go_roundg (t.length-(k+1))
        case measure=>omega
        case rel=>exact⟨k+1,by omega,rfl,by go_num,congrArg (Value.int .i64) (by rw [Hk1.out,Hh1.out]; simp),congrArg (Value.int .i64) (by rw [Hk2.out,Hh2.out]; simp),by rw [Hk1.out,Hh1.out]; simp; omega,by rw [Hk2.out,Hh2.out]; simp; omega,HbV.out⟩
      ·obtain rfl:k=t.length:=by omega
       rw [List.take_length] at hm1 hm2 ⊢
       go_wp2_with fail
       go_roundg (p.length-(i+1))
       case measure=>omega
       case rel=>exact⟨i+1,by omega,rfl,by go_num,congrArg (Value.int .i64) (by rw [Hts1.out]),congrArg (Value.int .i64) (by rw [Hts2.out]),by rw [Hts1.out]; omega,by rw [Hts2.out]; omega,hbi.trans (hbk.mono hbi.size)⟩
    ·obtain rfl:i=p.length:=by omega
     rw [List.take_length] at hn1 hn2 ⊢
     have hoi:=Own.below ho.out hbi (by have:=hb.size; have:=ho.out.lt; omega)
     obtain⟨W,hW⟩:∃ W,W=cntP l true p:=⟨_,rfl⟩
     obtain⟨R,hR⟩:∃ R,R=cntP l false p:=⟨_,rfl⟩
     have hW21:W≤21:=by rw [hW]; exact Hs.out _ _
     have hR21:R≤21:=by rw [hR]; exact Hs.out _ _
     have Hex:Hid (exL p l=(W+1) ^ R*fact W):=by show _=_; rw [hW,hR]; rfl
     rw [← hW,← hR]
     have Hoi:=Lib.hid hoi
     clear hW hR hoi hn1 hn2
     go_wp2_with fail
     go_loopg [52] R (fun g s52 wr=>∃ k:Nat,k≤R∧g=R-k∧s52=.int .i64 k∧Hid (Own wr w.heap.size 3 #[.int .i64 (cap (exK p l*(W+1) ^ k):Nat)])∧Below w.heap.size w wr)
     case atStart=>exact⟨0,by omega,rfl,rfl,by show Own _ _ _ _; rw [Nat.pow_zero,Nat.mul_one]; exact Hoi.out,hBi⟩
     case round=>
      obtain⟨w4,rfl⟩:∃ w4:World,w4=wr:=⟨_,rfl⟩
      clear hBi Hoi
      obtain⟨k,hk,rfl,rfl,ho4,hb4⟩:=hrel
      by_cases hkR:k<R
      ·obtain⟨m,hm⟩:∃ m,m=cap (exK p l*(W+1) ^ k):=⟨_,rfl⟩
       have hm3:m≤3001:=by rw [hm]; exact cap_le _
       have ho4':=ho4.out
       rw [← hm] at ho4'
       have hcall:=times_any (W+1) m (by omega) hm3 w4 _ ho4'
       rw [show ((W+1:Nat):Int)=(W:Int)+1 by omega] at hcall
       have hset:=ho4'.set 0 (.int .i64 (cap (m*(W+1)):Nat))
       have hnx:cap (m*(W+1))=cap (exK p l*(W+1) ^ (k+1)):=by rw [hm,cap_mul _ _ (Nat.succ_pos W),Nat.pow_succ,Nat.mul_assoc]
       have Hset:Hid (Own (w4.setCell ⟨w.heap.size,0,none⟩ (.int .i64 (cap (m*(W+1)):Nat))) w.heap.size 3 #[.int .i64 (cap (exK p l*(W+1) ^ (k+1)):Nat)]):=by rw [← hnx]; exact hset
       have hb5:=hb4.setCell (p:=⟨w.heap.size,0,none⟩) (Nat.le_refl _) (.int .i64 (cap (m*(W+1)):Nat))
       clear hm ho4' hset hnx ho4 hb4
       go_wp2_with fail
       refine hcall.mono ?_
       rintro e6 w6 ⟨rfl,rfl⟩
       go_wp2_with fail
       go_roundg (R-(k+1))
       case measure=>omega
       case rel=>exact⟨k+1,by omega,rfl,by go_num,Hset.out,hb5⟩
      ·obtain rfl:k=R:=by omega
       go_wp2_with fail
       go_loopg [60] W (fun g s60 wr=>∃ j:Nat,j≤W∧g=W-j∧s60=.int .i64 j∧Hid (Own wr w.heap.size 3 #[.int .i64 (cap (exK p l*(W+1) ^ k*fact j):Nat)])∧Below w.heap.size w wr)
       case atStart=>exact⟨0,by omega,rfl,rfl,by show Own _ _ _ _; rw [show fact 0=1 from rfl,Nat.mul_one]; exact ho4.out,hb4⟩
       case round=>
        obtain⟨w7,rfl⟩:∃ w7:World,w7=wr:=⟨_,rfl⟩
        clear ho4 hb4
        obtain⟨j,hj,rfl,rfl,ho7,hb7⟩:=hrel
        by_cases hjW:j<W
        ·obtain⟨m,hm⟩:∃ m,m=cap (exK p l*(W+1) ^ k*fact j):=⟨_,rfl⟩
         have hm3:m≤3001:=by rw [hm]; exact cap_le _
         have ho7':=ho7.out
         rw [← hm] at ho7'
         have hcall:=times_any (j+1) m (by omega) hm3 w7 _ ho7'
         rw [show ((j+1:Nat):Int)=(j:Int)+1 by omega] at hcall
         have hset:=ho7'.set 0 (.int .i64 (cap (m*(j+1)):Nat))
         have hnx:cap (m*(j+1))=cap (exK p l*(W+1) ^ k*fact (j+1)):=by rw [hm,cap_mul _ _ (Nat.succ_pos j),Nat.mul_assoc,Nat.mul_comm (fact j) (j+1)]; rfl
         have Hset:Hid (Own (w7.setCell ⟨w.heap.size,0,none⟩ (.int .i64 (cap (m*(j+1)):Nat))) w.heap.size 3 #[.int .i64 (cap (exK p l*(W+1) ^ k*fact (j+1)):Nat)]):=by rw [← hnx]; exact hset
         have hb8:=hb7.setCell (p:=⟨w.heap.size,0,none⟩) (Nat.le_refl _) (.int .i64 (cap (m*(j+1)):Nat))
         clear hm ho7' hset hnx ho7 hb7
         go_wp2_with fail
         refine hcall.mono ?_
         rintro e9 w9 ⟨rfl,rfl⟩
         go_wp2_with fail
         go_roundg (W-(j+1))
         case measure=>omega
         case rel=>exact⟨j+1,by omega,rfl,by go_num,Hset.out,hb8⟩
        ·obtain rfl:j=W:=by omega
         have Hn:Hid (Own w7 w.heap.size 3 #[.int .i64 (cap (exK p (l+1)):Nat)]):=by
          show Own _ _ _ _
          rw [exK,Hex.out,← Nat.mul_assoc]
          exact ho7.out
         go_wp2_with fail
         go_roundg (3-(l+1))
         case measure=>omega
         case rel=>exact⟨l+1,by omega,rfl,by go_num,Hn.out,hb7⟩
  ·obtain rfl:l=3:=by omega
   have Ho:Hid (Own wo w.heap.size 3 #[.int .i64 (cap (exN p):Nat)]):=by rw [← exK_three]; exact ho
   have c0:=Ho.out.cell (i:=0) rfl
   go_wp2_with fail
   go_ret
   exact⟨rfl,hb⟩
end Go.Proofs.YtojmofnamppbdaaGreat
namespace Go.Proofs.YtojmofnamppbdaaGreat
open Go.RowKit
set_option linter.unusedVariables false
set_option maxRecDepth 100000
theorem prgB_im {p:Prg} (h1:1≤p.length) (h3:p.length≤3) (hok:∀ t∈p,t.length≤7∧∀ x∈t,InsOk x):prgB p=(decide (evN p≤12) && decide (cap (exN p)≤3000)):=by
 rw [Bool.eq_iff_iff,prgB_iff,Bool.and_eq_true,decide_eq_true_iff,decide_eq_true_iff]
 have h2:cap (exN p)≤3000↔exN p≤3000:=by unfold cap; omega
 rw [h2]
 exact⟨fun h=>⟨h.1.2.2,h.2.2⟩,fun h=>⟨⟨h3,hok,h.1⟩,h1,h.2⟩⟩
set_option maxHeartbeats 4000000 in
theorem implPrg_any (p:Prg) (hl:p.length≤1048576) (hls:∀ t∈p,t.length≤1048576) (w:World) (v:Value) (hr:PrgS w v p):Calls Tryz.prog 15 #[v] w (RetB w (prgB p)):=by
 obtain⟨A,c,rfl,_⟩:=hr.slice
 have Hls:=Lib.hid hls
 clear hls
 go_enter Tryz.func15,Tryz.ntmps15
 by_cases h13:1≤p.length∧p.length≤3
 ·obtain⟨h1,h3⟩:=h13
  have hw:wtn (p.length:Int) 1 3=true:=by simp [wtn]; omega
  go_wp2_with fail
  refine (withinQ_any _ _ _ _).mono ?_
  rintro e1 w1 ⟨rfl,rfl⟩
  go_wp2_with fail
  go_loopg [3,14] p.length (fun g s3 s14 wr=>∃ i:Nat,i≤p.length∧g=p.length-i∧s14=.int .i64 i∧s3=.int .i64 (evN (p.take i):Nat)∧evN (p.take i)≤7*i∧Hid (∀ t∈p.take i,t.length≤7∧∀ x∈t,InsOk x)∧Below w.heap.size w wr)
  case atStart=>exact⟨0,Nat.zero_le _,rfl,rfl,by simp [evN,wSum],by simp [evN,wSum],fun t ht=>absurd ht (by simp),Below.refl _ _⟩
  case round=>
   obtain⟨wo,rfl⟩:∃ wo:World,wo=wr:=⟨_,rfl⟩
   obtain⟨i,hi,rfl,rfl,rfl,hn,hok,hb⟩:=hrel
   by_cases hlt:i<p.length
   ·obtain⟨bb,o,A1,c1,rfl,hbl,k0,hlm,hx⟩:=SlR.getSub (PrgS.le hr (Le.below hb)) hlt
    have hmem:=List.getElem_mem hlt
    have htl:=Hls.out _ hmem
    have Hts:=Lib.hid (evN_take_succ p i hlt)
    have Htk:=Lib.hid (List.take_succ_eq_append_getElem hlt)
    have Hbad:Hid (∀ (q:¬ (p[i].length≤7∧∀ x∈p[i],InsOk x)),prgB p=false):=fun q=>prgB_false.2 fun h=>q (h.1.2.1 _ hmem)
    generalize hnn:evN (p.take i)=nn at hn
    rw [hnn] at Hts
    generalize htt:p[i]=t at hx hlm k0 Hts Htk Hbad htl
    clear hr hnn htt hmem
    go_wp2_with fail
    go_loopg [3,20] t.length (fun g s3 s20 wr=>∃ k:Nat,k≤t.length∧g=t.length-k∧s20=.int .i64 k∧s3=.int .i64 ((nn+cntE' (t.take k):Nat):Int)∧cntE' (t.take k)≤k∧Hid (∀ x∈t.take k,InsOk x)∧Below wo.heap.size wo wr)
    case atStart=>exact⟨0,Nat.zero_le _,rfl,rfl,by simp [cntE'],by simp [cntE'],fun x hx=>absurd hx (by simp),Below.refl _ _⟩
    case round=>
     obtain⟨wk,rfl⟩:∃ wk:World,wk=wr:=⟨_,rfl⟩
     obtain⟨k,hk,rfl,rfl,rfl,hm,hokx,hbk⟩:=hrel
     by_cases hkt:k<t.length
     ·obtain⟨b2,o2,rfl,hbl2,d0,d1,d2,d3⟩:=(InsS.le hx (Le.below hbk)).get hkt
      have hmem:=List.getElem_mem hkt
      have Hkts:=Lib.hid (cntE'_take_succ t k hkt)
      have Htx:=Lib.hid (List.take_succ_eq_append_getElem hkt)
      have Hbx:Hid (∀ (q:¬ InsOk t[k]),prgB p=false):=fun q=>Hbad.out fun h=>q (h.2 _ hmem)
      generalize hmm:cntE' (t.take k)=mm at hm
      rw [hmm] at Hkts
      generalize hxx:t[k]=x at d0 d1 d2 d3 Hkts Htx Hbx
      clear hmm hxx hmem k0
      obtain⟨V,hV⟩:∃ V,V=wk.alloc (.cells #[.int .i64 x.op,.int .i64 x.loc,.int .i64 x.reg,.int .i64 x.val] 50):=⟨_,rfl⟩
      have bx:Own V wk.heap.size 50 #[.int .i64 x.op,.int .i64 x.loc,.int .i64 x.reg,.int .i64 x.val]:=by rw [hV]; exact Own.new _ _ _
      have hbV:Below wo.heap.size wo V:=by rw [hV]; exact hbk.alloc hbk.size _
      have Bx:=Lib.hid bx
      clear bx
      cases hv:insB x
      ·have Hv:Hid (prgB p=false):=Hbx.out (insB_false.1 hv)
       have hcall:=fun W=>implIns_any x W
       rw [hv] at hcall
       have Hcall:=Lib.hid hcall
       clear hv hcall
       go_wp2_with fail
       rw [← hV]
       refine (Hcall.out _).mono ?_
       rintro e5 w5 ⟨rfl,hb5⟩
       have hB5:=hbV.trans (hb5.mono hbV.size)
       clear hV
       go_wp2_with fail
       go_ret
       exact⟨ret_bool Hv.out.symm,hb.trans (hB5.mono hb.size)⟩
      ·have Hx:Hid (InsOk x):=insB_iff.1 hv
       have hcall:=fun W=>implIns_any x W
       rw [hv] at hcall
       have Hcall:=Lib.hid hcall
       clear hv hcall
       have hokn:Hid (∀ y∈t.take (k+1),InsOk y):=fun y hy=>by
        rw [Htx.out] at hy
        rcases List.mem_append.1 hy with hy | hy
        ·exact hokx.out y hy
        ·rw [List.mem_singleton.1 hy]; exact Hx.out
       go_wp2_with fail
       rw [← hV]
       refine (Hcall.out _).mono ?_
       rintro e5 w5 ⟨rfl,hb5⟩
       have hB5:=hbV.trans (hb5.mono hbV.size)
       have x5:=(Bx.out.under hb5).cell (i:=0) rfl
       clear d0 d1 d2 d3 hb5 Hcall hbk hV
       by_cases h4:x.op=4
       ·have e4:((x.op:Int) != 4)=false:=by simp [h4]
        have Hn:Hid (nf x=false):=by show _=_; simp [nf,h4]
        clear h4
        go_wp2_with fail
        go_roundg (t.length-(k+1))
        case measure=>omega
        case rel=>exact⟨k+1,by omega,rfl,by go_num,congrArg (Value.int .i64) (by rw [Hkts.out,Hn.out]; simp),by rw [Hkts.out,Hn.out]; simp; omega,hokn,hB5⟩
       ·have e4:((x.op:Int) != 4)=true:=by simpa using h4
        have Hn:Hid (nf x=true):=by show _=_; simp [nf,h4]
        clear h4
        go_wp2_with fail
        go_roundg (t.length-(k+1))
        case measure=>omega
        case rel=>exact⟨k+1,by omega,rfl,by go_num,congrArg (Value.int .i64) (by rw [Hkts.out,Hn.out]; simp; omega),by rw [Hkts.out,Hn.out]; simp; omega,hokn,hB5⟩
     ·obtain rfl:k=t.length:=by omega
      rw [List.take_length] at hm hokx ⊢
      by_cases h7:t.length≤7
      ·have h7i:¬ (7:Int)<(t.length:Int):=by omega
       go_wp2_with fail
       go_roundg (p.length-(i+1))
       case measure=>omega
       case rel=>
        refine⟨i+1,by omega,rfl,by go_num,congrArg (Value.int .i64) (by rw [Hts.out]; omega),by rw [Hts.out]; omega,fun y hy=>?_,hb.trans (hbk.mono hb.size)⟩
        rw [Htk.out] at hy
        rcases List.mem_append.1 hy with hy | hy
        ·exact hok.out y hy
        ·rw [List.mem_singleton.1 hy]; exact⟨h7,hokx.out⟩
      ·have h7i:(7:Int)<(t.length:Int):=by omega
       have Hv:Hid (prgB p=false):=Hbad.out fun h=>h7 h.1
       clear h7
       go_wp2_with fail
       go_ret
       exact⟨ret_bool Hv.out.symm,hb.trans (hbk.mono hb.size)⟩
   ·obtain rfl:i=p.length:=by omega
    rw [List.take_length] at hn hok ⊢
    have Hv:=Lib.hid (prgB_im h1 h3 hok.out)
    by_cases h12:evN p≤12
    ·have h12i:(evN p:Int)≤12:=by omega
     have hex:=fun (W:World) (hW:Le w W)=>execs_any p h3 (fun t ht=>(hok.out t ht).1) (ShapeOk.small ⟨h3,hok.out,h12⟩) W _ (PrgS.le hr hW)
     have Hex:=Lib.hid hex
     have hc:=cap_le (exN p)
     generalize cap (exN p)=n at hc Hv Hex
     clear hr hex
     go_wp2_with fail
     refine (Hex.out wo (Le.below hb)).mono ?_
     rintro e2 w2 ⟨rfl,hb2⟩
     go_wp2_with fail
     go_ret
     refine⟨ret_bool ?_,hb.trans (hb2.mono hb.size)⟩
     rw [Hv.out]
     simp [h12]
     omega
    ·have h12i:¬ (evN p:Int)≤12:=by omega
     go_wp2_with fail
     go_ret
     refine⟨ret_bool ?_,hb⟩
     rw [Hv.out]
     simp [h12]
 ·have hw:wtn (p.length:Int) 1 3=false:=by simp [wtn]; omega
  have Hv:Hid (prgB p=false):=prgB_false.2 fun h=>h13 ⟨h.2.1,h.1.1⟩
  go_wp2_with fail
  refine (withinQ_any _ _ _ _).mono ?_
  rintro e1 w1 ⟨rfl,rfl⟩
  go_wp2_with fail
  go_ret
  exact⟨ret_bool Hv.out.symm,Below.refl _ _⟩
end Go.Proofs.YtojmofnamppbdaaGreat
