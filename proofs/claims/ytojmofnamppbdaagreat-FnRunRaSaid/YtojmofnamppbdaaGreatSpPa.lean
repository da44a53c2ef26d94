/-
  The reference's InstrValid, l1Reads, l1Writes, l1Count, l1Execs, l1Shape, ProgramValid. The reference's l1Execs, l1Shape, ProgramValid.
-/
import Derived.Test.YtojmofnamppbdaaGreatPrg
namespace Go.Proofs.YtojmofnamppbdaaGreat
open Go.RowKit
set_option linter.unusedVariables false
set_option maxRecDepth 100000
set_option maxHeartbeats 400000 in
theorem l1In_any (n most:Int) (w:World):Calls Tryz.prog 97 #[.int .i64 n,.int .i64 most] w (fun e w'=>e=.returned (.bool (btw n most))∧w=w'):=by
 go_enter Tryz.func97,Tryz.ntmps97
 by_cases h1:0≤n
 ·by_cases h2:n≤most
  ·have hb:=Lib.hid (btw_iff.2 ⟨h1,h2⟩)
   go_wp2_with fail
   go_ret
   exact⟨ret_bool hb.out.symm,rfl⟩
  ·have hb:=Lib.hid (btw_false.2 fun h=>h2 h.2)
   go_wp2_with fail
   go_ret
   exact⟨ret_bool hb.out.symm,rfl⟩
 ·have hb:=Lib.hid (btw_false (most:=most).2 fun h=>h1 h.1)
  go_wp2_with fail
  go_ret
  exact⟨ret_bool hb.out.symm,rfl⟩
theorem l1Reads_any (x:Ins) (w:World):Calls Tryz.prog 136 #[.agg #[.int .i64 x.op,.int .i64 x.loc,.int .i64 x.reg,.int .i64 x.val]] w (RetB w (rdB x)):=by
 have hb1:Below w.heap.size w (w.alloc (.cells #[.int .i64 x.op,.int .i64 x.loc,.int .i64 x.reg,.int .i64 x.val] 50)):=(Below.refl _ _).alloc (Nat.le_refl _) _
 have Hb:=Lib.hid hb1
 clear hb1
 go_enter Tryz.func136,Tryz.ntmps136
 by_cases h1:x.op=1
 ·have e:Hid (rdB x=true):=by show _=_; simp [rdB,h1]
  have hd:((x.op:Int) == 1)=true:=by simp [h1]
  clear h1
  go_wp2_with fail
  go_ret
  exact⟨ret_bool e.out.symm,Hb.out⟩
 ·by_cases h5:x.op=5
  ·have e:Hid (rdB x=true):=by show _=_; simp [rdB,h5]
   have hd:((x.op:Int) == 1)=false:=by simpa using h1
   have hd5:((x.op:Int) == 5)=true:=by simp [h5]
   clear h1 h5
   go_wp2_with fail
   go_ret
   exact⟨ret_bool e.out.symm,Hb.out⟩
  ·have e:Hid (rdB x=false):=by show _=_; simp [rdB,h1,h5]
   have hd:((x.op:Int) == 1)=false:=by simpa using h1
   have hd5:((x.op:Int) == 5)=false:=by simpa using h5
   clear h1 h5
   go_wp2_with fail
   go_ret
   exact⟨ret_bool e.out.symm,Hb.out⟩
theorem l1Writes_any (x:Ins) (w:World):Calls Tryz.prog 135 #[.agg #[.int .i64 x.op,.int .i64 x.loc,.int .i64 x.reg,.int .i64 x.val]] w (RetB w (wrB x)):=by
 have hb1:Below w.heap.size w (w.alloc (.cells #[.int .i64 x.op,.int .i64 x.loc,.int .i64 x.reg,.int .i64 x.val] 50)):=(Below.refl _ _).alloc (Nat.le_refl _) _
 have Hb:=Lib.hid hb1
 clear hb1
 go_enter Tryz.func135,Tryz.ntmps135
 by_cases h2:x.op=2
 ·have e:Hid (wrB x=true):=by show _=_; simp [wrB,h2]
  have hd:((x.op:Int) == 2)=true:=by simp [h2]
  clear h2
  go_wp2_with fail
  go_ret
  exact⟨ret_bool e.out.symm,Hb.out⟩
 ·have hd:((x.op:Int) == 2)=false:=by simpa using h2
  by_cases h3:x.op=3
  ·have e:Hid (wrB x=true):=by show _=_; simp [wrB,h3]
   have hd3:((x.op:Int) == 3)=true:=by simp [h3]
   clear h2 h3
   go_wp2_with fail
   go_ret
   exact⟨ret_bool e.out.symm,Hb.out⟩
  ·have hd3:((x.op:Int) == 3)=false:=by simpa using h3
   by_cases h5:x.op=5
   ·have e:Hid (wrB x=true):=by show _=_; simp [wrB,h5]
    have hd5:((x.op:Int) == 5)=true:=by simp [h5]
    clear h2 h3 h5
    go_wp2_with fail
    go_ret
    exact⟨ret_bool e.out.symm,Hb.out⟩
   ·have e:Hid (wrB x=false):=by show _=_; simp [wrB,h2,h3,h5]
    have hd5:((x.op:Int) == 5)=false:=by simpa using h5
    clear h2 h3 h5
    go_wp2_with fail
    go_ret
    exact⟨ret_bool e.out.symm,Hb.out⟩
theorem insB_load {x:Ins} (h:x.op=1∨x.op=3):insB x=(btw x.loc 2 && (btw x.reg 2 && decide (x.val=0))):=by
 rw [Bool.eq_iff_iff,insB_iff]
 simp only [Bool.and_eq_true,btw_iff,decide_eq_true_eq]
 unfold InsOk
 omega
theorem insB_store {x:Ins} (h:x.op=2):insB x=(btw x.loc 2 && (decide (x.reg=0) && btw x.val 3)):=by
 rw [Bool.eq_iff_iff,insB_iff]
 simp only [Bool.and_eq_true,btw_iff,decide_eq_true_eq]
 unfold InsOk
 omega
theorem insB_fence {x:Ins} (h:x.op=4):insB x=(decide (x.loc=0) && (decide (x.reg=0) && decide (x.val=0))):=by
 rw [Bool.eq_iff_iff,insB_iff]
 simp only [Bool.and_eq_true,decide_eq_true_eq]
 unfold InsOk
 omega
theorem insB_swap {x:Ins} (h:x.op=5):insB x=(btw x.loc 2 && (btw x.reg 2 && btw x.val 3)):=by
 rw [Bool.eq_iff_iff,insB_iff]
 simp only [Bool.and_eq_true,btw_iff]
 unfold InsOk
 omega
theorem insB_none {x:Ins} (h1:x.op≠1) (h2:x.op≠2) (h3:x.op≠3) (h4:x.op≠4) (h5:x.op≠5):insB x=false:=by
 rw [insB_false]
 unfold InsOk
 omega
set_option maxHeartbeats 2000000 in
theorem specIns_any (x:Ins) (w:World):Calls Tryz.prog 110 #[.agg #[.int .i64 x.op,.int .i64 x.loc,.int .i64 x.reg,.int .i64 x.val]] w (RetB w (insB x)):=by
 obtain⟨W,hW⟩:∃ W,W=w.alloc (.cells #[.int .i64 x.op,.int .i64 x.loc,.int .i64 x.reg,.int .i64 x.val] 50):=⟨_,rfl⟩
 have hbW:Below w.heap.size w W:=by rw [hW]; exact (Below.refl _ _).alloc (Nat.le_refl _) _
 have bx:Own W w.heap.size 50 #[.int .i64 x.op,.int .i64 x.loc,.int .i64 x.reg,.int .i64 x.val]:=by rw [hW]; exact Own.new _ _ _
 have c0:=bx.cell (i:=0) rfl
 have c1:=bx.cell (i:=1) rfl
 have c2:=bx.cell (i:=2) rfl
 have c3:=bx.cell (i:=3) rfl
 have cl:=bx.lt
 have Bx:=Lib.hid bx
 clear bx
 go_enter Tryz.func110,Tryz.ntmps110
 have hop:(x.op=1∨x.op=3)∨x.op=2∨x.op=4∨x.op=5∨(x.op≠1∧x.op≠2∧x.op≠3∧x.op≠4∧x.op≠5):=by omega
 obtain⟨z0,hz0⟩:∃ b:Bool,b=decide (x.loc=0):=⟨_,rfl⟩
 obtain⟨z1,hz1⟩:∃ b:Bool,b=decide (x.reg=0):=⟨_,rfl⟩
 obtain⟨z2,hz2⟩:∃ b:Bool,b=decide (x.val=0):=⟨_,rfl⟩
 have y0:((x.loc:Int) == 0)=z0:=by rw [hz0]; by_cases h:x.loc=0 <;> simp [h]
 have y1:((x.reg:Int) == 0)=z1:=by rw [hz1]; by_cases h:x.reg=0 <;> simp [h]
 have y2:((x.val:Int) == 0)=z2:=by rw [hz2]; by_cases h:x.val=0 <;> simp [h]
 rcases hop with h13 | h | h | h | ⟨h1,h2,h3,h4,h5⟩
 ·have e:=insB_load h13
  rw [← hz2] at e
  clear hz0 hz1 hz2 y0 y1
  generalize hl:btw x.loc 2=bl at e
  generalize hr:btw x.reg 2=br at e
  have He:=Lib.hid e
  clear e
  rcases h13 with h | h
  ·have d1:((x.op:Int) == 1)=true:=by simp [h]
   clear h
   cases bl <;> cases br <;> cases z2
   all_goals
    go_wp2_with (first | (go_at_call 97; refine (l1In_any _ _ _).mono ?_; rintro e1 w1 ⟨rfl,rfl⟩))
    go_ret
    exact⟨ret_bool He.out.symm,by rw [← hW] ; exact hbW⟩
  ·have d1:((x.op:Int) == 1)=false:=by simp [h]
   have d3:((x.op:Int) == 3)=true:=by simp [h]
   have d2:((x.op:Int) == 2)=false:=by simp [h]
   have d4:((x.op:Int) == 4)=false:=by simp [h]
   have d5:((x.op:Int) == 5)=false:=by simp [h]
   clear h
   cases bl <;> cases br <;> cases z2
   all_goals
    go_wp2_with (first | (go_at_call 97; refine (l1In_any _ _ _).mono ?_; rintro e1 w1 ⟨rfl,rfl⟩))
    go_ret
    exact⟨ret_bool He.out.symm,by rw [← hW]; exact hbW⟩
 ·have e:=insB_store h
  rw [← hz1] at e
  clear hz0 hz1 hz2 y0 y2
  generalize hl:btw x.loc 2=bl at e
  generalize hr:btw x.val 3=br at e
  have He:=Lib.hid e
  clear e
  have d1:((x.op:Int) == 1)=false:=by simp [h]
  have d3:((x.op:Int) == 3)=false:=by simp [h]
  have d2:((x.op:Int) == 2)=true:=by simp [h]
  have d4:((x.op:Int) == 4)=false:=by simp [h]
  have d5:((x.op:Int) == 5)=false:=by simp [h]
  clear h
  cases bl <;> cases z1 <;> cases br
  all_goals
   go_wp2_with (first | (go_at_call 97; refine (l1In_any _ _ _).mono ?_; rintro e1 w1 ⟨rfl,rfl⟩))
   go_ret
   exact⟨ret_bool He.out.symm,by rw [← hW]; exact hbW⟩
 ·have e:=insB_fence h
  rw [← hz0,← hz1,← hz2] at e
  clear hz0 hz1 hz2
  have He:=Lib.hid e
  clear e
  have d1:((x.op:Int) == 1)=false:=by simp [h]
  have d3:((x.op:Int) == 3)=false:=by simp [h]
  have d2:((x.op:Int) == 2)=false:=by simp [h]
  have d4:((x.op:Int) == 4)=true:=by simp [h]
  have d5:((x.op:Int) == 5)=false:=by simp [h]
  clear h
  cases z0 <;> cases z1 <;> cases z2
  all_goals
   go_wp2_with (first | (go_at_call 97; refine (l1In_any _ _ _).mono ?_; rintro e1 w1 ⟨rfl,rfl⟩))
   go_ret
   exact⟨ret_bool He.out.symm,by rw [← hW]; exact hbW⟩
 ·have e:=insB_swap h
  clear hz0 hz1 hz2 y0 y1 y2
  generalize hl:btw x.loc 2=bl at e
  generalize hr:btw x.reg 2=br at e
  generalize hv:btw x.val 3=bv at e
  have He:=Lib.hid e
  clear e
  have d1:((x.op:Int) == 1)=false:=by simp [h]
  have d3:((x.op:Int) == 3)=false:=by simp [h]
  have d2:((x.op:Int) == 2)=false:=by simp [h]
  have d4:((x.op:Int) == 4)=false:=by simp [h]
  have d5:((x.op:Int) == 5)=true:=by simp [h]
  clear h
  cases bl <;> cases br <;> cases bv
  all_goals
   go_wp2_with (first | (go_at_call 97; refine (l1In_any _ _ _).mono ?_; rintro e1 w1 ⟨rfl,rfl⟩))
   go_ret
   exact⟨ret_bool He.out.symm,by rw [← hW]; exact hbW⟩
 ·have He:=Lib.hid (insB_none h1 h2 h3 h4 h5)
  have d1:((x.op:Int) == 1)=false:=by simpa using h1
  have d2:((x.op:Int) == 2)=false:=by simpa using h2
  have d3:((x.op:Int) == 3)=false:=by simpa using h3
  have d4:((x.op:Int) == 4)=false:=by simpa using h4
  have d5:((x.op:Int) == 5)=false:=by simpa using h5
  clear h1 h2 h3 h4 h5 hz0 hz1 hz2 y0 y1 y2
  go_wp2_with fail
  go_ret
  exact⟨ret_bool He.out.symm,by rw [← hW]; exact hbW⟩
set_option maxHeartbeats 2000000 in
theorem l1Count_any (p:Prg) (loc:Int) (b:Bool) (h3:p.length≤3) (h7:∀ t∈p,t.length≤7) (w:World) (v:Value) (hr:PrgS w v p):
  Calls Tryz.prog 111 #[v,.int .i64 loc,.bool b] w (RetI w (cntP loc b p)):=by
 obtain⟨A,c,rfl,_⟩:=hr.slice
 go_enter Tryz.func111,Tryz.ntmps111
 go_wp2_with fail
 go_loopg [7,8] p.length (fun g s7 s8 wr=>∃ i:Nat,i≤p.length∧g=p.length-i∧s8=.int .i64 i∧s7=.int .i64 (cntP loc b (p.take i):Nat)∧cntP loc b (p.take i)≤7*i∧Below w.heap.size w wr)
 case atStart=>exact⟨0,Nat.zero_le _,rfl,rfl,by simp [cntP,wSum],by simp [cntP,wSum],Below.refl _ _⟩
 case round=>
  obtain⟨wo,rfl⟩:∃ wo:World,wo=wr:=⟨_,rfl⟩
  obtain⟨i,hi,rfl,rfl,rfl,hn,hb⟩:=hrel
  by_cases hlt:i<p.length
  ·obtain⟨bb,o,A1,c1,rfl,hbl,k0,_,hx⟩:=SlR.getSub (PrgS.le hr (Le.below hb)) hlt
   have ht7:=h7 _ (List.getElem_mem hlt)
   have hts:=cntP_take_succ loc b p i hlt
   have hct:=cntT_le loc b p[i]
   have Hts:=Lib.hid hts
   generalize hnn:cntP loc b (p.take i)=nn at hn
   rw [hnn] at Hts
   generalize htt:p[i]=t at hx ht7 hct k0 Hts
   clear hr hts hnn htt
   go_wp2_with fail
   go_loopg [7,9] t.length (fun g s7 s9 wr=>∃ k:Nat,k≤t.length∧g=t.length-k∧s9=.int .i64 k∧s7=.int .i64 ((nn+cntT loc b (t.take k):Nat):Int)∧cntT loc b (t.take k)≤k∧Below wo.heap.size wo wr)
   case atStart=>exact⟨0,Nat.zero_le _,rfl,rfl,by simp [cntT],by simp [cntT],Below.refl _ _⟩
   case round=>
    obtain⟨k,hk,rfl,rfl,rfl,hm,hbk⟩:=hrel
    have k1:=Le.below hbk _ _ k0
    by_cases hkt:k<t.length
    ·obtain⟨b2,o2,rfl,hbl2,d0,d1,d2,d3⟩:=(InsS.le hx (Le.below hbk)).get hkt
     have hkts:=cntT_take_succ loc b t k hkt
     have Hkts:=Lib.hid hkts
     generalize hmm:cntT loc b (t.take k)=mm at hm
     rw [hmm] at Hkts
     generalize hxx:t[k]=x at d0 d1 d2 d3 Hkts
     clear hkts hmm hxx k0
     have hB1:Below wo.heap.size wo (wr.alloc (.cells #[.int .i64 x.op,.int .i64 x.loc,.int .i64 x.reg,.int .i64 x.val] 50)):=hbk.alloc hbk.size _
     have HB1:=Lib.hid hB1
     clear hB1
     by_cases hloc:x.loc=loc
     ·have el:((x.loc:Int) == loc)=true:=by simpa using hloc
      have Hloc:=Lib.hid hloc
      clear hloc
      cases b
      ·-- reads
       have Hh:Hid (hitB loc false x=rdB x):=by show _=_; simp [hitB,Hloc.out]
       generalize hy:rdB x=y at Hh
       have Hcall:=Lib.hid (fun W=>l1Reads_any x W)
       rw [hy] at Hcall
       clear hy
       cases y
       ·go_wp2_with fail
        refine (Hcall.out _).mono ?_
        rintro e5 w5 ⟨rfl,hb5⟩
        have hb6:=HB1.out.trans (hb5.mono HB1.out.size)
        clear hb5
        go_wp2_with fail
        go_roundg (t.length-(k+1))
        case measure=>omega
        case rel=>exact⟨k+1,by omega,rfl,by go_num,congrArg (Value.int .i64) (by rw [Hkts.out,Hh.out]; simp),by rw [Hkts.out,Hh.out]; simp; omega,hb6⟩
       ·go_wp2_with fail
        refine (Hcall.out _).mono ?_
        rintro e5 w5 ⟨rfl,hb5⟩
        have hb6:=HB1.out.trans (hb5.mono HB1.out.size)
        clear hb5
        go_wp2_with fail
        go_roundg (t.length-(k+1))
        case measure=>omega
        case rel=>exact⟨k+1,by omega,rfl,by go_num,congrArg (Value.int .i64) (by rw [Hkts.out,Hh.out]; simp; omega),by rw [Hkts.out,Hh.out]; simp; omega,hb6⟩
      ·-- writes
       have Hh:Hid (hitB loc true x=wrB x):=by show _=_; simp [hitB,Hloc.out]
       generalize hy:wrB x=y at Hh
       have Hcall:=Lib.hid (fun W=>l1Writes_any x W)
       rw [hy] at Hcall
       clear hy
       cases y
       ·go_wp2_with fail
        refine (Hcall.out _).mono ?_
        rintro e5 w5 ⟨rfl,hb5⟩
        have hb6:=HB1.out.trans (hb5.mono HB1.out.size)
        clear hb5
        go_wp2_with fail
        go_roundg (t.length-(k+1))
        case measure=>omega
        case rel=>exact⟨k+1,by omega,rfl,by go_num,congrArg (Value.int .i64) (by rw [Hkts.out,Hh.out]; simp),by rw [Hkts.out,Hh.out]; simp; omega,hb6⟩
       ·go_wp2_with fail
        refine (Hcall.out _).mono ?_
        rintro e5 w5 ⟨rfl,hb5⟩
        have hb6:=HB1.out.trans (hb5.mono HB1.out.size)
        clear hb5
        go_wp2_with fail
        go_roundg (t.length-(k+1))
        case measure=>omega
        case rel=>exact⟨k+1,by omega,rfl,by go_num,congrArg (Value.int .i64) (by rw [Hkts.out,Hh.out]; simp; omega),by rw [Hkts.out,Hh.out]; simp; omega,hb6⟩
     ·have el:((x.loc:Int) == loc)=false:=by simpa using hloc
      have Hh:Hid (hitB loc b x=false):=by show _=_; simp [hitB,hloc]
      clear hloc
      go_wp2_with fail
      go_roundg (t.length-(k+1))
      case measure=>omega
      case rel=>exact⟨k+1,by omega,rfl,by go_num,congrArg (Value.int .i64) (by rw [Hkts.out,Hh.out]; simp),by rw [Hkts.out,Hh.out]; simp; omega,HB1.out⟩
    ·obtain rfl:k=t.length:=by omega
     rw [List.take_length] at hm ⊢
     go_wp2_with fail
     go_roundg (p.length-(i+1))
     case measure=>omega
     case rel=>exact⟨i+1,by omega,rfl,by go_num,congrArg (Value.int .i64) (by rw [Hts.out]),by rw [Hts.out]; omega,hb.trans (hbk.mono hb.size)⟩
  ·obtain rfl:i=p.length:=by omega
   go_wp2_with fail
   go_ret
   exact⟨ret_int (by rw [List.take_length]),hb⟩
end Go.Proofs.YtojmofnamppbdaaGreat
namespace Go.Proofs.YtojmofnamppbdaaGreat
open Go.RowKit
set_option linter.unusedVariables false
set_option maxRecDepth 100000
def exK (p:Prg):Nat→Nat
 | 0=>1
 | l+1=>exK p l*exL p l
theorem exK_three (p:Prg):exK p 3=exN p:=by
 show 1*exL p ((0:Nat):Int)*exL p ((1:Nat):Int)*exL p ((2:Nat):Int)=_
 rw [Nat.one_mul]
 rfl
theorem cap_grow {a b:Nat} (h:cap a=3001) (hb:0<b):cap (a*b)=3001:=by
 have h1:3001≤a:=by unfold cap at h; omega
 have h2:a≤a*b:=Nat.le_mul_of_pos_right _ hb
 exact cap_big (by omega)
theorem cap_of_big {n:Nat} (h:¬ n≤3000):cap n=3001:=cap_big (by omega)
theorem cap_step {n a b:Nat} (h:cap n=cap a) (hb:0<b):cap (n*b)=cap (a*b):=by
 rw [← cap_mul n b hb,← cap_mul a b hb,h]
theorem fact_up {a b:Nat} (h:a≤b):∃ d,0<d∧fact b=fact a*d:=by
 induction b with
 | zero=>
  obtain rfl:a=0:=by omega
  exact⟨1,by omega,rfl⟩
 | succ b ih=>
  by_cases he:a=b+1
  ·subst he
   exact⟨1,by omega,(Nat.mul_one _).symm⟩
  ·obtain⟨d,h1,h2⟩:=ih (by omega)
   exact⟨(b+1)*d,Nat.mul_pos (Nat.succ_pos b) h1,by rw [fact,h2,Nat.mul_left_comm]⟩
set_option maxHeartbeats 2000000 in
theorem l1Execs_any (p:Prg) (h3:p.length≤3) (h7:∀ t∈p,t.length≤7) (hs:∀ loc b,cntP loc b p≤21) (w:World) (v:Value) (hr:PrgS w v p):
  Calls Tryz.prog 79 #[v,.int .i64 3000] w (RetI w (cap (exN p))):=by
 have Hcall:=Lib.hid (fun loc b W (hl:Le w W)=>l1Count_any p loc b h3 h7 W v (PrgS.le hr hl))
 have Hs:=Lib.hid hs
 clear h7 hs hr
 go_enter Tryz.func79,Tryz.ntmps79
 go_wp2_with fail
 go_loopg [5,6] 3 (fun g s5 s6 wr=>∃ l nn:Nat,l≤3∧g=3-l∧s6=.int .i64 l∧s5=.int .i64 nn∧nn≤66000∧Hid (cap nn=cap (exK p l))∧Below w.heap.size w wr)
 case atStart=>exact⟨0,1,by omega,rfl,rfl,rfl,by omega,rfl,Below.refl _ _⟩
 case round=>
  obtain⟨wo,rfl⟩:∃ wo:World,wo=wr:=⟨_,rfl⟩
  obtain⟨l,nn,hl,rfl,rfl,rfl,hnn,hc,hb⟩:=hrel
  by_cases hl3:l≤2
  ·go_wp2_with fail
   refine (Hcall.out l true wo (Le.below hb)).mono ?_
   rintro e1 w1 ⟨rfl,hb1⟩
   have hB1:=hb.trans (hb1.mono hb.size)
   obtain⟨W,hW⟩:∃ W,W=cntP l true p:=⟨_,rfl⟩
   obtain⟨R,hR⟩:∃ R,R=cntP l false p:=⟨_,rfl⟩
   have hW21:W≤21:=by rw [hW]; exact Hs.out _ _
   have hR21:R≤21:=by rw [hR]; exact Hs.out _ _
   have Hex:Hid (exL p l=(W+1) ^ R*fact W):=by show _=_; rw [hW,hR]; rfl
   have HcR:=Lib.hid (fun V (hV:Le w V)=>(hR▸Hcall.out l false V hV:Calls Tryz.prog 111 #[v,.int .i64 l,.bool false] V (RetI V R)))
   rw [← hW]
   clear hW hR hb1 hb
   go_wp2_with fail
   go_loopg [5,8] (R+1) (fun g s5 s8 wr=>∃ i nn:Nat,i≤R∧g=R+1-i∧s8=.int .i64 i∧s5=.int .i64 nn∧nn≤66000∧Hid (cap nn=cap (exK p l*(W+1) ^ i))∧Below w.heap.size w wr)
   case atStart=>exact⟨0,nn,by omega,rfl,rfl,rfl,hnn,by show _=_; rw [Nat.pow_zero,Nat.mul_one]; exact hc.out,hB1⟩
   case round=>
    obtain⟨wi,rfl⟩:∃ wi:World,wi=wr:=⟨_,rfl⟩
    clear hc hnn hB1
    obtain⟨i,mm,hi,rfl,rfl,rfl,hmm,hci,hbi⟩:=hrel
    by_cases hgo:i<R∧mm≤3000
    ·obtain⟨hiR,hm3⟩:=hgo
     obtain⟨m',hm'⟩:∃ m':Nat,m'=mm*(W+1):=⟨_,rfl⟩
     have hmI:(mm:Int)*((W:Int)+1)=(m':Int):=by rw [hm']; simp
     have hmb:m'≤66000:=by rw [hm']; exact Nat.le_trans (Nat.mul_le_mul hm3 (by omega:W+1≤22)) (by omega)
     have hcn:Hid (cap m'=cap (exK p l*(W+1) ^ (i+1))):=by
      show _=_
      rw [hm',Nat.pow_succ,← Nat.mul_assoc]
      exact cap_step hci.out (Nat.succ_pos _)
     clear hm'
     go_wp2_with fail
     refine (HcR.out wi (Le.below hbi)).mono ?_
     rintro e2 w2 ⟨rfl,hb2⟩
     have hB2:=hbi.trans (hb2.mono hbi.size)
     go_wp2_with fail
     go_roundg (R+1-(i+1))
     case measure=>omega
     case rel=>exact⟨i+1,m',by omega,rfl,by go_num,rfl,hmb,hcn,hB2⟩
    ·have hce:Hid (cap mm=cap (exK p l*(W+1) ^ R)):=by
      show _=_
      by_cases hiR:i<R
      ·have h1:cap mm=3001:=cap_of_big (fun h=>hgo ⟨hiR,h⟩)
       rw [h1]
       have h2:=hci.out
       rw [h1] at h2
       have h3:=cap_grow h2.symm (Nat.pow_pos (n:=R-i) (Nat.succ_pos W))
       rw [Nat.mul_assoc,← Nat.pow_add,show i+(R-i)=R by omega] at h3
       exact h3.symm
      ·obtain rfl:i=R:=by omega
       exact hci.out
     have hmgt:i<R→¬ (mm:Int)≤3000:=fun h1 h2=>hgo ⟨h1,by omega⟩
     have Hm:=Lib.hid hmgt
     clear hgo hmgt hci
     by_cases hiR:i<R
     case' pos=>
      have hm0:¬ (mm:Int)≤3000:=Hm.out hiR
      go_wp2_with fail
      refine (HcR.out wi (Le.below hbi)).mono ?_
      rintro e2 w2 ⟨rfl,hb2⟩
      have hB2:=hbi.trans (hb2.mono hbi.size)
      clear hb2 hbi
      go_wp2_with fail
     case' neg=>
      go_wp2_with fail
      refine (HcR.out wi (Le.below hbi)).mono ?_
      rintro e2 w2 ⟨rfl,hb2⟩
      have hB2:=hbi.trans (hb2.mono hbi.size)
      clear hb2 hbi
      go_wp2_with fail
     all_goals
      clear Hm hiR
      go_loopg [5,9] (W+2) (fun g s5 s9 wr=>∃ k nn:Nat,2≤k∧(k≤W+1∨k=2)∧g=W+4-k∧s9=.int .i64 k∧s5=.int .i64 nn∧nn≤66000∧Hid (cap nn=cap (exK p l*(W+1) ^ R*fact (k-1)))∧Below w.heap.size w wr)
      case atStart=>exact⟨2,mm,by omega,by omega,by omega,rfl,rfl,hmm,by show _=_; rw [show fact (2-1)=1 from rfl,Nat.mul_one]; exact hce.out,hB2⟩
      case round=>
       obtain⟨wi2,rfl⟩:∃ wi2:World,wi2=wr:=⟨_,rfl⟩
       clear hmm hce hB2
       obtain⟨k,m2,hk2,hkW,rfl,rfl,rfl,hmm2,hck,hbk⟩:=hrel
       by_cases hgo2:k≤W∧m2≤3000
       ·obtain⟨hkW',hm3⟩:=hgo2
        obtain⟨m',hm'⟩:∃ m':Nat,m'=m2*k:=⟨_,rfl⟩
        have hmI:(m2:Int)*(k:Int)=(m':Int):=by rw [hm']; simp
        have hmb:m'≤66000:=by rw [hm']; exact Nat.le_trans (Nat.mul_le_mul hm3 (by omega:k≤22)) (by omega)
        have hcn:Hid (cap m'=cap (exK p l*(W+1) ^ R*fact (k+1-1))):=by
         show _=_
         have h1:fact (k+1-1)=fact (k-1)*k:=by
          rw [show k+1-1=(k-1)+1 by omega,fact,Nat.mul_comm,show k-1+1=k by omega]
         rw [hm',h1,← Nat.mul_assoc]
         exact cap_step hck.out (by omega)
        clear hm'
        go_wp2_with fail
        go_roundg (W+4-(k+1))
        case measure=>omega
        case rel=>exact⟨k+1,m',by omega,by omega,rfl,by go_num,rfl,hmb,hcn,hbk⟩
       ·have hcf:Hid (cap m2=cap (exK p (l+1))):=by
         show _=_
         rw [exK,Hex.out,← Nat.mul_assoc]
         by_cases hkW':k≤W
         ·have h1:cap m2=3001:=cap_of_big (fun h=>hgo2 ⟨hkW',h⟩)
          rw [h1]
          have h2:=hck.out
          rw [h1] at h2
          obtain⟨d,hd,hf⟩:=fact_up (show k-1≤W by omega)
          rw [hf,← Nat.mul_assoc]
          exact (cap_grow h2.symm hd).symm
         ·have h1:fact W=fact (k-1):=by
           rcases hkW with h | h
           ·rw [show W=k-1 by omega]
           ·subst h
            rcases (show W=0∨W=1 by omega) with h | h <;> rw [h] <;> rfl
          rw [h1]
          exact hck.out
        have hmgt:k≤W→¬ (m2:Int)≤3000:=fun h1 h2=>hgo2 ⟨h1,by omega⟩
        have Hm:=Lib.hid hmgt
        clear hgo2 hmgt hck
        by_cases hkW':k≤W
        case' pos=>
         have hm0:¬ (m2:Int)≤3000:=Hm.out hkW'
         go_wp2_with fail
        case' neg=>
         go_wp2_with fail
        all_goals
         go_roundg (3-(l+1))
         case measure=>omega
         case rel=>exact⟨l+1,m2,by omega,rfl,by go_num,rfl,hmm2,hcf,hbk⟩
  ·obtain rfl:l=3:=by omega
   have hce:=hc.out
   rw [exK_three] at hce
   have Hce:=Lib.hid hce
   clear hce hc
   by_cases hbig:nn≤3000
   ·have h1:=cap_lt hbig
    have H1:=Lib.hid h1
    clear h1
    go_wp2_with fail
    go_ret
    exact⟨ret_int (by rw [← Hce.out,H1.out]),hb⟩
   ·have H1:Hid (cap nn=3001):=cap_of_big hbig
    go_wp2_with fail
    go_ret
    exact⟨ret_int (by rw [← Hce.out,H1.out]; rfl),hb⟩
theorem evN_take_succ (p:Prg) (k:Nat) (h:k<p.length):evN (p.take (k+1))=evN (p.take k)+cntE' p[k]:=wSum_take_succ _ _ _ h
theorem cntE'_take_succ (t:List Ins) (k:Nat) (h:k<t.length):cntE' (t.take (k+1))=cntE' (t.take k)+if nf t[k] then 1 else 0:=countP_take_succ _ _ _ h
set_option maxHeartbeats 2000000 in
theorem l1Shape_any (p:Prg) (hl:p.length≤1048576) (w:World) (v:Value) (hr:PrgS w v p):Calls Tryz.prog 78 #[v] w (RetB w (shB p)):=by
 obtain⟨A,c,rfl,_⟩:=hr.slice
 go_enter Tryz.func78,Tryz.ntmps78
 by_cases h3:p.length≤3
 ·have h3i:¬ (3:Int)<(p.length:Int):=by omega
  go_wp2_with fail
  go_loopg [3,4] p.length (fun g s3 s4 wr=>∃ i:Nat,i≤p.length∧g=p.length-i∧s4=.int .i64 i∧s3=.int .i64 (evN (p.take i):Nat)∧evN (p.take i)≤7*i∧Hid (∀ t∈p.take i,t.length≤7∧∀ x∈t,InsOk x)∧Below w.heap.size w wr)
  case atStart=>exact⟨0,Nat.zero_le _,rfl,rfl,by simp [evN,wSum],by simp [evN,wSum],fun t ht=>absurd ht (by simp),Below.refl _ _⟩
  case round=>
   obtain⟨wo,rfl⟩:∃ wo:World,wo=wr:=⟨_,rfl⟩
   obtain⟨i,hi,rfl,rfl,rfl,hn,hok,hb⟩:=hrel
   by_cases hlt:i<p.length
   ·obtain⟨bb,o,A1,c1,rfl,hbl,k0,hlm,hx⟩:=SlR.getSub (PrgS.le hr (Le.below hb)) hlt
    have hmem:=List.getElem_mem hlt
    have Hts:=Lib.hid (evN_take_succ p i hlt)
    have Htk:=Lib.hid (List.take_succ_eq_append_getElem hlt)
    have Hbad:Hid (∀ (q:¬ (p[i].length≤7∧∀ x∈p[i],InsOk x)),shB p=false):=fun q=>shB_false.2 fun h=>q (h.2.1 _ hmem)
    generalize hnn:evN (p.take i)=nn at hn
    rw [hnn] at Hts
    generalize htt:p[i]=t at hx hlm k0 Hts Htk Hbad
    clear hr hnn htt hmem
    by_cases h7:t.length≤7
    ·have h7i:¬ (7:Int)<(t.length:Int):=by omega
     go_wp2_with fail
     go_loopg [3,5] t.length (fun g s3 s5 wr=>∃ k:Nat,k≤t.length∧g=t.length-k∧s5=.int .i64 k∧s3=.int .i64 ((nn+cntE' (t.take k):Nat):Int)∧cntE' (t.take k)≤k∧Hid (∀ x∈t.take k,InsOk x)∧Below wo.heap.size wo wr)
     case atStart=>exact⟨0,Nat.zero_le _,rfl,rfl,by simp [cntE'],by simp [cntE'],fun x hx=>absurd hx (by simp),Below.refl _ _⟩
     case round=>
      obtain⟨k,hk,rfl,rfl,rfl,hm,hokx,hbk⟩:=hrel
      have k1:=Le.below hbk _ _ k0
      by_cases hkt:k<t.length
      ·obtain⟨b2,o2,rfl,hbl2,d0,d1,d2,d3⟩:=(InsS.le hx (Le.below hbk)).get hkt
       have hmem:=List.getElem_mem hkt
       have Hkts:=Lib.hid (cntE'_take_succ t k hkt)
       have Htx:=Lib.hid (List.take_succ_eq_append_getElem hkt)
       have Hbx:Hid (∀ (q:¬ InsOk t[k]),shB p=false):=fun q=>Hbad.out fun h=>q (h.2 _ hmem)
       generalize hmm:cntE' (t.take k)=mm at hm
       rw [hmm] at Hkts
       generalize hxx:t[k]=x at d0 d1 d2 d3 Hkts Htx Hbx
       clear hmm hxx hmem k0
       cases hv:insB x
       ·have Hv:Hid (shB p=false):=Hbx.out (insB_false.1 hv)
        have hcall:=fun W=>specIns_any x W
        rw [hv] at hcall
        have Hcall:=Lib.hid hcall
        clear hv hcall
        go_wp2_with fail
        refine (Hcall.out wr).mono ?_
        rintro e5 w5 ⟨rfl,hb5⟩
        have hB5:=hbk.trans (hb5.mono hbk.size)
        go_wp2_with fail
        go_ret
        exact⟨ret_bool Hv.out.symm,hb.trans (hB5.mono hb.size)⟩
       ·have Hx:Hid (InsOk x):=insB_iff.1 hv
        have hcall:=fun W=>specIns_any x W
        rw [hv] at hcall
        have Hcall:=Lib.hid hcall
        clear hv hcall
        go_wp2_with fail
        refine (Hcall.out wr).mono ?_
        rintro e5 w5 ⟨rfl,hb5⟩
        have hB5:=hbk.trans (hb5.mono hbk.size)
        have k5:=Le.below hb5 _ _ k1
        have x5:=Le.below hb5 _ _ d0
        clear k1 d0 d1 d2 d3 hb5 Hcall hbk
        have hokn:Hid (∀ y∈t.take (k+1),InsOk y):=fun y hy=>by
         rw [Htx.out] at hy
         rcases List.mem_append.1 hy with hy | hy
         ·exact hokx.out y hy
         ·rw [List.mem_singleton.1 hy]; exact Hx.out
        by_cases h4:x.op=4
        ·have e4:((x.op:Int) != 4)=false:=by simp [h4]
         have Hn:Hid (nf x=false):=by show _=_; simp [nf,h4]
         clear h4
         go_wp2_with fail
         go_roundg (t.length-(k+1))
         case measure=>omega
         case rel=>exact⟨k+1,by omega,rfl,by go_num,congrArg (Value.int .i64) (by rw [Hkts.out,Hn.out]; simp),by rw [Hkts.out,Hn.out]; simp; omega,hokn,hB5⟩
        ·have e4:((x.op:Int) != 4)=true:=by simpa using h4
         have Hn:Hid (nf x=true):=by show _=_; simp [nf,h4]
         clear h4
         go_wp2_with fail
         go_roundg (t.length-(k+1))
         case measure=>omega
         case rel=>exact⟨k+1,by omega,rfl,by go_num,congrArg (Value.int .i64) (by rw [Hkts.out,Hn.out]; simp; omega),by rw [Hkts.out,Hn.out]; simp; omega,hokn,hB5⟩
      ·obtain rfl:k=t.length:=by omega
       rw [List.take_length] at hm hokx ⊢
       go_wp2_with fail
       go_roundg (p.length-(i+1))
       case measure=>omega
       case rel=>
        refine⟨i+1,by omega,rfl,by go_num,congrArg (Value.int .i64) (by rw [Hts.out]),by rw [Hts.out]; omega,fun y hy=>?_,hb.trans (hbk.mono hb.size)⟩
        rw [Htk.out] at hy
        rcases List.mem_append.1 hy with hy | hy
        ·exact hok.out y hy
        ·rw [List.mem_singleton.1 hy]; exact⟨h7,hokx.out⟩
    ·have h7i:(7:Int)<(t.length:Int):=by omega
     have Hv:Hid (shB p=false):=Hbad.out fun h=>h7 h.1
     clear h7
     go_wp2_with fail
     go_ret
     exact⟨ret_bool Hv.out.symm,hb⟩
   ·obtain rfl:i=p.length:=by omega
    rw [List.take_length] at hn hok ⊢
    by_cases h12:evN p≤12
    ·have Hv:Hid (shB p=true):=shB_iff.2 ⟨h3,hok.out,h12⟩
     go_wp2_with fail
     go_ret
     exact⟨ret_bool (by rw [Hv.out,decide_eq_true_iff]; omega),hb⟩
    ·have Hv:Hid (shB p=false):=shB_false.2 fun h=>h12 h.2.2
     go_wp2_with fail
     go_ret
     exact⟨ret_bool (by rw [Hv.out,decide_eq_false_iff_not]; omega),hb⟩
 ·have h3i:(3:Int)<(p.length:Int):=by omega
  have Hv:Hid (shB p=false):=shB_false.2 fun h=>h3 h.1
  go_wp2_with fail
  go_ret
  exact⟨ret_bool Hv.out.symm,Below.refl _ _⟩
theorem prgB_eq {p:Prg} (h:shB p=true):prgB p=(decide (0<p.length) && decide (cap (exN p)≤3000)):=by
 rw [Bool.eq_iff_iff,prgB_iff,Bool.and_eq_true,decide_eq_true_iff,decide_eq_true_iff]
 have h1:=shB_iff.1 h
 have h2:cap (exN p)≤3000↔exN p≤3000:=by unfold cap; omega
 rw [h2]
 exact⟨fun h=>h.2,fun h=>⟨h1,h⟩⟩
theorem prgB_no {p:Prg} (h:shB p=false):prgB p=false:=prgB_false.2 fun h1=>shB_false.1 h h1.1
set_option maxHeartbeats 1000000 in
theorem specPrg_any (p:Prg) (hl:p.length≤1048576) (w:World) (v:Value) (hr:PrgS w v p):Calls Tryz.prog 44 #[v] w (RetB w (prgB p)):=by
 obtain⟨A,c,rfl,_⟩:=hr.slice
 have hsh:=l1Shape_any p hl w _ hr
 go_enter Tryz.func44,Tryz.ntmps44
 cases hv:shB p
 ·rw [hv] at hsh
  have Hp:=Lib.hid (prgB_no hv)
  clear hv hr
  go_wp2_with fail
  refine hsh.mono ?_
  rintro e1 w1 ⟨rfl,hb1⟩
  clear hsh
  go_wp2_with fail
  go_ret
  exact⟨ret_bool Hp.out.symm,hb1⟩
 ·rw [hv] at hsh
  have Hp:=Lib.hid (prgB_eq hv)
  have hs:=shB_iff.1 hv
  have hex:=fun (W:World) (hW:Le w W)=>l1Execs_any p hs.1 (fun t ht=>(hs.2.1 t ht).1) hs.small W _ (PrgS.le hr hW)
  have Hex:=Lib.hid hex
  have hc:=cap_le (exN p)
  generalize cap (exN p)=n at hc Hp Hex
  clear hv hr hs hex
  go_wp2_with fail
  refine hsh.mono ?_
  rintro e1 w1 ⟨rfl,hb1⟩
  clear hsh
  by_cases h0:0<p.length
  ·have h0i:(0:Int)<(p.length:Int):=by omega
   go_wp2_with fail
   refine (Hex.out w1 (Le.below hb1)).mono ?_
   rintro e2 w2 ⟨rfl,hb2⟩
   go_wp2_with fail
   go_ret
   refine⟨ret_bool ?_,hb1.trans (hb2.mono hb1.size)⟩
   rw [Hp.out]
   simp [h0]
   omega
  ·have h0i:¬ (0:Int)<(p.length:Int):=by omega
   go_wp2_with fail
   go_ret
   refine⟨ret_bool ?_,hb1⟩
   rw [Hp.out]
   simp [h0]
end Go.Proofs.YtojmofnamppbdaaGreat
