/-
  Equal lists of numbers, lists of them; ascending order: the laws' own helpers. The laws' helper that looks whether outcomes ascend; whether a list has an outcome.
-/
import Derived.Test.YtojmofnamppbdaaGreatInts
import Derived.Test.YtojmofnamppbdaaGreatPlM
namespace Go.Proofs.YtojmofnamppbdaaGreat
open Go.RowKit
set_option linter.unusedVariables false
set_option maxRecDepth 100000
set_option maxHeartbeats 400000 in
theorem wmInts_any (xs ys:List Int) (w:World) (A A':Option Addr) (c c':Nat) (hr:Ints w A c xs) (hr':Ints w A' c' ys):
  Calls Tryz.prog 23 #[.slice A xs.length c,.slice A' ys.length c'] w (RetB w (eqB xs ys)):=by
 have hm:=hr.len
 have hm':=hr'.len
 go_enter Tryz.func23,Tryz.ntmps23
 by_cases hlen:xs.length=ys.length
 ·have hne:((xs.length:Int) != (ys.length:Int))=false:=by simp [hlen]
  have Hlen:=Lib.hid hlen
  clear hlen
  go_wp2_with fail
  go_loopg [5] xs.length (fun g s5 wr=>∃ k:Nat,k≤xs.length∧g=xs.length-k∧s5=.int .i64 k∧Hid (xs.take k=ys.take k)∧Below w.heap.size w wr)
  case atStart=>exact⟨0,Nat.zero_le _,rfl,rfl,rfl,Below.refl _ _⟩
  case round=>
   obtain⟨k,hk,rfl,rfl,hpre,hb⟩:=hrel
   by_cases hlt:k<xs.length
   ·have hlt':k<ys.length:=by have:=Hlen.out; omega
    obtain⟨b,o,rfl,hbl,k0⟩:=(hr.le (Le.below hb)).get hlt
    obtain⟨b',o',rfl,hbl',d0⟩:=(hr'.le (Le.below hb)).get hlt'
    clear hr hr'
    by_cases he:xs[k]=ys[k]
    ·have heb:(xs[k] != ys[k])=false:=by simp [he]
     have He:=Lib.hid he
     clear he
     go_wp2_with fail
     go_quiet (fail)
     go_wp2_with fail
     go_roundg (xs.length-(k+1))
     case measure=>omega
     case rel=>exact⟨k+1,by omega,rfl,by go_num,take_eq_of' hlt hlt' hpre.out He.out,below_drewN hb _⟩
    ·have heb:(xs[k] != ys[k])=true:=by simp [he]
     go_wp2_with fail
     go_quiet (fail)
     go_wp2_with fail
     go_ret
     refine⟨ret_bool ?_,below_drewN hb _⟩
     rw [eq_comm,eqB_false]
     intro e
     exact he (by simp only [e])
   ·go_wp2_with fail
    go_ret
    refine⟨ret_bool ?_,hb⟩
    obtain rfl:k=xs.length:=by omega
    rw [eq_comm,eqB_iff]
    exact eq_of_take Hlen.out hpre.out
 ·have hne:((xs.length:Int) != (ys.length:Int))=true:=by simp; omega
  go_wp2_with fail
  go_ret
  exact⟨ret_bool (eqB_ne_length hlen).symm,Below.refl _ _⟩
set_option maxHeartbeats 400000 in
theorem wmLists_any (xs ys:List (List Int)) (w:World) (A A':Option Addr) (c c':Nat) (hr:Intss w A c xs) (hr':Intss w A' c' ys):
  Calls Tryz.prog 13 #[.slice A xs.length c,.slice A' ys.length c'] w (RetB w (eqB xs ys)):=by
 have hm:=hr.len
 have hm':=hr'.len
 go_enter Tryz.func13,Tryz.ntmps13
 by_cases hlen:xs.length=ys.length
 ·have hne:((xs.length:Int) != (ys.length:Int))=false:=by simp [hlen]
  have Hlen:=Lib.hid hlen
  clear hlen
  go_wp2_with fail
  go_loopg [5] xs.length (fun g s5 wr=>∃ k:Nat,k≤xs.length∧g=xs.length-k∧s5=.int .i64 k∧Hid (xs.take k=ys.take k)∧Below w.heap.size w wr)
  case atStart=>exact⟨0,Nat.zero_le _,rfl,rfl,rfl,Below.refl _ _⟩
  case round=>
   obtain⟨k,hk,rfl,rfl,hpre,hb⟩:=hrel
   by_cases hlt:k<xs.length
   ·have hlt':k<ys.length:=by have:=Hlen.out; omega
    obtain⟨b,o,A0,c0,rfl,hbl,k0,hre⟩:=(hr.le (Le.below hb)).get hlt
    obtain⟨b',o',A1,c1,rfl,hbl',d0,hre'⟩:=(hr'.le (Le.below hb)).get hlt'
    clear hr hr'
    go_wp2_with fail
    go_still_tail 8,(by kernel_rfl)
    go_wp2_with fail
    refine (wmInts_any xs[k] ys[k] _ _ _ _ _ (hre.le (Le.drew _)) (hre'.le (Le.drew _))).mono ?_
    rintro e' w' ⟨rfl,hb'⟩
    have hb'':=hb.drew.trans (hb'.mono hb.size)
    clear k0 d0 hre hre' hbl hbl'
    go_wp2_with fail
    ·go_ret
     refine⟨ret_bool ?_,hb''⟩
     have hs:eqB xs[k] ys[k]=false:=by simpa using ‹(!eqB xs[k] ys[k])=true›
     rw [eq_comm,eqB_false]
     intro he
     rw [eqB_false] at hs
     exact hs (by simp only [he])
    ·go_roundg (xs.length-(k+1))
     case measure=>omega
     case rel=>
      have hs:eqB xs[k] ys[k]=true:=by simpa using ‹(!eqB xs[k] ys[k])=false›
      exact⟨k+1,by omega,rfl,by go_num,take_eq_of' hlt hlt' hpre.out (eqB_iff.1 hs),hb''⟩
   ·go_wp2_with fail
    go_ret
    refine⟨ret_bool ?_,hb⟩
    obtain rfl:k=xs.length:=by omega
    rw [eq_comm,eqB_iff]
    exact eq_of_take Hlen.out hpre.out
 ·have hne:((xs.length:Int) != (ys.length:Int))=true:=by simp; omega
  go_wp2_with fail
  go_ret
  exact⟨ret_bool (eqB_ne_length hlen).symm,Below.refl _ _⟩
end Go.Proofs.YtojmofnamppbdaaGreat
namespace Go.Proofs.YtojmofnamppbdaaGreat
open Go.RowKit
set_option linter.unusedVariables false
set_option maxRecDepth 100000
noncomputable def inL (L:List (List Int)) (o:List Int):Bool:=L.any fun x=>eqB x o
theorem inL_iff {L:List (List Int)} {o:List Int}:inL L o=true↔o∈L:=by
 unfold inL
 rw [List.any_eq_true]
 constructor
 ·rintro ⟨x,h1,h2⟩
  rw [← eqB_iff.1 h2]
  exact h1
 ·intro h
  exact⟨o,h,eqB_self o⟩
theorem inL_false {L:List (List Int)} {o:List Int}:inL L o=false↔o∉L:=by rw [← Bool.not_eq_true,inL_iff]
set_option maxHeartbeats 1000000 in
theorem wmOut_any (L:List (List Int)) (o:List Int) (W:World) (A B:Option Addr) (c d:Nat) (hI:Intss W A c L) (hO:Ints W B d o):Calls Tryz.prog 26 #[.slice A L.length c,.slice B o.length d] W (RetB W (inL L o)):=by
 have hm:=hI.len
 have HI:=Lib.hid hI
 have HO:=Lib.hid hO
 clear hI hO
 go_enter Tryz.func26,Tryz.ntmps26
 go_wp2_with fail
 go_loopg [5] L.length (fun g s5 wr=>∃ i:Nat,i≤L.length∧g=L.length-i∧s5=.int .i64 i∧Hid (∀ j (h:j<L.length),j<i→L[j]≠o)∧Below W.heap.size W wr)
 case atStart=>exact⟨0,Nat.zero_le _,rfl,rfl,fun j h hj=>absurd hj (Nat.not_lt_zero _),Below.refl _ _⟩
 case round=>
  obtain⟨i,hi,rfl,rfl,hall,hb⟩:=hrel
  by_cases hlt:i<L.length
  ·obtain⟨b,o',A1,c1,rfl,hb1,k0,h0⟩:=(HI.out.le (Le.below hb)).get hlt
   have hwm:=wmInts_any L[i] o wr A1 B c1 d h0 (HO.out.le (Le.below hb))
   have Hyes:Hid (eqB L[i] o=true→inL L o=true):=fun h=>inL_iff.2 (by rw [← eqB_iff.1 h]; exact List.getElem_mem hlt)
   have Hno:Hid (eqB L[i] o=false→∀ j (h:j<L.length),j<i+1→L[j]≠o):=fun h j hj hji=>by
    rcases Nat.lt_succ_iff_lt_or_eq.1 hji with h' | h'
    ·exact hall.out j hj h'
    ·subst h'; exact eqB_false.1 h
   generalize L[i]=x at k0 h0 hwm Hyes Hno
   clear hall h0
   go_wp2_with fail
   refine hwm.mono ?_
   rintro e5 w5 ⟨rfl,hb5⟩
   have hB5:=hb.trans (hb5.mono hb.size)
   clear hwm k0
   cases hx:eqB x o
   ·have Hn:=Lib.hid (Hno.out hx)
    clear hx Hyes Hno
    go_wp2_with fail
    go_roundg (L.length-(i+1))
    case measure=>omega
    case rel=>exact⟨i+1,by omega,rfl,by go_num,Hn.out,hB5⟩
   ·have Hy:=Lib.hid (Hyes.out hx)
    clear hx Hyes Hno
    go_wp2_with fail
    go_ret
    exact⟨ret_bool Hy.out.symm,hB5⟩
  ·obtain rfl:i=L.length:=by omega
   have Hn:Hid (inL L o=false):=inL_false.2 fun h=>by
    obtain⟨j,hj,e⟩:=List.getElem_of_mem h
    exact hall.out j hj hj e
   clear hall
   go_wp2_with fail
   go_ret
   exact⟨ret_bool Hn.out.symm,hb⟩
end Go.Proofs.YtojmofnamppbdaaGreat
