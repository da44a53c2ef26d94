/-
  Equal lists of numbers, lists of them; ascending order: the laws' own helpers. The laws' helper that looks whether outcomes ascend; whether a list has an outcome.
-/
import Derived.Test.YtojmofnamppbdaaGreatInts
import Derived.Test.YtojmofnamppbdaaGreatPlM
namespace Go.Proofs.YtojmofnamppbdaaGreat
open Go.RowKit
set_option linter.unusedVariables false
set_option maxRecDepth 100000
set_option maxHeartbeats 400000 in
theorem wmInts_any (xs ys:List Int) (w:World) (A A':Option Addr) (c c':Nat) (hr:Ints w A c xs) (hr':Ints w A' c' ys):
  Calls Tryz.prog 23 #[.slice A xs.length c,.slice A' ys.length c'] w (RetB w (eqB xs ys)):=by
 have hm:=hr.len
 have hm':=hr'.len
 go_enter Tryz.func23,Tryz.ntmps23
 by_cases hlen:xs.length=ys.length
 ·have hne:((xs.length:Int) != (ys.length:Int))=false:=by simp [hlen]
  have Hlen:=Lib.hid hlen
  clear hlen
  go_wp2_with fail
  go_loopg [5] xs.length (fun g s5 wr=>∃ k:Nat,k≤xs.length∧g=xs.length-k∧s5=.int .i64 k∧Hid (xs.take k=ys.take k)∧Below w.heap.size w wr)
  case atStart=>exact⟨0,Nat.zero_le _,rfl,rfl,rfl,Below.refl _ _⟩
  case round=>
   obtain⟨k,hk,rfl,rfl,hpre,hb⟩:=hrel
   by_cases hlt:k<xs.length
   ·have hlt':k<ys.length:=by have:=Hlen.out; omega
    obtain⟨b,o,rfl,hbl,k0⟩:=(hr.le (Le.below hb)).get hlt
    obtain⟨b',o',rfl,hbl',d0⟩:=(hr'.le (Le.below hb)).get hlt'
    clear hr hr'
    by_cases he:xs[k]=ys[k]
    ·have heb:(xs[k] != ys[k])=false:=by simp [he]
     have He:=Lib.hid he
     clear he
     go_wp2_with fail
     go_quiet (fail)
     go_wp2_with fail
     go_roundg (xs.length-(k+1))
     case measure=>omega
     case rel=>exact⟨k+1,by omega,rfl,by go_num,take_eq_of' hlt hlt' hpre.out He.out,below_drewN hb _⟩
    ·have heb:(xs[k] != ys[k])=true:=by simp [he]
     go_wp2_with fail
     go_quiet (fail)
     go_wp2_with fail
     go_ret
     refine⟨ret_bool ?_,below_drewN hb _⟩
     rw [eq_comm,eqB_false]
     intro e
     exact he (by simp only [e])
   ·go_wp2_with fail
    go_ret
    refine⟨ret_bool ?_,hb⟩
    obtain rfl:k=xs.length:=by omega
    rw [eq_comm,eqB_iff]
    exact eq_of_take Hlen.out hpre.out
 ·have hne:((xs.length:Int) != (ys.length:Int))=true:=by simp; omega
  go_wp2_with fail
  go_ret
  exact⟨ret_bool (eqB_ne_length hlen).symm,Below.refl _ _⟩
set_option maxHeartbeats 400000 in
theorem wmLists_any (xs ys:List (List Int)) (w:World) (A A':Option Addr) (c c':Nat) (hr:Intss w A c xs) (hr':Intss w A' c' ys):
  Calls Tryz.prog 13 #[.slice A xs.length c,.slice A' ys.length c'] w (RetB w (eqB xs ys)):=by
 have hm:=hr.len
 have hm':=hr'.len
 go_enter Tryz.func13,Tryz.ntmps13
 by_cases hlen:xs.length=ys.length
 ·have hne:((xs.length:Int) != (ys.length:Int))=false:=by simp [hlen]
  have Hlen:=Lib.hid hlen
  clear hlen
  go_wp2_with fail
  go_loopg [5] xs.length (fun g s5 wr=>∃ k:Nat,k≤xs.length∧g=xs.length-k∧s5=.int .i64 k∧Hid (xs.take k=ys.take k)∧Below w.heap.size w wr)
  case atStart=>exact⟨0,Nat.zero_le _,rfl,rfl,rfl,Below.refl _ _⟩
  case round=>
   obtain⟨k,hk,rfl,rfl,hpre,hb⟩:=hrel
   by_cases hlt:k<xs.length
   ·have hlt':k<ys.length:=by have:=Hlen.out; omega
    obtain⟨b,o,A0,c0,rfl,hbl,k0,hre⟩:=(hr.le (Le.below hb)).get hlt
    obtain⟨b',o',A1,c1,rfl,hbl',d0,hre'⟩:=(hr'.le (Le.below hb)).get hlt'
    clear hr hr'
    go_wp2_with fail
    go_still_tail 8,(by kernel_rfl)
    go_wp2_with fail
    refine (wmInts_any xs[k] ys[k] _ _ _ _ _ (hre.le (Le.drew _)) (hre'.le (Le.drew _))).mono ?_
    rintro e' w' ⟨rfl,hb'⟩
    have hb'':=hb.drew.trans (hb'.mono hb.size)
    clear k0 d0 hre hre' hbl hbl'
    go_wp2_with fail
    ·go_ret
     refine⟨ret_bool ?_,hb''⟩
     have hs:eqB xs[k] ys[k]=false:=by simpa using ‹(!eqB xs[k] ys[k])=true›
     rw [eq_comm,eqB_false]
     intro he
     rw [eqB_false] at hs
     exact hs (by simp only [he])
    ·go_roundg (xs.length-(k+1))
     case measure=>omega
     case rel=>
      have hs:eqB xs[k] ys[k]=true:=by simpa using ‹(!eqB xs[k] ys[k])=false›
      exact⟨k+1,by omega,rfl,by go_num,take_eq_of' hlt hlt' hpre.out (eqB_iff.1 hs),hb''⟩
   ·go_wp2_with fail
    go_ret
    refine⟨ret_bool ?_,hb⟩
    obtain rfl:k=xs.length:=by omega
    rw [eq_comm,eqB_iff]
    exact eq_of_take Hlen.out hpre.out
 ·have hne:((xs.length:Int) != (ys.length:Int))=true:=by simp; omega
  go_wp2_with fail
  go_ret
  exact⟨ret_bool (eqB_ne_length hlen).symm,Below.refl _ _⟩
end Go.Proofs.YtojmofnamppbdaaGreat
namespace Go.Proofs.YtojmofnamppbdaaGreat
open Go.RowKit
set_option linter.unusedVariables false
set_option maxRecDepth 100000
theorem lex_part:∀ (a b:List Int) (k:Nat),a.length=b.length→lexC a b<0→(∀ j,j<k→a.getD j 0=b.getD j 0)→k≤a.length→k<a.length∧(a.getD k 0≠b.getD k 0→a.getD k 0<b.getD k 0)
 | [],[],k,_,h,_,_=>by simp [lexC] at h
 | [],_::_,_,hl,_,_,_=>by simp at hl
 | _::_,[],_,hl,_,_,_=>by simp at hl
 | x::a,y::b,0,hl,h,_,_=>by
  refine⟨by simp,fun hne=>?_⟩
  simp only [List.getD_cons_zero] at hne ⊢
  simp only [lexC] at h
  by_cases h1:x<y
  ·exact h1
  ·rw [if_neg h1,if_pos (by omega)] at h; omega
 | x::a,y::b,k+1,hl,h,hp,hk=>by
  have h0:=hp 0 (by omega)
  simp only [List.getD_cons_zero] at h0
  subst h0
  simp only [lexC,Int.lt_irrefl,if_false] at h
  obtain⟨h1,h2⟩:=lex_part a b k (by simpa using hl) h (fun j hj=>by have:=hp (j+1) (by omega); simpa using this) (by simpa using hk)
  refine⟨by simpa using h1,fun hne=>?_⟩
  simp only [List.getD_cons_succ] at hne ⊢
  exact h2 hne
theorem asc_next {L:List (List Int)} (h:Asc L) {i:Nat} (hi:i+1<L.length):lexC (L[i]'(by omega)) L[i+1]<0:=
 List.pairwise_iff_getElem.1 h i (i+1) (by omega) hi (by omega)
set_option maxHeartbeats 1500000 in
theorem sorted_any (L:List (List Int)) (n:Nat) (hn:∀ x∈L,x.length=n) (hA:Asc L) (W:World) (A:Option Addr) (c:Nat) (hI:Intss W A c L):Calls Tryz.prog 16 #[.slice A L.length c] W (RetB W true):=by
 have hm:=hI.len
 have HI:=Lib.hid hI
 have HA:=Lib.hid hA
 have HN:=Lib.hid hn
 clear hI hA hn
 go_enter Tryz.func16,Tryz.ntmps16
 go_wp2_with fail
 go_loopg [3,4] L.length (fun g s3 s4 wr=>∃ i:Nat,i≤L.length∧g=L.length-i∧s3=.int .i64 ((i:Int)+1)∧Below W.heap.size W wr)
 case atStart=>exact⟨0,Nat.zero_le _,rfl,rfl,Below.refl _ _⟩
 case round=>
  obtain⟨i,hi,rfl,rfl,hb⟩:=hrel
  by_cases hlt:i+1<L.length
  ·have hlt':(i:Int)+1<(L.length:Int):=by omega
   have hi0:i<L.length:=by omega
   have hIr:=HI.out.le (Le.below hb)
   obtain⟨b,o,A1,c1,e1,hb1,k0,h0⟩:=hIr.get hi0
   obtain⟨b',o',A2,c2,e2,hb2,k1,h1⟩:=hIr.get hlt
   rw [e1] at e2
   injection e2 with e2
   injection e2 with e2 e3
   subst e1 e2 e3
   have l1:=HN.out _ (List.getElem_mem hi0)
   have l2:=HN.out _ (List.getElem_mem hlt)
   have hlex:=asc_next HA.out hlt
   rw [l1] at k0
   rw [l2] at k1
   obtain⟨xs,hxs⟩:∃ xs,xs=L[i]:=⟨_,rfl⟩
   obtain⟨ys,hys⟩:∃ ys,ys=L[i+1]:=⟨_,rfl⟩
   rw [← hxs] at h0 l1 hlex
   rw [← hys] at h1 l2 hlex
   have hn9:=h0.len
   have H0:=Lib.hid h0
   have H1:=Lib.hid h1
   have HL:=Lib.hid (And.intro hlex (And.intro l1 l2))
   have hsub:(i:Int)+1-1=(i:Int):=by omega
   obtain⟨wz,hwz⟩:∃ wz:World,wz=wr:=⟨_,rfl⟩
   rw [l1] at hn9
   have K0:Hid (∀ U,Le wz U→U.cell? ⟨b,o+i,none⟩=some (.slice A1 n c1)∧U.cell? ⟨b,o+(i+1),none⟩=some (.slice A2 n c2)∧Ints U A1 c1 xs∧Ints U A2 c2 ys):=fun U hU=>by
    rw [hwz] at hU
    exact⟨hU _ _ k0,hU _ _ k1,H0.out.le hU,H1.out.le hU⟩
   clear hxs hys hlex l1 l2 hIr h0 h1 H0 H1 k0 k1
   go_wp2_with fail
   go_loopg [4] n (fun g s4 wq=>∃ k:Nat,k≤n∧g=n-k∧s4=.int .i64 k∧Hid (∀ j,j<k→xs.getD j 0=ys.getD j 0)∧Below W.heap.size W wq∧Below wz.heap.size wz wq)
   case atStart=>exact⟨0,Nat.zero_le _,rfl,rfl,fun j hj=>absurd hj (Nat.not_lt_zero _),hb,by rw [hwz]; exact Below.refl _ _⟩
   case round=>
    obtain⟨k,hk,rfl,rfl,hpre,hb,hbz⟩:=hrel
    obtain⟨k0,k1,h0,h1⟩:=K0.out wr (Le.below hbz)
    have f0:=fun m:Ext wr=>m.le _ _ k0
    have f1:=fun m:Ext wr=>m.le _ _ k1
    by_cases hlk:k<n
    ·have hlk':(k:Int)<(n:Int):=by omega
     obtain⟨b3,o3,e3,hb3,j0⟩:=h0.get (i:=k) (by rw [HL.out.2.1]; exact hlk)
     obtain⟨b4,o4,e4,hb4,j1⟩:=h1.get (i:=k) (by rw [HL.out.2.2]; exact hlk)
     have g0:xs[k]'(by rw [HL.out.2.1]; exact hlk)=xs.getD k 0:=by rw [List.getD_eq_getElem?_getD,List.getElem?_eq_getElem]; rfl
     have g1:ys[k]'(by rw [HL.out.2.2]; exact hlk)=ys.getD k 0:=by rw [List.getD_eq_getElem?_getD,List.getElem?_eq_getElem]; rfl
     rw [g0] at j0
     rw [g1] at j1
     subst e3 e4
     have f2:=fun m:Ext wr=>m.le _ _ j0
     have f3:=fun m:Ext wr=>m.le _ _ j1
     have Hlp:Hid (xs.getD k 0≠ys.getD k 0→xs.getD k 0<ys.getD k 0):=(lex_part xs ys k (by rw [HL.out.2.1,HL.out.2.2]) HL.out.1 hpre.out (by rw [HL.out.2.1]; exact hk)).2
     have Hpre:Hid (xs.getD k 0=ys.getD k 0→∀ j,j<k+1→xs.getD j 0=ys.getD j 0):=fun he j hj=>by
      rcases Nat.lt_succ_iff_lt_or_eq.1 hj with h | h
      ·exact hpre.out j h
      ·rw [h]; exact he
     generalize xs.getD k 0=x at j0 f2 Hlp Hpre
     generalize ys.getD k 0=y at j1 f3 Hlp Hpre
     clear g0 g1 h0 h1 hpre
     by_cases he:x=y
     ·have heb:(x == y)=true:=by simp [he]
      have Hp2:=Lib.hid (Hpre.out he)
      clear he Hpre Hlp
      go_wp2_with fail
      refine wp_region_ext _ (by kernel_rfl) (by kernel_rfl) (Below.refl _ _) ?_
      repeat (go_big_quiet_step (fail))
      refine wpQuiet_nil ?_
      rintro w6 ⟨⟨_,hb6⟩,rfl⟩
      clear f0 f1 f2 f3
      go_wp2_with fail
      go_roundg (n-(k+1))
      case measure=>omega
      case rel=>exact⟨k+1,by omega,rfl,by go_num,Hp2.out,hb.trans (hb6.mono hb.size),hbz.trans (hb6.mono hbz.size)⟩
     ·have heb:(x == y)=false:=beq_eq_false_iff_ne.2 he
      have hxy:=Hlp.out he
      have hgt:decide (x>y)=false:=by rw [decide_eq_false_iff_not]; omega
      have hne:((k:Int) == (n:Int))=false:=by rw [beq_eq_false_iff_ne]; omega
      clear he Hpre Hlp
      go_wp2_with fail
      refine wp_region_ext _ (by kernel_rfl) (by kernel_rfl) (Below.refl _ _) ?_
      repeat (go_big_quiet_step (fail))
      refine wpQuiet_nil ?_
      rintro w6 ⟨⟨_,hb6⟩,rfl⟩
      go_wp2_with fail
      refine wp_region_ext wr (by kernel_rfl) (by kernel_rfl) hb6 ?_
      repeat (go_big_quiet_step (fail))
      refine wpQuiet_nil ?_
      rintro w7 ⟨⟨_,hb7⟩,rfl⟩
      clear f0 f1 f2 f3
      go_wp2_with fail
      go_roundg (L.length-(i+1))
      case measure=>omega
      case rel=>exact⟨i+1,by omega,rfl,by go_num,hb.trans (hb7.mono hb.size)⟩
    ·exfalso
     have hkn:k=n:=by omega
     exact absurd (lex_part xs ys k (by rw [HL.out.2.1,HL.out.2.2]) HL.out.1 hpre.out (by rw [HL.out.2.1]; exact hk)).1 (by rw [HL.out.2.1]; omega)
  ·have hlt':decide ((i:Int)+1<(L.length:Int))=false:=by rw [decide_eq_false_iff_not]; omega
   go_wp2_with fail
   go_ret
   exact⟨rfl,hb⟩
noncomputable def inL (L:List (List Int)) (o:List Int):Bool:=L.any fun x=>eqB x o
theorem inL_iff {L:List (List Int)} {o:List Int}:inL L o=true↔o∈L:=by
 unfold inL
 rw [List.any_eq_true]
 constructor
 ·rintro ⟨x,h1,h2⟩
  rw [← eqB_iff.1 h2]
  exact h1
 ·intro h
  exact⟨o,h,eqB_self o⟩
theorem inL_false {L:List (List Int)} {o:List Int}:inL L o=false↔o∉L:=by rw [← Bool.not_eq_true,inL_iff]
set_option maxHeartbeats 1000000 in
theorem wmOut_any (L:List (List Int)) (o:List Int) (W:World) (A B:Option Addr) (c d:Nat) (hI:Intss W A c L) (hO:Ints W B d o):Calls Tryz.prog 26 #[.slice A L.length c,.slice B o.length d] W (RetB W (inL L o)):=by
 have hm:=hI.len
 have HI:=Lib.hid hI
 have HO:=Lib.hid hO
 clear hI hO
 go_enter Tryz.func26,Tryz.ntmps26
 go_wp2_with fail
 go_loopg [5] L.length (fun g s5 wr=>∃ i:Nat,i≤L.length∧g=L.length-i∧s5=.int .i64 i∧Hid (∀ j (h:j<L.length),j<i→L[j]≠o)∧Below W.heap.size W wr)
 case atStart=>exact⟨0,Nat.zero_le _,rfl,rfl,fun j h hj=>absurd hj (Nat.not_lt_zero _),Below.refl _ _⟩
 case round=>
  obtain⟨i,hi,rfl,rfl,hall,hb⟩:=hrel
  by_cases hlt:i<L.length
  ·obtain⟨b,o',A1,c1,rfl,hb1,k0,h0⟩:=(HI.out.le (Le.below hb)).get hlt
   have hwm:=wmInts_any L[i] o wr A1 B c1 d h0 (HO.out.le (Le.below hb))
   have Hyes:Hid (eqB L[i] o=true→inL L o=true):=fun h=>inL_iff.2 (by rw [← eqB_iff.1 h]; exact List.getElem_mem hlt)
   have Hno:Hid (eqB L[i] o=false→∀ j (h:j<L.length),j<i+1→L[j]≠o):=fun h j hj hji=>by
    rcases Nat.lt_succ_iff_lt_or_eq.1 hji with h' | h'
    ·exact hall.out j hj h'
    ·subst h'; exact eqB_false.1 h
   generalize L[i]=x at k0 h0 hwm Hyes Hno
   clear hall h0
   go_wp2_with fail
   refine hwm.mono ?_
   rintro e5 w5 ⟨rfl,hb5⟩
   have hB5:=hb.trans (hb5.mono hb.size)
   clear hwm k0
   cases hx:eqB x o
   ·have Hn:=Lib.hid (Hno.out hx)
    clear hx Hyes Hno
    go_wp2_with fail
    go_roundg (L.length-(i+1))
    case measure=>omega
    case rel=>exact⟨i+1,by omega,rfl,by go_num,Hn.out,hB5⟩
   ·have Hy:=Lib.hid (Hyes.out hx)
    clear hx Hyes Hno
    go_wp2_with fail
    go_ret
    exact⟨ret_bool Hy.out.symm,hB5⟩
  ·obtain rfl:i=L.length:=by omega
   have Hn:Hid (inL L o=false):=inL_false.2 fun h=>by
    obtain⟨j,hj,e⟩:=List.getElem_of_mem h
    exact hall.out j hj hj e
   clear hall
   go_wp2_with fail
   go_ret
   exact⟨ret_bool Hn.out.symm,hb⟩
end Go.Proofs.YtojmofnamppbdaaGreat
