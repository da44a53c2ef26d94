/-
  The reference's states of a program: what they are in memory; the texts that tell them apart. The reference's states: hash, register, value, done, outcome, less.
-/
import Derived.Test.YtojmofnamppbdaaGreatSeqC
import Derived.Test.YtojmofnamppbdaaGreatPlM
import Derived.Deep.RegionWith
import Derived.Deep.RegionLaw
namespace Go.Proofs.YtojmofnamppbdaaGreat
open Go.RowKit
set_option linter.unusedVariables false
set_option maxRecDepth 100000
end Go.Proofs.YtojmofnamppbdaaGreat
namespace Go.Proofs.YtojmofnamppbdaaGreat
open Go.RowKit
set_option linter.unusedVariables false
set_option maxRecDepth 100000
def hashN (s:ByteArray):Nat→Nat
 | 0=>0
 | k+1=>(hashN s k*31+(if h:k<s.size then s[k].toNat else 0)) % 4096
def hashS (s:ByteArray):Nat:=hashN s s.size
theorem hashN_lt (s:ByteArray):∀ k,hashN s k<4096
 | 0=>by rw [hashN]; omega
 | k+1=>Nat.mod_lt _ (by decide)
theorem hashN_next (s:ByteArray) (k:Nat) (h:k<s.size):hashN s (k+1)=(hashN s k*31+s[k].toNat) % 4096:=by
 rw [hashN,dif_pos h]
set_option maxHeartbeats 1000000 in
theorem l3Hash_any (s:ByteArray) (hs:s.size≤1000000) (W:World):
  Calls Tryz.prog 112 #[.string s] W (RetI W (hashS s)):=by
 go_enter Tryz.func112,Tryz.ntmps112
 go_wp2_with fail
 go_loopg [3,4] s.size (fun g s3 s4 wr=>∃ k:Nat,k≤s.size∧g=s.size-k∧s3=.int .i64 (hashN s k)∧s4=.int .i64 k∧wr=W)
 case atStart=>exact⟨0,Nat.zero_le _,rfl,rfl,rfl,rfl⟩
 case round=>
  obtain⟨k,hk,rfl,rfl,rfl,rfl⟩:=hrel
  by_cases hlt:k<s.size
  ·have hn:=hashN_lt s k
   have Hn:=Lib.hid (hashN_next s k hlt)
   have hu:s[k].toNat<256:=s[k].toNat_lt
   generalize hashN s k=n at hn Hn
   have hmod:Int.tmod ((n:Int)*31+(s[k].toNat:Int)) 4096=(((n*31+s[k].toNat) % 4096:Nat):Int):=by
    rw [Int.tmod_eq_emod_of_nonneg (by omega)]
    omega
   go_wp2_with fail
   go_roundg (s.size-(k+1))
   case measure=>omega
   case rel=>exact⟨k+1,by omega,rfl,by rw [Hn.out]; exact congrArg _ (by omega),by go_num,rfl⟩
  ·obtain rfl:k=s.size:=by omega
   go_wp2_with fail
   go_ret
   exact⟨rfl,Below.refl _ _⟩
theorem l3Reg_any (t r:Nat) (ht:t≤100) (hr:r≤100) (W:World):
  Calls Tryz.prog 115 #[.int .i64 t,.int .i64 r] W (RetI W (t*3+r:Nat)):=by
 go_enter Tryz.func115,Tryz.ntmps115
 go_wp2_with fail
 go_ret
 exact⟨by go_num,Below.refl _ _⟩
set_option maxHeartbeats 1500000 in
theorem l3Less_any (xs ys:List Int) (hl:xs.length=ys.length) (W:World) (A B:Option Addr) (c d:Nat) (hx:Ints W A c xs) (hy:Ints W B d ys):
  Calls Tryz.prog 98 #[.slice A xs.length c,.slice B ys.length d] W (RetI W (lexC xs ys)):=by
 have hm:=hx.len
 have hm':=hy.len
 have HL:=Lib.hid hl
 clear hl
 go_enter Tryz.func98,Tryz.ntmps98
 go_wp2_with fail
 go_loopg [5] xs.length (fun g s5 wr=>∃ k:Nat,k≤xs.length∧g=xs.length-k∧s5=.int .i64 k∧Hid (lexC xs ys=lexC (xs.drop k) (ys.drop k))∧Below W.heap.size W wr)
 case atStart=>exact⟨0,Nat.zero_le _,rfl,rfl,rfl,Below.refl _ _⟩
 case round=>
  obtain⟨wo,rfl⟩:∃ wo:World,wo=wr:=⟨_,rfl⟩
  obtain⟨k,hk,rfl,rfl,hpre,hb⟩:=hrel
  by_cases hlt:k<xs.length
  ·have hlt':k<ys.length:=by rw [← HL.out]; exact hlt
   obtain⟨b,o,rfl,hbl,k0⟩:=hx.get hlt
   obtain⟨b',o',rfl,hbl',d0⟩:=hy.get hlt'
   have k0:=Le.below hb _ _ k0
   have d0:=Le.below hb _ _ d0
   have Hd:=Lib.hid (lexC_drop hlt hlt')
   have hki:(k:Int)<(xs.length:Int):=by omega
   have hki':(k:Int)<(ys.length:Int):=by omega
   generalize xs[k]=x at k0 Hd
   generalize ys[k]=y at d0 Hd
   have f0:=fun n:Ext wo=>n.le _ _ k0
   have f1:=fun n:Ext wo=>n.le _ _ d0
   go_upto_region 4 with (fail)
   refine wp_region_ext _ (by kernel_rfl) (by kernel_rfl) (Below.refl _ _) ?_
   repeat (go_big_quiet_step (fail))
   refine wpQuiet_nil ?_
   rintro wn ⟨⟨_,hbn⟩,rfl⟩
   have hBn:=hb.trans (hbn.mono hb.size)
   clear f0 f1
   by_cases h1:x<y
   ·have hd:decide (x<y)=true:=by rw [decide_eq_true_iff]; exact h1
    have Hp:Hid (lexC xs ys = -1):=by show _=_; rw [hpre.out,Hd.out,if_pos h1]
    clear hpre Hd hd
    go_wp2_with fail
    go_ret
    exact⟨by rw [Hp.out]; rfl,hBn⟩
   ·have hd:decide (x<y)=false:=by rw [decide_eq_false_iff_not]; exact h1
    have k0:=Le.below hbn _ _ k0
    have d0:=Le.below hbn _ _ d0
    have f0:=fun n:Ext wn=>n.le _ _ k0
    have f1:=fun n:Ext wn=>n.le _ _ d0
    go_upto_region 6 with (fail)
    refine wp_region_ext _ (by kernel_rfl) (by kernel_rfl) (Below.refl _ _) ?_
    repeat (go_big_quiet_step (fail))
    refine wpQuiet_nil ?_
    rintro wm ⟨⟨_,hbm⟩,rfl⟩
    have hBm:=hBn.trans (hbm.mono hBn.size)
    clear f0 f1
    by_cases h2:y<x
    ·have hd2:decide (y<x)=true:=by rw [decide_eq_true_iff]; exact h2
     have hd3:decide (x>y)=true:=hd2
     have Hp:Hid (lexC xs ys=1):=by show _=_; rw [hpre.out,Hd.out,if_neg h1,if_pos h2]
     clear hpre Hd hd hd2 hd3
     go_wp2_with fail
     go_ret
     exact⟨by rw [Hp.out]; rfl,hBm⟩
    ·have hd2:decide (y<x)=false:=by rw [decide_eq_false_iff_not]; exact h2
     have hd3:decide (x>y)=false:=hd2
     have Hp:Hid (lexC xs ys=lexC (xs.drop (k+1)) (ys.drop (k+1))):=by show _=_; rw [hpre.out,Hd.out,if_neg h1,if_neg h2]
     clear hpre Hd hd hd2 hd3
     go_wp2_with fail
     go_roundg (xs.length-(k+1))
     case measure=>omega
     case rel=>exact⟨k+1,by omega,rfl,by go_num,Hp.out,hBm⟩
  ·obtain rfl:k=xs.length:=by omega
   have hge:¬ xs.length<ys.length:=by rw [← HL.out]; omega
   have Hp:Hid (lexC xs ys=0):=by show _=_; rw [hpre.out,lexC_both hlt hge]
   clear hpre
   go_wp2_with fail
   go_ret
   exact⟨by rw [Hp.out]; rfl,hb⟩
end Go.Proofs.YtojmofnamppbdaaGreat
