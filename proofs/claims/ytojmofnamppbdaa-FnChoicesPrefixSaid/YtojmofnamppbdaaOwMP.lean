/-
  Marks: ints and slices of ints of one's own.
-/
import Derived.Test.YtojmofnamppbdaaRwS
import Derived.Test.YtojmofnamppbdaaWInsP
namespace Go.Proofs.Ytojmofnamppbdaa
open Go.RowKit
set_option linter.unusedVariables false
set_option maxRecDepth 100000
def RetHd (w:World) (n:Nat) (e:Ending) (w':World):Prop:=e=.returned (.int .i64 (n:Int))∧Below w.heap.size w w'
abbrev OwI1 (w:World) (v:Value) (xs:List Int) (F:List Nat):Prop:=OwRow 1 3 (flat QInt) w v xs F
theorem OwI1.ints {w:World} {B:Nat} {v:Value} {xs:List Int} {F:List Nat} (h:OwI1 w v xs F) (hF:∀ b∈F,B≤b):SlR 1 RInt (above B w) v xs:=h.slR (fun cs x F' _ h=>h.1) hF
def mkN (k:Nat) (_:Int):Int:=k
def mkNs (k:Nat) (xs:List Int):List Int:=mkG mkN (fun _=>1) k xs
theorem mkNs_length (k:Nat) (xs:List Int):(mkNs k xs).length=xs.length:=mkG_length _ _ _ _
set_option maxHeartbeats 1000000 in
theorem markInts_any (xs:List Int) (w:World) (v:Value) (F:List Nat) (k:Nat) (h:OwI1 w v xs F) (hnd:F.Nodup) (hk:k+xs.length<10 ^ 18):
  Calls Try.prog 13 #[v,.int .i64 k] w (fun e w'=>e=.returned (.int .i64 ((k+xs.length:Nat):Int))∧OwI1 w' v (mkNs k xs) F∧MvO F w w'):=by
 obtain⟨A,c,rfl,_,hlen⟩:=h.slice
 go_enter Try.func13,Try.ntmps13
 go_wp2_with fail
 go_loopg [1,5] xs.length (fun g s1 s5 wr=>∃ i:Nat,i≤xs.length∧g=xs.length-i∧s5=.int .i64 i∧s1=.int .i64 ((k+i:Nat):Int)∧OwI1 wr (.slice A xs.length c) (midG mkN (fun _=>1) k xs i) F∧MvO F w wr)
 case atStart=>exact⟨0,Nat.zero_le _,rfl,rfl,rfl,by rw [midG_zero]; exact h,MvO.refl _ _⟩
 case round=>
  obtain⟨i,hi,rfl,rfl,rfl,ho,m⟩:=hrel
  by_cases hlt:i<xs.length
  ·have hml:=midG_length mkN (fun _=>1) k xs i hi
   obtain⟨g,N,G,Fi,rfl,hn',hgl,hgF,hsub,hndi,hgi,hrow,hN,⟨q0,rfl⟩,hback⟩:=OwRow.elem ho (flat_loc qint_congr) hnd (i:=i) (by omega)
   have c0:=hrow.cell (i:=i) (by omega)
   have z0:=hrow.frozen i
   have hset:=midG_set mkN (fun _=>1) k xs i hlt
   rw [wSum4,List.length_take,show min i xs.length=i by omega,Nat.one_mul] at hset
   obtain⟨q,hq⟩:∃ q:Nat,q=k+i:=⟨_,rfl⟩
   rw [← hq] at hset ⊢
   have hq1:q+1<10 ^ 18:=by omega
   have hnx:q+1=k+(i+1):=by omega
   have hW:=hrow.set i (.int .i64 q)
   have hres:=hback _ _ (mkN q xs[i]) hW (fun t j ht hj=>by
    obtain rfl:j=0:=by omega
    simp only [Nat.mul_one,Nat.add_zero]
    exact if_neg ht) (fun b hb hne _=>Below.heap_setCell _ _ _ _ hne) ⟨if_pos (by omega),rfl⟩
   rw [hset] at hres
   have Hres:=Lib.hid hres
   have hm4:=m.set (p:=⟨g,i,none⟩) hgF (.int .i64 q)
   have Hm4:=Lib.hid hm4
   have Nx:=Lib.hid hnx
   clear hback hset hnx hn' hml hq ho h hrow hres hm4 hW q0
   go_wp2_with fail
   go_roundg (xs.length-(i+1))
   case measure=>omega
   case rel=>exact⟨i+1,by omega,rfl,by go_num,congrArg (Value.int .i64) (by have:=Nx.out; omega),Hres.out,Hm4.out⟩
  ·obtain rfl:i=xs.length:=by omega
   go_wp2_with fail
   go_ret
   rw [midG_all] at ho
   exact⟨rfl,ho,m⟩
set_option maxHeartbeats 1000000 in
theorem heldInts_any (xs:List Int) (w:World) (A:Option Addr) (c:Nat) (k:Nat) (h:Ints w A c (mkNs k xs)) (hk:k+xs.length<10 ^ 18):
  Calls Try.prog 14 #[.slice A xs.length c,.int .i64 k] w (RetHd w (k+xs.length)):=by
 have hlen:=h.len
 rw [mkNs_length] at hlen
 go_enter Try.func14,Try.ntmps14
 go_wp2_with fail
 go_loopg [1,5] xs.length (fun g s1 s5 wr=>∃ i:Nat,i≤xs.length∧g=xs.length-i∧s5=.int .i64 i∧s1=.int .i64 ((k+i:Nat):Int)∧Below w.heap.size w wr)
 case atStart=>exact⟨0,Nat.zero_le _,rfl,rfl,rfl,Below.refl _ _⟩
 case round=>
  obtain⟨i,hi,rfl,rfl,rfl,hb⟩:=hrel
  by_cases hlt:i<xs.length
  ·obtain⟨b,o,rfl,hbl,k0⟩:=(h.le (Le.below hb)).get (i:=i) (by rw [mkNs_length]; exact hlt)
   simp only [mkNs,mkG_get mkN (fun _=>1) xs k i hlt,wSum4,List.length_take,show min i xs.length=i by omega,Nat.one_mul] at k0
   obtain⟨q,hq⟩:∃ q:Nat,q=k+i:=⟨_,rfl⟩
   rw [← hq] at k0 ⊢
   simp only [mkN] at k0
   have hq1:q+1<10 ^ 18:=by omega
   have hnx:q+1=k+(i+1):=by omega
   have Nx:=Lib.hid hnx
   clear hnx hq h
   go_wp2_with fail
   go_roundg (xs.length-(i+1))
   case measure=>omega
   case rel=>exact⟨i+1,by omega,rfl,by go_num,congrArg (Value.int .i64) (by have:=Nx.out; omega),hb⟩
  ·obtain rfl:i=xs.length:=by omega
   go_wp2_with fail
   go_ret
   exact⟨rfl,hb⟩
end Go.Proofs.Ytojmofnamppbdaa
