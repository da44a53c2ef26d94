/-
  Marks: ints and slices of ints of one's own.
-/
import Derived.Test.YtojmofnamppbdaaGreatRwS
import Derived.Test.YtojmofnamppbdaaGreatWInsP
namespace Go.Proofs.YtojmofnamppbdaaGreat
open Go.RowKit
set_option linter.unusedVariables false
set_option maxRecDepth 100000
def RetHd (w:World) (n:Nat) (e:Ending) (w':World):Prop:=e=.returned (.int .i64 (n:Int))∧Below w.heap.size w w'
abbrev OwI1 (w:World) (v:Value) (xs:List Int) (F:List Nat):Prop:=OwRow 1 3 (flat QInt) w v xs F
def PI1:OwP (List Int):=sub 1 3 (flat QInt)
theorem pi1_loc:OwLoc 1 PI1:=sub_loc (flat_loc qint_congr)
abbrev OwI2 (w:World) (v:Value) (xs:List (List Int)) (F:List Nat):Prop:=OwRow 1 31 PI1 w v xs F
theorem OwI1.ints {w:World} {B:Nat} {v:Value} {xs:List Int} {F:List Nat} (h:OwI1 w v xs F) (hF:∀ b∈F,B≤b):SlR 1 RInt (above B w) v xs:=h.slR (fun cs x F' _ h=>h.1) hF
theorem OwI2.intss {w:World} {B:Nat} {v:Value} {xs:List (List Int)} {F:List Nat} (h:OwI2 w v xs F) (hF:∀ b∈F,B≤b):SlR 1 RInts (above B w) v xs:=
 h.slR (fun cs x F' hF' h=>by
  have h':=OwI1.ints h hF'
  obtain⟨A,c,e,_⟩:=h'.slice
  exact⟨A,c,e,by unfold Ints; rw [← e]; exact h'⟩) hF
def mkN (k:Nat) (_:Int):Int:=k
def mkNs (k:Nat) (xs:List Int):List Int:=mkG mkN (fun _=>1) k xs
theorem mkNs_length (k:Nat) (xs:List Int):(mkNs k xs).length=xs.length:=mkG_length _ _ _ _
def mkNss (k:Nat) (xss:List (List Int)):List (List Int):=mkG mkNs List.length k xss
theorem mkNss_length (k:Nat) (xss:List (List Int)):(mkNss k xss).length=xss.length:=mkG_length _ _ _ _
set_option maxHeartbeats 1000000 in
theorem markInts_any (xs:List Int) (w:World) (v:Value) (F:List Nat) (k:Nat) (h:OwI1 w v xs F) (hnd:F.Nodup) (hk:k+xs.length<10 ^ 18):
  Calls Tryz.prog 68 #[v,.int .i64 k] w (fun e w'=>e=.returned (.int .i64 ((k+xs.length:Nat):Int))∧OwI1 w' v (mkNs k xs) F∧MvO F w w'):=by
 obtain⟨A,c,rfl,_,hlen⟩:=h.slice
 go_enter Tryz.func68,Tryz.ntmps68
 go_wp2_with fail
 go_loopg [1,5] xs.length (fun g s1 s5 wr=>∃ i:Nat,i≤xs.length∧g=xs.length-i∧s5=.int .i64 i∧s1=.int .i64 ((k+i:Nat):Int)∧OwI1 wr (.slice A xs.length c) (midG mkN (fun _=>1) k xs i) F∧MvO F w wr)
 case atStart=>exact⟨0,Nat.zero_le _,rfl,rfl,rfl,by rw [midG_zero]; exact h,MvO.refl _ _⟩
 case round=>
  obtain⟨i,hi,rfl,rfl,rfl,ho,m⟩:=hrel
  by_cases hlt:i<xs.length
  ·have hml:=midG_length mkN (fun _=>1) k xs i hi
   obtain⟨g,N,G,Fi,rfl,hn',hgl,hgF,hsub,hndi,hgi,hrow,hN,⟨q0,rfl⟩,hback⟩:=OwRow.elem ho (flat_loc qint_congr) hnd (i:=i) (by omega)
   have c0:=hrow.cell (i:=i) (by omega)
   have z0:=hrow.frozen i
   have hset:=midG_set mkN (fun _=>1) k xs i hlt
   rw [wSum4,List.length_take,show min i xs.length=i by omega,Nat.one_mul] at hset
   obtain⟨q,hq⟩:∃ q:Nat,q=k+i:=⟨_,rfl⟩
   rw [← hq] at hset ⊢
   have hq1:q+1<10 ^ 18:=by omega
   have hnx:q+1=k+(i+1):=by omega
   have hW:=hrow.set i (.int .i64 q)
   have hres:=hback _ _ (mkN q xs[i]) hW (fun t j ht hj=>by
    obtain rfl:j=0:=by omega
    simp only [Nat.mul_one,Nat.add_zero]
    exact if_neg ht) (fun b hb hne _=>Below.heap_setCell _ _ _ _ hne) ⟨if_pos (by omega),rfl⟩
   rw [hset] at hres
   have Hres:=Lib.hid hres
   have hm4:=m.set (p:=⟨g,i,none⟩) hgF (.int .i64 q)
   have Hm4:=Lib.hid hm4
   have Nx:=Lib.hid hnx
   clear hback hset hnx hn' hml hq ho h hrow hres hm4 hW q0
   go_wp2_with fail
   go_roundg (xs.length-(i+1))
   case measure=>omega
   case rel=>exact⟨i+1,by omega,rfl,by go_num,congrArg (Value.int .i64) (by have:=Nx.out; omega),Hres.out,Hm4.out⟩
  ·obtain rfl:i=xs.length:=by omega
   go_wp2_with fail
   go_ret
   rw [midG_all] at ho
   exact⟨rfl,ho,m⟩
set_option maxHeartbeats 1000000 in
theorem markIntss_any (p:List (List Int)) (w:World) (v:Value) (F:List Nat) (k:Nat) (h:OwI2 w v p F) (hnd:F.Nodup) (hk:k+wSum List.length p<10 ^ 18):
  Calls Tryz.prog 34 #[v,.int .i64 k] w (fun e w'=>e=.returned (.int .i64 ((k+wSum List.length p:Nat):Int))∧OwI2 w' v (mkNss k p) F∧MvO F w w'):=by
 obtain⟨A,c,rfl,_,hlen⟩:=h.slice
 go_enter Tryz.func34,Tryz.ntmps34
 go_wp2_with fail
 go_loopg [1,5] p.length (fun g s1 s5 wr=>∃ i:Nat,i≤p.length∧g=p.length-i∧s5=.int .i64 i∧s1=.int .i64 ((k+wSum List.length (p.take i):Nat):Int)∧OwI2 wr (.slice A p.length c) (midG mkNs List.length k p i) F∧MvO F w wr)
 case atStart=>exact⟨0,Nat.zero_le _,rfl,rfl,by simp [wSum],by rw [midG_zero]; exact h,MvO.refl _ _⟩
 case round=>
  obtain⟨i,hi,rfl,rfl,rfl,ho,m⟩:=hrel
  by_cases hlt:i<p.length
  ·have hml:=midG_length mkNs List.length k p i hi
   obtain⟨g,N,G,Fi,rfl,hn',hgl,hgF,hsub,hndi,hgi,hrow,hN,hPi,hback⟩:=OwRow.elem ho pi1_loc hnd (i:=i) (by omega)
   rw [midG_get mkNs List.length k p i hlt] at hPi
   have hPi':OwI1 wr (G (i*1+0)) p[i] Fi:=hPi
   rw [Nat.mul_one,Nat.add_zero] at hPi'
   obtain⟨A1,c1,hv,_⟩:=hPi'.slice
   rw [hv] at hPi'
   have c0:=hrow.cell (i:=i) (by omega)
   rw [hv] at c0
   have hset:=midG_set mkNs List.length k p i hlt
   have hct:=wSum_take_succ List.length p i hlt
   have hcl:=wSum_take_le List.length p (i+1)
   obtain⟨q,hq⟩:∃ q:Nat,q=k+wSum List.length (p.take i):=⟨_,rfl⟩
   rw [← hq] at hset ⊢
   have hcall:=markInts_any p[i] wr _ Fi q hPi' hndi (by omega)
   have hnx:q+p[i].length=k+wSum List.length (p.take (i+1)):=by omega
   have Nx:=Lib.hid hnx
   have Back:=Lib.hid hback
   have Set:=Lib.hid hset
   have Hrow:=Lib.hid hrow
   have Hv:=Lib.hid hv
   have Flt:=Lib.hid (OwRow.lt pi1_loc ho)
   clear hback hset hnx hn' hml hct hcl hq ho h hPi hPi' hrow hv
   go_wp2_with fail
   refine hcall.mono ?_
   rintro e2 w2 ⟨rfl,ho2,m2⟩
   have hr2:=Hrow.out.of_block (m2.block g hgl hgi)
   have hres:=Back.out w2 G (mkNs q p[i]) hr2 (fun t j _ _=>rfl) (fun b hb hne hni=>m2.block b (Flt.out b hb) hni) (by show OwI1 w2 (G (i*1+0)) _ Fi; rw [Nat.mul_one,Nat.add_zero,Hv.out]; exact ho2)
   rw [Set.out] at hres
   have Hres:=Lib.hid hres
   have hm:=m.trans (m2.mono hsub)
   clear hcall m2 ho2 hres hr2 m c0
   go_wp2_with fail
   go_roundg (p.length-(i+1))
   case measure=>omega
   case rel=>exact⟨i+1,by omega,rfl,by go_num,congrArg (Value.int .i64) (by have:=Nx.out; omega),Hres.out,hm⟩
  ·obtain rfl:i=p.length:=by omega
   go_wp2_with fail
   go_ret
   rw [midG_all] at ho
   rw [List.take_length]
   exact⟨rfl,ho,m⟩
set_option maxHeartbeats 1000000 in
theorem heldInts_any (xs:List Int) (w:World) (A:Option Addr) (c:Nat) (k:Nat) (h:Ints w A c (mkNs k xs)) (hk:k+xs.length<10 ^ 18):
  Calls Tryz.prog 69 #[.slice A xs.length c,.int .i64 k] w (RetHd w (k+xs.length)):=by
 have hlen:=h.len
 rw [mkNs_length] at hlen
 go_enter Tryz.func69,Tryz.ntmps69
 go_wp2_with fail
 go_loopg [1,5] xs.length (fun g s1 s5 wr=>∃ i:Nat,i≤xs.length∧g=xs.length-i∧s5=.int .i64 i∧s1=.int .i64 ((k+i:Nat):Int)∧Below w.heap.size w wr)
 case atStart=>exact⟨0,Nat.zero_le _,rfl,rfl,rfl,Below.refl _ _⟩
 case round=>
  obtain⟨i,hi,rfl,rfl,rfl,hb⟩:=hrel
  by_cases hlt:i<xs.length
  ·obtain⟨b,o,rfl,hbl,k0⟩:=(h.le (Le.below hb)).get (i:=i) (by rw [mkNs_length]; exact hlt)
   simp only [mkNs,mkG_get mkN (fun _=>1) xs k i hlt,wSum4,List.length_take,show min i xs.length=i by omega,Nat.one_mul] at k0
   obtain⟨q,hq⟩:∃ q:Nat,q=k+i:=⟨_,rfl⟩
   rw [← hq] at k0 ⊢
   simp only [mkN] at k0
   have hq1:q+1<10 ^ 18:=by omega
   have hnx:q+1=k+(i+1):=by omega
   have Nx:=Lib.hid hnx
   clear hnx hq h
   go_wp2_with fail
   go_roundg (xs.length-(i+1))
   case measure=>omega
   case rel=>exact⟨i+1,by omega,rfl,by go_num,congrArg (Value.int .i64) (by have:=Nx.out; omega),hb⟩
  ·obtain rfl:i=xs.length:=by omega
   go_wp2_with fail
   go_ret
   exact⟨rfl,hb⟩
set_option maxHeartbeats 1000000 in
theorem heldIntss_any (p:List (List Int)) (w:World) (A:Option Addr) (c:Nat) (k:Nat) (h:Intss w A c (mkNss k p)) (hk:k+wSum List.length p<10 ^ 18):
  Calls Tryz.prog 35 #[.slice A p.length c,.int .i64 k] w (RetHd w (k+wSum List.length p)):=by
 have hlen:=h.len
 rw [mkNss_length] at hlen
 go_enter Tryz.func35,Tryz.ntmps35
 go_wp2_with fail
 go_loopg [1,5] p.length (fun g s1 s5 wr=>∃ i:Nat,i≤p.length∧g=p.length-i∧s5=.int .i64 i∧s1=.int .i64 ((k+wSum List.length (p.take i):Nat):Int)∧Below w.heap.size w wr)
 case atStart=>exact⟨0,Nat.zero_le _,rfl,rfl,by simp [wSum],Below.refl _ _⟩
 case round=>
  obtain⟨i,hi,rfl,rfl,rfl,hb⟩:=hrel
  by_cases hlt:i<p.length
  ·obtain⟨b,o,A1,c1,rfl,hbl,k0,hx⟩:=(h.le (Le.below hb)).get (i:=i) (by rw [mkNss_length]; exact hlt)
   simp only [mkNss,mkG_get mkNs List.length p k i hlt] at k0 hx
   rw [mkNs_length] at k0
   have hct:=wSum_take_succ List.length p i hlt
   have hcl:=wSum_take_le List.length p (i+1)
   obtain⟨q,hq⟩:∃ q:Nat,q=k+wSum List.length (p.take i):=⟨_,rfl⟩
   rw [← hq] at hx ⊢
   have hcall:=heldInts_any p[i] wr A1 c1 q hx (by omega)
   have hq0:¬ ((q:Int)+(p[i].length:Int)<0):=by omega
   have hnx:q+p[i].length=k+wSum List.length (p.take (i+1)):=by omega
   have Nx:=Lib.hid hnx
   obtain⟨q',hq'⟩:∃ q':Nat,q'=q+p[i].length:=⟨_,rfl⟩
   rw [← hq'] at hcall
   have Hq':=Lib.hid hq'
   have bq:decide ((q':Int)<0)=false:=by rw [decide_eq_false_iff_not]; omega
   clear hnx hq h hct hcl hx hq' hq0
   go_wp2_with fail
   refine hcall.mono ?_
   rintro e2 w2 ⟨rfl,hb2⟩
   have hb3:=hb.trans (hb2.mono hb.size)
   clear hcall k0 hb2
   go_wp2_with fail
   go_roundg (p.length-(i+1))
   case measure=>omega
   case rel=>exact⟨i+1,by omega,rfl,by go_num,congrArg (Value.int .i64) (by have:=Nx.out; have:=Hq'.out; omega),hb3⟩
  ·obtain rfl:i=p.length:=by omega
   go_wp2_with fail
   go_ret
   rw [List.take_length]
   exact⟨rfl,hb⟩
end Go.Proofs.YtojmofnamppbdaaGreat
