/-
  The reference's source of choices: a pointer to a struct of a slice of bytes and a count. A call moves only the count, and makes new memory. The walks of l17Open, pick, num. The walks of l1Place, l1Parse, l1Letter, l17Dec (one digit), l1Text, l1Program: the reference's own reading and writing of programs; of the texts only their sizes are told. The walks of l1Letter, l17Dec (one digit), l1Text, l1Program: of the texts only their sizes are told. The walks of l1Tests and l17Cut (the pieces of a text are no longer than it), as far as draws of programs want them. The walk of l1Instr: some instruction. The walk of spec.ParseProgram, as far as draws want it: some program of few threads and instructions. The walk of l1Draw: some program of few threads and instructions. The walk of l1Copy: the program in new memory, to be written. The walk of l1Mutate: some program of few threads and instructions. The walk of DrawProgramValid: some program of few threads and instructions.
-/
import Derived.Test.YtojmofnamppbdaaGreatOwA
import Derived.Test.YtojmofnamppbdaaGreatSpPa
import Derived.Test.YtojmofnamppbdaaGreatStr
import Derived.Test.YtojmofnamppbdaaGreatRwS
import Derived.Test.YtojmofnamppbdaaGreatThr2
import Derived.Test.YtojmofnamppbdaaGreatWInsP
import Derived.Laws.BytesArg
import Derived.Deep.RegionLaw
namespace Go.Proofs.YtojmofnamppbdaaGreat
open Go.RowKit
set_option linter.unusedVariables false
set_option maxRecDepth 100000
def Rd (w:World) (R:Nat) (p:Nat):Prop:=
 ∃ A n c,Own w R 126 #[.slice A n c,.int .i64 p]∧n≤2000∧∀ i,i<n→∃ b o v,A=some ⟨b,o,none⟩∧b<R∧w.cell? ⟨b,o+i,none⟩=some (.int .u8 v)∧0≤v∧v≤255
theorem Rd.lt {w:World} {R p:Nat} (h:Rd w R p):R<w.heap.size:=by
 obtain⟨A,n,c,h,_⟩:=h
 exact h.lt
theorem Rd.alloc {w:World} {R p:Nat} (h:Rd w R p) (o:Obj):Rd (w.alloc o) R p:=by
 obtain⟨A,n,c,h,hn,hb⟩:=h
 refine⟨A,n,c,h.alloc o,hn,fun i hi=>?_⟩
 obtain⟨b,f,v,h1,h2,h3,h4⟩:=hb i hi
 exact⟨b,f,v,h1,h2,Le.alloc _ _ _ _ h3,h4⟩
theorem Rd.below {w w':World} {R p:Nat} (h:Rd w R p) (hb:Below w.heap.size w w'):Rd w' R p:=by
 obtain⟨A,n,c,h,hn,hc⟩:=h
 refine⟨A,n,c,h.under hb,hn,fun i hi=>?_⟩
 obtain⟨b,f,v,h1,h2,h3,h4⟩:=hc i hi
 exact⟨b,f,v,h1,h2,Le.below hb _ _ h3,h4⟩
theorem Rd.drewN {w:World} {R p:Nat} (h:Rd w R p) (n:Nat):Rd (w.drewN n) R p:=h
theorem Rd.drew {w:World} {R p:Nat} (h:Rd w R p):Rd w.drew R p:=h
theorem Rd.setNew {w:World} {R p:Nat} (h:Rd w R p) {q:Addr} (hq:R<q.block) (v:Value):Rd (w.setCell q v) R p:=by
 obtain⟨A,n,c,h,hn,hc⟩:=h
 refine⟨A,n,c,h.far (by omega) v,hn,fun i hi=>?_⟩
 obtain⟨b,f,u,h1,h2,h3,h4⟩:=hc i hi
 refine⟨b,f,u,h1,h2,?_,h4⟩
 rw [World.cell?_setCell_other _ _ _ _ (fun e=>by subst e; simp at hq; omega)]
 exact h3
theorem bits_xor_i64_nat (a b:Nat) (ha:a<9223372036854775808) (hb:b<9223372036854775808):bits .xor .i64 (a:Int) (b:Int)=((a ^^^ b:Nat):Int):=by
 have hx:a ^^^ b<2 ^ 63:=Nat.xor_lt_two_pow (by omega) (by omega)
 have h1:(BitVec.ofInt 64 (a:Int)).toNat=a:=by
  rw [BitVec.ofInt_natCast,BitVec.toNat_ofNat]; exact Nat.mod_eq_of_lt (by omega)
 have h2:(BitVec.ofInt 64 (b:Int)).toNat=b:=by
  rw [BitVec.ofInt_natCast,BitVec.toNat_ofNat]; exact Nat.mod_eq_of_lt (by omega)
 show IntKind.i64.wrap ((BitVec.ofInt 64 (a:Int) ^^^ BitVec.ofInt 64 (b:Int)).toNat:Int)=_
 rw [BitVec.toNat_xor,h1,h2]
 rw [IntKind.wrap_i64]
 omega
theorem xor_mod (X n:Int) (h0:0≤X) (h1:X≤1125899906842624) (hn:1≤n):0≤(bits .xor .i64 X (X / 64)).tmod n∧(bits .xor .i64 X (X / 64)).tmod n<n:=by
 obtain⟨a,rfl⟩:∃ a:Nat,X=a:=⟨X.toNat,by omega⟩
 rw [show ((a:Int) / 64)=((a / 64:Nat):Int) by omega,bits_xor_i64_nat _ _ (by omega) (by omega)]
 exact⟨Int.tmod_nonneg _ (by omega),Int.tmod_lt_of_pos _ (by omega)⟩
def RetPick (w:World) (R:Nat) (p:Nat) (n:Int) (e:Ending) (w':World):Prop:=∃ v:Int,e=.returned (.int .i64 v)∧0≤v∧(0<n→v<n)∧Mv R w w'∧Rd w' R (p+1)
set_option maxHeartbeats 1000000 in
theorem pick_any (w:World) (R p:Nat) (n:Int) (hp:p≤1099511627776) (hr:Rd w R p):
  Calls Tryz.prog 53 #[.pointer (some ⟨R,0,none⟩),.int .i64 n] w (RetPick w R p n):=by
 obtain⟨A,len,c,own,hlen,hb⟩:=hr
 have q0:=own.cell (i:=0) rfl
 have q1:=own.cell (i:=1) rfl
 have q2:=own.frozen 1
 have d0:(w.setCell ⟨R,1,none⟩ (.int .i64 ((p:Int)+1))).cell? ⟨R,0,none⟩=some (.slice A len c):=(own.set 1 _).cell rfl
 have hRd:Rd (w.setCell ⟨R,1,none⟩ (.int .i64 ((p:Int)+1))) R (p+1):=by
  refine⟨A,len,c,?_,hlen,fun i hi=>?_⟩
  ·have:=own.set 1 (.int .i64 ((p:Int)+1))
   exact this
  ·obtain⟨b,o,v,h1,h2,h3,h4⟩:=hb i hi
   exact⟨b,o,v,h1,h2,by rw [World.cell?_setCell_other _ _ _ _ (fun e=>by injection e with e; omega)]; exact h3,h4⟩
 have hm:Mv R w (w.setCell ⟨R,1,none⟩ (.int .i64 ((p:Int)+1))):=(Mv.refl _ _).setR _ _
 have HRd:=Lib.hid hRd
 have Hm:=Lib.hid hm
 clear hRd hm
 go_enter Tryz.func53,Tryz.ntmps53
 by_cases hn1:n<1
 ·have b1:decide (n<1)=true:=by rw [decide_eq_true_iff]; exact hn1
  go_wp2_with fail
  go_ret
  exact⟨0,rfl,by omega,by omega,Hm.out,HRd.out⟩
 have b1:decide (n<1)=false:=by rw [decide_eq_false_iff_not]; exact hn1
 by_cases hl:len=0
 ·subst hl
  go_wp2_with fail
  go_ret
  exact⟨0,rfl,by omega,by omega,Hm.out,HRd.out⟩
 have hl0:((len:Int) == 0)=false:=by simpa using hl
 by_cases hpl:p<len
 ·obtain⟨b,o,v,rfl,hbR,hc,hv0,hv1⟩:=hb p hpl
  have d1:(w.setCell ⟨R,1,none⟩ (.int .i64 ((p:Int)+1))).cell? ⟨b,o+p,none⟩=some (.int .u8 v):=by rw [World.cell?_setCell_other _ _ _ _ (fun e=>by injection e with e; omega)]; exact hc
  have m0:=Int.emod_nonneg v (show n≠0 by omega)
  have m1:=Int.emod_lt_of_pos v (show 0<n by omega)
  go_wp2_with fail
  go_ret
  exact⟨_,rfl,m0,fun _=>m1,Hm.out,HRd.out⟩
 ·have hlp:0<len:=by omega
  have h1lt:p % len<len:=Nat.mod_lt _ hlp
  have h2lt:(p*7+3) % len<len:=Nat.mod_lt _ hlp
  obtain⟨b,o,v,rfl,hbR,hc,hv0,hv1⟩:=hb _ h1lt
  obtain⟨b',o',v',e0,_,hc',hv0',hv1'⟩:=hb _ h2lt
  simp only [Option.some.injEq,Addr.mk.injEq,and_true] at e0
  obtain⟨rfl,rfl⟩:=e0
  have d1:(w.setCell ⟨R,1,none⟩ (.int .i64 ((p:Int)+1))).cell? ⟨b,o+p % len,none⟩=some (.int .u8 v):=by rw [World.cell?_setCell_other _ _ _ _ (fun e=>by injection e with e; omega)]; exact hc
  have d2:(w.setCell ⟨R,1,none⟩ (.int .i64 ((p:Int)+1))).cell? ⟨b,o+(p*7+3) % len,none⟩=some (.int .u8 v'):=by rw [World.cell?_setCell_other _ _ _ _ (fun e=>by injection e with e; omega)]; exact hc'
  have i1:((p:Int) % (len:Int))<(len:Int):=Int.emod_lt_of_pos _ (by omega)
  have i2:(((p:Int)*7+3) % (len:Int))<(len:Int):=Int.emod_lt_of_pos _ (by omega)
  have i3:(0:Int)≤(p:Int) % (len:Int):=Int.emod_nonneg _ (by omega)
  have i4:(0:Int)≤((p:Int)*7+3) % (len:Int):=Int.emod_nonneg _ (by omega)
  have i5:(0:Int)≤(p:Int) / (len:Int):=Int.ediv_nonneg (by omega) (by omega)
  have i6:(p:Int) / (len:Int)≤p:=Int.ediv_le_self _ (by omega)
  have t1:((p:Int) % (len:Int)).toNat=p % len:=by rw [← Int.natCast_emod,Int.toNat_natCast]
  have t2:(((p:Int)*7+3) % (len:Int)).toNat=(p*7+3) % len:=by rw [show ((p:Int)*7+3)=((p*7+3:Nat):Int) by omega,← Int.natCast_emod,Int.toNat_natCast]
  clear hb hc hc' own h1lt h2lt
  go_wp2_with fail
  go_quiet (fail)
  obtain⟨X,hX⟩:∃ X,X=v*131+v'*1117+(p:Int)*29+(p:Int) / (len:Int)*53:=⟨_,rfl⟩
  rw [← hX]
  have hX0:0≤X:=by omega
  have hX1:X≤1125899906842624:=by omega
  have hX2:X / 64≤X:=Int.ediv_le_self _ hX0
  have hX3:0≤X / 64:=Int.ediv_nonneg hX0 (by omega)
  clear hX i1 i2 i3 i4 i5 i6 t1 t2 d0 d1 d2
  go_wp2_with fail
  go_ret
  obtain⟨m0,m1⟩:=xor_mod X n hX0 hX1 (by omega)
  exact⟨_,rfl,m0,fun _=>m1,Hm.out.drewN _,HRd.out.drewN _⟩
def Bys (w:World) (A:Option Addr) (n:Nat):Prop:=n≤9223372036854775807∧∀ i,i<n→∃ b o v,A=some ⟨b,o,none⟩∧w.cell? ⟨b,o+i,none⟩=some (.int .u8 v)∧0≤v∧v≤255
def RetOpen (w:World) (e:Ending) (w':World):Prop:=∃ R:Nat,e=.returned (.pointer (some ⟨R,0,none⟩))∧w.heap.size≤R∧Rd w' R 0∧Below w.heap.size w w'
set_option maxHeartbeats 400000 in
theorem open_any (w:World) (A:Option Addr) (n c:Nat) (h:Bys w A n) (hnc:n≤c) (hA:A=none→n=0):Calls Tryz.prog 51 #[.slice A n c] w (RetOpen w):=by
 have mk:∀ m:Nat,m≤n→m≤2000→Rd (w.alloc (.cells #[.slice A m c,.int .i64 0] 126)) w.heap.size 0:=fun m hm h2=>
  ⟨A,m,c,Own.new _ _ _,h2,fun i hi=>by
   obtain⟨b,o,v,h1,h3,h4⟩:=h.2 i (by omega)
   exact⟨b,o,v,h1,World.block_lt_of_cell? _ _ h3,Le.alloc _ _ _ _ h3,h4⟩⟩
 have Mk:=Lib.hid mk
 have hn:=h.1
 clear mk h
 go_enter Tryz.func51,Tryz.ntmps51
 by_cases h2:2000<n
 ·have b2:decide ((n:Int)>2000)=true:=by rw [decide_eq_true_iff]; omega
  go_wp2_with fail
  go_ret
  exact⟨_,rfl,Nat.le_refl _,Mk.out 2000 (by omega) (by omega),(Below.refl _ _).alloc (Nat.le_refl _) _⟩
 ·have b2:decide ((n:Int)>2000)=false:=by rw [decide_eq_false_iff_not]; omega
  go_wp2_with fail
  go_ret
  exact⟨_,rfl,Nat.le_refl _,Mk.out n (Nat.le_refl _) (by omega),(Below.refl _ _).alloc (Nat.le_refl _) _⟩
def RetNum (w:World) (R p:Nat) (xs:List Int) (e:Ending) (w':World):Prop:=∃ x:Int,e=.returned (.int .i64 x)∧x∈xs∧Mv R w w'∧Rd w' R (p+1)
set_option maxHeartbeats 400000 in
theorem num_any (w:World) (R p:Nat) (A:Option Addr) (c:Nat) (xs:List Int) (hp:p≤1099511627776) (hr:Rd w R p) (hx:Ints (above (R+1) w) A c xs) (hne:0<xs.length):
  Calls Tryz.prog 54 #[.pointer (some ⟨R,0,none⟩),.slice A xs.length c] w (RetNum w R p xs):=by
 have hm:=hx.len
 have hpk:=pick_any w R p xs.length hp hr
 go_enter Tryz.func54,Tryz.ntmps54
 go_wp2_with fail
 refine hpk.mono ?_
 rintro e1 w1 ⟨v,rfl,h0,hlt,m,r1⟩
 obtain⟨i,rfl⟩:∃ i:Nat,v=i:=⟨v.toNat,by omega⟩
 have hi:i<xs.length:=by have:=hlt (by omega); omega
 obtain⟨b,o,rfl,hbl,hc⟩:=(hx.le m.above).get hi
 have hc':=(cell_above_lt hc).2
 have hii:(i:Int)<(xs.length:Int):=by omega
 clear hx hlt hpk hc hbl h0
 go_wp2_with fail
 go_ret
 exact⟨_,rfl,List.getElem_mem hi,m,r1⟩
theorem ints_lit {w:World} {R b n:Nat} {cs:Array Value} {t:TypeId} (xs:List Int) (h:Own w b t cs) (hb:R<b) (hl:xs.length=n) (hn:n≤100) (hc:∀ i (hi:i<xs.length),cs[i]?=some (.int .i64 xs[i])):Ints (above (R+1) w) (some ⟨b,0,none⟩) n xs:=
 Ints.mk (by omega) fun i hi=>cell_above_of (by show R+1≤b; omega) (by rw [Nat.zero_add]; exact h.cell (hc i hi))
theorem rd_grown {R p:Nat} {X w1:World} {row:Option Nat} (h:Rd X R p) (g:X.grownBy w1 row) (hr:∀ x,row=some x→R<x):Rd w1 R p:=by
 obtain⟨A,n,c,h,hn,hc⟩:=h
 refine⟨A,n,c,h.of_block (World.grownBy.block g R h.lt (fun e=>by have:=hr R e.symm; omega)),hn,fun i hi=>?_⟩
 obtain⟨b,f,v,h1,h2,h3,h4⟩:=hc i hi
 refine⟨b,f,v,h1,h2,?_,h4⟩
 rw [World.cell?_of_block (w:=X) (World.grownBy.block g b (World.block_lt_of_cell? _ _ h3) (fun e=>by have:=hr b e.symm; omega))]
 exact h3
end Go.Proofs.YtojmofnamppbdaaGreat
namespace Go.Proofs.YtojmofnamppbdaaGreat
open Go.RowKit
set_option linter.unusedVariables false
set_option maxRecDepth 100000
def RetSomeInt (w:World) (e:Ending) (w':World):Prop:=∃ v:Int,e=.returned (.int .i64 v) ∧ -1≤v∧v≤255∧w=w'
set_option maxHeartbeats 400000 in
theorem place_any (s:ByteArray) (at':Nat) (frm most:Int) (w:World) (hs:s.size≤2000000) (ha:at'≤100) (h0:0≤frm) (h1:frm≤255) (hm:0≤most) (hm':most≤255):
  Calls Tryz.prog 137 #[.string s,.int .i64 at',.int .u8 frm,.int .i64 most] w (RetSomeInt w):=by
 go_enter Tryz.func137,Tryz.ntmps137
 by_cases hlt:at'<s.size
 ·have hu:(s[at'].toNat:Int)≤255:=by have:=s[at'].toNat_lt; omega
  by_cases hf:(s[at'].toNat:Int)<frm
  ·go_wp2_with fail
   go_ret
   exact⟨-1,rfl,by omega,by omega,rfl⟩
  ·by_cases hm2:(s[at'].toNat:Int)-frm>most
   ·go_wp2_with fail
    go_ret
    exact⟨-1,rfl,by omega,by omega,rfl⟩
   ·go_wp2_with fail
    go_ret
    exact⟨_,rfl,by omega,by omega,rfl⟩
 ·go_wp2_with fail
  go_ret
  exact⟨-1,rfl,by omega,by omega,rfl⟩
def RetSomeIns (w:World) (e:Ending) (w':World):Prop:=∃ x:Ins,e=.returned (.agg #[.int .i64 x.op,.int .i64 x.loc,.int .i64 x.reg,.int .i64 x.val])∧Below w.heap.size w w'
set_option maxHeartbeats 1000000 in
theorem parseI_any (s:ByteArray) (w:World) (hs:s.size≤2000000):Calls Tryz.prog 119 #[.string s] w (RetSomeIns w):=by
 go_enter Tryz.func119,Tryz.ntmps119
 cases hf:(s.toList == [102,101,110,99,101])
 ·go_wp2_with fail
  refine (place_any s 0 97 2 _ hs (by omega) (by omega) (by omega) (by omega) (by omega)).mono ?_
  rintro e1 w1 ⟨reg,rfl,hreg0,hreg1,rfl⟩
  go_wp2_with fail
  refine (place_any s 0 120 2 _ hs (by omega) (by omega) (by omega) (by omega) (by omega)).mono ?_
  rintro e1 w1 ⟨loc,rfl,hloc0,hloc1,rfl⟩
  by_cases hreg:0≤reg
  ·by_cases h3:s.size=3
   ·go_wp2_with fail
    refine (place_any s 2 120 2 _ hs (by omega) (by omega) (by omega) (by omega) (by omega)).mono ?_
    rintro e1 w1 ⟨a,rfl,ha0,ha1,rfl⟩
    go_wp2_with fail
    refine bodyPost_ret (v:=.agg #[.int .i64 1,.int .i64 a,.int .i64 reg,.int .i64 0]) (by simp [results,Tryz.results119,go_sem]) rfl ?_
    exact⟨⟨1,a,reg,0⟩,rfl,(Below.refl _ _).alloc (Nat.le_refl _) _⟩
   ·by_cases h5:s.size=5
    ·go_wp2_with fail
     refine (place_any s 2 120 2 _ hs (by omega) (by omega) (by omega) (by omega) (by omega)).mono ?_
     rintro e1 w1 ⟨a,rfl,ha0,ha1,rfl⟩
     go_wp2_with fail
     refine (place_any s 4 48 3 _ hs (by omega) (by omega) (by omega) (by omega) (by omega)).mono ?_
     rintro e1 w1 ⟨b,rfl,hb0,hb1,rfl⟩
     go_wp2_with fail
     refine bodyPost_ret (v:=.agg #[.int .i64 5,.int .i64 a,.int .i64 reg,.int .i64 b]) (by simp [results,Tryz.results119,go_sem]) rfl ?_
     exact⟨⟨5,a,reg,b⟩,rfl,(Below.refl _ _).alloc (Nat.le_refl _) _⟩
    ·by_cases hloc:0≤loc
     ·go_wp2_with fail
      refine (place_any s 2 97 2 _ hs (by omega) (by omega) (by omega) (by omega) (by omega)).mono ?_
      rintro e1 w1 ⟨a,rfl,ha0,ha1,rfl⟩
      by_cases ha:0≤a
      ·go_wp2_with fail
       refine (place_any s 2 97 2 _ hs (by omega) (by omega) (by omega) (by omega) (by omega)).mono ?_
       rintro e1 w1 ⟨b,rfl,hb0,hb1,rfl⟩
       go_wp2_with fail
       refine bodyPost_ret (v:=.agg #[.int .i64 3,.int .i64 loc,.int .i64 b,.int .i64 0]) (by simp [results,Tryz.results119,go_sem]) rfl ?_
       exact⟨⟨3,loc,b,0⟩,rfl,(Below.refl _ _).alloc (Nat.le_refl _) _⟩
      ·go_wp2_with fail
       refine (place_any s 2 48 3 _ hs (by omega) (by omega) (by omega) (by omega) (by omega)).mono ?_
       rintro e1 w1 ⟨b,rfl,hb0,hb1,rfl⟩
       go_wp2_with fail
       refine bodyPost_ret (v:=.agg #[.int .i64 2,.int .i64 loc,.int .i64 0,.int .i64 b]) (by simp [results,Tryz.results119,go_sem]) rfl ?_
       exact⟨⟨2,loc,0,b⟩,rfl,(Below.refl _ _).alloc (Nat.le_refl _) _⟩
     ·go_wp2_with fail
      refine (place_any s 2 48 3 _ hs (by omega) (by omega) (by omega) (by omega) (by omega)).mono ?_
      rintro e1 w1 ⟨b,rfl,hb0,hb1,rfl⟩
      go_wp2_with fail
      refine bodyPost_ret (v:=.agg #[.int .i64 2,.int .i64 loc,.int .i64 0,.int .i64 b]) (by simp [results,Tryz.results119,go_sem]) rfl ?_
      exact⟨⟨2,loc,0,b⟩,rfl,(Below.refl _ _).alloc (Nat.le_refl _) _⟩
  ·by_cases hloc:0≤loc
   ·go_wp2_with fail
    refine (place_any s 2 97 2 _ hs (by omega) (by omega) (by omega) (by omega) (by omega)).mono ?_
    rintro e1 w1 ⟨a,rfl,ha0,ha1,rfl⟩
    by_cases ha:0≤a
    ·go_wp2_with fail
     refine (place_any s 2 97 2 _ hs (by omega) (by omega) (by omega) (by omega) (by omega)).mono ?_
     rintro e1 w1 ⟨b,rfl,hb0,hb1,rfl⟩
     go_wp2_with fail
     refine bodyPost_ret (v:=.agg #[.int .i64 3,.int .i64 loc,.int .i64 b,.int .i64 0]) (by simp [results,Tryz.results119,go_sem]) rfl ?_
     exact⟨⟨3,loc,b,0⟩,rfl,(Below.refl _ _).alloc (Nat.le_refl _) _⟩
    ·go_wp2_with fail
     refine (place_any s 2 48 3 _ hs (by omega) (by omega) (by omega) (by omega) (by omega)).mono ?_
     rintro e1 w1 ⟨b,rfl,hb0,hb1,rfl⟩
     go_wp2_with fail
     refine bodyPost_ret (v:=.agg #[.int .i64 2,.int .i64 loc,.int .i64 0,.int .i64 b]) (by simp [results,Tryz.results119,go_sem]) rfl ?_
     exact⟨⟨2,loc,0,b⟩,rfl,(Below.refl _ _).alloc (Nat.le_refl _) _⟩
   ·go_wp2_with fail
    refine (place_any s 2 48 3 _ hs (by omega) (by omega) (by omega) (by omega) (by omega)).mono ?_
    rintro e1 w1 ⟨b,rfl,hb0,hb1,rfl⟩
    go_wp2_with fail
    refine bodyPost_ret (v:=.agg #[.int .i64 2,.int .i64 loc,.int .i64 0,.int .i64 b]) (by simp [results,Tryz.results119,go_sem]) rfl ?_
    exact⟨⟨2,loc,0,b⟩,rfl,(Below.refl _ _).alloc (Nat.le_refl _) _⟩
 ·go_wp2_with fail
  refine bodyPost_ret (v:=.agg #[.int .i64 4,.int .i64 0,.int .i64 0,.int .i64 0]) (by simp [results,Tryz.results119,go_sem]) rfl ?_
  exact⟨⟨4,0,0,0⟩,rfl,(Below.refl _ _).alloc (Nat.le_refl _) _⟩
end Go.Proofs.YtojmofnamppbdaaGreat
namespace Go.Proofs.YtojmofnamppbdaaGreat
open Go.RowKit
set_option linter.unusedVariables false
set_option maxRecDepth 100000
def RetTx (w:World) (n:Nat) (e:Ending) (w':World):Prop:=∃ s:ByteArray,e=.returned (.string s)∧s.size≤n∧Below w.heap.size w w'
theorem one_byte (v:Int) (b:Nat) (W:World) (hb:W.heap.size=b):(convert 22 9 (.slice (some ⟨b,0,none⟩) 1 1)).run Tryz.prog (W.alloc (.cells #[.int .u8 v] 5))=.ok (.string (strOfNums [v])) (W.alloc (.cells #[.int .u8 v] 5)):=by
 subst hb
 exact run_convert_bytes_arg (P:=Tryz.prog) _ 22 5 Tryz.underlying22 Tryz.underlying5 W.heap.size 0 1 1 [v] rfl (fun i hi=>by
  obtain rfl:i=0:=by omega
  simp) 9 Tryz.underlying9
theorem size_one (v:Int):(strOfNums [v]).size=1:=strOfNums_size [v]
set_option maxHeartbeats 400000 in
theorem letter_any (frm n:Int) (w:World) (h0:0≤frm) (h1:frm≤200) (n0:0≤n) (n1:n≤10):
  Calls Tryz.prog 153 #[.int .u8 frm,.int .i64 n] w (RetTx w 1):=by
 have kc:=fun (v:Int) (W:World)=>one_byte v _ W rfl
 go_enter Tryz.func153,Tryz.ntmps153
 go_wp2_with fail
 go_ret
 exact⟨_,rfl,by rw [size_one]; omega,(Below.refl _ _).alloc (Nat.le_refl _) _⟩
def RetS (w:World) (s:ByteArray) (e:Ending) (w':World):Prop:=e=.returned (.string s)∧Below w.heap.size w w'
theorem app_nil (s:ByteArray):s++(⟨#[]⟩:ByteArray)=s:=by
 cases s
 show ByteArray.append _ _=_
 simp [ByteArray.append]
theorem ret_str {a b:ByteArray} (h:a=b):Ending.returned (.string a)=.returned (.string b):=by rw [h]
def decS (n:Int):ByteArray:=if n≤9 then strOfNums [48+n] else strOfNums [48+n / 10]++strOfNums [48+n % 10]
theorem decS_size (n:Int):(decS n).size≤2:=by
 unfold decS
 by_cases h:n≤9
 ·rw [if_pos h,size_one]; omega
 ·rw [if_neg h,ByteArray.size_append,size_one,size_one]; omega
theorem decS_one {n:Int} (h:n≤9):decS n=strOfNums [48+n]++(⟨#[]⟩:ByteArray):=by rw [app_nil]; exact if_pos h
theorem decS_two {n:Int} (h:¬ n≤9):decS n=strOfNums [48+n / 10]++(strOfNums [48+n % 10]++(⟨#[]⟩:ByteArray)):=by rw [app_nil]; exact if_neg h
set_option maxHeartbeats 400000 in
theorem dec_any (n:Int) (w:World) (n0:0≤n) (n1:n≤99):
  Calls Tryz.prog 154 #[.int .i64 n] w (RetS w (decS n)):=by
 have kc:=fun (v:Int) (W:World)=>one_byte v _ W rfl
 have b1:decide (n < -9223372036854775807)=false:=by rw [decide_eq_false_iff_not]; omega
 have b2:decide (n<0)=false:=by rw [decide_eq_false_iff_not]; omega
 by_cases h9:n≤9
 ·have hd:=Lib.hid (decS_one h9)
  have b3:decide (n>9)=false:=by rw [decide_eq_false_iff_not]; omega
  go_enter Tryz.func154,Tryz.ntmps154
  go_wp2_with fail
  refine wp_loop_rounds 1 ?_
  rw [rounds_succ]
  go_wp2_with fail
  go_ret
  exact⟨ret_str hd.out.symm,(Below.refl _ _).alloc (Nat.le_refl _) _⟩
 ·have hd:=Lib.hid (decS_two h9)
  have kc2:=fun (v:Int) (W:World) (o:Obj)=>one_byte v (W.heap.size+1) (W.alloc o) (by simp)
  have b3:decide (n>9)=true:=by rw [decide_eq_true_iff]; omega
  have b4:decide (n / 10>9)=false:=by rw [decide_eq_false_iff_not]; omega
  have hm0:0≤n % 10:=by omega
  have hm1:n % 10≤9:=by omega
  have hq0:0≤n / 10:=by omega
  have hq1:n / 10≤9:=by omega
  go_enter Tryz.func154,Tryz.ntmps154
  go_wp2_with fail
  refine wp_loop_rounds 2 ?_
  rw [rounds_succ]
  go_wp2_with fail
  rw [rounds_succ]
  go_wp2_with fail
  go_ret
  exact⟨ret_str hd.out.symm,((Below.refl _ _).alloc (Nat.le_refl _) _).alloc (by simp) _⟩
theorem Own.all4 {W:World} {B:Nat} {t:TypeId} {v0 v1 v2 v3:Value} (h:Own W B t #[v0,v1,v2,v3]):W.cell? ⟨B,0,none⟩=some v0∧W.cell? ⟨B,1,none⟩=some v1∧W.cell? ⟨B,2,none⟩=some v2∧W.cell? ⟨B,3,none⟩=some v3:=
 ⟨h.cell rfl,h.cell rfl,h.cell rfl,h.cell rfl⟩
set_option maxHeartbeats 1000000 in
theorem text1_any (x:Ins) (w:World) (hx:InsOk x):Calls Tryz.prog 138 #[.agg #[.int .i64 x.op,.int .i64 x.loc,.int .i64 x.reg,.int .i64 x.val]] w (RetTx w 10):=by
 have hl:=hx.loc
 have hr:=hx.reg
 have hv:=hx.val
 have ho:=hx.op
 obtain⟨op,loc,reg,val⟩:=x
 simp only at hl hr hv ho
 clear hx
 obtain⟨l0,l1⟩:=hl
 obtain⟨r0,r1⟩:=hr
 obtain⟨v0,v1⟩:=hv
 have bx:=Own.new w 50 #[.int .i64 op,.int .i64 loc,.int .i64 reg,.int .i64 val]
 have hB:Below w.heap.size w (w.alloc (.cells #[.int .i64 op,.int .i64 loc,.int .i64 reg,.int .i64 val] 50)):=(Below.refl _ _).alloc (Nat.le_refl _) _
 go_enter Tryz.func138,Tryz.ntmps138
 go_wp2_with fail
 refine (letter_any 120 loc _ (by omega) (by omega) l0 (by omega)).mono ?_
 rintro e1 w1 ⟨a,rfl,ha,hb1⟩
 have bx1:=bx.under hb1
 have hB1:=hB.trans (hb1.mono hB.size)
 obtain⟨c0,c1,c2,c3⟩:=bx1.all4
 clear hb1 hB bx
 go_wp2_with fail
 refine (letter_any 97 reg _ (by omega) (by omega) r0 (by omega)).mono ?_
 rintro e2 w2 ⟨b,rfl,hb,hb2⟩
 have bx2:=bx1.under hb2
 have hB2:=hB1.trans (hb2.mono hB1.size)
 clear c0 c1 c2 c3
 obtain⟨c0,c1,c2,c3⟩:=bx2.all4
 clear hb2 hB1 bx1
 have hcase:op=1∨op=2∨op=3∨op=4∨op=5:=by omega
 rcases hcase with rfl | rfl | rfl | rfl | rfl
 ·go_wp2_with fail
  go_ret
  exact⟨_,rfl,by simp only [ByteArray.size_append]; show b.size+1+a.size≤10; omega,hB2⟩
 ·go_wp2_with fail
  refine (dec_any val _ v0 (by omega)).mono ?_
  rintro e3 w3 ⟨rfl,hb3⟩
  have hd:=decS_size val
  go_wp2_with fail
  go_ret
  exact⟨_,rfl,by simp only [ByteArray.size_append]; show a.size+1+(decS val).size≤10; omega,hB2.trans (hb3.mono hB2.size)⟩
 ·go_wp2_with fail
  go_ret
  exact⟨_,rfl,by simp only [ByteArray.size_append]; show a.size+1+b.size≤10; omega,hB2⟩
 ·go_wp2_with fail
  go_ret
  exact⟨_,rfl,by decide,hB2⟩
 ·go_wp2_with fail
  refine (dec_any val _ v0 (by omega)).mono ?_
  rintro e3 w3 ⟨rfl,hb3⟩
  have hd:=decS_size val
  go_wp2_with fail
  go_ret
  exact⟨_,rfl,by simp only [ByteArray.size_append]; show b.size+1+a.size+1+(decS val).size≤10; omega,hB2.trans (hb3.mono hB2.size)⟩
set_option maxHeartbeats 2000000 in
theorem textD_any (p:Prg) (hp:ShapeOk p) (w:World) (v:Value) (hr:PrgS w v p):Calls Tryz.prog 120 #[v] w (RetTx w 1000):=by
 obtain⟨A,c,rfl,hlen⟩:=hr.slice
 have hl3:=hp.1
 go_enter Tryz.func120,Tryz.ntmps120
 go_wp2_with fail
 go_loopg [3,4] p.length (fun g s3 s4 wr=>∃ (i:Nat) (s:ByteArray),i≤p.length∧g=p.length-i∧s4=.int .i64 i∧s3=.string s∧s.size≤100*i∧Below w.heap.size w wr)
 case atStart=>exact⟨0,_,Nat.zero_le _,rfl,rfl,rfl,by decide,Below.refl _ _⟩
 case round=>
  obtain⟨wo,rfl⟩:∃ wo:World,wo=wr:=⟨_,rfl⟩
  obtain⟨i,s,hi,rfl,rfl,rfl,hs,hb⟩:=hrel
  by_cases hlt:i<p.length
  ·obtain⟨bb,o,A1,c1,rfl,hbl,k0,hlm,hx⟩:=SlR.getSub (PrgS.le hr (Le.below hb)) hlt
   have hmem:=List.getElem_mem hlt
   have h7:=(hp.2.1 _ hmem).1
   have Hok:Hid (∀ x∈p[i],InsOk x):=(hp.2.1 _ hmem).2
   generalize htt:p[i]=t at hx hlm k0 h7 Hok
   clear hr htt hmem hp
   by_cases h0:0<i
   all_goals
    go_wp2_with fail
    go_loopg [3,5] t.length (fun g s3 s5 wr=>∃ (k:Nat) (s':ByteArray),k≤t.length∧g=t.length-k∧s5=.int .i64 k∧s3=.string s'∧s'.size≤100*i+1+12*k∧Below wo.heap.size wo wr)
    case atStart=>exact⟨0,_,Nat.zero_le _,rfl,rfl,rfl,by first | (rw [ByteArray.size_append]; show s.size+1≤_; omega) | omega,Below.refl _ _⟩
    case round=>
     obtain⟨k,s',hk,rfl,rfl,rfl,hs',hbk⟩:=hrel
     have k1:=Le.below hbk _ _ k0
     by_cases hkt:k<t.length
     ·obtain⟨b2,o2,rfl,hbl2,d0,d1,d2,d3⟩:=(InsS.le hx (Le.below hbk)).get hkt
      have hmem:=List.getElem_mem hkt
      have hxok:=Lib.hid (Hok.out _ hmem)
      generalize hxx:t[k]=x at d0 d1 d2 d3 hxok
      clear hxx hmem k0
      by_cases hk0:0<k
      all_goals
       go_wp2_with fail
       refine (text1_any x _ hxok.out).mono ?_
       rintro e5 w5 ⟨tx,rfl,htx,hb5⟩
       have hB5:=hbk.trans (hb5.mono hbk.size)
       have k5:=Le.below hb5 _ _ k1
       clear k1 d0 d1 d2 d3 hb5 hbk
       go_wp2_with fail
       go_roundg (t.length-(k+1))
       case measure=>omega
       case rel=>exact⟨k+1,_,by omega,rfl,by go_num,rfl,by first | (simp only [ByteArray.size_append]; show s'.size+1+tx.size≤_; omega) | (simp only [ByteArray.size_append]; omega),hB5⟩
     ·obtain rfl:k=t.length:=by omega
      go_wp2_with fail
      go_roundg (p.length-(i+1))
      case measure=>omega
      case rel=>exact⟨i+1,_,by omega,rfl,by go_num,rfl,by omega,hb.trans (hbk.mono hb.size)⟩
  ·obtain rfl:i=p.length:=by omega
   go_wp2_with fail
   go_ret
   exact⟨_,rfl,by omega,hb⟩
end Go.Proofs.YtojmofnamppbdaaGreat
namespace Go.Proofs.YtojmofnamppbdaaGreat
open Go.RowKit
set_option linter.unusedVariables false
set_option maxRecDepth 100000
theorem Tryz.infoStr:(Tryz.prog.info? 9).map (fun i=>(i.zero,i.size,i.bytes))=some (some (.string ⟨#[]⟩),1,16):=by kernel_rfl
def QStr (cs:Nat→Value) (s:ByteArray):Prop:=cs 0=.string s
theorem qstr_congr:∀ (f g:Nat→Value) (x:ByteArray),(∀ j,j<1→f j=g j)→QStr f x→QStr g x:=fun f g x h hq=>(h 0 (by omega)).symm.trans hq
def RetCutX (w:World) (s:ByteArray) (e:Ending) (w':World):Prop:=∃ (ss:List ByteArray) (A:Option Addr) (c:Nat),e=.returned (.slice A ss.length c)∧ss.length≤s.size+2∧(∀ y∈ss,y.size≤s.size)∧Strs (above w.heap.size w') A c ss∧Below w.heap.size w w'
theorem ext_le (s:ByteArray) (i j:Nat):(s.extract i j).size≤s.size:=by rw [ByteArray.size_extract]; omega
theorem cutx_more {s:ByteArray} {P:List ByteArray} (f i:Nat) (h:∀ y∈P,y.size≤s.size):∀ y∈P++[s.extract f i],y.size≤s.size:=fun y hy=>by
 rcases List.mem_append.1 hy with hy | hy
 ·exact h y hy
 ·rw [List.mem_singleton.1 hy]; exact ext_le s f i
set_option maxHeartbeats 2000000 in
theorem cutx_any (s:ByteArray) (c:UInt8) (w:World) (hs:s.size≤2000000):Calls Tryz.prog 118 #[.string s,.int .u8 c.toNat] w (RetCutX w s):=by
 obtain⟨i0,hi0,hz0,hz1,hz2⟩:=info_parts Tryz.infoStr
 go_enter Tryz.func118,Tryz.ntmps118
 go_wp2_with fail
 go_loopg [5,6,7] (s.size+2) (fun g s5 s6 s7 wr=>∃ (i f:Nat) (P:List ByteArray) (v:Value),i≤s.size+1∧f≤i∧g=s.size+2-i∧v=s5∧s6=.int .i64 f∧s7=.int .i64 i∧P.length≤i∧RowOf 1 QStr wr w.heap.size 9 v P∧Hid (∀ y∈P,y.size≤s.size)∧Below w.heap.size w wr)
 case atStart=>exact⟨0,0,[],_,by omega,by omega,rfl,rfl,rfl,rfl,by simp,RowOf.made _ (Own.new _ _ _) (Nat.le_refl _),(fun y hy=>by cases hy),(Below.refl _ _).alloc (Nat.le_refl _) _⟩
 case round=>
  obtain⟨i,f,P,v,hi,hf,rfl,rfl,rfl,rfl,hP,hrow,hat,hb⟩:=hrel
  by_cases hle:i≤s.size
  ·have bl:decide ((i:Int)≤(s.size:Int))=true:=by rw [decide_eq_true_iff]; omega
   obtain⟨cs,hown,hq⟩:=hrow
   have hsb:=hb.size
   have Hq:=Lib.hid hq
   have Hown:=Lib.hid hown
   clear hown hq
   by_cases hlt:i<s.size
   ·have bne:((i:Int) == (s.size:Int))=false:=by rw [beq_eq_false_iff_ne]; omega
    by_cases hc:s[i]=c
    ·have hcb:((s[i].toNat:Int) == (c.toNat:Int))=true:=by rw [hc]; simp
     have Hat:=Lib.hid (cutx_more f i hat.out)
     clear hc hat
     go_wp2_with (at_builtin; refine wpList_append_lies _ (by rfl) _ _ _ (by rfl) w.heap.size 9 i0 _ 1 16 Tryz.underlying127 hi0 hz0 hz1 hz2 rfl (by omega) v P.length cs (by rfl) (owns_alloc Hown.out _) ⟨wr.heap.size,0,none⟩ 1 1 [.string (s.extract f i)] (by rfl) (by rfl) (World.news_of_block (cs:=#[.string (s.extract f i)]) (t:=9) (fr:=(0,0)) (heap_alloc_new wr _)) (by simp [Value.oneCell']) (by omega) (by simp [maxLen]; omega) (by omega) (by simp; omega) (wr.heap.size+1) (by simp) ?_; intro gg cap w1 hown1 hgrow hat1 hlt1)
     go_roundg (s.size+2-(i+1))
     case measure=>omega
     case rel=>
      exact⟨i+1,i+1,P++[s.extract f i],_,by omega,by omega,rfl,rfl,by go_num,by go_num,by simp; omega,RowOf.snoc (news:=[.string (s.extract f i)]) qstr_congr Hown.out Hq.out rfl rfl hown1,Hat.out,below_grown (hb.alloc hsb _) hgrow (Nat.le_refl _) (fun g hg=>owns_base' Hown.out hg)⟩
    ·have hcb:((s[i].toNat:Int) == (c.toNat:Int))=false:=by
      rw [beq_eq_false_iff_ne]
      intro e
      exact hc (UInt8.toNat_inj.1 (by omega))
     have Hat:=hat
     clear hc
     go_wp2_with fail
     go_roundg (s.size+2-(i+1))
     case measure=>omega
     case rel=>exact⟨i+1,f,P,v,by omega,by omega,rfl,rfl,rfl,by go_num,by omega,⟨cs,Hown.out,Hq.out⟩,Hat.out,hb⟩
   ·obtain rfl:i=s.size:=by omega
    have bne:((s.size:Int) == (s.size:Int))=true:=by simp
    have Hat:=Lib.hid (cutx_more f s.size hat.out)
    clear hat
    go_wp2_with (at_builtin; refine wpList_append_lies _ (by rfl) _ _ _ (by rfl) w.heap.size 9 i0 _ 1 16 Tryz.underlying127 hi0 hz0 hz1 hz2 rfl (by omega) v P.length cs (by rfl) (owns_alloc Hown.out _) ⟨wr.heap.size,0,none⟩ 1 1 [.string (s.extract f s.size)] (by rfl) (by rfl) (World.news_of_block (cs:=#[.string (s.extract f s.size)]) (t:=9) (fr:=(0,0)) (heap_alloc_new wr _)) (by simp [Value.oneCell']) (by omega) (by simp [maxLen]; omega) (by omega) (by simp; omega) (wr.heap.size+1) (by simp) ?_; intro gg cap w1 hown1 hgrow hat1 hlt1)
    go_roundg (s.size+2-(s.size+1))
    case measure=>omega
    case rel=>
     exact⟨s.size+1,s.size+1,P++[s.extract f s.size],_,by omega,by omega,rfl,rfl,by go_num,by go_num,by simp; omega,RowOf.snoc (news:=[.string (s.extract f s.size)]) qstr_congr Hown.out Hq.out rfl rfl hown1,Hat.out,below_grown (hb.alloc hsb _) hgrow (Nat.le_refl _) (fun g hg=>owns_base' Hown.out hg)⟩
  ·have bl:decide ((i:Int)≤(s.size:Int))=false:=by rw [decide_eq_false_iff_not]; omega
   have hsl:=hrow.slR (k:=1) (R:=RStr) (by omega) (a:=above w.heap.size wr) (fun cs x h=>h) (Le.refl _)
   obtain⟨A9,c9,rfl,_⟩:=hsl.slice
   have Hsl:=Lib.hid hsl
   have Hat:=hat
   clear hsl hrow
   go_wp2_with fail
   go_ret
   exact⟨P,A9,c9,rfl,by omega,Hat.out,Hsl.out,hb⟩
def tests:List ByteArray:=[⟨#[120,61,49,59,97,61,121,124,121,61,49,59,97,61,120]⟩,⟨#[120,61,49,59,102,101,110,99,101,59,97,61,121,124,121,61,49,59,102,101,110,99,101,59,97,61,120]⟩,⟨#[120,61,49,59,121,61,49,124,97,61,121,59,98,61,120]⟩,⟨#[120,61,49,59,121,61,49,124,97,61,121,59,102,101,110,99,101,59,98,61,120]⟩,⟨#[120,61,49,59,102,101,110,99,101,59,121,61,49,124,97,61,121,59,98,61,120]⟩,⟨#[97,61,120,59,121,61,49,124,97,61,121,59,120,61,49]⟩,⟨#[97,61,120,59,121,61,97,124,97,61,121,59,120,61,97]⟩,⟨#[120,61,49,124,120,61,50,124,97,61,120,59,98,61,120]⟩,⟨#[120,61,49,124,121,61,49,124,97,61,120,59,98,61,121,124,97,61,121,59,98,61,120]⟩,⟨#[120,61,49,124,97,61,120,59,121,61,49,124,97,61,121,59,98,61,120]⟩,⟨#[120,61,49,124,121,61,49,124,97,61,120,59,98,61,121]⟩,⟨#[97,61,120,58,49,124,97,61,120,58,50,124,120,61,51]⟩,⟨#[120,61,49,59,97,61,120,59,98,61,121,124,121,61,49,59,97,61,121,59,98,61,120]⟩,⟨#[120,61,50,59,121,61,49,124,121,61,50,59,120,61,49]⟩,⟨#[97,61,120,58,49,59,98,61,121,124,97,61,121,58,49,59,98,61,120]⟩,⟨#[120,61,49,59,120,61,50,124,97,61,120,59,98,61,120]⟩,⟨#[120,61,49,59,121,61,49,59,97,61,122,124,122,61,49,59,97,61,121,59,98,61,120]⟩,⟨#[97,61,120,58,49,124,98,61,120,58,49]⟩,⟨#[102,101,110,99,101]⟩,⟨#[]⟩,⟨#[120,61,49,59,97,61,121,124,121,61,49,59,102,101,110,99,101,59,97,61,120]⟩]
theorem tests_small:∀ y∈tests,y.size≤100:=by
 unfold tests
 simp only [List.forall_mem_cons,List.not_mem_nil,false_implies,implies_true,and_true]
 decide
set_option maxHeartbeats 400000 in
theorem tests_any (w:World):Calls Tryz.prog 90 #[] w (RetStrs w tests):=by
 go_enter Tryz.func90,Tryz.ntmps90
 go_wp2_with fail
 go_ret
 refine⟨_,_,rfl,Strs.mk (by simp [tests]) fun i hi=>cell_above_of (Nat.le_refl _) ?_,(Below.refl _ _).alloc (Nat.le_refl _) _⟩
 rw [Nat.zero_add]
 simp only [World.cell?_alloc_new]
 match i,hi with
 | 0,_=>rfl
 | 1,_=>rfl
 | 2,_=>rfl
 | 3,_=>rfl
 | 4,_=>rfl
 | 5,_=>rfl
 | 6,_=>rfl
 | 7,_=>rfl
 | 8,_=>rfl
 | 9,_=>rfl
 | 10,_=>rfl
 | 11,_=>rfl
 | 12,_=>rfl
 | 13,_=>rfl
 | 14,_=>rfl
 | 15,_=>rfl
 | 16,_=>rfl
 | 17,_=>rfl
 | 18,_=>rfl
 | 19,_=>rfl
 | 20,_=>rfl
 | n+21,h=>exact absurd (show n+21<21 from h) (by omega)
end Go.Proofs.YtojmofnamppbdaaGreat
namespace Go.Proofs.YtojmofnamppbdaaGreat
open Go.RowKit
set_option linter.unusedVariables false
set_option maxRecDepth 100000
theorem owns_upB {w W:World} {base:Nat} {e:TypeId} {k n:Nat} {v:Value} {cs:List Value} (h:w.ownsRow base e k v n cs) (hb:Below w.heap.size w W):W.ownsRow base e k v n cs:=
 owns_of_block h fun g _ _ hlt=>hb.block g hlt
theorem insOk_mk {a b c d:Int} (h:((a=1∨a=3)∧(0≤b∧b≤2)∧(0≤c∧c≤2)∧d=0)∨(a=2∧(0≤b∧b≤2)∧c=0∧(0≤d∧d≤3))∨(a=4∧b=0∧c=0∧d=0)∨(a=5∧(0≤b∧b≤2)∧(0≤c∧c≤2)∧(0≤d∧d≤3))):InsOk ⟨a,b,c,d⟩:=h
def RetI1 (w:World) (R p:Nat) (e:Ending) (w':World):Prop:=∃ (x:Ins) (p':Nat),e=.returned (.agg #[.int .i64 x.op,.int .i64 x.loc,.int .i64 x.reg,.int .i64 x.val])∧InsOk x∧Mv R w w'∧Rd w' R p'∧p'≤p+10
theorem RetI1.fin {w V:World} {R p p':Nat} {a b c d:Int} {v0 v1 v2 v3:Value} (hR:R<w.heap.size) (m:Mv R w V) (r:Rd V R p') (hp:p'≤p+10) (hok:InsOk ⟨a,b,c,d⟩):
  RetI1 w R p (.returned (.agg #[.int .i64 a,.int .i64 b,.int .i64 c,.int .i64 d])) ((((V.setCell ⟨w.heap.size,0,none⟩ v0).setCell ⟨w.heap.size,1,none⟩ v1).setCell ⟨w.heap.size,2,none⟩ v2).setCell ⟨w.heap.size,3,none⟩ v3):=
 ⟨⟨a,b,c,d⟩,p',rfl,hok,(((m.setNew (Nat.le_refl _) _).setNew (Nat.le_refl _) _).setNew (Nat.le_refl _) _).setNew (Nat.le_refl _) _,(((r.setNew hR _).setNew hR _).setNew hR _).setNew hR _,hp⟩
theorem Own.res4 {w:World} {b:Nat} {t:TypeId} {v0 v1 v2 v3:Value} (h:Own w b t #[v0,v1,v2,v3]):w.cell? ⟨b,0,none⟩=some v0∧w.cell? ⟨b,1,none⟩=some v1∧w.cell? ⟨b,2,none⟩=some v2∧w.cell? ⟨b,3,none⟩=some v3∧w.frozen? ⟨b,0,none⟩=false∧w.frozen? ⟨b,1,none⟩=false∧w.frozen? ⟨b,2,none⟩=false∧w.frozen? ⟨b,3,none⟩=false∧b<w.heap.size:=
 ⟨h.cell rfl,h.cell rfl,h.cell rfl,h.cell rfl,h.frozen 0,h.frozen 1,h.frozen 2,h.frozen 3,h.lt⟩
set_option maxHeartbeats 2000000 in
theorem instr_any (w:World) (R p:Nat) (hp:p≤1000000000) (hr:Rd w R p):Calls Tryz.prog 92 #[.pointer (some ⟨R,0,none⟩)] w (RetI1 w R p):=by
 have hR:=hr.lt
 have rb:=Own.new w 50 #[.int .i64 0,.int .i64 0,.int .i64 0,.int .i64 0]
 have hr0:=hr.alloc (.cells #[.int .i64 0,.int .i64 0,.int .i64 0,.int .i64 0] 50)
 have hm0:=(Mv.refl R w).alloc (.cells #[.int .i64 0,.int .i64 0,.int .i64 0,.int .i64 0] 50)
 have hpk:=pick_any _ R p 2 (by omega) hr0
 go_enter Tryz.func92,Tryz.ntmps92
 go_wp2_with fail
 refine hpk.mono ?_
 rintro e1 w1 ⟨loc,rfl,hloc0,hloc1,m1,r1⟩
 have hloc2:loc<2:=hloc1 (by omega)
 clear hloc1
 have hm1:=hm0.trans m1
 have rb1:=rb.mv m1 (by omega)
 have hpk:=pick_any _ R (p+1) 7 (by omega) r1
 clear m1 r1 hm0 hr0 rb hr
 go_wp2_with fail
 refine hpk.mono ?_
 rintro e2 w2 ⟨k,rfl,hk0,hk1,m2,r2⟩
 have hm2:=hm1.trans m2
 have rb2:=rb1.mv m2 (by omega)
 have hk7:k<7:=hk1 (by omega)
 have hl2:=rb2.lt
 clear hpk m2 hm1 rb1 hk1
 have hcase:k=0∨k=1∨k=2∨k=3∨k=4∨k=5∨k=6:=by omega
 rcases hcase with rfl | rfl | rfl | rfl | rfl | rfl | rfl
 ·obtain⟨c0,c1,c2,c3,f0,f1,f2,f3,fl⟩:=rb2.res4
  go_wp2_with fail
  refine bodyPost_ret (v:=.agg #[.int .i64 4,.int .i64 0,.int .i64 0,.int .i64 0]) (by simp [results,Tryz.results92,go_sem,c0,c1,c2,c3]) rfl ?_
  exact RetI1.fin hR hm2 r2 (by omega) (insOk_mk (by omega))
 ·have hpk:=pick_any _ R (p+1+1) 2 (by omega) r2
  go_wp2_with fail
  refine hpk.mono ?_
  rintro e3 w3 ⟨a,rfl,ha0,ha1,m3,r3⟩
  have hm3:=hm2.trans m3
  have rb3:=rb2.mv m3 (by omega)
  have ha2:a<2:=ha1 (by omega)
  clear hpk m3 ha1
  obtain⟨c0,c1,c2,c3,f0,f1,f2,f3,fl⟩:=rb3.res4
  go_wp2_with fail
  refine bodyPost_ret (v:=.agg #[.int .i64 3,.int .i64 loc,.int .i64 a,.int .i64 0]) (by simp [results,Tryz.results92,go_sem,c0,c1,c2,c3]) rfl ?_
  exact RetI1.fin hR hm3 r3 (by omega) (insOk_mk (by omega))
 ·have hpk:=pick_any _ R (p+1+1) 2 (by omega) r2
  go_wp2_with fail
  refine hpk.mono ?_
  rintro e3 w3 ⟨a,rfl,ha0,ha1,m3,r3⟩
  have hm3:=hm2.trans m3
  have rb3:=rb2.mv m3 (by omega)
  have ha2:a<2:=ha1 (by omega)
  clear hpk m3 ha1
  have hpk:=pick_any _ R (p+1+1+1) 3 (by omega) r3
  go_wp2_with fail
  refine hpk.mono ?_
  rintro e4 w4 ⟨b,rfl,hb0,hb1,m4,r4⟩
  have hm4:=hm3.trans m4
  have rb4:=rb3.mv m4 (by omega)
  have hb2:b<3:=hb1 (by omega)
  clear hpk m4 hb1
  obtain⟨c0,c1,c2,c3,f0,f1,f2,f3,fl⟩:=rb4.res4
  go_wp2_with fail
  refine bodyPost_ret (v:=.agg #[.int .i64 5,.int .i64 loc,.int .i64 a,.int .i64 (1+b)]) (by simp [results,Tryz.results92,go_sem,c0,c1,c2,c3]) rfl ?_
  exact RetI1.fin hR hm4 r4 (by omega) (insOk_mk (by omega))
 ·have hpk:=pick_any _ R (p+1+1) 3 (by omega) r2
  go_wp2_with fail
  refine hpk.mono ?_
  rintro e3 w3 ⟨b,rfl,hb0,hb1,m3,r3⟩
  have hm3:=hm2.trans m3
  have rb3:=rb2.mv m3 (by omega)
  have hb2:b<3:=hb1 (by omega)
  clear hpk m3 hb1
  obtain⟨c0,c1,c2,c3,f0,f1,f2,f3,fl⟩:=rb3.res4
  go_wp2_with fail
  refine bodyPost_ret (v:=.agg #[.int .i64 2,.int .i64 loc,.int .i64 0,.int .i64 (1+b)]) (by simp [results,Tryz.results92,go_sem,c0,c1,c2,c3]) rfl ?_
  exact RetI1.fin hR hm3 r3 (by omega) (insOk_mk (by omega))
 ·have hpk:=pick_any _ R (p+1+1) 3 (by omega) r2
  go_wp2_with fail
  refine hpk.mono ?_
  rintro e3 w3 ⟨b,rfl,hb0,hb1,m3,r3⟩
  have hm3:=hm2.trans m3
  have rb3:=rb2.mv m3 (by omega)
  have hb2:b<3:=hb1 (by omega)
  clear hpk m3 hb1
  obtain⟨c0,c1,c2,c3,f0,f1,f2,f3,fl⟩:=rb3.res4
  go_wp2_with fail
  refine bodyPost_ret (v:=.agg #[.int .i64 2,.int .i64 loc,.int .i64 0,.int .i64 (1+b)]) (by simp [results,Tryz.results92,go_sem,c0,c1,c2,c3]) rfl ?_
  exact RetI1.fin hR hm3 r3 (by omega) (insOk_mk (by omega))
 ·have hpk:=pick_any _ R (p+1+1) 2 (by omega) r2
  go_wp2_with fail
  refine hpk.mono ?_
  rintro e3 w3 ⟨a,rfl,ha0,ha1,m3,r3⟩
  have hm3:=hm2.trans m3
  have rb3:=rb2.mv m3 (by omega)
  have ha2:a<2:=ha1 (by omega)
  clear hpk m3 ha1
  obtain⟨c0,c1,c2,c3,f0,f1,f2,f3,fl⟩:=rb3.res4
  go_wp2_with fail
  refine bodyPost_ret (v:=.agg #[.int .i64 1,.int .i64 loc,.int .i64 a,.int .i64 0]) (by simp [results,Tryz.results92,go_sem,c0,c1,c2,c3]) rfl ?_
  exact RetI1.fin hR hm3 r3 (by omega) (insOk_mk (by omega))
 ·have hpk:=pick_any _ R (p+1+1) 2 (by omega) r2
  go_wp2_with fail
  refine hpk.mono ?_
  rintro e3 w3 ⟨a,rfl,ha0,ha1,m3,r3⟩
  have hm3:=hm2.trans m3
  have rb3:=rb2.mv m3 (by omega)
  have ha2:a<2:=ha1 (by omega)
  clear hpk m3 ha1
  obtain⟨c0,c1,c2,c3,f0,f1,f2,f3,fl⟩:=rb3.res4
  go_wp2_with fail
  refine bodyPost_ret (v:=.agg #[.int .i64 1,.int .i64 loc,.int .i64 a,.int .i64 0]) (by simp [results,Tryz.results92,go_sem,c0,c1,c2,c3]) rfl ?_
  exact RetI1.fin hR hm3 r3 (by omega) (insOk_mk (by omega))
end Go.Proofs.YtojmofnamppbdaaGreat
namespace Go.Proofs.YtojmofnamppbdaaGreat
open Go.RowKit
set_option linter.unusedVariables false
set_option maxRecDepth 100000
def Few (n m:Nat) (p:Prg):Prop:=p.length≤n∧∀ t∈p,t.length≤m
theorem Few.nil (n m:Nat):Few n m []:=⟨Nat.zero_le _,fun t ht=>by cases ht⟩
theorem Few.push {n m:Nat} {p:Prg} {t:List Ins} (h:Few n m p) (ht:t.length≤m):Few (n+1) m (p++[t]):=
 ⟨by rw [List.length_append,List.length_singleton]; have:=h.1; omega,fun s hs=>by
  rcases List.mem_append.1 hs with hs | hs
  ·exact h.2 s hs
  ·rw [List.mem_singleton.1 hs]; exact ht⟩
theorem Few.mono {n m n' m':Nat} {p:Prg} (h:Few n m p) (hn:n≤n') (hm:m≤m'):Few n' m' p:=⟨Nat.le_trans h.1 hn,fun t ht=>Nat.le_trans (h.2 t ht) hm⟩
theorem Few.mil {n m:Nat} {p:Prg} (h:Few n m p) (hm:m≤1048576):∀ t∈p,t.length≤1048576:=fun t ht=>by have:=h.2 t ht; omega
def RetPP (w:World) (e:Ending) (w':World):Prop:=∃ (p:Prg) (v:Value) (b:Bool),e=.returned (.tuple #[v,.bool b])∧(b=true→PrgOk p)∧PrgQ (above w.heap.size w') v p∧Few 4 8 p∧Below w.heap.size w w'
theorem MvO.above {F:List Nat} {B:Nat} {a b:World} (h:MvO F a b) (hF:∀ x∈F,x<B):Le (Go.Proofs.YtojmofnamppbdaaGreat.above B a) (Go.Proofs.YtojmofnamppbdaaGreat.above B b):=fun x v hc=>by
 obtain⟨h1,h2⟩:=cell_above_lt hc
 exact cell_above_of h1 (h.cell h2 fun hm=>by have:=hF _ hm; omega)
theorem MvO.grown {F:List Nat} {a X w1:World} {row:Option Nat} (h:MvO F a X) (hg:X.grownBy w1 row) (hr:∀ g,row=some g→g∈F∨a.heap.size≤g):MvO F a w1:=
 ⟨(World.grownBy.os hg).trans h.os,(World.grownBy.tape hg).trans h.tape,(World.grownBy.output hg).trans h.output,Nat.le_trans h.size (World.grownBy.size hg),fun i hi hn=>
  (World.grownBy.block hg i (Nat.lt_of_lt_of_le hi h.size) (fun e=>by
   rcases hr i e.symm with h | h
   ·exact hn h
   ·omega)).trans (h.block i hi hn)⟩
def RowAt (b:Nat) (a:World) (v:Value):Prop:=∀ g,v.ownBlock=some g→g∈[b]∨a.heap.size≤g
theorem RowAt.next {b:Nat} {a:World} {v:Value} {gg H n c:Nat} (h:RowAt b a v) (hat:v.ownBlock=some gg∨gg=H) (hH:a.heap.size≤H):RowAt b a (.slice (some ⟨gg,0,none⟩) n c):=fun g hg=>by
 simp only [Value.ownBlock,Option.some.injEq] at hg
 subst hg
 rcases hat with e | e
 ·exact h _ e
 ·exact .inr (by omega)
theorem RowAt.here (b n c:Nat) (a:World):RowAt b a (.slice (some ⟨b,0,none⟩) n c):=fun g hg=>by
 simp only [Value.ownBlock,Option.some.injEq] at hg
 subst hg
 exact .inl (by simp)
set_option maxHeartbeats 4000000 in
theorem parseP_any (s:ByteArray) (w:World) (hs:s.size≤1000000):Calls Tryz.prog 91 #[.string s] w (RetPP w):=by
 obtain⟨i0,hi0,hz0,hz1,hz2⟩:=info_parts Tryz.infoIns
 obtain⟨i1,hi1,hy0,hy1,hy2⟩:=info_parts Tryz.infoInsS
 have hrow0:PrgW (w.alloc (.cells #[] 48)) w.heap.size (.slice (some ⟨w.heap.size,0,none⟩) 0 0) [] [] (fun _=>[]):=RowW.made 1 thr (Own.new _ _ _) (Nat.le_refl _)
 have Hrow0:=Lib.hid hrow0
 have hB0:Below w.heap.size w (w.alloc (.cells #[] 48)):=(Below.refl _ _).alloc (Nat.le_refl _) _
 clear hrow0
 go_enter Tryz.func91,Tryz.ntmps91
 go_wp2_with fail
 refine (cutx_any s 124 _ (by omega)).mono ?_
 rintro e1 w1 ⟨ss,A,c,rfl,hsl,hssz,hss,hb1⟩
 have hrow1:=Lib.hid (Hrow0.out.below thr_loc hb1)
 have hB1:=hB0.trans (hb1.mono hB0.size)
 have hsz1:=hB1.size
 clear hb1 Hrow0 hB0
 have Hsz:=Lib.hid hssz
 clear hssz
 go_wp2_with fail
 go_loopg [4,6] ss.length (fun g s4 s6 wr=>∃ (i:Nat) (v:Value) (p:Prg) (cs:List Value) (Fs:Nat→List Nat),i≤ss.length∧i≤4∧g=ss.length-i∧v=s4∧s6=.int .i64 i∧Hid (PrgW wr w.heap.size v p cs Fs)∧Hid (Few i 8 p)∧p.length≤i∧Hid (RowAt w.heap.size w1 v)∧Hid (MvO [w.heap.size] w1 wr))
 case atStart=>exact⟨0,_,[],[],_,Nat.zero_le _,Nat.zero_le _,rfl,rfl,rfl,hrow1,Few.nil _ _,Nat.le_refl _,RowAt.here _ _ _ _,MvO.refl _ _⟩
 case round=>
  obtain⟨wo,rfl⟩:∃ wo:World,wo=wr:=⟨_,rfl⟩
  obtain⟨i,v,p,cs,Fs,hi,hi4,rfl,rfl,rfl,hrow,hfew,hpl,hat,hmv⟩:=hrel
  by_cases hgo0:i<ss.length∧i≤3
  ·obtain⟨hlt,hi3⟩:=hgo0
   ·obtain⟨bb,o,rfl,hbl,k0⟩:=(Strs.le (hss.le (hmv.out.above (by simp))) (Le.above _ _)).get hlt
    have hys:=Hsz.out _ (List.getElem_mem hlt)
    generalize ss[i]=y at k0 hys
    have bi:decide ((i:Int)<(ss.length:Int))=true:=by rw [decide_eq_true_iff]; omega
    have bi3:decide ((i:Int)≤3)=true:=by rw [decide_eq_true_iff]; omega
    have hth:RowT (wo.alloc (.cells #[] 50)) wo.heap.size (.slice (some ⟨wo.heap.size,0,none⟩) 0 0) []:=RowOf.made _ (Own.new _ _ _) (Nat.le_refl _)
    have Hth:=Lib.hid hth
    have hBo:Below wo.heap.size wo (wo.alloc (.cells #[] 50)):=(Below.refl _ _).alloc (Nat.le_refl _) _
    clear hth
    go_wp2_with fail
    refine (cutx_any y 59 _ (by omega)).mono ?_
    rintro e2 w2 ⟨ws,A2,c2,rfl,hwl,hwsz,hws,hb2⟩
    have Hws2:=Lib.hid hwsz
    have Hth2:Hid (RowT w2 wo.heap.size (.slice (some ⟨wo.heap.size,0,none⟩) 0 0) []):=Hth.out.below hb2
    have hB2:=hBo.trans (hb2.mono hBo.size)
    have hsz2:wo.heap.size+1≤w2.heap.size:=by have:=hb2.size; simpa using this
    clear hb2 hwsz Hth hBo
    go_wp2_with fail
    go_loopg [7,9] ws.length (fun g s7 s9 wr=>∃ (k:Nat) (tv:Value) (t:List Ins),k≤ws.length∧k≤8∧g=ws.length-k∧tv=s7∧s9=.int .i64 k∧Hid (RowT wr wo.heap.size tv t)∧t.length≤k∧Hid (RowAt wo.heap.size w2 tv)∧Hid (MvO [wo.heap.size] w2 wr))
    case atStart=>exact⟨0,_,[],Nat.zero_le _,Nat.zero_le _,rfl,rfl,rfl,Hth2,Nat.le_refl _,RowAt.here _ _ _ _,MvO.refl _ _⟩
    case round=>
     obtain⟨k,tv,t,hk,hk8,rfl,rfl,rfl,hrt,htl,hatk,hmvk⟩:=hrel
     have k1:wr.cell? ⟨bb,o+i,none⟩=some (.string y):=hmvk.out.cell (Le.below hB2 _ _ k0) (by simp; omega)
     have hwr:=hmvk.out.size
     have HBw:Hid (Below wo.heap.size wo wr):=hB2.trans (hmvk.out.below (fun x hx=>by simp at hx; omega) hB2.size)
     by_cases hgo:(k<ws.length∧k≤7)∧y.toList.isEmpty=false
     ·obtain⟨⟨hkt,hk7⟩,hy⟩:=hgo
      obtain⟨b2,o2,rfl,hbl2,k2⟩:=(Strs.le (hws.le (hmvk.out.above (by simp))) (Le.above _ _)).get hkt
      have hzs:=Hws2.out _ (List.getElem_mem hkt)
      generalize ws[k]=z at k2 hzs
      obtain⟨ct,hot,hqt⟩:=hrt.out
      have Hot:=Lib.hid hot
      have Hqt:=Lib.hid hqt
      clear hot hqt
      go_wp2_with fail
      refine (parseI_any z _ (by omega)).mono ?_
      rintro e5 w5 ⟨x,rfl,hb5⟩
      have hs5:=hb5.size
      clear k0 k1 k2
      go_wp2_with (at_builtin; refine wpList_append_lies _ (by rfl) _ _ _ (by rfl) wo.heap.size 50 i0 _ 4 32 Tryz.underlying48 hi0 hz0 hz1 hz2 rfl (by omega) tv t.length ct (by rfl) (owns_alloc (owns_upB Hot.out hb5) _) ⟨w5.heap.size,0,none⟩ 1 1 [.int .i64 x.op,.int .i64 x.loc,.int .i64 x.reg,.int .i64 x.val] (by rfl) (by rfl) (World.news_of_block (cs:=#[.int .i64 x.op,.int .i64 x.loc,.int .i64 x.reg,.int .i64 x.val]) (t:=50) (fr:=(0,0)) (heap_alloc_new w5 _)) (by simp [Value.oneCell']) (by omega) (by simp [maxLen]; omega) (by omega) (by simp; omega) (w5.heap.size+1) (by simp) ?_; intro gg cap w6 hown6 hgrow hat6 hlt6)
      go_roundg (ws.length-(k+1))
      case measure=>omega
      case rel=>exact⟨k+1,_,t++[x],by omega,by omega,rfl,rfl,by go_num,RowOf.snoc (news:=[.int .i64 x.op,.int .i64 x.loc,.int .i64 x.reg,.int .i64 x.val]) qin_congr Hot.out Hqt.out rfl ⟨rfl,rfl,rfl,rfl⟩ hown6,by simp; omega,hatk.out.next hat6 (by omega),((hmvk.out.trans (MvO.of_below hb5)).trans (MvO.of_below ((Below.refl _ _).alloc (Nat.le_refl _) _))).grown hgrow hatk.out⟩
     ·have hway:(ws.length≤k)∨(k<ws.length∧7<k)∨(k<ws.length∧k≤7∧y.toList.isEmpty=true):=by
       by_cases h1:k<ws.length
       ·by_cases h2:k≤7
        ·right; right
         refine⟨h1,h2,?_⟩
         cases h3:y.toList.isEmpty
         ·exact absurd ⟨⟨h1,h2⟩,h3⟩ hgo
         ·rfl
        ·right; left; omega
       ·left; omega
      obtain⟨At,cT,rfl⟩:∃ At cT,tv=.slice At t.length cT:=by
       obtain⟨ct,hot,_⟩:=hrt.out
       rcases hot.2 with ⟨rfl,h0⟩ | ⟨g,cap,cur,rfl,_⟩
       ·exact⟨none,0,by rw [h0]⟩
       ·exact⟨_,_,rfl⟩
      have hsw:=hB1.size
      have hso:=hmv.out.size
      have HBV:Hid (Below wo.heap.size wo (wr.alloc (.cells #[.slice At t.length cT] 48))):=HBw.out.alloc HBw.out.size _
      have Hpush:Hid (∀ (gg cap:Nat) (w6:World),w6.ownsRow w.heap.size 48 1 (.slice (some ⟨gg,0,none⟩) (p.length+1) cap) (p.length+1) (cs++[.slice At t.length cT])→(wr.alloc (.cells #[.slice At t.length cT] 48)).grownBy w6 v.ownBlock→(v.ownBlock=some gg∨gg=wr.heap.size+1) →
        ∃ Fs',PrgW w6 w.heap.size (.slice (some ⟨gg,0,none⟩) (p.length+1) cap) (p++[t]) (cs++[.slice At t.length cT]) Fs'∧RowAt w.heap.size w1 (.slice (some ⟨gg,0,none⟩) (p.length+1) cap)∧MvO [w.heap.size] w1 w6):=fun gg cap w6 hown hg hat'=>
       ⟨_,hrow.out.push thr_loc (by have:=HBV.out.size; exact this) (fun b _ hb=>HBV.out.block b hb) hg rfl (RowT.thr (hrt.out.of_block (w':=wr.alloc (.cells #[.slice At t.length cT] 48)) fun g _ _ hl=>Go.Deep.blk_alloc_lt _ _ _ hl)) (fun b hb=>(hrt.out.blk (mem_own.1 hb)).1) (own_nodup _) (by omega) hown hat' (by simp),
        hat.out.next hat' (by omega),(hmv.out.trans (MvO.of_below HBV.out)).grown hg hat.out⟩
      clear hgo
      rcases hway with h1 | ⟨h1,h2⟩ | ⟨h1,h2,h3⟩
      all_goals
       go_wp2_with (at_builtin; refine wpList_append_lies _ (by rfl) _ _ _ (by rfl) w.heap.size 48 i1 _ 1 24 Tryz.underlying23 hi1 hy0 hy1 hy2 rfl (by omega) v p.length cs (by rfl) (owns_alloc (owns_upB hrow.out.own HBw.out) _) ⟨wr.heap.size,0,none⟩ 1 1 [.slice At t.length cT] (by rfl) (by rfl) (World.news_of_block (cs:=#[.slice At t.length cT]) (t:=48) (fr:=(0,0)) (heap_alloc_new wr _)) (by simp [Value.oneCell']) (by omega) (by simp [maxLen]; omega) (by omega) (by simp; omega) (wr.heap.size+1) (by simp) ?_; intro gg cap w6 hown6 hgrow hat6 hlt6)
       obtain⟨Fs',hp1,hp2,hp3⟩:=Hpush.out gg cap w6 hown6 hgrow hat6
       go_roundg (ss.length-(i+1))
       case measure=>omega
       case rel=>exact⟨i+1,_,p++[t],_,Fs',by omega,by omega,rfl,rfl,by go_num,hp1,hfew.out.push (by omega),by simp; omega,hp2,hp3⟩
  ·have hway:ss.length≤i∨(i<ss.length∧3<i):=by omega
   have hpS:PrgQ (above w.heap.size wo) v p:=hrow.out.prgQ
   have Hps:=Lib.hid hpS
   have hBw:Below w.heap.size w wo:=hB1.trans (hmv.out.below (fun x hx=>by simp at hx; omega) hB1.size)
   obtain⟨A9,c9,rfl,_⟩:=hpS.1.slice
   have hvalid:=fun W=>specPrg_any p (by omega) W (.slice A9 p.length c9)
   have Hfew:Hid (Few 4 8 p):=hfew.out.mono hi4 (Nat.le_refl _)
   clear hgo0 hpS hrow hat
   cases hv:prgB p
   ·rw [hv] at hvalid
    have Hv:=Lib.hid hvalid
    clear hvalid
    rcases hway with h1 | ⟨h1,h2⟩
    all_goals
     go_wp2_with fail
     refine (Hv.out _ (PrgS.le Hps.out.1 (Le.above _ _))).mono ?_
     rintro e3 w3 ⟨rfl,hb3⟩
     go_wp2_with fail
     go_ret2
     exact⟨[],_,_,rfl,(fun h=>by cases h),PrgQ.nil _ _ _,Few.nil _ _,(hBw.trans (hb3.mono hBw.size)).alloc (by have:=hb3.size; have:=hBw.size; omega) _⟩
   ·rw [hv] at hvalid
    have hok:=(prgB_iff.1 hv).1
    have Hpok:=Lib.hid (prgB_iff.1 hv)
    have Hok:=Lib.hid hok
    have Hv:=Lib.hid hvalid
    clear hvalid hok
    rcases hway with h1 | ⟨h1,h2⟩
    all_goals
     go_wp2_with fail
     refine (Hv.out _ (PrgS.le Hps.out.1 (Le.above _ _))).mono ?_
     rintro e3 w3 ⟨rfl,hb3⟩
     have hB3:=hBw.trans (hb3.mono hBw.size)
     have Hp3:Hid (PrgQ (above w.heap.size w3) (.slice A9 p.length c9) p):=PrgQ.le Hps.out (Le.above_le _ (Le.below hb3))
     go_wp2_with fail
     refine (textD_any p Hok.out _ _ (PrgS.le Hp3.out.1 (Le.above _ _))).mono ?_
     rintro e4 w4 ⟨tx,rfl,htx,hb4⟩
     have hB4:=hB3.trans (hb4.mono hB3.size)
     have Hp4:Hid (PrgQ (above w.heap.size w4) (.slice A9 p.length c9) p):=PrgQ.le Hp3.out (Le.above_le _ (Le.below hb4))
     cases hq:(tx.toList == s.toList)
     ·go_wp2_with fail
      go_ret2
      exact⟨[],_,_,rfl,(fun h=>by cases h),PrgQ.nil _ _ _,Few.nil _ _,hB4.alloc hB4.size _⟩
     ·go_wp2_with fail
      go_ret2
      exact⟨p,_,_,rfl,(fun _=>Hpok.out),Hp4.out,Hfew.out,hB4⟩
end Go.Proofs.YtojmofnamppbdaaGreat
namespace Go.Proofs.YtojmofnamppbdaaGreat
open Go.RowKit
set_option linter.unusedVariables false
set_option maxRecDepth 100000
theorem mv_grownV {w X w1:World} {R:Nat} {row:Option Nat} (m:Mv R w X) (h:X.grownBy w1 row) (hs:∀ g,row=some g→w.heap.size≤g):Mv R w w1:=
 ⟨(World.grownBy.os h).trans m.os,(World.grownBy.tape h).trans m.tape,(World.grownBy.output h).trans m.output,Nat.le_trans m.size (World.grownBy.size h),fun i hi hne=>(World.grownBy.block h i (Nat.lt_of_lt_of_le hi m.size) (fun e=>by have:=hs i e.symm; omega)).trans (World.grownBy.block m i hi hne)⟩
theorem prg_one {W:World} {base b1 b2:Nat} {a b c d:Int} (h1:Own W b1 50 #[.int .i64 a,.int .i64 b,.int .i64 c,.int .i64 d]) (h2:Own W b2 48 #[.slice (some ⟨b1,0,none⟩) 1 1]) (g1:base≤b1) (g2:base≤b2):PrgS (above base W) (.slice (some ⟨b2,0,none⟩) 1 1) [[⟨a,b,c,d⟩]]:=by
 refine⟨_,_,rfl,by simp,fun i hi=>⟨b2,0,rfl,fun _=>.slice (some ⟨b1,0,none⟩) 1 1,fun j hj=>?_,?_⟩⟩
 ·obtain rfl:i=0:=by simp at hi; omega
  obtain rfl:j=0:=by omega
  exact cell_above_of g2 (h2.cell rfl)
 ·obtain rfl:i=0:=by simp at hi; omega
  refine⟨_,_,rfl,_,_,rfl,by simp,fun i hi=>⟨b1,0,rfl,fun j=>#[Value.int .i64 a,.int .i64 b,.int .i64 c,.int .i64 d].getD j undef,fun j hj=>?_,?_⟩⟩
  ·obtain rfl:i=0:=by simp at hi; omega
   refine cell_above_of g1 ?_
   match j,hj with
   | 0,_=>exact h1.cell rfl
   | 1,_=>exact h1.cell rfl
   | 2,_=>exact h1.cell rfl
   | 3,_=>exact h1.cell rfl
  ·obtain rfl:i=0:=by simp at hi; omega
   exact⟨rfl,rfl,rfl,rfl⟩
theorem prg_oneQ {W:World} {base b1 b2:Nat} {a b c d:Int} (h1:Own W b1 50 #[.int .i64 a,.int .i64 b,.int .i64 c,.int .i64 d]) (h2:Own W b2 48 #[.slice (some ⟨b1,0,none⟩) 1 1]) (g1:base≤b1) (g2:base≤b2):PrgQ (above base W) (.slice (some ⟨b2,0,none⟩) 1 1) [[⟨a,b,c,d⟩]]:=
 ⟨prg_one h1 h2 g1 g2,fun b' o' n' c'' e t ht A m c' hc=>by
  obtain rfl:t=0:=by simp at ht; omega
  injection e with e1 e2 e3
  injection e1 with e1
  injection e1 with e1 e4
  subst e1 e4
  have h3:=h2.cell (i:=0) (v:=.slice (some ⟨b1,0,none⟩) 1 1) rfl
  have h4:=(cell_above_lt hc).2
  rw [Nat.zero_add,h3] at h4
  injection h4 with h4
  injection h4 with h5 h6 h7
  omega⟩
theorem cntP_one (loc:Int) (b:Bool) (x:Ins):cntP loc b [[x]]≤1:=by
 unfold cntP
 rw [wSum,wSum]
 have:=cntT_le loc b [x]
 simp only [List.length_cons,List.length_nil] at this
 omega
theorem prgOk_one {x:Ins} (h:InsOk x):PrgOk [[x]]:=by
 have hL:∀ loc,exL [[x]] loc≤2:=fun loc=>by
  unfold exL
  have h1:=cntP_one loc true x
  have h2:=cntP_one loc false x
  have k1:cntP loc true [[x]]=0∨cntP loc true [[x]]=1:=by omega
  have k2:cntP loc false [[x]]=0∨cntP loc false [[x]]=1:=by omega
  rcases k1 with e1 | e1 <;> rcases k2 with e2 | e2 <;> rw [e1,e2] <;> decide
 refine⟨⟨by simp,fun t ht=>?_,?_⟩,by simp,?_⟩
 ·obtain rfl:t=[x]:=by simpa using ht
  exact⟨by simp,fun y hy=>by (obtain rfl : y = x := by simpa using hy); exact h⟩
 ·unfold evN
  rw [wSum,wSum]
  have:cntE' [x]≤1:=List.countP_le_length
  omega
 ·unfold exN
  exact Nat.le_trans (Nat.mul_le_mul (Nat.mul_le_mul (hL 0) (hL 1)) (hL 2)) (by decide)
def RetDP (w:World) (R p:Nat) (e:Ending) (w':World):Prop:=∃ (pr:Prg) (v:Value) (p':Nat),e=.returned v∧PrgOk pr∧PrgQ (above w.heap.size w') v pr∧Few 4 8 pr∧Mv R w w'∧Rd w' R p'∧p'≤p+1000
set_option maxHeartbeats 4000000 in
theorem drawP_any (w:World) (R p:Nat) (hp:p≤900000000) (hr:Rd w R p):Calls Tryz.prog 52 #[.pointer (some ⟨R,0,none⟩)] w (RetDP w R p):=by
 have hR:=hr.lt
 obtain⟨i0,hi0,hz0,hz1,hz2⟩:=info_parts Tryz.infoIns
 obtain⟨i1,hi1,hy0,hy1,hy2⟩:=info_parts Tryz.infoInsS
 go_enter Tryz.func52,Tryz.ntmps52
 go_wp2_with fail
 refine (tests_any w).mono ?_
 rintro e1 w1 ⟨A,c,rfl,hss,hb1⟩
 have hm1:Mv R w w1:=Mv.of_below hb1
 have hr1:=hr.below hb1
 have hpk:=pick_any _ R p 3 (by omega) hr1
 clear hr1 hr hb1
 go_wp2_with fail
 refine hpk.mono ?_
 rintro e2 w2 ⟨k,rfl,hk0,_,m2,r2⟩
 have hm2:=hm1.trans m2
 have hs2:Strs (above (R+1) w2) A c tests:=(hss.le (Le.above_mono (by omega) _)).le m2.above
 clear hpk m2 hm1 hss
 by_cases hk:0<k
 case' pos=>
  have hpk:=pick_any _ R (p+1) tests.length (by omega) r2
  go_wp2_with fail
  refine hpk.mono ?_
  rintro e3 w3 ⟨v,rfl,hv0,hv1,m3,r3⟩
  obtain⟨i,rfl⟩:∃ i:Nat,v=i:=⟨v.toNat,by omega⟩
  have hi:i<tests.length:=by have:=hv1 (by show (0:Int)<21; omega); omega
  obtain⟨b,o,rfl,hbl,hc⟩:=(hs2.le m3.above).get hi
  have hc':=(cell_above_lt hc).2
  have hii:(i:Int)<(tests.length:Int):=by omega
  have hsm:=tests_small _ (List.getElem_mem hi)
  have hm3:=hm2.trans m3
  generalize tests[i]=y at hc hc' hsm
  clear hs2 hpk m3 hv1 hc hbl hm2 r2
  go_wp2_with fail
  refine (parseP_any y _ (by omega)).mono ?_
  rintro e4 w4 ⟨pr,v4,ok,rfl,hpk,hps,hfew,hb4⟩
  have Hpk:=Lib.hid hpk
  clear hpk
  have hm4:=hm3.trans (Mv.of_below hb4)
  have r4:=r3.below hb4
  have hms:=hm3.size
  clear hb4 hm3 r3 hc'
  cases ok
  case true=>
   go_wp2_with fail
   go_ret
   exact⟨pr,v4,_,rfl,Hpk.out (by first | trivial | rfl),PrgQ.le hps (Le.above_mono hms _),hfew,hm4,r4,by omega⟩
  case' false=>
   clear hps hfew hms Hpk
   obtain⟨W,hW⟩:∃ W,W=w4:=⟨_,rfl⟩
   subst hW
   obtain⟨q,hq⟩:∃ q,q=p+1+1:=⟨_,rfl⟩
   rw [← hq] at r4
   have hqp:q≤p+2:=by omega
   clear hq
   have hmW:=hm4
   have rW:=r4
   clear hm4 r4
 case' neg=>
  obtain⟨W,hW⟩:∃ W,W=w2:=⟨_,rfl⟩
  subst hW
  obtain⟨q,hq⟩:∃ q,q=p+1:=⟨_,rfl⟩
  rw [← hq] at r2
  have hqp:q≤p+2:=by omega
  clear hq hs2
  have hmW:=hm2
  have rW:=r2
  clear hm2 r2
 all_goals
  have hsW:=hmW.size
  have hrow0:PrgW (W.alloc (.cells #[] 48)) w.heap.size (.slice (some ⟨W.heap.size,0,none⟩) 0 0) [] [] (fun _=>[]):=RowW.made 1 thr (Own.new _ _ _) hsW
  have il:=Own.new (W.alloc (.cells #[] 48)) 3 #[.int .i64 2,.int .i64 3,.int .i64 1]
  have hil:Ints (above (R+1) ((W.alloc (.cells #[] 48)).alloc (.cells #[.int .i64 2,.int .i64 3,.int .i64 1] 3))) (some ⟨W.heap.size+1,0,none⟩) 3 [2,3,1]:=ints_lit [2,3,1] (by simpa using il) (by omega) rfl (by omega) (fun i hi=>by
   match i,hi with
   | 0,_=>rfl
   | 1,_=>rfl
   | 2,_=>rfl)
  have hnum:=num_any _ R q _ 3 [2,3,1] (by omega) ((rW.alloc _).alloc _) hil (by simp)
  have hm1:=(hmW.alloc (.cells #[] 48)).alloc (.cells #[.int .i64 2,.int .i64 3,.int .i64 1] 3)
  have Hrow1:=Lib.hid (hrow0.below thr_loc ((Below.refl _ _).alloc (Nat.le_refl _) (.cells #[.int .i64 2,.int .i64 3,.int .i64 1] 3)))
  clear il hil rW hmW hrow0
  go_wp2_with fail
  refine hnum.mono ?_
  rintro e2 w2 ⟨n,rfl,hn,m2,r2⟩
  have hlit:n=2∨n=3∨n=1:=by simpa using hn
  have hn3:0≤n∧n≤3:=by omega
  obtain⟨n,rfl⟩:∃ k:Nat,n=k:=⟨n.toNat,by omega⟩
  have hm2:=hm1.trans m2
  have Hrow2:=Lib.hid (Hrow1.out.move thr_loc (w':=w2) fun b hb hl=>m2.block hl (by omega))
  have hn33:n≤3:=by omega
  clear hn hlit hn3 hm1 m2 Hrow1 hnum
  go_wp2_with fail
  go_loopg [6,7] n (fun g s6 s7 wr=>∃ (i:Nat) (v:Value) (pr:Prg) (cs:List Value) (Fs:Nat→List Nat) (q':Nat),i≤n∧i=g∧v=s6∧s7=.int .i64 i∧Hid (PrgW wr w.heap.size v pr cs Fs)∧Hid (Few (3-i) 8 pr)∧pr.length+i≤3∧Hid (Mv R w wr)∧Hid (Rd wr R q')∧q'+50*i≤q+200)
  case atStart=>exact⟨n,_,[],[],_,_,Nat.le_refl _,rfl,rfl,rfl,Hrow2.out,Few.nil _ _,by simp; omega,hm2,r2,by omega⟩
  case round=>
   obtain⟨wo,rfl⟩:∃ wo:World,wo=wr:=⟨_,rfl⟩
   obtain⟨i,v,pr,cs,Fs,q',hi,rfl,rfl,rfl,hrow,hfew,hpl,hmo,hro,hq⟩:=hrel
   by_cases hi0':0<i
   ·have bi:decide ((i:Int)>0)=true:=by rw [decide_eq_true_iff]; omega
    have hso:=hmo.out.size
    have hth:RowT (wo.alloc (.cells #[] 50)) wo.heap.size (.slice (some ⟨wo.heap.size,0,none⟩) 0 0) []:=RowOf.made _ (Own.new _ _ _) (Nat.le_refl _)
    have il:=Own.new (wo.alloc (.cells #[] 50)) 3 #[.int .i64 2,.int .i64 1,.int .i64 3,.int .i64 2,.int .i64 0]
    have hil:Ints (above (R+1) ((wo.alloc (.cells #[] 50)).alloc (.cells #[.int .i64 2,.int .i64 1,.int .i64 3,.int .i64 2,.int .i64 0] 3))) (some ⟨wo.heap.size+1,0,none⟩) 5 [2,1,3,2,0]:=ints_lit [2,1,3,2,0] (by simpa using il) (by omega) rfl (by omega) (fun i hi=>by
     match i,hi with
     | 0,_=>rfl
     | 1,_=>rfl
     | 2,_=>rfl
     | 3,_=>rfl
     | 4,_=>rfl)
    have hnum:=num_any _ R q' _ 5 [2,1,3,2,0] (by omega) ((hro.out.alloc _).alloc _) hil (by simp)
    have hm1:=((Mv.refl R wo).alloc (.cells #[] 50)).alloc (.cells #[.int .i64 2,.int .i64 1,.int .i64 3,.int .i64 2,.int .i64 0] 3)
    have Hth1:=Lib.hid (hth.below ((Below.refl _ _).alloc (Nat.le_refl _) (.cells #[.int .i64 2,.int .i64 1,.int .i64 3,.int .i64 2,.int .i64 0] 3)))
    clear il hil hth
    go_wp2_with fail
    refine hnum.mono ?_
    rintro e3 w3 ⟨m,rfl,hm,m3,r3⟩
    have hlit:m=2∨m=1∨m=3∨m=2∨m=0:=by simpa using hm
    obtain⟨m,rfl⟩:∃ k:Nat,m=k:=⟨m.toNat,by omega⟩
    have hm33:m≤3:=by omega
    have hm3:=hm1.trans m3
    have Hth3:=Lib.hid (Hth1.out.of_block (w':=w3) fun g hb _ hl=>m3.block hl (by omega))
    clear hm hlit hm1 m3 Hth1 hnum
    go_wp2_with fail
    go_loopg [8,9] m (fun g s8 s9 wr=>∃ (k:Nat) (tv:Value) (t:List Ins) (q2:Nat),k≤m∧k=g∧tv=s8∧s9=.int .i64 k∧Hid (RowT wr wo.heap.size tv t)∧t.length+k≤3∧Hid (Mv R wo wr)∧Hid (Rd wr R q2)∧q2+10*k≤q'+40)
    case atStart=>exact⟨m,_,[],_,Nat.le_refl _,rfl,rfl,rfl,Hth3.out,by simp; omega,hm3,r3,by omega⟩
    case round=>
     obtain⟨k,tv,t,q2,hk2,rfl,rfl,rfl,hrt,htl,hmk,hrk,hq2⟩:=hrel
     by_cases hk3:0<k
     ·have bk:decide ((k:Int)>0)=true:=by rw [decide_eq_true_iff]; omega
      obtain⟨ct,hot,hqt⟩:=hrt.out
      have Hqt:=Lib.hid hqt
      have Hot:=Lib.hid hot
      have hsk:=hmk.out.size
      clear hot hqt
      go_wp2_with fail
      refine (instr_any _ R q2 (by omega) hrk.out).mono ?_
      rintro e5 w5 ⟨x,q5,rfl,hix,m5,r5,hq5⟩
      have Hix:=Lib.hid hix
      clear hix
      have Hot5:=Lib.hid (owns_of_block Hot.out (w':=w5) fun g _ hb hl=>m5.block hl (by omega))
      have hs5:=m5.size
      have Hm5:=Lib.hid (hmk.out.trans m5)
      have Hr5:=Lib.hid r5
      clear m5 r5
      go_wp2_with (at_builtin; refine wpList_append_lies _ (by rfl) _ _ _ (by rfl) wo.heap.size 50 i0 _ 4 32 Tryz.underlying48 hi0 hz0 hz1 hz2 rfl (by omega) tv t.length ct (by rfl) (owns_alloc Hot5.out _) ⟨w5.heap.size,0,none⟩ 1 1 [.int .i64 x.op,.int .i64 x.loc,.int .i64 x.reg,.int .i64 x.val] (by rfl) (by rfl) (World.news_of_block (cs:=#[.int .i64 x.op,.int .i64 x.loc,.int .i64 x.reg,.int .i64 x.val]) (t:=50) (fr:=(0,0)) (heap_alloc_new w5 _)) (by simp [Value.oneCell']) (by omega) (by simp [maxLen]; omega) (by omega) (by simp; omega) (w5.heap.size+1) (by simp) ?_; intro gg cap w6 hown6 hgrow hat6 hlt6)
      go_roundg (k-1)
      case measure=>omega
      case rel=>exact⟨k-1,_,t++[x],q5,by omega,rfl,rfl,by go_num,RowOf.snoc (news:=[.int .i64 x.op,.int .i64 x.loc,.int .i64 x.reg,.int .i64 x.val]) qin_congr Hot.out Hqt.out rfl ⟨rfl,rfl,rfl,rfl⟩ hown6,by simp; omega,mv_grownV (Hm5.out.alloc _) hgrow (fun g hg=>owns_base' Hot.out hg),rd_grown (Hr5.out.alloc _) hgrow (fun g hg=>by have:=owns_base' Hot.out hg; omega),by omega⟩
     ·obtain rfl:k=0:=by omega
      have hsk:=hmk.out.size
      obtain⟨At,cT,rfl⟩:∃ At cT,tv=.slice At t.length cT:=by
       obtain⟨ct,hot,_⟩:=hrt.out
       rcases hot.2 with ⟨rfl,h0⟩ | ⟨g,cap,cur,rfl,_⟩
       ·exact⟨none,0,by rw [h0]⟩
       ·exact⟨_,_,rfl⟩
      have Hown:=Lib.hid (owns_of_block hrow.out.own (w':=wr) fun g _ hb hl=>hmk.out.block hl (by omega))
      have Hpush:Hid (∀ (gg cap:Nat) (w6:World),w6.ownsRow w.heap.size 48 1 (.slice (some ⟨gg,0,none⟩) (pr.length+1) cap) (pr.length+1) (cs++[.slice At t.length cT])→(wr.alloc (.cells #[.slice At t.length cT] 48)).grownBy w6 v.ownBlock→(v.ownBlock=some gg∨gg=wr.heap.size+1) →
        ∃ Fs',PrgW w6 w.heap.size (.slice (some ⟨gg,0,none⟩) (pr.length+1) cap) (pr++[t]) (cs++[.slice At t.length cT]) Fs'∧Mv R w w6∧Rd w6 R q2):=fun gg cap w6 hown hg hat'=>
       ⟨_,hrow.out.push thr_loc (by have:=hmk.out.size; simp; omega) (fun b hb hl=>(Go.Deep.blk_alloc_lt _ _ _ (by omega)).trans (hmk.out.block hl (by omega))) hg rfl (RowT.thr (hrt.out.of_block (w':=wr.alloc (.cells #[.slice At t.length cT] 48)) fun g _ _ hl=>Go.Deep.blk_alloc_lt _ _ _ hl)) (fun b hb=>(hrt.out.blk (mem_own.1 hb)).1) (own_nodup _) hso hown hat' (by simp),
        mv_grownV ((hmo.out.trans hmk.out).alloc _) hg (fun g hg=>owns_base' hrow.out.own hg),rd_grown (hrk.out.alloc _) hg (fun g hg=>by have:=owns_base' hrow.out.own hg; omega)⟩
      go_wp2_with (at_builtin; refine wpList_append_lies _ (by rfl) _ _ _ (by rfl) w.heap.size 48 i1 _ 1 24 Tryz.underlying23 hi1 hy0 hy1 hy2 rfl (by omega) v pr.length cs (by rfl) (owns_alloc Hown.out _) ⟨wr.heap.size,0,none⟩ 1 1 [.slice At t.length cT] (by rfl) (by rfl) (World.news_of_block (cs:=#[.slice At t.length cT]) (t:=48) (fr:=(0,0)) (heap_alloc_new wr _)) (by simp [Value.oneCell']) (by omega) (by simp [maxLen]; omega) (by omega) (by simp; omega) (wr.heap.size+1) (by simp) ?_; intro gg cap w6 hown6 hgrow hat6 hlt6)
      obtain⟨Fs',hp1,hp2,hp3⟩:=Hpush.out gg cap w6 hown6 hgrow hat6
      go_roundg (i-1)
      case measure=>omega
      case rel=>exact⟨i-1,_,pr++[t],_,Fs',q2,by omega,rfl,rfl,by go_num,hp1,(hfew.out.push (by omega)).mono (by omega) (Nat.le_refl _),by simp; omega,hp2,hp3,by omega⟩
   ·obtain rfl:i=0:=by omega
    have hpS:PrgQ (above w.heap.size wo) v pr:=hrow.out.prgQ
    have Hps:=Lib.hid hpS
    obtain⟨A9,c9,rfl,_⟩:=hpS.1.slice
    have hvalid:=specPrg_any pr (by omega) wo (.slice A9 pr.length c9) (PrgS.le hpS.1 (Le.above _ _))
    have Hfew:Hid (Few 4 8 pr):=hfew.out.mono (by omega) (Nat.le_refl _)
    have hso:=hmo.out.size
    clear hpS hrow
    cases hv:prgB pr
    ·rw [hv] at hvalid
     have Hv:=Lib.hid hvalid
     clear hvalid hv
     go_wp2_with fail
     refine Hv.out.mono ?_
     rintro e3 w3 ⟨rfl,hb3⟩
     have r3:=hro.out.below hb3
     have m3:=hmo.out.trans (Mv.of_below hb3)
     have hs3:=hb3.size
     clear hb3 Hv
     go_wp2_with fail
     refine (instr_any _ R q' (by omega) r3).mono ?_
     rintro e5 w5 ⟨x,q5,rfl,hix,m5,r5,hq5⟩
     have Hix:=Lib.hid hix
     clear hix
     have hs5:=m5.size
     have Hm5:=Lib.hid (m3.trans m5)
     have Hr5:=Lib.hid r5
     clear m5 r5 m3 r3
     go_wp2_with fail
     go_ret
     refine⟨[[x]],_,q5,rfl,prgOk_one Hix.out,prg_oneQ ((Own.new _ _ _).alloc _) (by simpa using Own.new (w5.alloc _) _ _) (by omega) (by omega),⟨by simp,fun t ht=>by simp at ht; subst ht; simp⟩,(Hm5.out.alloc _).alloc _,(Hr5.out.alloc _).alloc _,by omega⟩
    ·rw [hv] at hvalid
     have Hv:=Lib.hid hvalid
     have Hpk:=Lib.hid (prgB_iff.1 hv)
     clear hvalid hv
     go_wp2_with fail
     refine Hv.out.mono ?_
     rintro e3 w3 ⟨rfl,hb3⟩
     go_wp2_with fail
     go_ret
     exact⟨pr,_,q',rfl,Hpk.out,PrgQ.le Hps.out (Le.above_le _ (Le.below hb3)),Hfew.out,hmo.out.trans (Mv.of_below hb3),hro.out.below hb3,by omega⟩
end Go.Proofs.YtojmofnamppbdaaGreat
namespace Go.Proofs.YtojmofnamppbdaaGreat
open Go.RowKit
set_option linter.unusedVariables false
set_option maxRecDepth 100000
theorem qin_one:∀ (cs:Nat→Value) (y:Ins),QIn cs y→∀ j,j<4→(cs j).oneCell'=true:=fun cs y h j hj=>by
 match j,hj with
 | 0,_=>rw [h.1]; rfl
 | 1,_=>rw [h.2.1]; rfl
 | 2,_=>rw [h.2.2.1]; rfl
 | 3,_=>rw [h.2.2.2]; rfl
def RetCp (w:World) (p:Prg) (e:Ending) (w':World):Prop:=∃ (v:Value) (cs:List Value) (Fs:Nat→List Nat),e=.returned v∧PrgW w' w.heap.size v p cs Fs∧Below w.heap.size w w'
set_option maxHeartbeats 2000000 in
theorem copyP_any (p:Prg) (hp:Few 1000 1000 p) (w:World) (v:Value) (hr:PrgS w v p):Calls Tryz.prog 93 #[v] w (RetCp w p):=by
 obtain⟨i0,hi0,hz0,hz1,hz2⟩:=info_parts Tryz.infoIns
 obtain⟨i1,hi1,hy0,hy1,hy2⟩:=info_parts Tryz.infoInsS
 obtain⟨A,c,rfl,_⟩:=hr.slice
 have hpl:=hp.1
 have hrow0:PrgW (w.alloc (.cells #[] 48)) w.heap.size (.slice (some ⟨w.heap.size,0,none⟩) 0 0) (p.take 0) [] (fun _=>[]):=RowW.made 1 thr (Own.new _ _ _) (Nat.le_refl _)
 have Hrow0:=Lib.hid hrow0
 clear hrow0
 go_enter Tryz.func93,Tryz.ntmps93
 go_wp2_with fail
 go_loopg [3,4] p.length (fun g s3 s4 wr=>∃ (i:Nat) (v:Value) (cs:List Value) (Fs:Nat→List Nat),i≤p.length∧g=p.length-i∧v=s3∧s4=.int .i64 i∧Hid (PrgW wr w.heap.size v (p.take i) cs Fs)∧Below w.heap.size w wr)
 case atStart=>exact⟨0,_,[],_,Nat.zero_le _,rfl,rfl,rfl,Hrow0.out,(Below.refl _ _).alloc (Nat.le_refl _) _⟩
 case round=>
  obtain⟨wo,rfl⟩:∃ wo:World,wo=wr:=⟨_,rfl⟩
  obtain⟨i,v,cs,Fs,hi,rfl,rfl,rfl,hrow,hb⟩:=hrel
  by_cases hlt:i<p.length
  ·obtain⟨bb,o,A1,c1,rfl,hbl,k0,hlm,hx⟩:=SlR.getSub (PrgS.le hr (Le.below hb)) hlt
   have h1000:=hp.2 _ (List.getElem_mem hlt)
   have Htk:=Lib.hid (List.take_succ_eq_append_getElem hlt)
   have hlen:(p.take i).length≤i:=by rw [List.length_take]; omega
   have hso:=hb.size
   generalize p[i]=t at hx hlm k0 h1000 Htk
   have Hx1:Hid (InsS (wo.alloc (.cells #[] 50)) (.slice A1 t.length c1) t):=InsS.le hx (Le.alloc _ _)
   have Ht0:Hid (RowT (wo.alloc (.cells #[] 50)) wo.heap.size (.slice (some ⟨wo.heap.size,0,none⟩) 0 0) []):=RowOf.made _ (Own.new _ _ _) (Nat.le_refl _)
   clear hr hx
   have Hold:Hid (∀ (w2:World),(wo.alloc (.cells #[] 50)).grownBy w2 (Value.slice (some ⟨wo.heap.size,0,none⟩) 0 0).ownBlock→∀ b,b<wo.heap.size→w2.heap[b]?=wo.heap[b]?):=fun w2 hg b hb=>
    (World.grownBy.block hg b (by simp; omega) (fun e=>by simp only [Value.ownBlock,Option.some.injEq] at e; omega)).trans (Go.Deep.blk_alloc_lt _ _ _ hb)
   go_wp2_with (at_builtin; first
    | (refine wpList_append_list (o:=⟨some 18,_,_,_,_,_⟩) (by rfl) _ _ _ (by rfl) qin_congr (R:=RIns) wo.heap.size 50 i0 _ 32 Tryz.underlying48 hi0 hz0 hz1 hz2 rfl (by omega) _ [] (by rfl) Ht0.out A1 c1 t (by rfl) Hx1.out (fun cs y h=>h) qin_one (by simp [maxLen]; omega) (by simp; omega) (by simp) (wo.heap.size+1) (by simp) ?_; intro A2 c2 w2 hrt hgrow hat2; rw [List.nil_append] at hrt hat2; have hs2:=World.grownBy.size hgrow; simp only [World.size_alloc] at hs2)
    | (refine wpList_append_lies (o:=⟨some 20,_,_,_,_,_⟩) _ (by rfl) _ _ _ (by rfl) w.heap.size 48 i1 _ 1 24 Tryz.underlying23 hi1 hy0 hy1 hy2 rfl (by omega) v (p.take i).length cs (by rfl) (owns_alloc (owns_of_block hrow.out.own (w':=w2) fun g _ _ hl=>Hold.out w2 hgrow g hl) _) ⟨w2.heap.size,0,none⟩ 1 1 [.slice A2 t.length c2] (by rfl) (by rfl) (World.news_of_block (cs:=#[.slice A2 t.length c2]) (t:=48) (fr:=(0,0)) (heap_alloc_new w2 _)) (by simp [Value.oneCell']) (by omega) (by simp [maxLen]; omega) (by omega) (by simp; omega) (w2.heap.size+1) (by simp) ?_; intro gg cap w6 hown6 hgrow6 hat6 hlt6))
   have hp6:=hrow.out.push thr_loc (X:=w2.alloc (.cells #[.slice A2 t.length c2] 48)) (by simp; omega) (fun b _ hl=>(Go.Deep.blk_alloc_lt _ _ _ (by omega)).trans (Hold.out w2 hgrow b hl)) hgrow6 (news:=[.slice A2 t.length c2]) rfl (RowT.thr (hrt.of_block (w':=w2.alloc (.cells #[.slice A2 t.length c2] 48)) fun g _ _ hl=>Go.Deep.blk_alloc_lt _ _ _ hl)) (fun b hb=>(hrt.blk (mem_own.1 hb)).1) (own_nodup _) hso hown6 hat6 (by simp)
   have hB6:Below w.heap.size w w6:=below_grown (X:=w2.alloc (.cells #[.slice A2 t.length c2] 48)) (hb.trans ⟨(World.grownBy.os hgrow).trans rfl,(World.grownBy.tape hgrow).trans rfl,(World.grownBy.output hgrow).trans rfl,(by simp; omega),fun b hbl=>(Go.Deep.blk_alloc_lt _ _ _ (by omega)).trans (Hold.out w2 hgrow b (by omega))⟩) hgrow6 (Nat.le_refl _) (fun g hg=>owns_base' hrow.out.own hg)
   rw [← Htk.out,show (p.take i).length=i by rw [List.length_take]; omega] at hp6
   go_roundg (p.length-(i+1))
   case measure=>omega
   case rel=>exact⟨i+1,_,_,_,by omega,rfl,rfl,by go_num,hp6,hB6⟩
  ·obtain rfl:i=p.length:=by omega
   go_wp2_with fail
   go_ret
   rw [List.take_length] at hrow
   exact⟨v,cs,Fs,rfl,hrow.out,hb⟩
end Go.Proofs.YtojmofnamppbdaaGreat
namespace Go.Proofs.YtojmofnamppbdaaGreat
open Go.RowKit
set_option linter.unusedVariables false
set_option maxRecDepth 100000
def RetMP (w:World) (R p:Nat) (e:Ending) (w':World):Prop:=∃ (pr:Prg) (v:Value) (p':Nat),e=.returned v∧PrgQ (above w.heap.size w') v pr∧Few 2000 2000 pr∧Mv R w w'∧Rd w' R p'∧p'≤p+1000
structure MuS (w V:World) (R q:Nat) (v:Value) (pr:Prg) (cs:List Value) (Fs:Nat→List Nat):Prop where
 row:PrgW V w.heap.size v pr cs Fs
 mv:Mv R w V
 rd:Rd V R q
 hR:R<w.heap.size
theorem MuS.mv' {w V V':World} {R q q':Nat} {v:Value} {pr:Prg} {cs:List Value} {Fs:Nat→List Nat} (h:MuS w V R q v pr cs Fs) (m:Mv R V V') (r:Rd V' R q'):MuS w V' R q' v pr cs Fs:=
 ⟨h.row.move thr_loc fun b hb hl=>m.block hl (by have:=h.hR; omega),h.mv.trans m,r,h.hR⟩
theorem MuS.fin {w V:World} {R p q:Nat} {v:Value} {pr:Prg} {cs:List Value} {Fs:Nat→List Nat} (h:MuS w V R q v pr cs Fs) (hf:Few 2000 2000 pr) (hq:q≤p+1000):RetMP w R p (.returned v) V:=
 ⟨pr,v,q,rfl,h.row.prgQ,hf,h.mv,h.rd,hq⟩
theorem MuS.set {w V X V1:World} {R q q1 g n c i:Nat} {pr:Prg} {cs:List Value} {Fs:Nat→List Nat} {t':List Ins} {A':Option Addr} {c':Nat} (h:MuS w V R q (.slice (some ⟨g,0,none⟩) n c) pr cs Fs) (hi:i<pr.length) (m:Mv R V X) (r:Rd X R q1) (hg:X.grownBy V1 (cs.getD i undef).ownBlock)
  (ht:RowT V1 0 (.slice A' t'.length c') t') (hat:∀ g,(Value.slice A' t'.length c').ownBlock=some g→(cs.getD i undef).ownBlock=some g∨V.heap.size≤g):
  MuS w (V1.setCell ⟨g,i,none⟩ (.slice A' t'.length c')) R q1 (.slice (some ⟨g,0,none⟩) n c) (pr.set i t') (cs.set i (.slice A' t'.length c')) (fun j=>if j=i then (Value.slice A' t'.length c').ownBlock.toList else Fs j):=by
 obtain⟨g',c0,e0,hgb,hgl,hc,hf,hth,hnd,hge,_⟩:=h.row.elem1 thr_loc hi
 injection e0 with e1 e2 e3
 injection e1 with e1
 injection e1 with e1
 subst e1
 have hR:=h.hR
 have hFi:Fs i=(cs.getD i undef).ownBlock.toList:=hth.2
 have hvs:=h.mv.size
 have hms:=m.size
 have hgs:=World.grownBy.size hg
 have blk:∀ b,b<V.heap.size→b≠R→b∉Fs i→V1.heap[b]?=V.heap[b]?:=fun b hb hbR hn=>
  (World.grownBy.block hg b (by omega) (fun e=>hn (by rw [hFi]; exact mem_own.2 e.symm))).trans (m.block hb hbR)
 refine⟨h.row.set thr_loc hi (by omega) (fun b hb hl hn=>blk b hl (by omega) hn) ⟨ht,rfl⟩ (own_nodup _) (fun b hb=>?_),?_,?_,hR⟩
 ·rcases hat b (mem_own.1 hb) with h1 | h1
  ·have h2:b∈Fs i:=by rw [hFi]; exact mem_own.2 h1
   exact⟨(hge b h2).1,.inl h2⟩
  ·exact⟨by omega,.inr h1⟩
 ·exact (mv_grownV (h.mv.trans m) hg (fun b hb=>(hge b (by rw [hFi]; exact mem_own.2 hb)).1)).setNew (by show w.heap.size≤g; exact hgb) _
 ·exact (rd_grown r hg (fun b hb=>by have:=(hge b (by rw [hFi]; exact mem_own.2 hb)).1; omega)).setNew (by show R<g; omega) _
theorem MuS.app {w V X V1:World} {R q q1 g n c i gg cap H:Nat} {pr:Prg} {cs:List Value} {Fs:Nat→List Nat} {t:List Ins} {At:Option Addr} {ct:Nat} {cells news:List Value} (x:Ins) (h:MuS w V R q (.slice (some ⟨g,0,none⟩) n c) pr cs Fs) (hi:i<pr.length) (hvi:cs.getD i undef=.slice At t.length ct)
  (hown:V.ownsRow 0 50 4 (.slice At t.length ct) t.length cells) (hq:∀ i (h:i<t.length),QIn (fun j=>cells.getD (i*4+j) undef) t[i]) (m:Mv R V X) (r:Rd X R q1) (hg:X.grownBy V1 (Value.slice At t.length ct).ownBlock) (hn:news.length=4) (hx:QIn (fun j=>news.getD j undef) x)
  (hown1:V1.ownsRow 0 50 4 (.slice (some ⟨gg,0,none⟩) (t.length+1) cap) (t.length+1) (cells++news)) (hat:(Value.slice At t.length ct).ownBlock=some gg∨gg=H) (hH:V.heap.size≤H):
  ∃ cs' Fs',MuS w (V1.setCell ⟨g,i,none⟩ (.slice (some ⟨gg,0,none⟩) (t.length+1) cap)) R q1 (.slice (some ⟨g,0,none⟩) n c) (pr.set i (t++[x])) cs' Fs':=by
 have ht:RowT V1 0 (.slice (some ⟨gg,0,none⟩) (t++[x]).length cap) (t++[x]):=by
  rw [List.length_append,List.length_singleton]
  exact RowOf.snoc qin_congr hown hq hn hx hown1
 have h2:=h.set hi m r (by rw [hvi]; exact hg) ht (fun b hb=>by
  simp only [Value.ownBlock,Option.some.injEq] at hb
  subst hb
  rw [hvi]
  rcases hat with e | e
  ·exact .inl e
  ·exact .inr (by omega))
 rw [List.length_append,List.length_singleton] at h2
 exact⟨_,_,h2⟩
theorem MuS.push {w V V1:World} {R q gg cap:Nat} {v:Value} {pr:Prg} {cs:List Value} {Fs:Nat→List Nat} (h:MuS w V R q v pr cs Fs) (hg:((V.alloc (.cells #[] 50)).alloc (.cells #[.slice (some ⟨V.heap.size,0,none⟩) 0 0] 48)).grownBy V1 v.ownBlock)
  (hown1:V1.ownsRow w.heap.size 48 1 (.slice (some ⟨gg,0,none⟩) (pr.length+1) cap) (pr.length+1) (cs++[.slice (some ⟨V.heap.size,0,none⟩) 0 0])) (hat:v.ownBlock=some gg∨gg=V.heap.size+2):
  ∃ Fs',MuS w V1 R q (.slice (some ⟨gg,0,none⟩) (pr.length+1) cap) (pr++[[]]) (cs++[.slice (some ⟨V.heap.size,0,none⟩) 0 0]) Fs':=by
 have hR:=h.hR
 have hs:=h.mv.size
 have hth:RowT ((V.alloc (.cells #[] 50)).alloc (.cells #[.slice (some ⟨V.heap.size,0,none⟩) 0 0] 48)) V.heap.size (.slice (some ⟨V.heap.size,0,none⟩) 0 0) []:=RowOf.made _ ((Own.new _ _ _).alloc _) (Nat.le_refl _)
 refine⟨_,h.row.push thr_loc (by simp; omega) (fun b hb hl=>(Go.Deep.blk_alloc_lt _ _ _ (by simp; omega)).trans (Go.Deep.blk_alloc_lt _ _ _ hl)) hg rfl hth.thr (fun b hb=>(hth.blk (mem_own.1 hb)).1) (own_nodup _) hs hown1 hat (by simp),?_,?_,hR⟩
 ·exact mv_grownV ((h.mv.alloc _).alloc _) hg (fun b hb=>owns_base' h.row.own hb)
 ·exact rd_grown ((h.rd.alloc _).alloc _) hg (fun b hb=>by have:=owns_base' h.row.own hb; omega)
theorem MuS.drop {w V:World} {R p q g n c:Nat} {pr:Prg} {cs:List Value} {Fs:Nat→List Nat} (h:MuS w V R q (.slice (some ⟨g,0,none⟩) n c) pr cs Fs) (hf:Few 2000 2000 pr) (hl:0<pr.length) (hq:q≤p+1000) (c':Nat):RetMP w R p (.returned (.slice (some ⟨g,1,none⟩) (pr.length-1) c')) V:=by
 cases pr with
 | nil=>simp at hl
 | cons t pr=>
  refine⟨pr,_,q,?_,PrgQ.tail h.row.prgQ c',⟨by have:=hf.1; simp at this; omega,fun x hx=>hf.2 x (List.mem_cons_of_mem _ hx)⟩,h.mv,h.rd,hq⟩
  simp
theorem Few.set {n m:Nat} {p:Prg} {t:List Ins} (h:Few n m p) (i:Nat) (ht:t.length≤m):Few n m (p.set i t):=
 ⟨by rw [List.length_set]; exact h.1,fun s hs=>by
  rcases List.mem_or_eq_of_mem_set hs with hs | rfl
  ·exact h.2 s hs
  ·exact ht⟩
theorem num4_any (X:World) (R q b:Nat) (a0 a1 a2 a3:Int) (hq:q≤1000000000) (hr:Rd X R q) (ho:Own X b 3 #[.int .i64 a0,.int .i64 a1,.int .i64 a2,.int .i64 a3]) (hb:R<b):
  Calls Tryz.prog 54 #[.pointer (some ⟨R,0,none⟩),.slice (some ⟨b,0,none⟩) 4 4] X (RetNum X R q [a0,a1,a2,a3]):=
 num_any X R q _ 4 [a0,a1,a2,a3] (by omega) hr (ints_lit [a0,a1,a2,a3] ho hb rfl (by omega) (fun i hi=>by
  match i,hi with
  | 0,_=>rfl
  | 1,_=>rfl
  | 2,_=>rfl
  | 3,_=>rfl)) (by simp)
theorem num3_any (X:World) (R q b:Nat) (a0 a1 a2:Int) (hq:q≤1000000000) (hr:Rd X R q) (ho:Own X b 3 #[.int .i64 a0,.int .i64 a1,.int .i64 a2]) (hb:R<b):
  Calls Tryz.prog 54 #[.pointer (some ⟨R,0,none⟩),.slice (some ⟨b,0,none⟩) 3 3] X (RetNum X R q [a0,a1,a2]):=
 num_any X R q _ 3 [a0,a1,a2] (by omega) hr (ints_lit [a0,a1,a2] ho hb rfl (by omega) (fun i hi=>by
  match i,hi with
  | 0,_=>rfl
  | 1,_=>rfl
  | 2,_=>rfl)) (by simp)
theorem own_new2 (w:World) (o:Obj) (t:TypeId) (cs:Array Value):Own ((w.alloc o).alloc (.cells cs t)) (w.heap.size+1) t cs:=by simpa using Own.new (w.alloc o) t cs
set_option maxHeartbeats 8000000 in
theorem mutP_any (w:World) (R p:Nat) (v:Value) (pr:Prg) (hp:p≤900000000) (hr:Rd w R p) (hv:PrgS w v pr) (hf:Few 1000 1000 pr):Calls Tryz.prog 55 #[.pointer (some ⟨R,0,none⟩),v] w (RetMP w R p):=by
 obtain⟨i0,hi0,hz0,hz1,hz2⟩:=info_parts Tryz.infoIns
 obtain⟨i1,hi1,hy0,hy1,hy2⟩:=info_parts Tryz.infoInsS
 obtain⟨A,c,rfl,_⟩:=hv.slice
 have hcp:=copyP_any pr hf w _ hv
 have hR:=hr.lt
 have hpl:=hf.1
 go_enter Tryz.func55,Tryz.ntmps55
 go_wp2_with fail
 refine hcp.mono ?_
 rintro e1 w1 ⟨v1,cs,Fs,rfl,hrow,hb1⟩
 have ms:MuS w w1 R p v1 pr cs Fs:=⟨hrow,Mv.of_below hb1,hr.below hb1,hR⟩
 have Ms:=Lib.hid ms
 clear hrow hb1 hcp hr ms hv
 by_cases hl0:pr.length=0
 ·obtain⟨A1,c1,rfl,_⟩:=Ms.out.row.prgS.slice
  rw [hl0]
  go_wp2_with fail
  go_ret
  rw [← hl0]
  exact Ms.out.fin (hf.mono (by omega) (by omega)) (by omega)
 obtain⟨A1,c1,rfl,_⟩:=Ms.out.row.prgS.slice
 have hpk:=pick_any w1 R p pr.length (by omega) Ms.out.rd
 have hne:((pr.length:Int) == 0)=false:=by rw [beq_eq_false_iff_ne]; omega
 go_wp2_with fail
 refine hpk.mono ?_
 rintro e2 w2 ⟨i,rfl,hi0',hi1',m2,r2⟩
 obtain⟨i,rfl⟩:∃ k:Nat,i=k:=⟨i.toNat,by omega⟩
 have hi:i<pr.length:=by have:=hi1' (by omega); omega
 have Ms2:=Lib.hid (Ms.out.mv' m2 r2)
 have hpk:=pick_any w2 R (p+1) 40 (by omega) r2
 clear hi0' hi1' m2 r2 Ms
 go_wp2_with fail
 refine hpk.mono ?_
 rintro e3 w3 ⟨k,rfl,hk0,hk1,m3,r3⟩
 have Ms3:=Lib.hid (Ms2.out.mv' m3 r3)
 have hk40:k<40:=hk1 (by omega)
 clear hpk m3 r3 Ms2 hk1
 obtain⟨g,c1',e0,hgb,hgl,hc,hfr,hth,hnd,hge,hgc,hgc'⟩:=Ms3.out.row.elem1 thr_loc hi
 injection e0 with e0 e2 e3
 subst e0 e3
 clear e2
 have hti:=hth.1
 simp only at hti
 obtain⟨At,ct,hvi,htc,htc'⟩:=hti.slice
 have htl:=hf.2 _ (List.getElem_mem hi)
 have Hvi:=Lib.hid hvi
 have Htg:Hid ((Value.slice At pr[i].length ct).ownBlock≠some g):=fun e=>(hge g (by rw [hth.2]; exact mem_own.2 (by rw [hvi]; exact e))).2 rfl
 have HtR:Hid (∀ b,(Value.slice At pr[i].length ct).ownBlock=some b→w.heap.size≤b):=fun b e=>(hge b (by rw [hth.2]; exact mem_own.2 (by rw [hvi]; exact e))).1
 rw [hvi] at hc
 have Hti:=Lib.hid hti
 have hii:(i:Int)<(pr.length:Int):=by omega
 generalize pr[i]=t at hc htc htl Hvi Hti Htg HtR
 clear hvi hti hth hnd hge
 have hms3:=Ms3.out.mv.size
 obtain⟨cells,hown,hqt⟩:=Hti.out
 rw [Hvi.out] at hown
 have Hown:=Lib.hid hown
 have Hqt:=Lib.hid hqt
 have HM:Hid (∀ X,Mv R w3 X→X.cell? ⟨g,i,none⟩=some (.slice At t.length ct)∧X.frozen? ⟨g,i,none⟩=false∧w3.heap.size≤X.heap.size):=fun X m=>⟨m.cell hc (by show g≠R; omega),(World.frozen?_of_block (w:=w3) (m.block (i:=g) hgl (by omega))).trans hfr,m.size⟩
 clear hown hqt
 by_cases h0:k=0
 ·subst h0
  go_wp2_with fail
  go_region_law (first
   | (go_simp; go_at_call 54; ((with_reducible refine (num4_any _ R (p+1+1) _ 0 6 1 4 (by omega) ?_ ?_ ?_).mono ?_); (first | exact Ms3.out.rd.drew.alloc _ | exact (Ms3.out.rd.drew.alloc _).alloc _); (first | exact Own.new _ _ _ | exact (Own.new _ _ _).alloc _ | exact own_new2 _ _ _ _); omega; rintro e5 w5 ⟨x5,rfl,_,m5,r5⟩; have M5:Mv R w3 w5:=(by first | exact ((Mv.refl R w3).drew.alloc _).trans m5 | exact (((Mv.refl R w3).drew.alloc _).alloc _).trans m5); obtain⟨hc5,hf5,hs5⟩:=HM.out _ M5; have hl5:g<w5.heap.size:=Nat.lt_of_lt_of_le hgl hs5); go_wp2_with fail)
   | (go_simp; go_at_call 54; ((with_reducible refine (num3_any _ R (p+1+1+1) _ 0 3 (-1) (by omega) ?_ ?_ ?_).mono ?_); (first | exact r5 | exact r5.alloc _); (first | exact Own.new _ _ _ | exact Own.mv ((Own.new w3.drew _ _).alloc _) m5 (by simp; omega) | exact Own.mv (own_new2 w3.drew _ _ _) m5 (by simp; omega)); (first | omega | (simp; omega)); rintro e6 w6 ⟨x6,rfl,_,m6,r6⟩; have M6:Mv R w3 w6:=(by first | exact M5.trans m6 | exact (M5.alloc _).trans m6); obtain⟨hc6,hf6,hs6⟩:=HM.out _ M6; have hl6:g<w6.heap.size:=Nat.lt_of_lt_of_le hgl hs6); go_wp2_with fail)
   | (refine step_append_lies _ (by rfl) _ _ _ (by rfl) 0 50 i0 _ 4 32 Tryz.underlying48 hi0 hz0 hz1 hz2 rfl (by omega) (.slice At t.length ct) t.length cells (by rfl) (owns_of_block Hown.out (fun g hv hb hlt=>(Go.Deep.blk_alloc_lt _ _ _ (by omega)).trans (M6.block hlt (by have:=HtR.out g hv; omega)))) ⟨w6.heap.size,0,none⟩ 1 1 [.int .i64 x5,.int .i64 x6,.int .i64 0,.int .i64 0] (by rfl) (by rfl) (World.news_of_block (cs:=#[.int .i64 x5,.int .i64 x6,.int .i64 0,.int .i64 0]) (t:=50) (fr:=(0,0)) (heap_alloc_new w6 _)) (by simp [Value.oneCell']) (by omega) (by simp [maxLen]; omega) (by omega) (by simp) (w6.heap.size+1) (by simp) ?_; intro gg cap w7 hown7 hgrow hat7 hlt7; have q2:w7.cell? ⟨g,i,none⟩=some (.slice At t.length ct):=(by rw [hgrow.cell_far _ (by simp; omega) (fun e=>Htg.out e.symm)]; exact (HM.out _ (M6.alloc _)).1); have qf:w7.frozen? ⟨g,i,none⟩=false:=(by rw [hgrow.frozen_far _ (by simp; omega) (fun e=>Htg.out e.symm)]; exact (HM.out _ (M6.alloc _)).2.1)))
  all_goals
   obtain⟨cs',Fs',hms⟩:=MuS.app (V:=w3) ⟨x5,x6,0,0⟩ Ms3.out hi Hvi.out Hown.out Hqt.out (M6.alloc _) (r6.alloc _) hgrow rfl ⟨rfl,rfl,rfl,rfl⟩ hown7 hat7 (by omega)
   have HMS:=Lib.hid hms
   clear hms hgrow hown7 q2 qf
   go_wp2_with fail
   go_ret
   exact HMS.out.fin ((hf.mono (by omega) (by omega)).set i (by simp; omega)) (by omega)
 have b0:(k == 0)=false:=by rw [beq_eq_false_iff_ne]; exact h0
 by_cases h1:k=1
 ·subst h1
  go_wp2_with fail
  go_region_law (first
   | (go_simp; go_at_call 54; ((with_reducible refine (num3_any _ R (p+1+1) _ 4 (-1) 3 (by omega) ?_ ?_ ?_).mono ?_); exact Ms3.out.rd.drew.alloc _; exact Own.new _ _ _; (first | omega | (simp; omega)); rintro e6 w6 ⟨x6,rfl,_,m6,r6⟩; have M6:Mv R w3 w6:=((Mv.refl R w3).drew.alloc _).trans m6; obtain⟨hc6,hf6,hs6⟩:=HM.out _ M6; have hl6:g<w6.heap.size:=Nat.lt_of_lt_of_le hgl hs6); go_wp2_with fail)
   | (refine step_append_lies _ (by rfl) _ _ _ (by rfl) 0 50 i0 _ 4 32 Tryz.underlying48 hi0 hz0 hz1 hz2 rfl (by omega) (.slice At t.length ct) t.length cells (by rfl) (owns_of_block Hown.out (fun g hv hb hlt=>(Go.Deep.blk_alloc_lt _ _ _ (by omega)).trans (M6.block hlt (by have:=HtR.out g hv; omega)))) ⟨w6.heap.size,0,none⟩ 1 1 [.int .i64 2,.int .i64 0,.int .i64 0,.int .i64 x6] (by rfl) (by rfl) (World.news_of_block (cs:=#[.int .i64 2,.int .i64 0,.int .i64 0,.int .i64 x6]) (t:=50) (fr:=(0,0)) (heap_alloc_new w6 _)) (by simp [Value.oneCell']) (by omega) (by simp [maxLen]; omega) (by omega) (by simp) (w6.heap.size+1) (by simp) ?_; intro gg cap w7 hown7 hgrow hat7 hlt7; have q2:w7.cell? ⟨g,i,none⟩=some (.slice At t.length ct):=(by rw [hgrow.cell_far _ (by simp; omega) (fun e=>Htg.out e.symm)]; exact (HM.out _ (M6.alloc _)).1); have qf:w7.frozen? ⟨g,i,none⟩=false:=(by rw [hgrow.frozen_far _ (by simp; omega) (fun e=>Htg.out e.symm)]; exact (HM.out _ (M6.alloc _)).2.1)))
  all_goals
   obtain⟨cs',Fs',hms⟩:=MuS.app (V:=w3) ⟨2,0,0,x6⟩ Ms3.out hi Hvi.out Hown.out Hqt.out (M6.alloc _) (r6.alloc _) hgrow rfl ⟨rfl,rfl,rfl,rfl⟩ hown7 hat7 (by omega)
   have HMS:=Lib.hid hms
   clear hms hgrow hown7 q2 qf
   go_wp2_with fail
   go_ret
   exact HMS.out.fin ((hf.mono (by omega) (by omega)).set i (by simp; omega)) (by omega)
 have b1:(k == 1)=false:=by rw [beq_eq_false_iff_ne]; exact h1
 by_cases h2:k=2
 ·subst h2
  have hF:Few (pr.length+5) 1000 pr:=⟨by omega,hf.2⟩
  have HF:=Lib.hid hF
  clear hF
  go_wp2_with fail
  go_loopg [5] (4-pr.length) (fun g5 s5 wr=>∃ (v':Value) (pr':Prg) (cs':List Value) (Fs':Nat→List Nat),v'=s5∧g5=4-pr'.length∧Hid (MuS w wr R (p+1+1) v' pr' cs' Fs')∧Hid (Few 1500 1500 pr')∧pr'.length≤1200)
  case atStart=>exact⟨_,pr,cs,Fs,rfl,rfl,Ms3.out,hf.mono (by omega) (by omega),by omega⟩
  case round=>
   obtain⟨v',pr',cs',Fs',rfl,rfl,HR,hf',hl'⟩:=hrel
   obtain⟨A5,c5,rfl,_⟩:=HR.out.row.prgS.slice
   have hsw:=HR.out.mv.size
   by_cases h3:pr'.length≤3
   ·have b3:decide ((pr'.length:Int)≤3)=true:=by rw [decide_eq_true_iff]; omega
    generalize hv5:Value.slice A5 pr'.length c5=v' at HR
    obtain rfl:=hv5
    obtain⟨v',hv5⟩:∃ v',v'=Value.slice A5 pr'.length c5:=⟨_,rfl⟩
    go_wp2_with (at_builtin; refine wpList_append_lies _ (by rfl) _ _ _ (by rfl) w.heap.size 48 i1 _ 1 24 Tryz.underlying23 hi1 hy0 hy1 hy2 rfl (by omega) (.slice A5 pr'.length c5) pr'.length cs' (by rfl) (owns_alloc (owns_alloc HR.out.row.own _) _) ⟨wr.heap.size+1,0,none⟩ 1 1 [.slice (some ⟨wr.heap.size,0,none⟩) 0 0] (by rfl) (by rfl) (World.news_of_block (cs:=#[.slice (some ⟨wr.heap.size,0,none⟩) 0 0]) (t:=48) (fr:=(0,0)) (own_new2 _ _ _ _)) (by simp [Value.oneCell']) (by omega) (by simp [maxLen]; omega) (by omega) (by simp; omega) (wr.heap.size+2) (by simp) ?_; intro gg cap w7 hown7 hgrow hat7 hlt7)
    obtain⟨Fs9,h9⟩:=HR.out.push hgrow hown7 hat7
    go_roundg (4-(pr'++[[]]).length)
    case measure=>simp; omega
    case rel=>exact⟨_,pr'++[[]],_,Fs9,rfl,rfl,h9,⟨by have:=hf'.out.1; simp; omega,fun x hx=>by
     rcases List.mem_append.1 hx with hx | hx
     ·exact hf'.out.2 x hx
     ·rw [List.mem_singleton.1 hx]; simp⟩,by simp; omega⟩
   ·have b3:decide ((pr'.length:Int)≤3)=false:=by rw [decide_eq_false_iff_not]; omega
    go_wp2_with fail
    go_ret
    exact HR.out.fin (hf'.out.mono (by omega) (by omega)) (by omega)
 have b2:(k == 2)=false:=by rw [beq_eq_false_iff_ne]; exact h2
 by_cases h3:k=3
 ·subst h3
  have HF:=Lib.hid hf
  have hset:pr.set i pr[i]=pr:=List.set_getElem_self hi
  have Hst:Hid (∃ t,t.length≤1000∧pr.set i t=pr):=⟨_,hf.2 _ (List.getElem_mem hi),hset⟩
  obtain⟨t0,ht0,hs0⟩:=Hst.out
  clear hset Hst hf
  go_wp2_with fail
  go_loopg [66] (8-t0.length) (fun g5 s66 wr=>∃ (t':List Ins) (cs':List Value) (Fs':Nat→List Nat),g5=8-t'.length∧Hid (MuS w wr R (p+1+1) (.slice (some ⟨g,0,none⟩) pr.length c1) (pr.set i t') cs' Fs')∧t'.length≤1500)
  case atStart=>exact⟨t0,cs,Fs,rfl,by rw [hs0]; exact Ms3.out,by omega⟩
  case round=>
   obtain⟨t',cs',Fs',rfl,HR,hl'⟩:=hrel
   have hi5:i<(pr.set i t').length:=by simpa using hi
   obtain⟨g5,c5',e5,hgb5,hgl5,hc5,hfr5,hth5,hnd5,hge5,_,_⟩:=HR.out.row.elem1 thr_loc hi5
   injection e5 with e5 e6 e7
   injection e5 with e5
   injection e5 with e5
   subst e5
   clear e6 e7
   have hti5:=hth5.1
   simp only at hti5
   rw [List.getElem_set_self] at hti5
   obtain⟨A5,c5,hvi5,htc5,_⟩:=hti5.slice
   have Hvi5:=Lib.hid hvi5
   have Htg5:Hid ((Value.slice A5 t'.length c5).ownBlock≠some g):=fun e=>(hge5 g (by rw [hth5.2]; exact mem_own.2 (by rw [hvi5]; exact e))).2 rfl
   obtain⟨cells5,hown5,hqt5⟩:=hti5
   rw [hvi5] at hown5 hc5
   have Hown5:=Lib.hid hown5
   have Hqt5:=Lib.hid hqt5
   have hsw:=HR.out.mv.size
   clear hown5 hqt5 hvi5 hth5 hnd5 hge5
   by_cases h7:t'.length≤7
   ·have b7:decide ((t'.length:Int)≤7)=true:=by rw [decide_eq_true_iff]; omega
    go_wp2_with (at_builtin; refine wpList_append_lies _ (by rfl) _ _ _ (by rfl) 0 50 i0 _ 4 32 Tryz.underlying48 hi0 hz0 hz1 hz2 rfl (by omega) (.slice A5 t'.length c5) t'.length cells5 (by rfl) (owns_alloc Hown5.out _) ⟨wr.heap.size,0,none⟩ 1 1 [.int .i64 1,.int .i64 0,.int .i64 0,.int .i64 0] (by rfl) (by rfl) (World.news_of_block (cs:=#[.int .i64 1,.int .i64 0,.int .i64 0,.int .i64 0]) (t:=50) (fr:=(0,0)) (heap_alloc_new wr _)) (by simp [Value.oneCell']) (by omega) (by simp [maxLen]; omega) (by omega) (by simp) (wr.heap.size+1) (by simp) ?_; intro gg cap w7 hown7 hgrow hat7 hlt7; have q2:w7.cell? ⟨g,i,none⟩=some (.slice A5 t'.length c5):=(by rw [hgrow.cell_far _ (by simp; omega) (fun e=>Htg5.out e.symm),World.cell?_alloc_lt _ _ _ hgl5]; exact hc5); have qf:w7.frozen? ⟨g,i,none⟩=false:=(by rw [hgrow.frozen_far _ (by simp; omega) (fun e=>Htg5.out e.symm)]; exact (World.frozen?_of_block (w:=wr) (Go.Deep.blk_alloc_lt _ _ _ hgl5)).trans hfr5))
    obtain⟨cs9,Fs9,h9⟩:=MuS.app (V:=wr) ⟨1,0,0,0⟩ HR.out hi5 Hvi5.out Hown5.out Hqt5.out ((Mv.refl R wr).alloc _) (HR.out.rd.alloc _) hgrow rfl ⟨rfl,rfl,rfl,rfl⟩ hown7 hat7 (by omega)
    rw [List.set_set] at h9
    go_roundg (8-(t'++[(⟨1,0,0,0⟩:Ins)]).length)
    case measure=>simp; omega
    case rel=>exact⟨t'++[(⟨1,0,0,0⟩:Ins)],cs9,Fs9,rfl,h9,by simp; omega⟩
   ·have b7:decide ((t'.length:Int)≤7)=false:=by rw [decide_eq_false_iff_not]; omega
    go_wp2_with fail
    go_ret
    exact HR.out.fin ((HF.out.mono (by omega) (by omega)).set i (by omega)) (by omega)
 have b3:(k == 3)=false:=by rw [beq_eq_false_iff_ne]; exact h3
 by_cases h4:k=4
 ·subst h4
  have hin:1≤pr.length:=by omega
  by_cases hc1:c1=1
  ·subst hc1
   have hl1:pr.length-1=0:=by omega
   go_wp2_with fail
   go_ret
   exact⟨[],_,_,rfl,PrgQ.nil _ _ _,Few.nil _ _,Ms3.out.mv,Ms3.out.rd,by omega⟩
  ·go_wp2_with fail
   go_ret
   exact Ms3.out.drop (p:=p) (hf.mono (by omega) (by omega)) (by omega) (by omega) _
 have b4:(k == 4)=false:=by rw [beq_eq_false_iff_ne]; exact h4
 go_wp2_with fail
 go_ret
 exact Ms3.out.fin (hf.mono (by omega) (by omega)) (by omega)
end Go.Proofs.YtojmofnamppbdaaGreat
namespace Go.Proofs.YtojmofnamppbdaaGreat
open Go.RowKit
set_option linter.unusedVariables false
set_option maxRecDepth 100000
def RetDrP (w:World) (e:Ending) (w':World):Prop:=∃ (pr:Prg) (v:Value),e=.returned v∧PrgS (above w.heap.size w') v pr∧Few 2000 2000 pr∧Below w.heap.size w w'
theorem Mv.belowR {w W V:World} {R:Nat} (hb:Below w.heap.size w W) (hR:w.heap.size≤R) (m:Mv R W V):Below w.heap.size w V:=hb.trans (m.below hR hb.size)
theorem three {w:World} (V:World) (hV:V=(((w.alloc (.cells #[] 50)).alloc (.cells #[] 50)).alloc (.cells #[] 50)).alloc (.cells #[.slice (some ⟨w.heap.size,0,none⟩) 0 0,.slice (some ⟨w.heap.size+1,0,none⟩) 0 0,.slice (some ⟨w.heap.size+2,0,none⟩) 0 0] 48)):
  PrgW V w.heap.size (.slice (some ⟨w.heap.size+3,0,none⟩) 3 3) [[],[],[]] [.slice (some ⟨w.heap.size,0,none⟩) 0 0,.slice (some ⟨w.heap.size+1,0,none⟩) 0 0,.slice (some ⟨w.heap.size+2,0,none⟩) 0 0] (fun i=>[w.heap.size+i]):=by
 have o0:Own V w.heap.size 50 #[]:=by rw [hV]; exact (((Own.new _ _ _).alloc _).alloc _).alloc _
 have o1:Own V (w.heap.size+1) 50 #[]:=by rw [hV]; exact ((own_new2 _ _ _ _).alloc _).alloc _
 have o2:Own V (w.heap.size+2) 50 #[]:=by
  rw [hV]
  have h:=Own.new ((w.alloc (.cells #[] 50)).alloc (.cells #[] 50)) 50 #[]
  rw [World.size_alloc,World.size_alloc] at h
  exact h.alloc _
 have o3:Own V (w.heap.size+3) 48 #[.slice (some ⟨w.heap.size,0,none⟩) 0 0,.slice (some ⟨w.heap.size+1,0,none⟩) 0 0,.slice (some ⟨w.heap.size+2,0,none⟩) 0 0]:=by
  rw [hV]
  have h:=Own.new (((w.alloc (.cells #[] 50)).alloc (.cells #[] 50)).alloc (.cells #[] 50)) 48 #[.slice (some ⟨w.heap.size,0,none⟩) 0 0,.slice (some ⟨w.heap.size+1,0,none⟩) 0 0,.slice (some ⟨w.heap.size+2,0,none⟩) 0 0]
  rw [World.size_alloc,World.size_alloc,World.size_alloc] at h
  exact h
 have th:∀ b,Own V b 50 #[]→thr V (fun _=>.slice (some ⟨b,0,none⟩) 0 0) [] [b]:=fun b h=>⟨RowOf.made _ h (Nat.zero_le _),rfl⟩
 refine⟨⟨rfl,.inr ⟨_,3,_,rfl,by omega,o3,by simp,by simp [maxLen],by simp,by simp⟩⟩,fun i hi=>?_,?_,fun i hi b hb=>?_⟩
 ·match i,hi with
  | 0,_=>exact thr_loc.congr (fun j hj=>by (obtain rfl : j = 0 := by omega); rfl) (th _ o0)
  | 1,_=>exact thr_loc.congr (fun j hj=>by (obtain rfl : j = 0 := by omega); rfl) (th _ o1)
  | 2,_=>exact thr_loc.congr (fun j hj=>by (obtain rfl : j = 0 := by omega); rfl) (th _ o2)
 ·refine nodup_ft.2 ⟨fun i _=>by simp,fun i j _ _ hne x hx hx'=>?_⟩
  simp at hx hx'
  omega
 ·simp at hb hi
  subst hb
  exact⟨by omega,fun e=>by simp only [Value.ownBlock,Option.some.injEq] at e; omega⟩
set_option maxHeartbeats 4000000 in
theorem drawPV_any (w:World) (A:Option Addr) (n c:Nat) (h:Bys w A n) (hnc:n≤c) (hA:A=none→n=0):Calls Tryz.prog 41 #[.slice A n c] w (RetDrP w):=by
 obtain⟨i0,hi0,hz0,hz1,hz2⟩:=info_parts Tryz.infoIns
 go_enter Tryz.func41,Tryz.ntmps41
 go_wp2_with fail
 refine (open_any w A n c h hnc hA).mono ?_
 rintro e1 w1 ⟨R,rfl,hR,hr1,hb1⟩
 have hpk:=pick_any _ R 0 20 (by omega) hr1
 go_wp2_with fail
 refine hpk.mono ?_
 rintro e2 w2 ⟨k,rfl,_,_,m2,r2⟩
 have hB2:=Mv.belowR hb1 hR m2
 have hR2:=r2.lt
 have hs2:=hB2.size
 clear hpk hb1 hr1 m2
 by_cases hk:k=0
 ·subst hk
  obtain⟨V,hV⟩:∃ V,V=(((w2.alloc (.cells #[] 50)).alloc (.cells #[] 50)).alloc (.cells #[] 50)).alloc (.cells #[.slice (some ⟨w2.heap.size,0,none⟩) 0 0,.slice (some ⟨w2.heap.size+1,0,none⟩) 0 0,.slice (some ⟨w2.heap.size+2,0,none⟩) 0 0] 48):=⟨_,rfl⟩
  have h3:=three V hV
  have hms:MuS w2 V R (0+1) (.slice (some ⟨w2.heap.size+3,0,none⟩) 3 3) [[],[],[]] [.slice (some ⟨w2.heap.size,0,none⟩) 0 0,.slice (some ⟨w2.heap.size+1,0,none⟩) 0 0,.slice (some ⟨w2.heap.size+2,0,none⟩) 0 0] (fun i=>[w2.heap.size+i]):=
   ⟨h3,by rw [hV]; exact ((((Mv.refl _ _).alloc _).alloc _).alloc _).alloc _,by rw [hV]; exact (((r2.alloc _).alloc _).alloc _).alloc _,hR2⟩
  have Hms:=Lib.hid hms
  clear h3 hms
  go_wp2_with fail
  rw [← hV]
  clear hV
  go_loopg [5] 9 (fun g5 s5 wr=>∃ (k:Nat) (pr:Prg) (cs:List Value) (Fs:Nat→List Nat),k≤9∧g5=9-k∧s5=.int .i64 k∧Hid (MuS w2 wr R (0+1) (.slice (some ⟨w2.heap.size+3,0,none⟩) 3 3) pr cs Fs)∧Hid (pr.length=3∧∀ t∈pr,t.length≤k))
  case atStart=>exact⟨0,[[],[],[]],_,_,by omega,rfl,rfl,Hms.out,rfl,by simp⟩
  case round=>
   obtain⟨k,pr,cs,Fs,hk9,rfl,rfl,HR,HL⟩:=hrel
   by_cases hk:k<9
   ·have bk:decide ((k:Int)<9)=true:=by rw [decide_eq_true_iff]; omega
    have hi5:k % 3<pr.length:=by rw [HL.out.1]; omega
    obtain⟨g,c5',e5,hgb5,hgl5,hc5,hfr5,hth5,hnd5,hge5,_,_⟩:=HR.out.row.elem1 thr_loc hi5
    have htl:=HL.out.2 _ (List.getElem_mem hi5)
    injection e5 with e5 e6 e7
    injection e5 with e5
    injection e5 with e5
    have Heg:=Lib.hid e5
    clear e5 e6 e7
    have hti5:=hth5.1
    simp only at hti5
    obtain⟨A5,c5,hvi5,htc5,_⟩:=hti5.slice
    have Htg5:Hid ((Value.slice A5 pr[k % 3].length c5).ownBlock≠some g):=fun e=>(hge5 g (by rw [hth5.2]; exact mem_own.2 (by rw [hvi5]; exact e))).2 rfl
    obtain⟨cells5,hown5,hqt5⟩:=hti5
    rw [hvi5] at hown5 hc5
    have Hvi5:=Lib.hid hvi5
    have Hown5:=Lib.hid hown5
    have Hqt5:=Lib.hid hqt5
    have HL':Hid (∀ t,t.length≤k+1→(pr.set (k % 3) t).length=3∧∀ x∈pr.set (k % 3) t,x.length≤k+1):=fun t ht=>⟨by rw [List.length_set]; exact HL.out.1,fun x hx=>by
     rcases List.mem_or_eq_of_mem_set hx with hx | rfl
     ·have:=HL.out.2 x hx; omega
     ·exact ht⟩
    generalize pr[k % 3]=t' at htl Htg5 Hvi5 Hown5 Hqt5 htc5 hc5
    have hg3:g=w2.heap.size+3:=Heg.out.symm
    have i1:((k:Int) % 3)<3:=Int.emod_lt_of_pos _ (by omega)
    have i2:(0:Int)≤(k:Int) % 3:=Int.emod_nonneg _ (by omega)
    have i3:((k:Int) % 3).toNat=k % 3:=by omega
    subst hg3
    clear hown5 hqt5 hvi5 hth5 hnd5 hge5 Heg
    go_wp2_with (at_builtin; refine wpList_append_lies _ (by rfl) _ _ _ (by rfl) 0 50 i0 _ 4 32 Tryz.underlying48 hi0 hz0 hz1 hz2 rfl (by omega) (.slice A5 t'.length c5) t'.length cells5 (by rfl) (owns_alloc Hown5.out _) ⟨wr.heap.size,0,none⟩ 1 1 [.int .i64 5,.int .i64 0,.int .i64 0,.int .i64 1] (by rfl) (by rfl) (World.news_of_block (cs:=#[.int .i64 5,.int .i64 0,.int .i64 0,.int .i64 1]) (t:=50) (fr:=(0,0)) (heap_alloc_new wr _)) (by simp [Value.oneCell']) (by omega) (by simp [maxLen]; omega) (by omega) (by simp) (wr.heap.size+1) (by simp) ?_; intro gg cap w7 hown7 hgrow hat7 hlt7; have q2:w7.cell? ⟨w2.heap.size+3,k % 3,none⟩=some (.slice A5 t'.length c5):=(by rw [hgrow.cell_far _ (by simp; omega) (fun e=>Htg5.out e.symm),World.cell?_alloc_lt _ _ _ hgl5]; exact hc5); have qf:w7.frozen? ⟨w2.heap.size+3,k % 3,none⟩=false:=(by rw [hgrow.frozen_far _ (by simp; omega) (fun e=>Htg5.out e.symm)]; exact (World.frozen?_of_block (w:=wr) (Go.Deep.blk_alloc_lt _ _ _ hgl5)).trans hfr5))
    obtain⟨cs9,Fs9,h9⟩:=MuS.app (V:=wr) ⟨5,0,0,1⟩ HR.out hi5 Hvi5.out Hown5.out Hqt5.out ((Mv.refl R wr).alloc _) (HR.out.rd.alloc _) hgrow rfl ⟨rfl,rfl,rfl,rfl⟩ hown7 hat7 (by omega)
    go_roundg (9-(k+1))
    case measure=>omega
    case rel=>exact⟨k+1,_,cs9,Fs9,by omega,rfl,by go_num,h9,HL'.out _ (by simp; omega)⟩
   ·have bk:decide ((k:Int)<9)=false:=by rw [decide_eq_false_iff_not]; omega
    go_wp2_with fail
    go_ret
    exact⟨pr,_,rfl,PrgS.le HR.out.row.prgS (Le.above_mono hs2 _),⟨by rw [HL.out.1]; omega,fun t ht=>by have:=HL.out.2 t ht; omega⟩,hB2.trans (HR.out.mv.below hR hB2.size)⟩
 ·go_wp2_with fail
  refine (drawP_any _ R _ (by omega) r2).mono ?_
  rintro e3 w3 ⟨pr,v3,p3,rfl,_,hps,hfew,m3,r3,hp3⟩
  have hB3:=hB2.trans (m3.below hR hB2.size)
  have hs3:=hB3.size
  clear m3 r2
  go_wp2_with fail
  refine (mutP_any _ R _ _ pr (by omega) r3 (PrgS.le hps.1 (Le.above _ _)) (hfew.mono (by omega) (by omega))).mono ?_
  rintro e4 w4 ⟨pr4,v4,p4,rfl,hps4,hfew4,m4,r4,hp4⟩
  go_wp2_with fail
  go_ret
  exact⟨pr4,v4,rfl,PrgS.le hps4.1 (Le.above_mono hs3 _),hfew4,hB3.trans (m4.below hR hB3.size)⟩
end Go.Proofs.YtojmofnamppbdaaGreat
