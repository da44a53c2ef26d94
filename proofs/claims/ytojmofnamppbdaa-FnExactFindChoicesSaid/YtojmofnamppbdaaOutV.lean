/-
  Valid outcomes on both sides.
-/
import Derived.Test.YtojmofnamppbdaaSl
import Derived.Test.YtojmofnamppbdaaPlM
import Derived.Test.YtojmofnamppbdaaImPa
import Derived.Test.YtojmofnamppbdaaSpPa
namespace Go.Proofs.Ytojmofnamppbdaa
open Go.RowKit
set_option linter.unusedVariables false
set_option maxRecDepth 100000
def OutOk (p:Prg) (o:List Int):Prop:=PrgOk p∧o.length=p.length*3+3∧∀ x∈o,In03 x
open Classical in
noncomputable def ovB (p:Prg) (o:List Int):Bool:=decide (OutOk p o)
theorem ovB_iff {p:Prg} {o:List Int}:ovB p o=true↔OutOk p o:=by simp [ovB]
theorem ovB_false {p:Prg} {o:List Int}:ovB p o=false↔¬ OutOk p o:=by simp [ovB]
def badX (x:Int):Bool:=!wtn x 0 3
theorem bad_iff {x:Int}:badX x=true↔¬ In03 x:=by
 unfold badX wtn In03
 rw [Bool.not_eq_true',← Bool.not_eq_true,Bool.and_eq_true,decide_eq_true_iff,decide_eq_true_iff]
theorem badC_gives (x:Int) (W:World):FnGives Try.prog 52 #[] #[.int .i64 x] (.bool (badX x)) W:=by
 show Calls Try.prog 52 #[.int .i64 x] W _
 have hw:=withinQ_any x 0 3 W
 have Hb:Hid (badX x=!wtn x 0 3):=rfl
 generalize badX x=b at Hb
 go_enter Try.func52,Try.ntmps52
 go_wp2_with fail
 refine hw.mono ?_
 rintro e1 w1 ⟨rfl,rfl⟩
 generalize wtn x 0 3=c at Hb
 go_wp2_with fail
 go_ret
 exact⟨ret_bool Hb.out.symm,0,rfl⟩
theorem getI_bang {xs:List Int} {j:Nat} (h:j<xs.length):xs[j]! = xs.getD j 0:=by
 rw [List.getElem!_eq_getElem?_getD,List.getD_eq_getElem?_getD]
 rfl
theorem contF_any (xs:List Int) (w:World) (A:Option Addr) (c:Nat) (h:Ints w A c xs):
  Calls Try.prog 51 #[.slice A xs.length c,.func (.func 52) #[] #[]] w (fun e w'=>e=.returned (.bool (xs.any badX))∧Below w.heap.size w w'):=by
 have eg:∀ args w,(callFunc 52 args).run Try.prog w=.ok (.enter 52 args) w:=enters_of Try.func52 (by kernel_rfl) rfl
 have hP:PredAt Try.prog 52 #[] (Value.int .i64) badX w:=fun W x _=>badC_gives x W
 rcases Nat.eq_zero_or_pos xs.length with h0 | h0
 ·obtain rfl:xs=[]:=List.length_eq_zero_iff.1 h0
  exact (Try.slices_ContainsFunc_empty (α:=Int) A c _ w).mono fun e w' h=>⟨by rw [h.1]; rfl,by rw [h.2]; exact Below.refl _ _⟩
 ·obtain⟨b,o,rfl,hc⟩:=ints_cells h h0
  refine (Try.slices_ContainsFunc (Value.int .i64) badX 52 #[] eg b o xs.length c xs w hP (Nat.le_refl _) h.len (fun j hj=>by rw [getI_bang hj]; exact hc j hj)).mono fun e w' h=>⟨by rw [h.1,List.take_length],?_⟩
  obtain⟨_,q,rfl⟩:=h
  exact below_drewN (Below.refl _ _) q
theorem ov_len {p:Prg} {o:List Int} (h:¬ o.length=p.length*3+3):ovB p o=false:=ovB_false.2 fun k=>h k.2.1
theorem ov_any {p:Prg} {o:List Int} (hp:PrgOk p) (h:o.length=p.length*3+3):ovB p o=!(o.any badX):=by
 rcases hb:o.any badX with _ | _
 ·refine ovB_iff.2 ⟨hp,h,fun x hx=>?_⟩
  have:=List.any_eq_false.1 hb x hx
  rw [bad_iff] at this
  exact Classical.not_not.1 this
 ·refine ovB_false.2 fun k=>?_
  obtain⟨x,hx,hbx⟩:=List.any_eq_true.1 hb
  exact bad_iff.1 hbx (k.2.2 x hx)
set_option maxHeartbeats 1000000 in
theorem implOV_any (p:Prg) (hl:p.length≤1048576) (hls:∀ t∈p,t.length≤1048576) (o:List Int) (W:World) (v:Value) (hr:PrgS W v p) (A:Option Addr) (c:Nat) (hI:Ints W A c o):Calls Try.prog 26 #[v,.slice A o.length c] W (RetB W (ovB p o)):=by
 have hv:=implPrg_any p hl hls W v hr
 have hm:=hI.len
 have HI:=Lib.hid hI
 obtain⟨Ap,cp,rfl,_⟩:=hr.slice
 have HF:Hid (prgB p=false→ovB p o=false):=fun h=>ovB_false.2 fun k=>prgB_false.1 h k.1
 have HT:Hid (prgB p=true→PrgOk p):=fun h=>prgB_iff.1 h
 have HL:Hid (¬ o.length=p.length*3+3→ovB p o=false):=ov_len
 have HA:Hid (PrgOk p→o.length=p.length*3+3→ovB p o=!(o.any badX)):=ov_any
 generalize ovB p o=ov at HF HL HA
 clear hI
 go_enter Try.func26,Try.ntmps26
 go_wp2_with fail
 refine hv.mono ?_
 rintro e1 w1 ⟨rfl,hb1⟩
 clear hv
 cases hpb:prgB p
 ·have Hn:=Lib.hid (HF.out hpb)
  clear hpb HT HF HL HA
  go_wp2_with fail
  go_ret
  exact⟨ret_bool Hn.out.symm,hb1⟩
 ·have Hp:Hid (PrgOk p):=HT.out hpb
  have h3:=Hp.out.1.1
  clear hpb HT HF
  by_cases hlen:o.length=p.length*3+3
  ·have heq:((o.length:Int) == 3*(p.length:Int)+2+1)=true:=by rw [beq_iff_eq]; omega
   have Ha:=Lib.hid (HA.out Hp.out hlen)
   have hcf:=contF_any o w1 A c (HI.out.le (Le.below hb1))
   clear HL HA hlen
   generalize o.any badX=bb at Ha hcf
   go_wp2_with fail
   refine hcf.mono ?_
   rintro e2 w2 ⟨rfl,hb2⟩
   clear hcf
   go_wp2_with fail
   go_ret
   exact⟨ret_bool Ha.out.symm,hb1.trans (hb2.mono hb1.size)⟩
  ·have heq:((o.length:Int) == 3*(p.length:Int)+2+1)=false:=by rw [beq_eq_false_iff_ne]; omega
   have Hn:=Lib.hid (HL.out hlen)
   clear HL HA hlen
   go_wp2_with fail
   go_ret
   exact⟨ret_bool Hn.out.symm,hb1⟩
theorem l1In3_any (x:Int) (W:World):Calls Try.prog 43 #[.int .i64 x,.int .i64 3] W (fun e w'=>e=.returned (.bool (!badX x))∧W=w'):=by
 have Hb:Hid (badX x=!wtn x 0 3):=rfl
 by_cases h1:0≤x
 ·by_cases h2:x≤3
  ·have hb:Hid (badX x=false):=by show _=_; rw [Hb.out]; simp [wtn,h1,h2]
   go_enter Try.func43,Try.ntmps43
   go_wp2_with fail
   go_ret
   exact⟨by rw [hb.out]; rfl,rfl⟩
  ·have hb:Hid (badX x=true):=by show _=_; rw [Hb.out]; simp [wtn,h2]
   go_enter Try.func43,Try.ntmps43
   go_wp2_with fail
   go_ret
   exact⟨by rw [hb.out]; rfl,rfl⟩
 ·have hb:Hid (badX x=true):=by show _=_; rw [Hb.out]; simp [wtn,h1]
  go_enter Try.func43,Try.ntmps43
  go_wp2_with fail
  go_ret
  exact⟨by rw [hb.out]; rfl,rfl⟩
theorem size3_any (p:Prg) (h3:p.length≤3) (W:World) (A:Option Addr) (c:Nat):Calls Try.prog 42 #[.slice A p.length c] W (fun e w'=>e=.returned (.int .i64 ((p.length*3+3:Nat):Int))∧W=w'):=by
 go_enter Try.func42,Try.ntmps42
 go_wp2_with fail
 go_ret
 exact⟨ret_int (by omega),rfl⟩
set_option maxHeartbeats 1000000 in
theorem specOV_any (p:Prg) (hl:p.length≤1048576) (o:List Int) (W:World) (v:Value) (hr:PrgS W v p) (A:Option Addr) (c:Nat) (hI:Ints W A c o):Calls Try.prog 22 #[v,.slice A o.length c] W (RetB W (ovB p o)):=by
 have hv:=specPrg_any p hl W v hr
 have hm:=hI.len
 have HI:=Lib.hid hI
 obtain⟨Ap,cp,rfl,_⟩:=hr.slice
 have HF:Hid (prgB p=false→ovB p o=false):=fun h=>ovB_false.2 fun k=>prgB_false.1 h k.1
 have HT:Hid (prgB p=true→PrgOk p):=fun h=>prgB_iff.1 h
 have HL:Hid (¬ o.length=p.length*3+3→ovB p o=false):=ov_len
 have HA:Hid (PrgOk p→o.length=p.length*3+3→ovB p o=!(o.any badX)):=ov_any
 generalize ovB p o=ov at HF HL HA
 clear hI
 go_enter Try.func22,Try.ntmps22
 go_wp2_with fail
 refine hv.mono ?_
 rintro e1 w1 ⟨rfl,hb1⟩
 clear hv
 cases hpb:prgB p
 ·have Hn:=Lib.hid (HF.out hpb)
  clear hpb HT HF HL HA
  go_wp2_with fail
  go_ret
  exact⟨ret_bool Hn.out.symm,hb1⟩
 ·have Hp:Hid (PrgOk p):=HT.out hpb
  have h3:=Hp.out.1.1
  have hsz:=size3_any p h3 w1 Ap cp
  clear hpb HT HF
  by_cases hlen:o.length=p.length*3+3
  ·have heq:((o.length:Int) != (p.length:Int)*3+3)=false:=by
    have:(o.length:Int)=(p.length:Int)*3+3:=by omega
    rw [this]; simp
   have Ha:=Lib.hid (HA.out Hp.out hlen)
   clear HL HA hlen
   go_wp2_with fail
   refine hsz.mono ?_
   rintro e2 w2 ⟨rfl,rfl⟩
   clear hsz
   go_wp2_with fail
   go_loopg [5] o.length (fun g s5 wr=>∃ i:Nat,i≤o.length∧g=o.length-i∧s5=.int .i64 i∧Hid (∀ j (h:j<o.length),j<i→badX o[j]=false)∧Below W.heap.size W wr)
   case atStart=>exact⟨0,Nat.zero_le _,rfl,rfl,fun j h hj=>absurd hj (Nat.not_lt_zero _),hb1⟩
   case round=>
    obtain⟨i,hi,rfl,rfl,hall,hb⟩:=hrel
    by_cases hlt:i<o.length
    ·obtain⟨b,o',rfl,hbl,k0⟩:=(HI.out.le (Le.below hb)).get hlt
     have hin:=l1In3_any o[i] wr
     have Hyes:Hid (badX o[i]=true→o.any badX=true):=fun h=>List.any_eq_true.2 ⟨_,List.getElem_mem hlt,h⟩
     have Hno:Hid (badX o[i]=false→∀ j (h:j<o.length),j<i+1→badX o[j]=false):=fun h j hj hji=>by
      rcases Nat.lt_succ_iff_lt_or_eq.1 hji with h' | h'
      ·exact hall.out j hj h'
      ·subst h'; exact h
     generalize o[i]=x at k0 hin Hyes Hno
     clear hall
     go_wp2_with fail
     refine hin.mono ?_
     rintro e5 w5 ⟨rfl,rfl⟩
     clear hin k0
     cases hx:badX x
     ·have Hn:=Lib.hid (Hno.out hx)
      clear hx Hyes Hno
      go_wp2_with fail
      go_roundg (o.length-(i+1))
      case measure=>omega
      case rel=>exact⟨i+1,by omega,rfl,by go_num,Hn.out,hb⟩
     ·have Hy:=Lib.hid (Hyes.out hx)
      clear hx Hyes Hno
      go_wp2_with fail
      go_ret
      exact⟨ret_bool (by rw [Ha.out,Hy.out]; rfl),hb⟩
    ·obtain rfl:i=o.length:=by omega
     have Hn:Hid (o.any badX=false):=List.any_eq_false.2 fun x hx h=>by
      obtain⟨j,hj,rfl⟩:=List.getElem_of_mem hx
      rw [hall.out j hj hj] at h
      cases h
     clear hall
     go_wp2_with fail
     go_ret
     exact⟨ret_bool (by rw [Ha.out,Hn.out]; rfl),hb⟩
  ·have heq:((o.length:Int) != (p.length:Int)*3+3)=true:=by rw [bne_iff_ne]; omega
   have Hn:=Lib.hid (HL.out hlen)
   clear HL HA hlen
   go_wp2_with fail
   refine hsz.mono ?_
   rintro e2 w2 ⟨rfl,rfl⟩
   clear hsz
   go_wp2_with fail
   go_ret
   exact⟨ret_bool Hn.out.symm,hb1⟩
end Go.Proofs.Ytojmofnamppbdaa
