/-
  Programs as plain lists of instructions: valid instructions, how many candidates there are, the events. No program in sight but the widths of the cells.
-/
import Derived.Test.YtojmofnamppbdaaGreatLib
namespace Go.Proofs.YtojmofnamppbdaaGreat
open Go.RowKit
set_option linter.unusedVariables false
set_option maxRecDepth 100000
structure Ins where
 op:Int
 loc:Int
 reg:Int
 val:Int
deriving DecidableEq
abbrev Prg:=List (List Ins)
def btw (n most:Int):Bool:=decide (0≤n) && decide (n≤most)
theorem btw_iff {n most:Int}:btw n most=true↔0≤n∧n≤most:=by simp [btw]
theorem btw_false {n most:Int}:btw n most=false↔¬ (0≤n∧n≤most):=by rw [← Bool.not_eq_true,btw_iff]
def InsOk (x:Ins):Prop:=
 ((x.op=1∨x.op=3)∧(0≤x.loc∧x.loc≤2)∧(0≤x.reg∧x.reg≤2)∧x.val=0)∨(x.op=2∧(0≤x.loc∧x.loc≤2)∧x.reg=0∧(0≤x.val∧x.val≤3)) ∨
 (x.op=4∧x.loc=0∧x.reg=0∧x.val=0)∨(x.op=5∧(0≤x.loc∧x.loc≤2)∧(0≤x.reg∧x.reg≤2)∧(0≤x.val∧x.val≤3))
instance (x:Ins):Decidable (InsOk x):=inferInstanceAs (Decidable (_∨_∨_∨_))
def insB (x:Ins):Bool:=decide (InsOk x)
theorem insB_iff {x:Ins}:insB x=true↔InsOk x:=by simp [insB]
theorem insB_false {x:Ins}:insB x=false↔¬ InsOk x:=by simp [insB]
def rdB (x:Ins):Bool:=decide (x.op=1) || decide (x.op=5)
def wrB (x:Ins):Bool:=decide (x.op=2) || decide (x.op=3) || decide (x.op=5)
theorem InsOk.loc {x:Ins} (h:InsOk x):0≤x.loc∧x.loc≤2:=by unfold InsOk at h; omega
theorem InsOk.reg {x:Ins} (h:InsOk x):0≤x.reg∧x.reg≤2:=by unfold InsOk at h; omega
theorem InsOk.val {x:Ins} (h:InsOk x):0≤x.val∧x.val≤3:=by unfold InsOk at h; omega
theorem InsOk.op {x:Ins} (h:InsOk x):1≤x.op∧x.op≤5:=by unfold InsOk at h; omega
def hitB (loc:Int) (b:Bool) (x:Ins):Bool:=decide (x.loc=loc) && (if b then wrB x else rdB x)
def cntT (loc:Int) (b:Bool) (t:List Ins):Nat:=t.countP (hitB loc b)
def cntP (loc:Int) (b:Bool) (p:Prg):Nat:=wSum (cntT loc b) p
theorem countP_take_succ {α:Type} (q:α→Bool) (xs:List α) (k:Nat) (h:k<xs.length):(xs.take (k+1)).countP q=(xs.take k).countP q+if q xs[k] then 1 else 0:=by
 rw [List.take_succ_eq_append_getElem h,List.countP_append,List.countP_singleton]
theorem cntT_take_succ (loc:Int) (b:Bool) (t:List Ins) (k:Nat) (h:k<t.length):cntT loc b (t.take (k+1))=cntT loc b (t.take k)+if hitB loc b t[k] then 1 else 0:=countP_take_succ _ _ _ h
theorem cntT_le (loc:Int) (b:Bool) (t:List Ins):cntT loc b t≤t.length:=List.countP_le_length
theorem cntP_take_succ (loc:Int) (b:Bool) (p:Prg) (k:Nat) (h:k<p.length):cntP loc b (p.take (k+1))=cntP loc b (p.take k)+cntT loc b p[k]:=wSum_take_succ _ _ _ h
def fact:Nat→Nat
 | 0=>1
 | n+1=>(n+1)*fact n
def exL (p:Prg) (loc:Int):Nat:=(cntP loc true p+1) ^ cntP loc false p*fact (cntP loc true p)
def exN (p:Prg):Nat:=exL p 0*exL p 1*exL p 2
def cap (n:Nat):Nat:=min n 3001
theorem cap_mul (a b:Nat) (hb:0<b):cap (cap a*b)=cap (a*b):=by
 unfold cap
 rcases Nat.le_total a 3001 with h | h
 ·rw [Nat.min_eq_left h]
 ·rw [Nat.min_eq_right h]
  have h1:3001≤3001*b:=Nat.le_mul_of_pos_right _ hb
  have h2:3001*b≤a*b:=Nat.mul_le_mul_right b h
  omega
theorem cap_le (n:Nat):cap n≤3001:=Nat.min_le_right _ _
theorem cap_lt {n:Nat} (h:n≤3000):cap n=n:=Nat.min_eq_left (by omega)
theorem cap_big {n:Nat} (h:3001≤n):cap n=3001:=Nat.min_eq_right h
def nf (x:Ins):Bool:=!decide (x.op=4)
def cntE' (t:List Ins):Nat:=t.countP nf
def evN (p:Prg):Nat:=wSum cntE' p
def ShapeOk (p:Prg):Prop:=p.length≤3∧(∀ t∈p,t.length≤7∧∀ x∈t,InsOk x)∧evN p≤12
def PrgOk (p:Prg):Prop:=ShapeOk p∧0<p.length∧exN p≤3000
open Classical in
noncomputable def shB (p:Prg):Bool:=decide (ShapeOk p)
theorem shB_iff {p:Prg}:shB p=true↔ShapeOk p:=by simp [shB]
theorem shB_false {p:Prg}:shB p=false↔¬ ShapeOk p:=by simp [shB]
open Classical in
noncomputable def prgB (p:Prg):Bool:=decide (PrgOk p)
theorem prgB_iff {p:Prg}:prgB p=true↔PrgOk p:=by simp [prgB]
theorem prgB_false {p:Prg}:prgB p=false↔¬ PrgOk p:=by simp [prgB]
theorem ShapeOk.small {p:Prg} (h:ShapeOk p) (loc:Int) (b:Bool):cntP loc b p≤21:=by
 have key:∀ q:Prg,(∀ t∈q,t.length≤7)→wSum (cntT loc b) q≤q.length*7:=by
  intro q
  induction q with
  | nil=>intro _; exact Nat.le_refl _
  | cons t q ih=>
   intro h
   have h1:=ih fun x hx=>h x (by simp [hx])
   have h2:=h t (by simp)
   have h3:=cntT_le loc b t
   simp only [wSum,List.length_cons]
   omega
 have:=key p fun t ht=>(h.2.1 t ht).1
 have:=h.1
 unfold cntP
 omega
structure Ev where
 thr:Int
 idx:Int
 loc:Int
 rd:Bool
 wr:Bool
deriving DecidableEq
def ini:List Ev:=[⟨-1,0,0,false,true⟩,⟨-1,1,1,false,true⟩,⟨-1,2,2,false,true⟩]
def RIns (_:World) (cs:Nat→Value) (x:Ins):Prop:=cs 0=.int .i64 x.op∧cs 1=.int .i64 x.loc∧cs 2=.int .i64 x.reg∧cs 3=.int .i64 x.val
def RSub {α:Type} (k:Nat) (R:World→(Nat→Value)→α→Prop) (w:World) (cs:Nat→Value) (xs:List α):Prop:=∃ A c,cs 0=.slice A xs.length c∧SlR k R w (.slice A xs.length c) xs
theorem SlR.le' {α:Type} {k:Nat} {R:World→(Nat→Value)→α→Prop} (hR:∀ a a' cs x,Le a a'→R a cs x→R a' cs x) {w w':World} {v:Value} {xs:List α} (h:SlR k R w v xs) (hl:Le w w'):SlR k R w' v xs:=h.le (fun i hi cs hr=>hR _ _ _ _ hl hr) hl
theorem RSub.le {α:Type} {k:Nat} {R:World→(Nat→Value)→α→Prop} (hR:∀ a a' cs x,Le a a'→R a cs x→R a' cs x):∀ a a' cs xs,Le a a'→RSub k R a cs xs→RSub k R a' cs xs:=fun a a' cs xs hl ⟨A,c,h1,h2⟩=>⟨A,c,h1,h2.le' hR hl⟩
abbrev InsS (w:World) (v:Value) (xs:List Ins):Prop:=SlR 4 RIns w v xs
abbrev PrgS (w:World) (v:Value) (p:Prg):Prop:=SlR 1 (RSub 4 RIns) w v p
theorem InsS.le {w w':World} {v:Value} {xs:List Ins} (h:InsS w v xs) (hl:Le w w'):InsS w' v xs:=SlR.le' (fun _ _ _ _ _ h=>h) h hl
theorem PrgS.le {w w':World} {v:Value} {p:Prg} (h:PrgS w v p) (hl:Le w w'):PrgS w' v p:=SlR.le' (RSub.le fun _ _ _ _ _ h=>h) h hl
theorem InsS.get {w:World} {A:Option Addr} {c n:Nat} {xs:List Ins} (h:InsS w (.slice A n c) xs) {i:Nat} (hi:i<xs.length):
  ∃ b o,A=some ⟨b,o,none⟩∧b<w.heap.size∧w.cell? ⟨b,o+i*4,none⟩=some (.int .i64 xs[i].op)∧w.cell? ⟨b,o+i*4+1,none⟩=some (.int .i64 xs[i].loc)∧w.cell? ⟨b,o+i*4+2,none⟩=some (.int .i64 xs[i].reg)∧w.cell? ⟨b,o+i*4+3,none⟩=some (.int .i64 xs[i].val):=by
 obtain⟨A',c',e,_,h⟩:=h
 obtain⟨b,o,h1,cs,hc,h2,h3,h4,h5⟩:=h i hi
 injection e with e1 _ _
 have c0:=hc 0 (by omega)
 have c1:=hc 1 (by omega)
 have c2:=hc 2 (by omega)
 have c3:=hc 3 (by omega)
 rw [h2,Nat.add_zero] at c0
 rw [h3] at c1
 rw [h4] at c2
 rw [h5] at c3
 exact⟨b,o,e1.trans h1,World.block_lt_of_cell? _ _ c0,c0,c1,c2,c3⟩
theorem SlR.getSub {α:Type} {k:Nat} {R:World→(Nat→Value)→α→Prop} {w:World} {A:Option Addr} {c n:Nat} {p:List (List α)} (h:SlR 1 (RSub k R) w (.slice A n c) p) {i:Nat} (hi:i<p.length):
  ∃ b o A' c',A=some ⟨b,o,none⟩∧b<w.heap.size∧w.cell? ⟨b,o+i,none⟩=some (.slice A' p[i].length c')∧p[i].length≤9223372036854775807∧SlR k R w (.slice A' p[i].length c') p[i]:=by
 obtain⟨b,o,cs,h0,h1,A',c',h2,h3⟩:=SlR.get1 h hi
 obtain⟨_,_,_,hm⟩:=h3.slice
 exact⟨b,o,A',c',h0,World.block_lt_of_cell? _ _ h1,by rw [h1,h2],hm,h3⟩
end Go.Proofs.YtojmofnamppbdaaGreat
