/-
  The reference's states with views, in blocks of one's own. The reference's states with views: l5Copy. The reference's states with views: what a call that writes into a state of one's own leaves alone; l5Join. The reference's states with views: l5Insert. The reference's states with views: l5Insert. The reference's states with views: l5Start.
-/
import Derived.Test.YtojmofnamppbdaaGreatVsX
import Derived.Test.YtojmofnamppbdaaGreatApE
import Derived.StillTailTactics
namespace Go.Proofs.YtojmofnamppbdaaGreat
open Go.RowKit
set_option linter.unusedVariables false
set_option maxRecDepth 100000
def CelW (w:World) (base b:Nat) (ty:TypeId) (n:Nat) (F:Nat→Value):Prop:=base≤b∧∃ cur:Array Value,Own w b ty cur∧∀ j,j<n→cur[j]?=some (F j)
namespace CelW
variable {w w':World} {base b n:Nat} {ty:TypeId} {F G:Nat→Value}
theorem lt (h:CelW w base b ty n F):b<w.heap.size:=by obtain⟨_,cur,ho,_⟩:=h; exact ho.lt
theorem cell (h:CelW w base b ty n F) {j:Nat} (hj:j<n):w.cell? ⟨b,j,none⟩=some (F j):=by obtain⟨_,cur,ho,hc⟩:=h; exact ho.cell (hc j hj)
theorem frozen (h:CelW w base b ty n F) (j:Nat):w.frozen? ⟨b,j,none⟩=false:=by obtain⟨_,cur,ho,hc⟩:=h; exact ho.frozen j
theorem of_block (h:CelW w base b ty n F) (e:w'.heap[b]?=w.heap[b]?):CelW w' base b ty n F:=by obtain⟨hb,cur,ho,hc⟩:=h; exact⟨hb,cur,ho.of_block e,hc⟩
theorem far (h:CelW w base b ty n F) {p:Addr} (hp:b≠p.block) (u:Value):CelW (w.setCell p u) base b ty n F:=h.of_block (Go.Deep.blk_setCell_other _ _ _ _ hp)
theorem under (h:CelW w base b ty n F) (hb:Below w.heap.size w w'):CelW w' base b ty n F:=h.of_block (hb.block b h.lt)
theorem rebase {base':Nat} (h:CelW w base b ty n F) (hb:base'≤base):CelW w base' b ty n F:=⟨Nat.le_trans hb h.1,h.2⟩
theorem congr (h:CelW w base b ty n F) (e:∀ j,j<n→F j=G j):CelW w base b ty n G:=by obtain⟨hb,cur,ho,hc⟩:=h; exact⟨hb,cur,ho,fun j hj=>by rw [hc j hj,e j hj]⟩
theorem set (h:CelW w base b ty n F) {i:Nat} (u:Value) (hi:i<n) (e:∀ j,j<n→G j=if j=i then u else F j):CelW (w.setCell ⟨b,i,none⟩ u) base b ty n G:=by
 obtain⟨hb,cur,ho,hc⟩:=h
 refine⟨hb,_,ho.set i u,fun j hj=>?_⟩
 rw [Array.getElem?_setIfInBounds,e j hj]
 have hs:i<cur.size:=by have:=hc i hi; exact (Array.getElem?_eq_some_iff.1 this).1
 by_cases h:i=j
 ·rw [if_pos h,if_pos h.symm,if_pos (by omega)]
 ·rw [if_neg h,if_neg fun e=>h e.symm,hc j hj]
theorem ne_type {b' n':Nat} {ty':TypeId} {F':Nat→Value} (h:CelW w base b ty n F) (h':CelW w base b' ty' n' F') (hne:ty≠ty'):b≠b':=fun e=>by
 obtain⟨_,cur,ho,_⟩:=h
 obtain⟨_,cur',ho',_⟩:=h'
 unfold Own at ho ho'
 rw [e,ho'] at ho
 injection ho with ho
 injection ho with h1 h2 h3
 exact hne h2.symm
theorem ne_own {T:Nat} {t:TypeId} {cs:Array Value} (h:CelW w base b ty n F) (ho':Own w T t cs) (hne:ty≠t):b≠T:=fun e=>by
 obtain⟨_,cur,ho,_⟩:=h
 unfold Own at ho ho'
 rw [e,ho'] at ho
 injection ho with ho
 injection ho with h1 h2 h3
 exact hne h2.symm
end CelW
theorem RowOf.celW {α:Type} {k:Nat} {Q:(Nat→Value)→α→Prop} {w:World} {base:Nat} {e:TypeId} {A:Option Addr} {n c:Nat} {xs:List α} (h:RowOf k Q w base e (.slice A n c) xs) (hpos:0<xs.length):
  ∃ g F,A=some ⟨g,0,none⟩∧n=xs.length∧n≤c∧CelW w base g e (xs.length*k) F∧(Value.slice A n c).ownBlock=some g∧∀ i (h:i<xs.length),Q (fun j=>if i*k+j<xs.length*k then F (i*k+j) else undef) xs[i]:=by
 obtain⟨cs,h1,h2⟩:=h
 rcases h1.2 with ⟨_,h0⟩ | ⟨g,cap,cur,hv,hb,hg,hn,hcm,hc,ht⟩
 ·omega
 ·injection hv with e1 e2 e3
  subst e1 e2 e3
  have hl:=h1.1
  refine⟨g,fun j=>cs.getD j undef,rfl,rfl,hn,⟨hb,cur,hg,fun j hj=>?_⟩,rfl,fun i hi=>?_⟩
  ·rw [← Array.getElem?_toList]
   show _=some (cs.getD j undef)
   rw [← ht,List.getD_eq_getElem?_getD,List.getElem?_take,if_pos (by omega),List.getElem?_eq_getElem (by
    have:=congrArg List.length ht
    rw [List.length_take,hl] at this
    omega)]
   rfl
  ·have:=h2 i hi
   refine (show Q _ _ from ?_)
   have e:(fun j=>if i*k+j<xs.length*k then cs.getD (i*k+j) undef else undef)=fun j=>cs.getD (i*k+j) undef:=by
    funext j
    split
    ·rfl
    ·rw [List.getD_eq_getElem?_getD,List.getElem?_eq_none (by omega)]
     rfl
   rw [e]
   exact this
structure V5 where
 v:List Nat
 b:Nat
 c:Nat
structure M5 where
 m:Msg
 b:Nat
 c:Nat
def vF (v:List Nat) (j:Nat):Value:=.int .i64 (aV v j)
def mF (M:Nat→M5) (j:Nat):Value:=if j % 3=0 then .int .i64 (M (j / 3)).m.val else if j % 3=1 then .bool (M (j / 3)).m.lock else .slice (some ⟨(M (j / 3)).b,0,none⟩) 3 (M (j / 3)).c
theorem mF0 (M:Nat→M5) (k:Nat):mF M (k*3)=.int .i64 (M k).m.val:=by unfold mF; rw [if_pos (by omega),show k*3 / 3=k by omega]
theorem mF1 (M:Nat→M5) (k:Nat):mF M (k*3+1)=.bool (M k).m.lock:=by unfold mF; rw [if_neg (by omega),if_pos (by omega),show (k*3+1) / 3=k by omega]
theorem mF2 (M:Nat→M5) (k:Nat):mF M (k*3+2)=.slice (some ⟨(M k).b,0,none⟩) 3 (M k).c:=by unfold mF; rw [if_neg (by omega),if_neg (by omega),show (k*3+2) / 3=k by omega]
structure Own5 (w:World) (base:Nat) (q:L5) (n:Nat) (P:Nat→Nat) (G:Nat→Int) (V:Nat→V5) (N Lb Lc:Nat→Nat) (M:Nat→Nat→M5) (κ:Nat→Nat):Prop where
 at_:CelW w base q.b1 3 n fun t=>.int .i64 ((P t:Nat):Int)
 regs:CelW w base q.b2 3 (n*3) fun i=>.int .i64 (G i)
 view:CelW w base q.b3 31 n fun t=>.slice (some ⟨(V t).b,0,none⟩) 3 (V t).c
 list:CelW w base q.b4 138 3 fun l=>.slice (some ⟨Lb l,0,none⟩) (N l) (Lc l)
 vw:∀ t,t<n→CelW w base (V t).b 3 3 (vF (V t).v)
 lb:∀ l,l<3→CelW w base (Lb l) 137 (N l*3) (mF (M l))
 mv:∀ l,l<3→∀ k,k<N l→CelW w base (M l k).b 3 3 (vF (M l k).m.view)
 capv:∀ t,t<n→3≤(V t).c
 capl:∀ l,l<3→N l≤Lc l∧Lc l≤9223372036854775807
 capm:∀ l,l<3→∀ k,k<N l→3≤(M l k).c
 k1:κ q.b1=0
 k2:κ q.b2=1
 kv:∀ t,t<n→κ (V t).b=10+2*t
 kl:∀ l,l<3→κ (Lb l)=20+2*l
 km:∀ l,l<3→∀ k,k<N l→κ (M l k).b=11+2*(l+3*k)
namespace Own5
variable {w w':World} {base n:Nat} {q:L5} {P:Nat→Nat} {G:Nat→Int} {V:Nat→V5} {N Lb Lc:Nat→Nat} {M:Nat→Nat→M5} {κ:Nat→Nat}
theorem of_blocks (h:Own5 w base q n P G V N Lb Lc M κ) (e:∀ b,base≤b→b<w.heap.size→w'.heap[b]?=w.heap[b]?):Own5 w' base q n P G V N Lb Lc M κ:=
 have f:∀ {b ty k F},CelW w base b ty k F→CelW w' base b ty k F:=fun hc=>hc.of_block (e _ hc.1 hc.lt)
 { h with at_:=f h.at_,regs:=f h.regs,view:=f h.view,list:=f h.list,vw:=fun t ht=>f (h.vw t ht),lb:=fun l hl=>f (h.lb l hl),mv:=fun l hl k hk=>f (h.mv l hl k hk) }
theorem under (h:Own5 w base q n P G V N Lb Lc M κ) (hb:Below w.heap.size w w'):Own5 w' base q n P G V N Lb Lc M κ:=h.of_blocks fun b _ hl=>hb.block b hl
theorem setA (h:Own5 w base q n P G V N Lb Lc M κ) {t:Nat} (ht:t<n) (x:Nat):Own5 (w.setCell ⟨q.b1,t,none⟩ (.int .i64 ((x:Nat):Int))) base q n (fun u=>if u=t then x else P u) G V N Lb Lc M κ where
 at_:=h.at_.set _ ht fun j hj=>by by_cases e:j=t <;> simp [e]
 regs:=h.regs.far (fun e=>by have h1:=h.k1; have h2:=h.k2; simp only at e; rw [e] at h2; omega) _
 view:=h.view.far (h.view.ne_type h.at_ (by decide)) _
 list:=h.list.far (h.list.ne_type h.at_ (by decide)) _
 vw:=fun u hu=>(h.vw u hu).far (fun e=>by have h1:=h.k1; have h2:=h.kv u hu; simp only at e; rw [e] at h2; omega) _
 lb:=fun l hl=>(h.lb l hl).far ((h.lb l hl).ne_type h.at_ (by decide)) _
 mv:=fun l hl k hk=>(h.mv l hl k hk).far (fun e=>by have h1:=h.k1; have h2:=h.km l hl k hk; simp only at e; rw [e] at h2; omega) _
 capv:=h.capv
 capl:=h.capl
 capm:=h.capm
 k1:=h.k1
 k2:=h.k2
 kv:=h.kv
 kl:=h.kl
 km:=h.km
theorem setG (h:Own5 w base q n P G V N Lb Lc M κ) {i:Nat} (hi:i<n*3) (x:Int):Own5 (w.setCell ⟨q.b2,i,none⟩ (.int .i64 x)) base q n P (fun u=>if u=i then x else G u) V N Lb Lc M κ where
 at_:=h.at_.far (fun e=>by have h1:=h.k1; have h2:=h.k2; simp only at e; rw [e] at h1; omega) _
 regs:=h.regs.set _ hi fun j hj=>by by_cases e:j=i <;> simp [e]
 view:=h.view.far (h.view.ne_type h.at_ (by decide) |> fun _=>h.view.ne_type h.regs (by decide)) _
 list:=h.list.far (h.list.ne_type h.regs (by decide)) _
 vw:=fun u hu=>(h.vw u hu).far (fun e=>by have h1:=h.k2; have h2:=h.kv u hu; simp only at e; rw [e] at h2; omega) _
 lb:=fun l hl=>(h.lb l hl).far ((h.lb l hl).ne_type h.regs (by decide)) _
 mv:=fun l hl k hk=>(h.mv l hl k hk).far (fun e=>by have h1:=h.k2; have h2:=h.km l hl k hk; simp only at e; rw [e] at h2; omega) _
 capv:=h.capv
 capl:=h.capl
 capm:=h.capm
 k1:=h.k1
 k2:=h.k2
 kv:=h.kv
 kl:=h.kl
 km:=h.km
theorem setV (h:Own5 w base q n P G V N Lb Lc M κ) {t i:Nat} (ht:t<n) (hi:i<3) (x:Nat) (v':List Nat) (hv:∀ j,j<3→atV v' j=if j=i then x else atV (V t).v j):Own5 (w.setCell ⟨(V t).b,i,none⟩ (.int .i64 ((x:Nat):Int))) base q n P G (fun u=>if u=t then ⟨v',(V t).b,(V t).c⟩ else V u) N Lb Lc M κ where
 at_:=h.at_.far (fun e=>by have h1:=h.k1; have h2:=h.kv t ht; simp only at e; rw [e] at h1; omega) _
 regs:=h.regs.far (fun e=>by have h1:=h.k2; have h2:=h.kv t ht; simp only at e; rw [e] at h1; omega) _
 view:=(h.view.far (h.view.ne_type (h.vw t ht) (by decide)) _).congr fun u hu=>by by_cases e:u=t <;> simp [e]
 list:=h.list.far (h.list.ne_type (h.vw t ht) (by decide)) _
 vw:=fun u hu=>by
  by_cases e:u=t
  ·subst e
   simp only [if_true]
   exact (h.vw u hu).set _ hi fun j hj=>by
    unfold vF aV
    rw [hv j hj]
    by_cases e:j=i <;> simp [e]
  ·rw [if_neg e]
   exact (h.vw u hu).far (fun e'=>by have h1:=h.kv t ht; have h2:=h.kv u hu; simp only at e'; rw [e'] at h2; omega) _
 lb:=fun l hl=>(h.lb l hl).far ((h.lb l hl).ne_type (h.vw t ht) (by decide)) _
 mv:=fun l hl k hk=>(h.mv l hl k hk).far (fun e=>by have h1:=h.kv t ht; have h2:=h.km l hl k hk; simp only at e; rw [e] at h2; omega) _
 capv:=fun u hu=>by by_cases e:u=t <;> simp [e,h.capv _ ht,h.capv _ hu]
 capl:=h.capl
 capm:=h.capm
 k1:=h.k1
 k2:=h.k2
 kv:=fun u hu=>by by_cases e:u=t <;> simp [e,h.kv _ ht,h.kv _ hu]
 kl:=h.kl
 km:=h.km
theorem setM (h:Own5 w base q n P G V N Lb Lc M κ) {l k i:Nat} (hl:l<3) (hk:k<N l) (hi:i<3) (x:Nat) (v':List Nat) (hv:∀ j,j<3→atV v' j=if j=i then x else atV (M l k).m.view j):
  Own5 (w.setCell ⟨(M l k).b,i,none⟩ (.int .i64 ((x:Nat):Int))) base q n P G V N Lb Lc (fun l' k'=>if l'=l∧k'=k then ⟨⟨(M l k).m.val,(M l k).m.lock,v'⟩,(M l k).b,(M l k).c⟩ else M l' k') κ where
 at_:=h.at_.far (fun e=>by have h1:=h.k1; have h2:=h.km l hl k hk; simp only at e; rw [e] at h1; omega) _
 regs:=h.regs.far (fun e=>by have h1:=h.k2; have h2:=h.km l hl k hk; simp only at e; rw [e] at h1; omega) _
 view:=h.view.far (h.view.ne_type (h.mv l hl k hk) (by decide)) _
 list:=h.list.far (h.list.ne_type (h.mv l hl k hk) (by decide)) _
 vw:=fun u hu=>(h.vw u hu).far (fun e=>by have h1:=h.km l hl k hk; have h2:=h.kv u hu; simp only at e; rw [e] at h2; omega) _
 lb:=fun l' hl'=>((h.lb l' hl').far ((h.lb l' hl').ne_type (h.mv l hl k hk) (by decide)) _).congr fun j hj=>by
  unfold mF
  by_cases e:l'=l∧j / 3=k
  ·obtain⟨rfl,rfl⟩:=e
   simp
  ·simp only [if_neg e]
 mv:=fun l' hl' k' hk'=>by
  by_cases e:l'=l∧k'=k
  ·obtain⟨rfl,rfl⟩:=e
   simp only [and_self,if_true]
   exact (h.mv l' hl' k' hk').set _ hi fun j hj=>by
    unfold vF aV
    rw [hv j hj]
    by_cases e:j=i <;> simp [e]
  ·rw [if_neg e]
   exact (h.mv l' hl' k' hk').far (fun e'=>by have h1:=h.km l hl k hk; have h2:=h.km l' hl' k' hk'; simp only at e'; rw [e'] at h2; omega) _
 capv:=h.capv
 capl:=h.capl
 capm:=fun l' hl' k' hk'=>by
  by_cases e:l'=l∧k'=k
  ·rw [if_pos e]; exact h.capm l hl k hk
  ·rw [if_neg e]; exact h.capm l' hl' k' hk'
 k1:=h.k1
 k2:=h.k2
 kv:=h.kv
 kl:=h.kl
 km:=fun l' hl' k' hk'=>by
  by_cases e:l'=l∧k'=k
  ·rw [if_pos e,h.km l hl k hk,e.1,e.2]
  ·rw [if_neg e]; exact h.km l' hl' k' hk'
theorem setL (h:Own5 w base q n P G V N Lb Lc M κ) {l k:Nat} (hl:l<3) (hk:k<N l):
  Own5 (w.setCell ⟨Lb l,k*3+1,none⟩ (.bool true)) base q n P G V N Lb Lc (fun l' k'=>if l'=l∧k'=k then ⟨⟨(M l k).m.val,true,(M l k).m.view⟩,(M l k).b,(M l k).c⟩ else M l' k') κ where
 at_:=h.at_.far (h.at_.ne_type (h.lb l hl) (by decide)) _
 regs:=h.regs.far (h.regs.ne_type (h.lb l hl) (by decide)) _
 view:=h.view.far (h.view.ne_type (h.lb l hl) (by decide)) _
 list:=h.list.far (h.list.ne_type (h.lb l hl) (by decide)) _
 vw:=fun u hu=>(h.vw u hu).far ((h.vw u hu).ne_type (h.lb l hl) (by decide)) _
 lb:=fun l' hl'=>by
  by_cases e:l'=l
  ·subst e
   refine (h.lb l' hl').set (i:=k*3+1) (G:=mF ((fun l'' k'=>if l''=l'∧k'=k then ⟨⟨(M l' k).m.val,true,(M l' k).m.view⟩,(M l' k).b,(M l' k).c⟩ else M l'' k') l')) _ (by omega) fun j hj=>?_
   unfold mF
   by_cases ej:j=k*3+1
   ·rw [if_pos ej,ej,if_neg (by omega),if_pos (by omega),show (k*3+1) / 3=k by omega]
    simp
   ·rw [if_neg ej]
    by_cases ek:j / 3=k
    ·simp only [ek,and_self,if_true]
     by_cases e1:j % 3=1
     ·exact absurd (by omega) ej
     ·rw [if_neg e1,if_neg e1]
    ·simp only [ek,and_false,if_false]
  ·refine ((h.lb l' hl').far (fun e'=>?_) _).congr fun j hj=>?_
   ·have h1:=h.kl l hl; have h2:=h.kl l' hl'; simp only at e'; rw [e'] at h2; omega
   ·unfold mF
    simp only [e,false_and,if_false]
 mv:=fun l' hl' k' hk'=>by
  by_cases e:l'=l∧k'=k
  ·obtain⟨rfl,rfl⟩:=e
   simp only [and_self,if_true]
   exact (h.mv l' hl' k' hk').far ((h.mv l' hl' k' hk').ne_type (h.lb l' hl') (by decide)) _
  ·rw [if_neg e]
   exact (h.mv l' hl' k' hk').far ((h.mv l' hl' k' hk').ne_type (h.lb l hl) (by decide)) _
 capv:=h.capv
 capl:=h.capl
 capm:=fun l' hl' k' hk'=>by
  by_cases e:l'=l∧k'=k
  ·rw [if_pos e]; exact h.capm l hl k hk
  ·rw [if_neg e]; exact h.capm l' hl' k' hk'
 k1:=h.k1
 k2:=h.k2
 kv:=h.kv
 kl:=h.kl
 km:=fun l' hl' k' hk'=>by
  by_cases e:l'=l∧k'=k
  ·rw [if_pos e,h.km l hl k hk,e.1,e.2]
  ·rw [if_neg e]; exact h.km l' hl' k' hk'
theorem rep {p:Prg} {s:VSt} {a:World} (h:Own5 w base q n P G V N Lb Lc M κ) (hn:n=p.length) (hP:∀ t,t<n→P t=pcS s.s t) (hG:∀ i,i<n*3→G i=s.s.regs.getD i 0) (hV:∀ t,t<n→(V t).v=ownV s t) (hN:∀ l,l<3→N l=(lstV s l).length) (hM:∀ l,l<3→∀ k,k<N l→(M l k).m=gM (lstV s l) k) (ha:Le (above base w) a):Rep5 a q p s:=by
 have f:∀ {b:Nat} {ty:TypeId} {k:Nat} {F:Nat→Value},CelW w base b ty k F→∀ j:Nat,j<k→a.cell? ⟨b,j,none⟩=some (F j):=fun hc j hj=>ha _ _ (cell_above_of hc.1 (hc.cell hj))
 refine⟨fun t ht=>?_,fun i hi=>?_,fun t ht=>?_,fun l hl=>?_⟩
 ·have h1:=f h.at_ (t) (by omega)
  rw [hP t (by omega)] at h1
  exact h1
 ·have h1:=f h.regs (i) (by rw [hn]; exact hi)
  rw [hG i (by rw [hn]; exact hi)] at h1
  exact h1
 ·have ht':t<n:=by omega
  refine⟨(V t).b,(V t).c,h.capv t ht',f h.view (t) ht',fun j hj=>?_⟩
  rw [← hV t ht']
  exact f (h.vw t ht') j hj
 ·refine⟨Lb l,Lc l,by rw [← hN l hl]; exact (h.capl l hl).1,by rw [← hN l hl]; exact f h.list (l) hl,fun k hk=>?_⟩
  rw [← hN l hl] at hk
  have c0:=f (h.lb l hl) (k*3) (by omega)
  have c1:=f (h.lb l hl) (k*3+1) (by omega)
  have c2:=f (h.lb l hl) (k*3+2) (by omega)
  rw [mF0] at c0
  rw [mF1] at c1
  rw [mF2] at c2
  rw [← hM l hl k hk]
  exact⟨c0,c1,_,_,h.capm l hl k hk,c2,fun j hj=>f (h.mv l hl k hk) j hj⟩
end Own5
end Go.Proofs.YtojmofnamppbdaaGreat
namespace Go.Proofs.YtojmofnamppbdaaGreat
open Go.RowKit
set_option linter.unusedVariables false
set_option maxRecDepth 100000
def EmpI (B:Nat) (w:World) (v:Value):Prop:=∃ g,v=.slice (some ⟨g,0,none⟩) 0 0∧Own w g 3 #[]∧B≤g
def HasI (B:Nat) (xs:List Int) (w:World) (v:Value):Prop:=∃ A c,v=.slice A xs.length c∧RowI w B (.slice A xs.length c) xs
def HasB (B:Nat) (t:TypeId) (cs:Array Value) (w:World) (v:Value):Prop:=∃ g,v=.pointer (some ⟨g,0,none⟩)∧Own w g t cs∧B≤g
def ApV (v v':Value):Prop:=∀ b,blkV v=some b→blkV v'≠some b
theorem EmpI.nx {V:Nat} {w w':World} {v:Value} (hb:Nx w w') (h:EmpI V w v):EmpI V w' v:=by
 obtain⟨g,e,h,hg⟩:=h
 exact⟨g,e,h.under hb,hg⟩
theorem HasI.nx {B:Nat} {xs:List Int} {w w':World} {v:Value} (hb:Nx w w') (h:HasI B xs w v):HasI B xs w' v:=by
 obtain⟨A,c,e,h⟩:=h
 exact⟨A,c,e,RowOf.below h hb⟩
theorem HasB.nx {B:Nat} {t:TypeId} {cs:Array Value} {w w':World} {v:Value} (hb:Nx w w') (h:HasB B t cs w v):HasB B t cs w' v:=by
 obtain⟨g,e,h,hg⟩:=h
 exact⟨g,e,h.under hb,hg⟩
theorem EmpI.blk {V:Nat} {w:World} {v:Value} {b:Nat} (h:EmpI V w v) (hb:blkV v=some b):b<w.heap.size:=by
 obtain⟨g,rfl,h,_⟩:=h
 injection hb with hb
 subst hb
 exact h.lt
theorem HasI.blk {B:Nat} {xs:List Int} {w:World} {v:Value} {b:Nat} (h:HasI B xs w v) (hb:blkV v=some b):b<w.heap.size:=by
 obtain⟨A,c,rfl,h⟩:=h
 cases A with
 | none=>cases hb
 | some a=>
  obtain⟨cs,h2,_⟩:=id h
  rcases h2.2 with ⟨e,_⟩ | ⟨g,cap,cur,e,_⟩
  ·cases e
  ·injection e with e1
   injection e1 with e1
   subst e1
   exact (h.blk (g:=b) hb).2
theorem HasB.blk {B:Nat} {t:TypeId} {cs:Array Value} {w:World} {v:Value} {b:Nat} (h:HasB B t cs w v) (hb:blkV v=some b):b<w.heap.size:=by
 obtain⟨g,rfl,h,_⟩:=h
 injection hb with hb
 subst hb
 exact h.lt
theorem RowOf.kept {α:Type} {k:Nat} {Q:(Nat→Value)→α→Prop} {w:World} {base:Nat} {e:TypeId} {v:Value} {xs:List α} {p:Addr} {u:Value} (h:RowOf k Q w base e v xs) (hn:¬ v.ownBlock=some p.block):RowOf k Q (w.setCell p u) base e v xs:=
 h.of_block fun g _ hg _=>Go.Deep.blk_setCell_other _ _ _ _ (fun e=>hn (by rw [hg,e]))
theorem MvO.grown'' {F:List Nat} {a X w1:World} {row:Option Nat} (h:MvO F a X) (hg:X.grownBy w1 row) (hr:∀ g,row=some g→g∈F∨a.heap.size≤g):MvO F a w1:=
 ⟨(World.grownBy.os hg).trans h.os,(World.grownBy.tape hg).trans h.tape,(World.grownBy.output hg).trans h.output,Nat.le_trans h.size (World.grownBy.size hg),fun i hi hn=>(World.grownBy.block hg i (Nat.lt_of_lt_of_le hi h.size) fun e=>by
  rcases hr i e.symm with h | h
  ·exact hn h
  ·omega).trans (h.block i hi hn)⟩
def BoxI (B:Nat) (xs:List Int) (w:World) (v:Value):Prop:=∃ g u,v=.slice (some ⟨g,0,none⟩) 1 1∧Own w g 31 #[u]∧HasI B xs w u∧B≤g
theorem BoxI.nx {B:Nat} {xs:List Int} {w w':World} {v:Value} (hb:Nx w w') (h:BoxI B xs w v):BoxI B xs w' v:=by
 obtain⟨g,u,e,h,h1,h2⟩:=h
 exact⟨g,u,e,h.under hb,h1.nx hb,h2⟩
theorem BoxI.blk {B:Nat} {xs:List Int} {w:World} {v:Value} {b:Nat} (h:BoxI B xs w v) (hb:blkV v=some b):b<w.heap.size:=by
 obtain⟨g,u,rfl,h,_⟩:=h
 injection hb with hb
 subst hb
 exact h.lt
theorem Tryz.infoInts5:(Tryz.prog.info? 31).map (fun i=>(i.zero,i.size,i.bytes))=some (some (.slice none 0 0),1,24):=by kernel_rfl
theorem Tryz.infoMsg5:(Tryz.prog.info? 137).map (fun i=>(i.zero,i.size,i.bytes))=some (some (.agg #[.int .i64 0,.bool false,.slice none 0 0]),3,40):=by kernel_rfl
theorem Tryz.infoMsgs5:(Tryz.prog.info? 138).map (fun i=>(i.zero,i.size,i.bytes))=some (some (.slice none 0 0),1,24):=by kernel_rfl
def z5:Array Value:=#[.slice none 0 0,.slice none 0 0,.slice none 0 0,.slice none 0 0]
def TC5 (B V:Nat) (A1 A2:Option Addr) (c1 c2:Nat) (xs ys:List Int) (d:Nat) (w:World) (v:Value):Prop:=
 match d with
 | 9=>EmpI V w v
 | 10=>v=.pointer (some ⟨B,0,none⟩)
 | 11=>v=.slice A1 xs.length c1
 | 12=>HasI V xs w v
 | 13=>EmpI V w v
 | 14=>v=.pointer (some ⟨B,1,none⟩)
 | 15=>v=.slice A2 ys.length c2
 | 16=>HasI V ys w v
 | 17=>∃ v1 v2,v=.agg #[v1,v2,.slice none 0 0,.slice none 0 0]∧HasI V xs w v1∧HasI V ys w v2∧ApV v1 v2
 | 3=>HasB V 73 #[.slice none 0 0,.slice none 0 0,.slice none 0 0,.slice none 0 0] w v
 | _=>True
def clC5 (d:Nat):Nat:=
 match d with
 | 9=>1 | 12=>1 | 13=>2 | 16=>2 | 3=>3 | _=>0
theorem tc5_nx {B V:Nat} {A1 A2:Option Addr} {c1 c2:Nat} {xs ys:List Int}:∀ d w w' v,Nx w w'→TC5 B V A1 A2 c1 c2 xs ys d w v→TC5 B V A1 A2 c1 c2 xs ys d w' v:=fun d w w' v hb h=>by
 unfold TC5 at h ⊢
 split at h <;> first | exact h | exact HasI.nx hb h | exact EmpI.nx hb h | exact HasB.nx hb h | (obtain⟨v1,v2,e,h1,h2,h4⟩:=h; exact⟨v1,v2,e,h1.nx hb,h2.nx hb,h4⟩) | trivial
theorem tc5_blk {B V:Nat} {A1 A2:Option Addr} {c1 c2:Nat} {xs ys:List Int}:∀ d w v b,TC5 B V A1 A2 c1 c2 xs ys d w v→clC5 d≠0→blkV v=some b→b<w.heap.size:=fun d w v b h hc hb=>by
 unfold TC5 at h
 split at h <;> first | exact HasI.blk h hb | exact EmpI.blk h hb | exact HasB.blk h hb | exact absurd rfl hc | (exfalso; revert hc; unfold clC5; split <;> simp_all)
def TQ5 (B V T:Nat) (vr:Value) (A4:Option Addr) (n4 c4 i:Nat) (pj:Value) (Aj:Option Addr) (cj:Nat) (rj:List Int) (d:Nat) (w:World) (v:Value):Prop:=
 match d with
 | 25=>v=.pointer (some ⟨T,2,none⟩)
 | 26=>v=vr
 | 27=>EmpI V w v
 | 28=>v=.pointer (some ⟨B,2,none⟩)
 | 29=>v=.slice A4 n4 c4
 | 30=>v=.int .i64 i
 | 31=>v=pj
 | 32=>v=.slice Aj rj.length cj
 | 33=>HasI V rj w v
 | 34=>BoxI V rj w v
 | _=>True
def clQ5 (d:Nat):Nat:=
 match d with
 | 27=>1 | 33=>1 | 34=>2 | _=>0
theorem tq5_nx {B V T:Nat} {vr:Value} {A4:Option Addr} {n4 c4 i:Nat} {pj:Value} {Aj:Option Addr} {cj:Nat} {rj:List Int}:∀ d w w' v,Nx w w'→TQ5 B V T vr A4 n4 c4 i pj Aj cj rj d w v→TQ5 B V T vr A4 n4 c4 i pj Aj cj rj d w' v:=fun d w w' v hb h=>by
 unfold TQ5 at h ⊢
 split at h <;> first | exact h | exact HasI.nx hb h | exact EmpI.nx hb h | exact BoxI.nx hb h | trivial
theorem tq5_blk {B V T:Nat} {vr:Value} {A4:Option Addr} {n4 c4 i:Nat} {pj:Value} {Aj:Option Addr} {cj:Nat} {rj:List Int}:∀ d w v b,TQ5 B V T vr A4 n4 c4 i pj Aj cj rj d w v→clQ5 d≠0→blkV v=some b→b<w.heap.size:=fun d w v b h hc hb=>by
 unfold TQ5 at h
 split at h <;> first | exact HasI.blk h hb | exact EmpI.blk h hb | exact BoxI.blk h hb | exact absurd rfl hc | (exfalso; revert hc; unfold clQ5; split <;> simp_all)
def QSv (cs:Nat→Value) (x:Nat×Nat):Prop:=cs 0=.slice (some ⟨x.1,0,none⟩) 3 x.2
theorem qsv_congr:∀ (f g:Nat→Value) (x:Nat×Nat),(∀ j,j<1→f j=g j)→QSv f x→QSv g x:=fun f g x h hq=>(h 0 (by omega)).symm.trans hq
def QSl (cs:Nat→Value) (x:Nat×Nat×Nat):Prop:=cs 0=.slice (some ⟨x.1,0,none⟩) x.2.1 x.2.2
theorem qsl_congr:∀ (f g:Nat→Value) (x:Nat×Nat×Nat),(∀ j,j<1→f j=g j)→QSl f x→QSl g x:=fun f g x h hq=>(h 0 (by omega)).symm.trans hq
def QMs (cs:Nat→Value) (x:M5):Prop:=cs 0=.int .i64 x.m.val∧cs 1=.bool x.m.lock∧cs 2=.slice (some ⟨x.b,0,none⟩) 3 x.c
theorem qms_congr:∀ (f g:Nat→Value) (x:M5),(∀ j,j<3→f j=g j)→QMs f x→QMs g x:=fun f g x h ⟨h0,h1,h2⟩=>⟨(h 0 (by omega)).symm.trans h0,(h 1 (by omega)).symm.trans h1,(h 2 (by omega)).symm.trans h2⟩
theorem View3.ints {W:World} {b c:Nat} {v:List Nat} (h:View3 W b v):Ints W (some ⟨b,0,none⟩) c (vw3 v):=Ints.mk (by rw [vw3_len]; omega) fun i hi=>by
 rw [vw3_len] at hi
 rw [Nat.zero_add,h i hi]
 simp [vw3]
theorem RowI.view {w:World} {base:Nat} {A:Option Addr} {n c:Nat} {v:List Nat} (h:RowI w base (.slice A n c) (vw3 v)):∃ g,A=some ⟨g,0,none⟩∧n=3∧3≤c∧CelW w base g 3 3 (vF v):=by
 obtain⟨g,F,h1,h2,h3,h4,_,h5⟩:=RowOf.celW h (by rw [vw3_len]; omega)
 rw [vw3_len] at h2 h4
 refine⟨g,h1,h2,by omega,h4.congr fun j hj=>?_⟩
 have:=h5 j (by rw [vw3_len]; exact hj)
 have h6:(if j*1+0<(vw3 v).length*1 then F (j*1+0) else undef)=.int .i64 ((vw3 v)[j]'(by rw [vw3_len]; exact hj)):=this
 rw [if_pos (by rw [vw3_len]; omega),Nat.mul_one,Nat.add_zero] at h6
 rw [h6]
 unfold vF
 simp [vw3]
theorem RowI.celF {w:World} {base:Nat} {A:Option Addr} {n c:Nat} {xs:List Int} (h:RowI w base (.slice A n c) xs) (hpos:0<xs.length):∃ g,A=some ⟨g,0,none⟩∧CelW w base g 3 xs.length (fun j=>.int .i64 (xs.getD j 0))∧(Value.slice A n c).ownBlock=some g:=by
 obtain⟨g,F,h1,h2,h3,h4,hob,h5⟩:=RowOf.celW h hpos
 rw [Nat.mul_one] at h4
 refine⟨g,h1,h4.congr fun j hj=>?_,hob⟩
 have h6:(if j*1+0<xs.length*1 then F (j*1+0) else undef)=.int .i64 (xs[j]'hj):=h5 j hj
 rw [if_pos (by omega),Nat.mul_one,Nat.add_zero] at h6
 rw [h6,List.getD_eq_getElem?_getD,List.getElem?_eq_getElem hj]
 rfl
theorem CelW.ne_row {w:World} {base B b k n m:Nat} {ty e:TypeId} {F:Nat→Value} {v:Value} {cs:List Value} (h:CelW w base b ty m F) (ho:w.ownsRow B e k v n cs) (hne:ty≠e):¬ v.ownBlock=some b:=fun hb=>by
 rcases ho.2 with ⟨e',_⟩ | ⟨g,cap,cur,e',_,hg,_⟩
 ·rw [e'] at hb; cases hb
 ·rw [e'] at hb
  injection hb with hb
  exact h.ne_own (T:=g) hg hne hb.symm
theorem RowOf.celR {α:Type} {k:Nat} {Q:(Nat→Value)→α→Prop} {w:World} {base:Nat} {e:TypeId} {A:Option Addr} {n c m:Nat} {f:Nat→α} (G:Nat→Value) (h:RowOf k Q w base e (.slice A n c) ((List.range m).map f)) (hpos:0<m) (hk:0<k) (hQ:∀ cs i,i<m→Q cs (f i)→∀ j,j<k→cs j=G (i*k+j)):
  ∃ g,A=some ⟨g,0,none⟩∧n=m∧n≤c∧c≤9223372036854775807∧CelW w base g e (m*k) G∧(Value.slice A n c).ownBlock=some g:=by
 have hll:((List.range m).map f).length=m:=by simp
 have hcm:c≤9223372036854775807:=by
  obtain⟨cs,h1,_⟩:=id h
  rcases h1.2 with ⟨e',_⟩ | ⟨g,cap,cur,e',_,_,hn,hc,_⟩
  ·injection e' with _ _ e3; omega
  ·injection e' with _ _ e3; rw [e3]; exact hc
 obtain⟨g,F,h1,h2,h3,h4,hob,h5⟩:=RowOf.celW h (by rw [hll]; exact hpos)
 rw [hll] at h2 h4
 refine⟨g,h1,h2,h3,hcm,h4.congr fun j hj=>?_,hob⟩
 have hd:j / k<m:=by rw [Nat.div_lt_iff_lt_mul hk]; exact hj
 have h6:=h5 (j / k) (by rw [hll]; exact hd)
 have e6:((List.range m).map f)[j / k]'(by rw [hll]; exact hd)=f (j / k):=by simp
 rw [e6] at h6
 have h7:=hQ _ _ hd h6 (j % k) (Nat.mod_lt _ hk)
 have e7:j / k*k+j % k=j:=by rw [Nat.mul_comm]; exact Nat.div_add_mod j k
 simp only [e7,hll] at h7
 rw [if_pos hj] at h7
 exact h7
def RetOw5 (W:World) (p:Prg) (s:VSt) (e:Ending) (W':World):Prop:=∃ q V N Lb Lc M κ,e=.returned (v5 q p.length)∧Own5 W' W.heap.size q p.length (fun t=>pcS s.s t) (fun i=>s.s.regs.getD i 0) V N Lb Lc M κ
 ∧ (∀ t,t<p.length→(V t).v=ownV s t)∧(∀ l,l<3→N l=(lstV s l).length)∧(∀ l,l<3→∀ k,k<N l→(M l k).m=gM (lstV s l) k)∧Below W.heap.size W W'
theorem pcs_get {p:Prg} {s:VSt} (hs:VOk p s) {i:Nat}:(s.s.pc.map fun n=>((n:Nat):Int)).getD i 0=((pcS s.s i:Nat):Int):=by
 unfold pcS
 simp only [List.getD_eq_getElem?_getD,List.getElem?_map]
 cases s.s.pc[i]? <;> rfl
theorem Rep5.atI {W:World} {q:L5} {p:Prg} {s:VSt} (hp:PrgOk p) (hs:VOk p s) (h:Rep5 W q p s):Ints W (some ⟨q.b1,0,none⟩) q.c1 (s.s.pc.map fun n=>((n:Nat):Int)):=
 Ints.mk (by rw [List.length_map,hs.ok.pcl]; have:=hp.1.1; omega) fun i hi=>by
  have hi':i<p.length:=by rw [List.length_map,hs.ok.pcl] at hi; exact hi
  have h1:=h.at_ i hi'
  rw [Nat.zero_add,h1,← pcs_get hs,List.getD_eq_getElem?_getD,List.getElem?_eq_getElem hi]
  rfl
def LF5 (w:World) (base:Nat) (s:VSt) (l b c:Nat) (M:Nat→M5) (κ:Nat→Nat):Prop:=CelW w base b 137 ((lstV s l).length*3) (mF M)∧(lstV s l).length≤c∧c≤9223372036854775807∧κ b=20+2*l
 ∧ ∀ k,k<(lstV s l).length→CelW w base (M k).b 3 3 (vF (gM (lstV s l) k).view)∧(M k).m=gM (lstV s l) k∧3≤(M k).c∧κ (M k).b=11+2*(l+3*k)
set_option maxHeartbeats 8000000 in
theorem l5Copy_any (p:Prg) (hp:PrgOk p) (s:VSt) (hs:VOk p s) (W:World) (q:L5) (hr:Rep5 W q p s):
  Calls Tryz.prog 114 #[v5 q p.length] W (RetOw5 W p s):=by
 obtain⟨i0,hi0,hz0,hz1,hz2⟩:=info_parts Tryz.infoInt
 obtain⟨i1,hi1,hy0,hy1,hy2⟩:=info_parts Tryz.infoInts5
 obtain⟨i2,hi2,hx0,hx1,hx2⟩:=info_parts Tryz.infoMsg5
 obtain⟨i3,hi3,hu0,hu1,hu2⟩:=info_parts Tryz.infoMsgs5
 have h3:=hp.1.1
 have hpp:=hp.2.1
 have HN:Hid (∀ l,l<3→0<(lstV s l).length∧(lstV s l).length≤13):=fun l hl=>lens_le hp hs hl
 obtain⟨xs,hxs⟩:∃ xs,xs=s.s.pc.map fun n=>((n:Nat):Int):=⟨_,rfl⟩
 obtain⟨ys,hys⟩:∃ ys,ys=s.s.regs:=⟨_,rfl⟩
 have hxl:xs.length=p.length:=by rw [hxs,List.length_map,hs.ok.pcl]
 have hyl:ys.length=p.length*3:=by rw [hys,hs.ok.regl]
 have hI1:=Rep5.atI hp hs hr
 have hI2:=Rep5.regsI hp hs hr
 have Hxg:Hid (∀ i,xs.getD i 0=((pcS s.s i:Nat):Int)):=fun i=>by rw [hxs]; exact pcs_get hs
 have Hyg:Hid (∀ i,ys.getD i 0=s.s.regs.getD i 0):=fun i=>by rw [hys]
 rw [← hxs] at hI1
 rw [← hys] at hI2
 have R3:=Lib.hid hr.view
 have R4:=Lib.hid hr.list
 unfold v5 v5C
 rw [← hyl]
 have Hfin:Hid (∀ e W',(∃ q V N Lb Lc M κ,e=.returned (v5 q p.length)∧Own5 W' W.heap.size q p.length (fun t=>pcS s.s t) (fun i=>s.s.regs.getD i 0) V N Lb Lc M κ
  ∧ (∀ t,t<p.length→(V t).v=ownV s t)∧(∀ l,l<3→N l=(lstV s l).length)∧(∀ l,l<3→∀ k,k<N l→(M l k).m=gM (lstV s l) k)∧Below W.heap.size W W')→RetOw5 W p s e W'):=fun e W' h=>h
 have hxn:p.length=xs.length:=hxl.symm
 generalize hgb1:q.b1=b1 at *
 generalize hgb2:q.b2=b2 at *
 generalize hgb3:q.b3=b3 at *
 generalize hgb4:q.b4=b4 at *
 generalize hgc1:q.c1=c1 at *
 generalize hgc2:q.c2=c2 at *
 generalize hgc3:q.c3=c3 at *
 generalize hgc4:q.c4=c4 at *
 have Hyl:=Lib.hid hyl
 have hyl9:ys.length≤9:=by omega
 clear hxs hys hr hxl hyl hgb1 hgb2 hgb3 hgb4 hgc1 hgc2 hgc3 hgc4
 rw [show (Value.slice (some ⟨b1,0,none⟩) p.length c1)=.slice (some ⟨b1,0,none⟩) xs.length c1 by rw [hxn]]
 have Hxn:=Lib.hid hxn
 have hxl3:xs.length≤3:=by omega
 clear hxn
 obtain⟨V,hV⟩:∃ V,V=(W.alloc (.cells #[.slice (some ⟨b1,0,none⟩) xs.length c1,.slice (some ⟨b2,0,none⟩) ys.length c2,.slice (some ⟨b3,0,none⟩) p.length c3,.slice (some ⟨b4,0,none⟩) 3 c4] 73)).alloc (.cells #[.slice none 0 0,.slice none 0 0,.slice none 0 0,.slice none 0 0] 73):=⟨_,rfl⟩
 have hB:Below W.heap.size W V:=by rw [hV]; exact ((Below.refl _ _).alloc (Nat.le_refl _) _).alloc (by simp) _
 have oX:Own V W.heap.size 73 #[.slice (some ⟨b1,0,none⟩) xs.length c1,.slice (some ⟨b2,0,none⟩) ys.length c2,.slice (some ⟨b3,0,none⟩) p.length c3,.slice (some ⟨b4,0,none⟩) 3 c4]:=by rw [hV]; exact (Own.new _ _ _).alloc _
 have hWV:W.heap.size<V.heap.size:=oX.lt
 have hVs:V.heap.size=W.heap.size+2:=by rw [hV]; simp
 have oR:Own V (W.heap.size+1) 73 #[.slice none 0 0,.slice none 0 0,.slice none 0 0,.slice none 0 0]:=by rw [hV]; simpa using Own.new (W.alloc (.cells #[.slice (some ⟨b1,0,none⟩) xs.length c1,.slice (some ⟨b2,0,none⟩) ys.length c2,.slice (some ⟨b3,0,none⟩) p.length c3,.slice (some ⟨b4,0,none⟩) 3 c4] 73)) 73 #[.slice none 0 0,.slice none 0 0,.slice none 0 0,.slice none 0 0]
 have HO:=Lib.hid (And.intro oX (And.intro oR hVs))
 clear hVs oR
 have HF:Hid (∀ U,Nx V.drew U→(U.cell? ⟨W.heap.size,0,none⟩=some (.slice (some ⟨b1,0,none⟩) xs.length c1)∧U.cell? ⟨W.heap.size,1,none⟩=some (.slice (some ⟨b2,0,none⟩) ys.length c2))∧Ints U (some ⟨b1,0,none⟩) c1 xs∧Ints U (some ⟨b2,0,none⟩) c2 ys):=
  fun U hb'=>by
   have hb:Below V.heap.size V U:=(Below.refl V.heap.size V).drew.trans hb'
   exact⟨⟨Le.below hb _ _ (oX.cell (i:=0) rfl),Le.below hb _ _ (oX.cell (i:=1) rfl)⟩,hI1.le ((Le.below hB).trans (Le.below hb)),hI2.le ((Le.below hB).trans (Le.below hb))⟩
 clear hI1 hI2
 go_enter Tryz.func114,Tryz.ntmps114
 go_upto_region 1 with (fail)
 rw [← hV]
 clear hV
 refine wp_region_rel [0,1,2,3,4,5,6,7,8,9] [10] (TC5 W.heap.size V.heap.size (some ⟨b1,0,none⟩) (some ⟨b2,0,none⟩) c1 c2 xs ys) clC5 [9,10,11,12,13,14,15,16,17,3] (by kernel_rfl) (by kernel_rfl) rfl (by simp) tc5_nx tc5_blk ?_ ?_
 ·refine⟨?_,?_,?_,?_,?_,?_,?_,?_,?_,?_,trivial⟩
  all_goals (intro us w hw hdep hsep; have hVw:V.heap.size≤w.heap.size:=Nx.sz hw; simp only [shpA,fillL,List.contains_cons,List.contains_nil,Nat.reduceAdd,Nat.reduceBEq,Bool.or_false,Bool.or_true,Bool.false_eq_true,↓reduceIte])
  ·go_wp2_with fail
   exact RelPost.own ((Below.refl _ _).alloc (Nat.le_refl _) _) _ rfl ⟨w.heap.size,rfl,Own.new w _ _,hVw⟩ (fun b hb=>.inl (by injection hb with hb; simp only at hb; omega))
  ·go_wp2_with fail
   exact RelPost.mk (Nx.refl _) _ rfl rfl rfl
  ·have e1:us 10=.pointer (some ⟨W.heap.size,0,none⟩):=hdep 10 (List.mem_of_elem_eq_true (by kernel_rfl))
   have q:=(HF.out w hw).1.1
   rw [e1]
   go_wp2_with fail
   exact RelPost.mk (Nx.refl _) _ rfl rfl rfl
  ·obtain⟨g,e1,o1,hg1⟩:EmpI V.heap.size w (us 9):=hdep 9 (List.mem_of_elem_eq_true (by kernel_rfl))
   have e2:us 11=.slice (some ⟨b1,0,none⟩) xs.length c1:=hdep 11 (List.mem_of_elem_eq_true (by kernel_rfl))
   have hr:=(HF.out w hw).2.1
   have e3:=e1
   rw [e1,e2]
   go_wp2_with (at_builtin; refine wpList_append_emp (o:=⟨some 12,_,_,_,_,_⟩) (by rfl) _ _ _ (by rfl) qint_congr (R:=RInt) V.heap.size 3 i0 _ 8 Tryz.underlying31 hi0 hz0 hz1 hz2 rfl (by omega) g (by rfl) o1 hg1 (some ⟨b1,0,none⟩) c1 xs (by rfl) hr (fun cs y h=>h) qint_one (by simp [maxLen]; omega) (by omega) ?_; intro A' c' w' hrow hnx hbk)
   exact RelPost.own hnx _ rfl ⟨A',c',rfl,hrow⟩ (fun b hb=>by
    rcases hbk b hb with h | h
    ·exact .inr ⟨9,(List.mem_of_elem_eq_true (by kernel_rfl)),rfl,by rw [e3,h]; rfl⟩
    ·exact .inl h)
  ·go_wp2_with fail
   exact RelPost.own ((Below.refl _ _).alloc (Nat.le_refl _) _) _ rfl ⟨w.heap.size,rfl,Own.new w _ _,hVw⟩ (fun b hb=>.inl (by injection hb with hb; simp only at hb; omega))
  ·go_wp2_with fail
   exact RelPost.mk (Nx.refl _) _ rfl rfl rfl
  ·have e1:us 14=.pointer (some ⟨W.heap.size,1,none⟩):=hdep 14 (List.mem_of_elem_eq_true (by kernel_rfl))
   have q:=(HF.out w hw).1.2
   rw [e1]
   go_wp2_with fail
   exact RelPost.mk (Nx.refl _) _ rfl rfl rfl
  ·obtain⟨g,e1,o1,hg1⟩:EmpI V.heap.size w (us 13):=hdep 13 (List.mem_of_elem_eq_true (by kernel_rfl))
   have e2:us 15=.slice (some ⟨b2,0,none⟩) ys.length c2:=hdep 15 (List.mem_of_elem_eq_true (by kernel_rfl))
   have hr:=(HF.out w hw).2.2
   have e3:=e1
   rw [e1,e2]
   go_wp2_with (at_builtin; refine wpList_append_emp (o:=⟨some 16,_,_,_,_,_⟩) (by rfl) _ _ _ (by rfl) qint_congr (R:=RInt) V.heap.size 3 i0 _ 8 Tryz.underlying31 hi0 hz0 hz1 hz2 rfl (by omega) g (by rfl) o1 hg1 (some ⟨b2,0,none⟩) c2 ys (by rfl) hr (fun cs y h=>h) qint_one (by simp [maxLen]; omega) (by omega) ?_; intro A' c' w' hrow hnx hbk)
   exact RelPost.own hnx _ rfl ⟨A',c',rfl,hrow⟩ (fun b hb=>by
    rcases hbk b hb with h | h
    ·exact .inr ⟨13,(List.mem_of_elem_eq_true (by kernel_rfl)),rfl,by rw [e3,h]; rfl⟩
    ·exact .inl h)
  ·obtain⟨A8,c8,e8,r8⟩:HasI V.heap.size xs w (us 12):=hdep 12 (List.mem_of_elem_eq_true (by kernel_rfl))
   obtain⟨A12,c12,e12,r12⟩:HasI V.heap.size ys w (us 16):=hdep 16 (List.mem_of_elem_eq_true (by kernel_rfl))
   have hs1:ApV (us 12) (us 16):=hsep 12 (List.mem_of_elem_eq_true (by kernel_rfl)) 16 (List.mem_of_elem_eq_true (by kernel_rfl)) (by decide) (by decide) (by decide)
   rw [e8,e12] at hs1
   rw [e8,e12]
   go_wp2_with fail
   exact RelPost.mk (Nx.refl _) _ rfl ⟨_,_,rfl,⟨A8,c8,rfl,r8⟩,⟨A12,c12,rfl,r12⟩,hs1⟩ rfl
  ·go_wp2_with fail
   exact RelPost.own ((Below.refl _ _).alloc (Nat.le_refl _) _) _ rfl ⟨w.heap.size,rfl,Own.new w _ _,hVw⟩ (fun b hb=>.inl (by injection hb with hb; simp only at hb; omega))
 ·intro us w5 hw5 hT hsep
  obtain⟨T,eT,oT,hT0⟩:HasB V.heap.size 73 #[.slice none 0 0,.slice none 0 0,.slice none 0 0,.slice none 0 0] w5 (us 3):=hT 3 (List.mem_of_elem_eq_true (by kernel_rfl))
  obtain⟨v1,v2,e17,⟨A8,c8,rfl,r8⟩,⟨A12,c12,rfl,r12⟩,hs1⟩:∃ v1 v2,us 17=.agg #[v1,v2,.slice none 0 0,.slice none 0 0]∧HasI V.heap.size xs w5 v1∧HasI V.heap.size ys w5 v2∧ApV v1 v2:=hT 17 (List.mem_of_elem_eq_true (by kernel_rfl))
  show wpList _ _ _ [_] _ _
  simp only [shpA,fillL,List.contains_cons,List.contains_nil,Nat.reduceAdd,Nat.reduceBEq,Bool.or_false,Bool.or_true,Bool.false_eq_true,↓reduceIte]
  rw [eT,e17]
  have hB5:Below V.heap.size V w5:=(Below.refl V.heap.size V).drew.trans hw5
  have hVs:=HO.out.2.2
  have hnT:∀ p:Nat,T≠W.heap.size∧T≠W.heap.size+1:=fun _=>⟨by omega,by omega⟩
  obtain⟨g1,rfl,k8,ob8⟩:=RowI.celF r8 (by have:=Hxn.out; omega)
  obtain⟨g2,rfl,k12,ob12⟩:=RowI.celF r12 (by have:=Hyl.out; omega)
  have hg12:g1≠g2:=fun e=>hs1 g1 rfl (by rw [e]; rfl)
  have y0:=oT.frozen 0
  have y1:=oT.frozen 1
  have y2:=oT.frozen 2
  have y3:=oT.frozen 3
  have z0:=oT.cell (i:=0) rfl
  have z1:=oT.cell (i:=1) rfl
  have z2:=oT.cell (i:=2) rfl
  have z3:=oT.cell (i:=3) rfl
  obtain⟨w3,hw3⟩:∃ w3,w3=(((w5.setCell ⟨T,0,none⟩ (.slice (some ⟨g1,0,none⟩) xs.length c8)).setCell ⟨T,1,none⟩ (.slice (some ⟨g2,0,none⟩) ys.length c12)).setCell ⟨T,2,none⟩ (.slice none 0 0)).setCell ⟨T,3,none⟩ (.slice none 0 0):=⟨_,rfl⟩
  have hs3:w3.heap.size=w5.heap.size:=by rw [hw3]; simp
  have oT3:Own w3 T 73 #[.slice (some ⟨g1,0,none⟩) xs.length c8,.slice (some ⟨g2,0,none⟩) ys.length c12,.slice none 0 0,.slice none 0 0]:=by
   rw [hw3]
   exact (((oT.set 0 (.slice (some ⟨g1,0,none⟩) xs.length c8)).set 1 (.slice (some ⟨g2,0,none⟩) ys.length c12)).set 2 (.slice none 0 0)).set 3 (.slice none 0 0)
  have hfar:∀ b,b≠T→w3.heap[b]?=w5.heap[b]?:=fun b hb=>by
   rw [hw3]
   rw [Go.Deep.blk_setCell_other _ _ _ _ hb,Go.Deep.blk_setCell_other _ _ _ _ hb,Go.Deep.blk_setCell_other _ _ _ _ hb,Go.Deep.blk_setCell_other _ _ _ _ hb]
  have hB3:Below V.heap.size V w3:=⟨(by rw [hw3]; exact hB5.os),(by rw [hw3]; exact hB5.tape),(by rw [hw3]; exact hB5.output),(by rw [hs3]; exact hB5.size),fun i hi=>(hfar i (by omega)).trans (hB5.block i hi)⟩
  have K8:Hid (CelW w3 W.heap.size g1 3 xs.length (fun j=>.int .i64 (xs.getD j 0))):=(k8.of_block (hfar _ (k8.ne_own oT (by decide)))).rebase (by omega)
  have K12:Hid (CelW w3 W.heap.size g2 3 ys.length (fun j=>.int .i64 (ys.getD j 0))):=(k12.of_block (hfar _ (k12.ne_own oT (by decide)))).rebase (by omega)
  have hTl:T<w3.heap.size:=oT3.lt
  have oX3:Own w3 W.heap.size _ _:=HO.out.1.under hB3
  have oR3:Own w3 (W.heap.size+1) _ _:=HO.out.2.1.under hB3
  have OX:=Lib.hid oX3
  have OR:=Lib.hid oR3
  have OT:=Lib.hid oT3
  have Hg:=Lib.hid hg12
  have HB3:Hid (Below W.heap.size W w3):=hB.trans (hB3.mono hB.size)
  have hT1:W.heap.size+1<T:=by omega
  have Hg1:=Lib.hid (And.intro K8.out.lt K12.out.lt)
  have HTg:=Lib.hid (And.intro (K8.out.ne_own oT3 (by decide)) (K12.out.ne_own oT3 (by decide)))
  go_upto_region 2 with (fail)
  rw [← hw3]
  clear e17 eT r8 r12 hT hsep hs1 oT z0 z1 z2 z3 y0 y1 y2 y3 hfar hw3 hw5 hB5 hnT HF k8 k12 ob8 ob12 hg12 oT3 oX3 oR3
  generalize us 9=y9x
  generalize us 10=y10x
  generalize us 11=y11x
  generalize us 12=y12x
  generalize us 13=y13x
  generalize us 14=y14x
  generalize us 15=y15x
  generalize us 16=y16x
  obtain⟨K,hK⟩:∃ K,K=w3.heap.size:=⟨_,rfl⟩
  have HK:=Lib.hid hK
  have hTK:T<K:=by omega
  have hKW:W.heap.size≤K:=by have:=HB3.out.size; omega
  clear hK hs3
  go_wp2_with fail
  go_loopg [4] p.length (fun g s4 wr=>∃ (i:Nat) (v:Value) (Vf:Nat→V5) (κ:Nat→Nat),i≤p.length∧g=p.length-i∧s4=.int .i64 i∧Hid (RowOf 1 QSv wr K 31 v ((List.range i).map fun t=>((Vf t).b,(Vf t).c)))∧Hid (Own wr T 73 #[.slice (some ⟨g1,0,none⟩) xs.length c8,.slice (some ⟨g2,0,none⟩) ys.length c12,v,.slice none 0 0])∧Hid (MvO [T] w3 wr)∧Hid (∀ t,t<i→CelW wr K (Vf t).b 3 3 (vF (ownV s t))∧(Vf t).v=ownV s t∧3≤(Vf t).c∧κ (Vf t).b=10+2*t))
  case atStart=>exact⟨0,_,fun _=>⟨[],0,0⟩,fun _=>0,Nat.zero_le _,rfl,rfl,RowOf.nil 1 _ _ _ _,OT.out,MvO.refl _ _,fun t ht=>absurd ht (Nat.not_lt_zero _)⟩
  case round=>
   obtain⟨wo,rfl⟩:∃ wo:World,wo=wr:=⟨_,rfl⟩
   obtain⟨i,v,Vf,κ,hi,rfl,rfl,hrow,hoT,hmv,hvs⟩:=hrel
   have hsz:=hmv.out.size
   have r1:=hmv.out.cell (OX.out.cell (i:=2) rfl) (by simp; omega)
   by_cases hlt:i<p.length
   ·obtain⟨bj,cj,_,j0,hrj⟩:=R3.out i hlt
    have hleW:Le W wo:=fun x u hx=>by
     have hl:=World.block_lt_of_cell? _ _ hx
     exact hmv.out.cell (Le.below HB3.out _ _ hx) (by simp; omega)
    have hilt:(i:Int)<(p.length:Int):=by omega
    have HF:Hid (∀ U,Nx wo.drew U→U.cell? ⟨T,2,none⟩=some v∧U.cell? ⟨W.heap.size,2,none⟩=some (.slice (some ⟨b3,0,none⟩) p.length c3)∧U.cell? ⟨b3,i,none⟩=some (.slice (some ⟨bj,0,none⟩) (vw3 (ownV s i)).length cj)∧Ints U (some ⟨bj,0,none⟩) cj (vw3 (ownV s i))):=fun U hU=>by
     have hb:Below wo.heap.size wo U:=(Below.refl wo.heap.size wo).drew.trans hU
     exact⟨Le.below hb _ _ (hoT.out.cell (i:=2) rfl),Le.below hb _ _ r1,by rw [vw3_len]; exact Le.below hb _ _ (hleW _ _ j0),(hrj.ints).le (hleW.trans (Le.below hb))⟩
    have Hrl:Hid ((vw3 (ownV s i)).length=3):=vw3_len _
    have Hvi:Hid (∀ (w:World) (base:Nat) (A:Option Addr) (n c:Nat),RowI w base (.slice A n c) (vw3 (ownV s i))→∃ g,A=some ⟨g,0,none⟩∧n=3∧3≤c∧CelW w base g 3 3 (vF (ownV s i))):=fun w base A n c h=>RowI.view h
    generalize vw3 (ownV s i)=rj at HF Hrl Hvi
    clear j0 hrj hleW
    have hle0:((List.range i).map fun t=>((Vf t).b,(Vf t).c)).length=i:=by simp
    have Htk:Hid (∀ g c,(List.range (i+1)).map (fun t=>((if t=i then (⟨ownV s i,g,c⟩:V5) else Vf t).b,(if t=i then (⟨ownV s i,g,c⟩:V5) else Vf t).c))=((List.range i).map fun t=>((Vf t).b,(Vf t).c))++[(g,c)]):=fun g c=>by
     rw [map_next,if_pos rfl]
     congr 1
     refine List.map_congr_left fun t ht=>?_
     have:=List.mem_range.1 ht
     rw [if_neg (by omega)]
    obtain⟨Av,nv,cv,rfl,hAv⟩:∃ A n c,v=.slice A n c∧n=i:=by
     obtain⟨A,c,e,_,_⟩:=RowOf.slice hrow.out
     exact⟨A,_,c,e,hle0⟩
    subst hAv
    generalize ((List.range nv).map fun t=>((Vf t).b,(Vf t).c))=xs0 at hrow hle0 Htk
    have hTl':=hoT.out.lt
    have Hl0:=Lib.hid hle0
    have hl3:rj.length≤3:=by have:=Hrl.out; omega
    clear hle0
    go_upto_region 5 with (fail)
    clear r1
    refine wp_region_rel [0,1,2,3,4,5,6,7,8,9] [10,11,12] (TQ5 W.heap.size wo.heap.size T (.slice Av nv cv) (some ⟨b3,0,none⟩) p.length c3 nv (.pointer (some ⟨b3,nv,none⟩)) (some ⟨bj,0,none⟩) cj rj) clQ5 [25,26,27,28,29,30,31,32,33,34] (by kernel_rfl) (by kernel_rfl) rfl (by simp) tq5_nx tq5_blk ?_ ?_
    ·refine⟨?_,?_,?_,?_,?_,?_,?_,?_,?_,?_,trivial⟩
     all_goals (intro us w hw hdep hsep; have hVw:wo.heap.size≤w.heap.size:=Nx.sz hw; simp only [shpA,fillL,List.contains_cons,List.contains_nil,Nat.reduceAdd,Nat.reduceBEq,Bool.or_false,Bool.or_true,Bool.false_eq_true,↓reduceIte])
     ·go_wp2_with fail
      exact RelPost.mk (Nx.refl _) _ rfl rfl rfl
     ·have e1:us 25=.pointer (some ⟨T,2,none⟩):=hdep 25 (List.mem_of_elem_eq_true (by kernel_rfl))
      have q:=(HF.out w hw).1
      rw [e1]
      go_wp2_with fail
      exact RelPost.mk (Nx.refl _) _ rfl rfl rfl
     ·go_wp2_with fail
      exact RelPost.own ((Below.refl _ _).alloc (Nat.le_refl _) _) _ rfl ⟨w.heap.size,rfl,Own.new w _ _,hVw⟩ (fun b hb=>.inl (by injection hb with hb; simp only at hb; omega))
     ·go_wp2_with fail
      exact RelPost.mk (Nx.refl _) _ rfl rfl rfl
     ·have e1:us 28=.pointer (some ⟨W.heap.size,2,none⟩):=hdep 28 (List.mem_of_elem_eq_true (by kernel_rfl))
      have q:=(HF.out w hw).2.1
      rw [e1]
      go_wp2_with fail
      exact RelPost.mk (Nx.refl _) _ rfl rfl rfl
     ·go_wp2_with fail
      exact RelPost.mk (Nx.refl _) _ rfl rfl rfl
     ·have e1:us 29=.slice (some ⟨b3,0,none⟩) p.length c3:=hdep 29 (List.mem_of_elem_eq_true (by kernel_rfl))
      have e2:us 30=.int .i64 nv:=hdep 30 (List.mem_of_elem_eq_true (by kernel_rfl))
      rw [e1,e2]
      go_wp2_with fail
      exact RelPost.mk (Nx.refl _) _ rfl rfl rfl
     ·have e1:us 31=.pointer (some ⟨b3,nv,none⟩):=hdep 31 (List.mem_of_elem_eq_true (by kernel_rfl))
      have q:=(HF.out w hw).2.2.1
      rw [e1]
      go_wp2_with fail
      exact RelPost.mk (Nx.refl _) _ rfl rfl rfl
     ·obtain⟨g,e1,o1,hg1⟩:EmpI wo.heap.size w (us 27):=hdep 27 (List.mem_of_elem_eq_true (by kernel_rfl))
      have e2:us 32=.slice (some ⟨bj,0,none⟩) rj.length cj:=hdep 32 (List.mem_of_elem_eq_true (by kernel_rfl))
      have hr:=(HF.out w hw).2.2.2
      have e3:=e1
      rw [e1,e2]
      go_wp2_with (at_builtin; refine wpList_append_emp (o:=⟨some 33,_,_,_,_,_⟩) (by rfl) _ _ _ (by rfl) qint_congr (R:=RInt) wo.heap.size 3 i0 _ 8 Tryz.underlying31 hi0 hz0 hz1 hz2 rfl (by omega) g (by rfl) o1 hg1 (some ⟨bj,0,none⟩) cj rj (by rfl) hr (fun cs y h=>h) qint_one (by simp [maxLen]; omega) (by omega) ?_; intro A' c' w' hrow hnx hbk)
      exact RelPost.own hnx _ rfl ⟨A',c',rfl,hrow⟩ (fun b hb=>by
       rcases hbk b hb with h | h
       ·exact .inr ⟨27,(List.mem_of_elem_eq_true (by kernel_rfl)),rfl,by rw [e3,h]; rfl⟩
       ·exact .inl h)
     ·obtain⟨A',c',e1,h1'⟩:HasI wo.heap.size rj w (us 33):=hdep 33 (List.mem_of_elem_eq_true (by kernel_rfl))
      rw [e1]
      go_wp2_with fail
      exact RelPost.own ((Below.refl _ _).alloc (Nat.le_refl _) _) _ rfl ⟨w.heap.size,_,rfl,Own.new w _ _,HasI.nx ((Below.refl _ _).alloc (Nat.le_refl _) _) ⟨A',c',rfl,h1'⟩,hVw⟩ (fun b hb=>.inl (by injection hb with hb; simp only at hb; omega))
    ·intro us w7 hw7 hT hsep
     have e26:us 26=.slice Av nv cv:=hT 26 (List.mem_of_elem_eq_true (by kernel_rfl))
     obtain⟨gb,u,e34,ob,⟨A',c',rfl,hru⟩,hgb⟩:BoxI wo.heap.size rj w7 (us 34):=hT 34 (List.mem_of_elem_eq_true (by kernel_rfl))
     obtain⟨gv,rfl,_,hc3,hcw⟩:=Hvi.out _ _ _ _ _ hru
     rw [Hrl.out] at ob
     have hb7:Below wo.heap.size wo w7:=(Below.refl wo.heap.size wo).drew.trans hw7
     show wpList _ _ _ [_,_,_] _ _
     simp only [shpA,fillL,List.contains_cons,List.contains_nil,Nat.reduceAdd,Nat.reduceBEq,Bool.or_false,Bool.or_true,Bool.false_eq_true,↓reduceIte]
     rw [e26,e34]
     clear e26 e34 hT hsep hru
     have hs7:=hb7.size
     obtain⟨cs,hown,hqq⟩:=hrow.out
     have hle:=Hl0.out
     rw [hle] at hown
     have Hown:=Lib.hid (owns_of_block hown (w':=w7) fun g _ _ hl=>hb7.block g hl)
     have Hqq:=Lib.hid hqq
     have Hob:=Lib.hid ob
     have Hcw:=Lib.hid hcw
     have Hvr:Hid (∀ g,(Value.slice Av nv cv).ownBlock=some g→K≤g∧g<wo.heap.size):=fun g hg=>owns_base hown hg
     have hTn:Hid (¬ (Value.slice Av nv cv).ownBlock=some T):=fun e=>by have:=(Hvr.out T e).1; omega
     clear ob hw7 hcw hown hqq hle
     go_wp2_with (at_builtin; refine wpList_append_lies (o:=⟨some 35,_,_,_,_,_⟩) _ (by rfl) _ _ _ (by rfl) K 31 i1 _ 1 24 Tryz.underlying25 hi1 hy0 hy1 hy2 rfl (by omega) (.slice Av nv cv) nv cs (by rfl) Hown.out ⟨gb,0,none⟩ 1 1 [.slice (some ⟨gv,0,none⟩) 3 c'] (by rfl) (by rfl) (World.news_of_block (cs:=#[.slice (some ⟨gv,0,none⟩) 3 c']) (t:=31) (fr:=(0,0)) Hob.out) (by simp [Value.oneCell']) (by omega) (by simp [maxLen]; omega) (by omega) (by have:=HK.out; omega) w7.heap.size rfl ?_; intro gg cap w8 hown8 hgrow8 hat8 hlt8; have oT8:=(hoT.out.under hb7).of_block (World.grownBy.block hgrow8 T (by omega) (fun e=>hTn.out e.symm)); have q8:=oT8.cell (i:=2) rfl; have f8:=oT8.frozen 2)
     obtain⟨w9,hw9⟩:∃ w9,w9=w8.setCell ⟨T,2,none⟩ (.slice (some ⟨gg,0,none⟩) (nv+1) cap):=⟨_,rfl⟩
     have hN:Hid (MvO [T] w3 w9):=by show MvO _ _ _; rw [hw9]; exact ((hmv.out.trans (.of_below hb7)).grown'' hgrow8 (fun g e=>by have:=(Hvr.out g e).1; have:=HK.out; exact .inr (by omega))).set (by simp) _
     have hO:Hid (Own w9 T 73 #[.slice (some ⟨g1,0,none⟩) xs.length c8,.slice (some ⟨g2,0,none⟩) ys.length c12,.slice (some ⟨gg,0,none⟩) (nv+1) cap,.slice none 0 0]):=by show Own _ _ _ _; rw [hw9]; exact oT8.set 2 _
     have hrow8:=RowOf.snoc (news:=[.slice (some ⟨gv,0,none⟩) 3 c']) (x:=(gv,c')) (xs:=xs0) qsv_congr (w:=w7) (by rw [Hl0.out]; exact Hown.out) Hqq.out rfl rfl (by rw [Hl0.out]; exact hown8)
     have hgT:¬ (Value.slice (some ⟨gg,0,none⟩) (nv+1) cap).ownBlock=some T:=fun e=>by have:=(owns_base hown8 e).1; omega
     have hrow9:Hid (RowOf 1 QSv w9 K 31 (.slice (some ⟨gg,0,none⟩) (nv+1) cap) (xs0++[(gv,c')])):=by
      show RowOf _ _ _ _ _ _ _
      rw [hw9]
      exact RowOf.kept hrow8 hgT
     have hkeep:∀ {b:Nat} {F:Nat→Value},CelW w7 K b 3 3 F→CelW w9 K b 3 3 F:=fun {b F} hc=>by
      have h1:CelW w8 K b 3 3 F:=hc.of_block (World.grownBy.block hgrow8 b hc.lt fun e=>by
       rcases (show ∃ g cap cur,Value.slice Av nv cv=.slice (some ⟨g,0,none⟩) nv cap∧w7.heap[g]?=some (.cells cur 31 (0,0)) from by
        rcases Hown.out.2 with ⟨e',_⟩ | ⟨g,cap,cur,e',_,hg,_⟩
        ·rw [e'] at e; cases e
        ·exact⟨g,cap,cur,e',hg⟩) with ⟨g,cap',cur,e',hg⟩
       rw [e'] at e
       injection e with e
       exact hc.ne_own (T:=g) hg (by decide) e)
      rw [hw9]
      exact h1.far (h1.ne_own oT8 (by decide)) _
     have hvs9:Hid (∀ t,t<nv+1→CelW w9 K (if t=nv then (⟨ownV s nv,gv,c'⟩:V5) else Vf t).b 3 3 (vF (ownV s t))∧(if t=nv then (⟨ownV s nv,gv,c'⟩:V5) else Vf t).v=ownV s t∧3≤(if t=nv then (⟨ownV s nv,gv,c'⟩:V5) else Vf t).c∧(fun b=>if b=gv then 10+2*nv else κ b) (if t=nv then (⟨ownV s nv,gv,c'⟩:V5) else Vf t).b=10+2*t):=fun t ht=>by
      by_cases e:t=nv
      ·subst e
       simp only [if_true]
       exact⟨hkeep (Hcw.out.rebase (by have:=HK.out; omega)),trivial,hc3,trivial⟩
      ·obtain⟨a1,a2,a3,a4⟩:=hvs.out t (by omega)
       simp only [if_neg e]
       have hlt:=a1.lt
       refine⟨hkeep (a1.under hb7),a2,a3,?_⟩
       have hge:=Hcw.out.1
       rw [if_neg (by omega)]
       exact a4
     clear hown8 hgrow8 hat8 oT8 hrow8 hgT hkeep
     go_wp2_with fail
     rw [← hw9]
     clear hw9 q8 f8
     go_roundg (p.length-(nv+1))
     case measure=>omega
     case rel=>exact⟨nv+1,_,fun t=>if t=nv then ⟨ownV s nv,gv,c'⟩ else Vf t,fun b=>if b=gv then 10+2*nv else κ b,by omega,rfl,by go_num,by show RowOf _ _ _ _ _ _ _; rw [Htk.out]; exact hrow9.out,hO.out,hN.out,hvs9.out⟩
   ·obtain rfl:i=p.length:=by omega
    obtain⟨Av,cv,rfl,_,_⟩:=RowOf.slice hrow.out
    have hll:((List.range p.length).map fun t=>((Vf t).b,(Vf t).c)).length=p.length:=by simp
    obtain⟨g3,rfl,_,hcv1,_,hr3,_⟩:=RowOf.celR (fun t=>.slice (some ⟨(Vf t).b,0,none⟩) 3 (Vf t).c) hrow.out hpp (by omega) fun cs i hi hq j hj=>by
     obtain rfl:j=0:=by omega
     rw [Nat.mul_one,Nat.add_zero]
     exact hq
    have HV3:Hid (CelW wo K g3 31 p.length fun t=>.slice (some ⟨(Vf t).b,0,none⟩) 3 (Vf t).c):=by
     rw [Nat.mul_one] at hr3
     exact hr3
    rw [hll] at hoT
    try rw [hll]
    have hmT:∀ g,¬ g=T→g<w3.heap.size→wo.heap[g]?=w3.heap[g]?:=fun g hn hl=>hmv.out.block g hl (by simpa using hn)
    have K8o:Hid (CelW wo W.heap.size g1 3 xs.length (fun j=>.int .i64 (xs.getD j 0))):=K8.out.of_block (hmT _ HTg.out.1 Hg1.out.1)
    have K12o:Hid (CelW wo W.heap.size g2 3 ys.length (fun j=>.int .i64 (ys.getD j 0))):=K12.out.of_block (hmT _ HTg.out.2 Hg1.out.2)
    have HBo:Hid (Below W.heap.size W wo):=HB3.out.trans (hmv.out.below (fun x hx=>by simp at hx; omega) HB3.out.size)
    have oRo:Hid (Own wo (W.heap.size+1) 73 #[.slice none 0 0,.slice none 0 0,.slice none 0 0,.slice none 0 0]):=OR.out.of_block (hmT _ (by omega) OR.out.lt)
    have oXo:Hid (Own wo W.heap.size 73 #[.slice (some ⟨b1,0,none⟩) xs.length c1,.slice (some ⟨b2,0,none⟩) ys.length c2,.slice (some ⟨b3,0,none⟩) p.length c3,.slice (some ⟨b4,0,none⟩) 3 c4]):=OX.out.of_block (hmT _ (by omega) OX.out.lt)
    have r1':=oXo.out.cell (i:=2) rfl
    obtain⟨κ1,hκ1⟩:∃ κ1,κ1=κ:=⟨_,rfl⟩
    have oTo:=Lib.hid hoT.out
    rw [← hκ1] at hvs
    have hKo:K≤wo.heap.size:=by have:=HK.out; omega
    have HTK:Hid (T<K∧K≤wo.heap.size):=⟨hTK,hKo⟩
    have HgK:Hid (g1<K∧g2<K∧W.heap.size≤K):=by have:=HK.out; have:=Hg1.out; exact⟨by omega,by omega,hKW⟩
    clear hκ1 hrow hr3 hll hmT K8 K12 HB3 OR OX HTg Hg1 HK OT
    go_wp2_with fail
    clear r1 r1' κ
    obtain⟨w4,rfl⟩:∃ w4,w4=wo:=⟨_,rfl⟩
    obtain⟨K2,hK2⟩:∃ K2,K2=w4.heap.size:=⟨_,rfl⟩
    have HK2:=Lib.hid hK2
    have hTK2:T<K2:=by omega
    have hWK2:W.heap.size+1<K2:=by omega
    clear hK2 hmv hsz hKo hTK hlt hi
    go_loopg [5] 3 (fun g s5 wr=>∃ (i:Nat) (v:Value) (Lb Lc:Nat→Nat) (M:Nat→Nat→M5) (κ:Nat→Nat),i≤3∧g=3-i∧s5=.int .i64 i∧Hid (RowOf 1 QSl wr K2 138 v ((List.range i).map fun l=>(Lb l,(lstV s l).length,Lc l)))∧Hid (Own wr T 73 #[.slice (some ⟨g1,0,none⟩) xs.length c8,.slice (some ⟨g2,0,none⟩) ys.length c12,.slice (some ⟨g3,0,none⟩) p.length cv,v])∧Hid (MvO [T] w4 wr)∧Hid (∀ l,l<i→LF5 wr K2 s l (Lb l) (Lc l) (M l) κ))
    case atStart=>exact⟨0,_,fun _=>0,fun _=>0,fun _ _=>⟨m0V,0,0⟩,fun _=>0,Nat.zero_le _,rfl,rfl,RowOf.nil 1 _ _ _ _,hoT.out,MvO.refl _ _,fun t ht=>absurd ht (Nat.not_lt_zero _)⟩
    case round=>
     clear hoT
     obtain⟨wo,rfl⟩:∃ wo:World,wo=wr:=⟨_,rfl⟩
     obtain⟨i,v,Lb,Lc,M,κ,hi,rfl,rfl,hrow,hoT,hmv,hls⟩:=hrel
     have hsz:=hmv.out.size
     have r1:=hmv.out.cell (oXo.out.cell (i:=3) rfl) (by simp; omega)
     have hWl:W.heap.size<wo.heap.size:=by have:=HK2.out; omega
     by_cases hlt:i<3
     ·obtain⟨bl,cl,_,j0,hms⟩:=R4.out i hlt
      have hleW:Le W wo:=fun x u hx=>by
       have hl:=World.block_lt_of_cell? _ _ hx
       exact hmv.out.cell (Le.below HBo.out _ _ hx) (by simp; omega)
      have hilt:(i:Int)<(3:Int):=by omega
      obtain⟨hm0,hm13⟩:=HN.out i hlt
      have Hms:Hid (∀ k,k<(lstV s i).length→Msg3 wo bl k (gM (lstV s i) k)):=fun k hk=>(hms k hk).le hleW
      have j1:wo.cell? ⟨b4,i,none⟩=some (.slice (some ⟨bl,0,none⟩) (lstV s i).length cl):=hleW _ _ j0
      have Htk:Hid (∀ g c,(List.range (i+1)).map (fun l=>(if l=i then g else Lb l,(lstV s l).length,if l=i then c else Lc l))=((List.range i).map fun l=>(Lb l,(lstV s l).length,Lc l))++[(g,(lstV s i).length,c)]):=fun g c=>by
       rw [map_next,if_pos rfl,if_pos rfl]
       congr 1
       refine List.map_congr_left fun l hl=>?_
       have:=List.mem_range.1 hl
       rw [if_neg (by omega),if_neg (by omega)]
      have hle0:((List.range i).map fun l=>(Lb l,(lstV s l).length,Lc l)).length=i:=by simp
      obtain⟨Av,nv,cv4,rfl,hAv⟩:∃ A n c,v=.slice A n c∧n=i:=by
       obtain⟨A,c,e,_,_⟩:=RowOf.slice hrow.out
       exact⟨A,_,c,e,hle0⟩
      subst hAv
      generalize ((List.range nv).map fun l=>(Lb l,(lstV s l).length,Lc l))=xs0 at hrow hle0 Htk
      have hTl':=hoT.out.lt
      have Hl0:=Lib.hid hle0
      have HLF:Hid (∀ w b c M κ,CelW w K2 b 137 ((lstV s nv).length*3) (mF M)→(lstV s nv).length≤c→c≤9223372036854775807→κ b=20+2*nv→(∀ k,k<(lstV s nv).length→CelW w K2 (M k).b 3 3 (vF (gM (lstV s nv) k).view)∧(M k).m=gM (lstV s nv) k∧3≤(M k).c∧κ (M k).b=11+2*(nv+3*k))→LF5 w K2 s nv b c M κ):=fun w b c M κ h1 h2 h3 h4 h5=>⟨h1,h2,h3,h4,h5⟩
      generalize lstV s nv=ms at Hms j1 hm0 hm13 HLF Htk
      clear j0 hms hleW hle0
      obtain⟨w5,hw5⟩:∃ w5,w5=wo.alloc (.cells #[] 137):=⟨_,rfl⟩
      have hb5:Below wo.heap.size wo w5:=by rw [hw5]; exact (Below.refl _ _).alloc (Nat.le_refl _) _
      have hrow5:Hid (RowOf 3 QMs w5 wo.heap.size 137 (.slice (some ⟨wo.heap.size,0,none⟩) 0 0) ([]:List M5)):=by show RowOf _ _ _ _ _ _ _; rw [hw5]; exact RowOf.made _ (Own.new wo _ _) (Nat.le_refl _)
      go_upto_region 10 with (fail)
      rw [← hw5]
      clear hw5
      have Hj1:=Lib.hid j1
      have Hr1:=Lib.hid r1
      go_wp2_with fail
      clear j1 r1
      go_loopg [6,7] ms.length (fun g s6 s7 wr=>∃ (k:Nat) (v6:Value) (Mf:Nat→M5) (κ3:Nat→Nat),k≤ms.length∧g=ms.length-k∧v6=s6∧s7=.int .i64 k∧Hid (RowOf 3 QMs wr wo.heap.size 137 v6 ((List.range k).map Mf))∧Below wo.heap.size wo wr∧Hid (∀ j,j<k→CelW wr wo.heap.size (Mf j).b 3 3 (vF (gM ms j).view)∧(Mf j).m=gM ms j∧3≤(Mf j).c∧κ3 (Mf j).b=11+2*(nv+3*j)))
      case atStart=>exact⟨0,_,fun _=>⟨m0V,0,0⟩,fun _=>0,Nat.zero_le _,rfl,rfl,rfl,hrow5.out,hb5,fun t ht=>absurd ht (Nat.not_lt_zero _)⟩
      case round=>
       clear hrow5 hb5
       obtain⟨wi,rfl⟩:∃ wi:World,wi=wr:=⟨_,rfl⟩
       obtain⟨k,v6,Mf,κ3,hk,rfl,rfl,rfl,hrow6,hbi,hmf⟩:=hrel
       have hbis:=hbi.size
       have j1:=Le.below hbi _ _ Hj1.out
       have r1:=Le.below hbi _ _ Hr1.out
       by_cases hkl:k<ms.length
       ·obtain⟨m0,m1,bv,cvv,_,m2,m3⟩:=Hms.out k hkl
        replace m0:=Le.below hbi _ _ m0
        replace m1:=Le.below hbi _ _ m1
        replace m2:=Le.below hbi _ _ m2
        have Hv3:Hid (Ints wi (some ⟨bv,0,none⟩) cvv (vw3 (gM ms k).view)):=(m3.ints).le (Le.below hbi)
        have hkli:(k:Int)<(ms.length:Int):=by omega
        have hle6:((List.range k).map Mf).length=k:=by simp
        have Htk6:Hid (∀ x,(List.range (k+1)).map (fun j=>if j=k then x else Mf j)=(List.range k).map Mf++[x]):=fun x=>by
         rw [map_next,if_pos rfl]
         congr 1
         refine List.map_congr_left fun l hl=>?_
         have:=List.mem_range.1 hl
         rw [if_neg (by omega)]
        obtain⟨A6,n6,c6,rfl,hA6⟩:∃ A n c,v6=.slice A n c∧n=k:=by
         obtain⟨A,c,e,_,_⟩:=RowOf.slice hrow6.out
         exact⟨A,_,c,e,hle6⟩
        subst hA6
        generalize (List.range n6).map Mf=xs6 at hrow6 hle6 Htk6
        have Hl6:=Lib.hid hle6
        have Hrl:Hid ((vw3 (gM ms n6).view).length=3):=vw3_len _
        have Hvi:Hid (∀ (w:World) (base:Nat) (A:Option Addr) (n c:Nat),RowI w base (.slice A n c) (vw3 (gM ms n6).view)→∃ g,A=some ⟨g,0,none⟩∧n=3∧3≤c∧CelW w base g 3 3 (vF (gM ms n6).view)):=fun w base A n c h=>RowI.view h
        have Hnew:Hid (∀ g c,∃ x:M5,x.b=g∧x.c=c∧x.m=gM ms n6):=fun g c=>⟨⟨gM ms n6,g,c⟩,rfl,rfl,rfl⟩
        have Hgm:Hid (gM ms n6=gM ms n6):=rfl
        obtain⟨mm,hmm⟩:∃ mm,mm=gM ms n6:=⟨_,rfl⟩
        rw [← hmm] at m0 m1 Hv3 Hrl Hvi Hnew
        have Hmm:=Lib.hid hmm
        generalize hrj:vw3 mm.view=rj at Hv3 Hrl Hvi
        replace m2:wi.cell? ⟨bl,n6*3+2,none⟩=some (.slice (some ⟨bv,0,none⟩) rj.length cvv):=by rw [Hrl.out]; exact m2
        have hl3:rj.length≤3:=by have:=Hrl.out; omega
        obtain⟨X,hX⟩:∃ X,X=wi.alloc (.cells #[.int .i64 mm.val,.bool mm.lock,.slice (some ⟨bv,0,none⟩) rj.length cvv] 137):=⟨_,rfl⟩
        have hbX:Below wi.heap.size wi X:=by rw [hX]; exact (Below.refl _ _).alloc (Nat.le_refl _) _
        have oX:Own X wi.heap.size 137 #[.int .i64 mm.val,.bool mm.lock,.slice (some ⟨bv,0,none⟩) rj.length cvv]:=by rw [hX]; exact Own.new _ _ _
        have HXs:Hid (X.heap.size=wi.heap.size+1):=by show _=_; rw [hX]; simp
        have OX:=Lib.hid oX
        clear hrj hle6 m3 hmm
        go_upto_region 14 with (fail)
        rw [← hX]
        have x2:X.cell? ⟨wi.heap.size,2,none⟩=some (.slice (some ⟨bv,0,none⟩) rj.length cvv):=oX.cell (i:=2) rfl
        have hXl:=oX.lt
        clear hX oX j1 r1 m0 m1 m2
        go_upto_region 15 with (at_builtin; refine wpList_append_list (o:=⟨some 66,_,_,_,_,_⟩) (by rfl) _ _ _ (by rfl) qint_congr (R:=RInt) X.heap.size 3 i0 _ 8 Tryz.underlying31 hi0 hz0 hz1 hz2 rfl (by omega) (.slice (some ⟨X.heap.size,0,none⟩) 0 0) [] (by rfl) (RowOf.made _ (Own.new X _ _) (Nat.le_refl _)) (some ⟨bv,0,none⟩) cvv rj (by rfl) ((Hv3.out.le (Le.below hbX)).le (Le.alloc _ _)) (fun cs y h=>h) qint_one (by simp [maxLen]; omega) (by simp; omega) (by simp) (X.heap.size+1) (by simp) ?_; intro A7 c7 w7 hrow7 hgrow7 hat7; rw [List.nil_append] at hrow7 hat7; have hb7:Below X.heap.size X w7:=below_of_grown ((Below.refl X.heap.size X).alloc (Nat.le_refl _) _) hgrow7 (by simp) (fun g hg=>by simp only [Value.ownBlock,Option.some.injEq] at hg; omega); have oX7:=OX.out.under hb7; have z2:=oX7.cell (i:=2) rfl; have zf:=oX7.frozen 2; have hX7:=oX7.lt)
        obtain⟨gv,rfl,hl3e,hc3,hcw⟩:=Hvi.out _ _ _ _ _ hrow7
        clear hl3e
        obtain⟨w8,hw8⟩:∃ w8,w8=w7.setCell ⟨wi.heap.size,2,none⟩ (.slice (some ⟨gv,0,none⟩) rj.length c7):=⟨_,rfl⟩
        have hXw:=HXs.out
        have hgv:=hcw.1
        have hs8:w8.heap.size=w7.heap.size:=by rw [hw8]; simp
        have hb78:=hb7.size
        have hfar:∀ b,b≠wi.heap.size→w8.heap[b]?=w7.heap[b]?:=fun b hb=>by rw [hw8]; exact Go.Deep.blk_setCell_other _ _ _ _ hb
        have hold:∀ b,b<wi.heap.size→w8.heap[b]?=wi.heap[b]?:=fun b hb=>(hfar b (by omega)).trans ((hb7.block b (by omega)).trans (hbX.block b hb))
        have O8:Hid (Own w8 wi.heap.size 137 #[.int .i64 mm.val,.bool mm.lock,.slice (some ⟨gv,0,none⟩) rj.length c7]):=by show Own _ _ _ _; rw [hw8]; exact oX7.set 2 _
        have HB8:Hid (Below wo.heap.size wo w8):=by
         show Below _ _ _
         rw [hw8]
         exact (hbi.trans ((hbX.trans (hb7.mono hbX.size)).mono hbis)).setCell (by exact hbis) _
        have Hcw8:Hid (CelW w8 wo.heap.size gv 3 3 (vF mm.view)):=(hcw.of_block (hfar gv (by omega))).rebase (by omega)
        have Hm8:Hid (∀ j,j<n6→CelW w8 wo.heap.size (Mf j).b 3 3 (vF (gM ms j).view)∧(Mf j).b<wi.heap.size∧(Mf j).m=gM ms j∧3≤(Mf j).c∧κ3 (Mf j).b=11+2*(nv+3*j)):=fun j hj=>by
         obtain⟨a1,a2,a3,a4⟩:=hmf.out j hj
         exact⟨a1.of_block (hold _ a1.lt),a1.lt,a2,a3,a4⟩
        obtain⟨cs6,hown,hqq⟩:=hrow6.out
        have hle:=Hl6.out
        rw [hle] at hown
        have Hown:Hid (w8.ownsRow wo.heap.size 137 3 (.slice A6 n6 c6) n6 cs6):=owns_of_block hown fun g _ _ hl=>hold g hl
        have Hqq:=Lib.hid hqq
        have Hvr:Hid (∀ g,(Value.slice A6 n6 c6).ownBlock=some g→wo.heap.size≤g∧g<wi.heap.size):=fun g hg=>owns_base hown hg
        have Hgv:Hid (wi.heap.size<gv∧wi.heap.size≤w8.heap.size):=⟨by omega,by omega⟩
        have hwos8:wo.heap.size≤w8.heap.size:=by omega
        have Hc3:=Lib.hid hc3
        rw [← hw8]
        have x0:w8.cell? ⟨wi.heap.size,0,none⟩=some (.int .i64 mm.val):=O8.out.cell (i:=0) rfl
        have x1:w8.cell? ⟨wi.heap.size,1,none⟩=some (.bool mm.lock):=O8.out.cell (i:=1) rfl
        have x2:w8.cell? ⟨wi.heap.size,2,none⟩=some (.slice (some ⟨gv,0,none⟩) rj.length c7):=O8.out.cell (i:=2) rfl
        have hX8:=O8.out.lt
        clear hw8 hfar hold hb78 hs8 hXw hown hqq hle hrow7 hgrow7 hat7 hb7 oX7 z2 zf hX7 hcw hc3 hgv hbX hXl hrow6 hmf
        go_upto_region 12 with (at_builtin; refine wpList_append_lies (o:=⟨some 71,_,_,_,_,_⟩) _ (by rfl) _ _ _ (by rfl) wo.heap.size 137 i2 _ 3 40 Tryz.underlying138 hi2 hx0 hx1 hx2 rfl (by omega) (.slice A6 n6 c6) n6 cs6 (by rfl) (owns_alloc Hown.out _) ⟨w8.heap.size,0,none⟩ 1 1 [.int .i64 mm.val,.bool mm.lock,.slice (some ⟨gv,0,none⟩) rj.length c7] (by rfl) (by rfl) (World.news_of_block (cs:=#[.int .i64 mm.val,.bool mm.lock,.slice (some ⟨gv,0,none⟩) rj.length c7]) (t:=137) (fr:=(0,0)) (heap_alloc_new w8 _)) (by simp [Value.oneCell']) (by omega) (by simp [maxLen]; omega) (by omega) (by simp; omega) (w8.heap.size+1) (by simp) ?_; intro gg cap w9 hown9 hgrow9 hat9 hlt9)
        have hB9:Below wo.heap.size wo w9:=below_of_grown (HB8.out.alloc hwos8 _) hgrow9 (by simp; omega) (fun g hg=>(Hvr.out g hg).1)
        have hkeep:∀ {b:Nat} {F:Nat→Value},CelW w8 wo.heap.size b 3 3 F→CelW w9 wo.heap.size b 3 3 F:=fun {b F} hc=>
         have h1:=hc.of_block (Go.Deep.blk_alloc_lt w8 (.cells #[.int .i64 mm.val,.bool mm.lock,.slice (some ⟨gv,0,none⟩) rj.length c7] 137) _ hc.lt)
         h1.of_block (World.grownBy.block hgrow9 b h1.lt fun e=>hc.ne_row Hown.out (by decide) e.symm)
        have hrow9:Hid (RowOf 3 QMs w9 wo.heap.size 137 (.slice (some ⟨gg,0,none⟩) (n6+1) cap) (xs6++[(⟨mm,gv,c7⟩:M5)])):=RowOf.snoc (news:=[.int .i64 mm.val,.bool mm.lock,.slice (some ⟨gv,0,none⟩) rj.length c7]) (x:=(⟨mm,gv,c7⟩:M5)) (xs:=xs6) qms_congr (w:=w8.alloc (.cells #[.int .i64 mm.val,.bool mm.lock,.slice (some ⟨gv,0,none⟩) rj.length c7] 137)) (by rw [Hl6.out]; exact owns_alloc Hown.out _) Hqq.out rfl ⟨rfl,rfl,by show Value.slice _ rj.length _=_; rw [Hrl.out]⟩ (by rw [Hl6.out]; exact hown9)
        have hmf9:Hid (∀ j,j<n6+1→CelW w9 wo.heap.size (if j=n6 then (⟨mm,gv,c7⟩:M5) else Mf j).b 3 3 (vF (gM ms j).view)∧(if j=n6 then (⟨mm,gv,c7⟩:M5) else Mf j).m=gM ms j∧3≤(if j=n6 then (⟨mm,gv,c7⟩:M5) else Mf j).c∧(fun b=>if b=gv then 11+2*(nv+3*n6) else κ3 b) (if j=n6 then (⟨mm,gv,c7⟩:M5) else Mf j).b=11+2*(nv+3*j)):=fun j hj=>by
         by_cases e:j=n6
         ·subst e
          simp only [if_true]
          rw [← Hmm.out]
          exact⟨hkeep Hcw8.out,rfl,Hc3.out,trivial⟩
         ·obtain⟨a1,a0,a2,a3,a4⟩:=Hm8.out j (by omega)
          simp only [if_neg e]
          refine⟨hkeep a1,a2,a3,?_⟩
          rw [if_neg (by have:=Hgv.out.1; omega)]
          exact a4
        clear hown9 hgrow9 hat9 hkeep x0 x1 x2
        go_wp2_with fail
        go_roundg (ms.length-(n6+1))
        case measure=>omega
        case rel=>exact⟨n6+1,_,fun j=>if j=n6 then (⟨mm,gv,c7⟩:M5) else Mf j,fun b=>if b=gv then 11+2*(nv+3*n6) else κ3 b,by omega,rfl,rfl,by go_num,by show RowOf _ _ _ _ _ _ _; rw [Htk6.out]; exact hrow9.out,hB9,hmf9.out⟩
       ·obtain rfl:k=ms.length:=by omega
        have hll6:((List.range ms.length).map Mf).length=ms.length:=by simp
        obtain⟨A6,n6,c6,rfl,hA6⟩:∃ A n c,v6=.slice A n c∧n=ms.length:=by
         obtain⟨A,c,e,_,_⟩:=RowOf.slice hrow6.out
         exact⟨A,_,c,e,hll6⟩
        obtain⟨g6,rfl,_,hc61,hc62,hr6,_⟩:=RowOf.celR (mF Mf) hrow6.out hm0 (by omega) fun cs i hi hq j hj=>by
         obtain⟨q0,q1,q2⟩:=hq
         match j,hj with
         | 0,_=>rw [Nat.add_zero,mF0]; exact q0
         | 1,_=>rw [mF1]; exact q1
         | 2,_=>rw [mF2]; exact q2
        subst hA6
        have Hr6:=Lib.hid hr6
        have Hc6:=Lib.hid (And.intro hc61 hc62)
        have oTi:Own wi T _ _:=hoT.out.under hbi
        have z3:wi.cell? ⟨T,3,none⟩=some (.slice Av nv cv4):=oTi.cell (i:=3) rfl
        have hTi:=oTi.lt
        have OTi:=Lib.hid oTi
        obtain⟨cs,hown,hqq⟩:=hrow.out
        have hle:=Hl0.out
        rw [hle] at hown
        have Hown:Hid (wi.ownsRow K2 138 1 (.slice Av nv cv4) nv cs):=owns_of_block hown fun g _ _ hl=>hbi.block g hl
        have Hqq:=Lib.hid hqq
        have Hvr:Hid (∀ g,(Value.slice Av nv cv4).ownBlock=some g→K2≤g∧g<wo.heap.size):=fun g hg=>owns_base hown hg
        have hK2i:K2≤wi.heap.size:=by have:=HK2.out; omega
        have hTn:¬ (Value.slice Av nv cv4).ownBlock=some T:=fun e=>by have:=(Hvr.out T e).1; omega
        have HTn:=Lib.hid hTn
        have Hbi:=Lib.hid hbi
        clear hown hqq hle hr6 hc61 hc62 hrow6 hll6 oTi hTn
        go_upto_region 8 with (at_builtin; refine wpList_append_lies (o:=⟨some 76,_,_,_,_,_⟩) _ (by rfl) _ _ _ (by rfl) K2 138 i3 _ 1 24 Tryz.underlying71 hi3 hu0 hu1 hu2 rfl (by omega) (.slice Av nv cv4) nv cs (by rfl) (owns_alloc Hown.out _) ⟨wi.heap.size,0,none⟩ 1 1 [.slice (some ⟨g6,0,none⟩) ms.length c6] (by rfl) (by rfl) (World.news_of_block (cs:=#[.slice (some ⟨g6,0,none⟩) ms.length c6]) (t:=138) (fr:=(0,0)) (heap_alloc_new wi _)) (by simp [Value.oneCell']) (by omega) (by simp [maxLen]; omega) (by omega) (by simp; omega) (wi.heap.size+1) (by simp) ?_; intro gg cap w8 hown8 hgrow8 hat8 hlt8; have oT8:=(OTi.out.alloc (.cells #[.slice (some ⟨g6,0,none⟩) ms.length c6] 138)).of_block (World.grownBy.block hgrow8 T (by simp; omega) (fun e=>HTn.out e.symm)); have q8:=oT8.cell (i:=3) rfl; have f8:=oT8.frozen 3)
        obtain⟨w9,hw9⟩:∃ w9,w9=w8.setCell ⟨T,3,none⟩ (.slice (some ⟨gg,0,none⟩) (nv+1) cap):=⟨_,rfl⟩
        have hN:Hid (MvO [T] w4 w9):=by
         show MvO _ _ _
         rw [hw9]
         exact ((hmv.out.trans (.of_below (Hbi.out.alloc Hbi.out.size _))).grown'' hgrow8 (fun g e=>by have:=(Hvr.out g e).1; have:=HK2.out; exact .inr (by omega))).set (by simp) _
        have hO:Hid (Own w9 T 73 #[.slice (some ⟨g1,0,none⟩) xs.length c8,.slice (some ⟨g2,0,none⟩) ys.length c12,.slice (some ⟨g3,0,none⟩) p.length cv,.slice (some ⟨gg,0,none⟩) (nv+1) cap]):=by show Own _ _ _ _; rw [hw9]; exact oT8.set 3 _
        have hrow8:=RowOf.snoc (news:=[.slice (some ⟨g6,0,none⟩) ms.length c6]) (x:=(g6,ms.length,c6)) (xs:=xs0) qsl_congr (w:=wi.alloc (.cells #[.slice (some ⟨g6,0,none⟩) ms.length c6] 138)) (by rw [Hl0.out]; exact owns_alloc Hown.out _) Hqq.out rfl rfl (by rw [Hl0.out]; exact hown8)
        have hgT:¬ (Value.slice (some ⟨gg,0,none⟩) (nv+1) cap).ownBlock=some T:=fun e=>by have:=(owns_base hown8 e).1; omega
        have hrow9:Hid (RowOf 1 QSl w9 K2 138 (.slice (some ⟨gg,0,none⟩) (nv+1) cap) (xs0++[(g6,ms.length,c6)])):=by
         show RowOf _ _ _ _ _ _ _
         rw [hw9]
         exact RowOf.kept hrow8 hgT
        have hkeep:∀ {b m:Nat} {ty:TypeId} {F:Nat→Value},CelW wi K2 b ty m F→ty≠138→ty≠73→CelW w9 K2 b ty m F:=fun {b m ty F} hc hn1 hn2=>by
         have h1:=hc.of_block (Go.Deep.blk_alloc_lt wi (.cells #[.slice (some ⟨g6,0,none⟩) ms.length c6] 138) _ hc.lt)
         have h2:CelW w8 K2 b ty m F:=h1.of_block (World.grownBy.block hgrow8 b h1.lt fun e=>hc.ne_row Hown.out hn1 e.symm)
         rw [hw9]
         exact h2.far (h2.ne_own oT8 hn2) _
        have hls9:Hid (∀ l,l<nv+1→LF5 w9 K2 s l (if l=nv then g6 else Lb l) (if l=nv then c6 else Lc l) (if l=nv then Mf else M l) (fun b=>if b<wo.heap.size then κ b else if b=g6 then 20+2*nv else κ3 b)):=fun l hl=>by
         by_cases e:l=nv
         ·subst e
          simp only [if_true]
          have hwo:=(Hr6.out).1
          refine HLF.out _ _ _ _ _ (hkeep (Hr6.out.rebase (by have:=HK2.out; have:=hmv.out.size; omega)) (by decide) (by decide)) Hc6.out.1 Hc6.out.2 ?_ fun k hk=>?_
          ·simp only [if_neg (show ¬ g6<wo.heap.size by omega),if_true]
          ·obtain⟨a1,a2,a3,a4⟩:=hmf.out k hk
           refine⟨hkeep (a1.rebase (by have:=HK2.out; have:=hmv.out.size; omega)) (by decide) (by decide),a2,a3,?_⟩
           have h1:=a1.1
           have h2:(Mf k).b≠g6:=a1.ne_type Hr6.out (by decide)
           simp only [if_neg (show ¬ (Mf k).b<wo.heap.size by omega),if_neg h2]
           exact a4
         ·obtain⟨a1,a2,a3,a4,a5⟩:=hls.out l (by omega)
          simp only [if_neg e]
          refine⟨hkeep (a1.under Hbi.out) (by decide) (by decide),a2,a3,by simp only [if_pos a1.lt]; exact a4,fun k hk=>?_⟩
          obtain⟨d1,d2,d3,d4⟩:=a5 k hk
          exact⟨hkeep (d1.under Hbi.out) (by decide) (by decide),d2,d3,by simp only [if_pos d1.lt]; exact d4⟩
        clear hown8 hgrow8 hat8 oT8 hrow8 hgT hkeep
        rw [← hw9]
        clear hw9 q8 f8 z3
        go_wp2_with fail
        go_roundg (3-(nv+1))
        case measure=>omega
        case rel=>exact⟨nv+1,_,fun l=>if l=nv then g6 else Lb l,fun l=>if l=nv then c6 else Lc l,fun l=>if l=nv then Mf else M l,fun b=>if b<wo.heap.size then κ b else if b=g6 then 20+2*nv else κ3 b,by omega,rfl,by go_num,by show RowOf _ _ _ _ _ _ _; rw [Htk.out]; exact hrow9.out,hO.out,hN.out,hls9.out⟩
     ·obtain rfl:i=3:=by omega
      have hll:((List.range 3).map fun l=>(Lb l,(lstV s l).length,Lc l)).length=3:=by simp
      obtain⟨Av,nv,cv4,rfl,hAv⟩:∃ A n c,v=.slice A n c∧n=3:=by
       obtain⟨A,c,e,_,_⟩:=RowOf.slice hrow.out
       exact⟨A,_,c,e,hll⟩
      obtain⟨g4,rfl,_,_,_,hr4,_⟩:=RowOf.celR (fun l=>.slice (some ⟨Lb l,0,none⟩) (lstV s l).length (Lc l)) hrow.out (by omega) (by omega) fun cs i hi hq j hj=>by
       obtain rfl:j=0:=by omega
       rw [Nat.mul_one,Nat.add_zero]
       exact hq
      subst hAv
      have q0:wo.cell? ⟨T,0,none⟩=some (.slice (some ⟨g1,0,none⟩) xs.length c8):=hoT.out.cell (i:=0) rfl
      have q1:wo.cell? ⟨T,1,none⟩=some (.slice (some ⟨g2,0,none⟩) ys.length c12):=hoT.out.cell (i:=1) rfl
      have q2:wo.cell? ⟨T,2,none⟩=some (.slice (some ⟨g3,0,none⟩) p.length cv):=hoT.out.cell (i:=2) rfl
      have q3:wo.cell? ⟨T,3,none⟩=some (.slice (some ⟨g4,0,none⟩) 3 cv4):=hoT.out.cell (i:=3) rfl
      have hTl':=hoT.out.lt
      have hmT:∀ g,¬ g=T→g<w4.heap.size→wo.heap[g]?=w4.heap[g]?:=fun g hn hl=>hmv.out.block g hl (by simpa using hn)
      have oRr:Own wo (W.heap.size+1) 73 #[.slice none 0 0,.slice none 0 0,.slice none 0 0,.slice none 0 0]:=oRo.out.of_block (hmT _ (by omega) oRo.out.lt)
      have p0:=oRr.cell (i:=0) rfl
      have p1:=oRr.cell (i:=1) rfl
      have p2:=oRr.cell (i:=2) rfl
      have p3:=oRr.cell (i:=3) rfl
      have f0:=oRr.frozen 0
      have f1:=oRr.frozen 1
      have f2:=oRr.frozen 2
      have f3:=oRr.frozen 3
      have hWl':=oRr.lt
      have HBn:Hid (Below W.heap.size W wo):=HBo.out.trans (hmv.out.below (fun x hx=>by simp at hx; omega) HBo.out.size)
      have D1:Hid (CelW wo W.heap.size g1 3 p.length (fun t=>.int .i64 ((pcS s.s t:Nat):Int))):=by
       have h:=K8o.out.of_block (hmT g1 (by have:=HgK.out; have h:=K8o.out.ne_own oTo.out (by decide); exact h) K8o.out.lt)
       rw [← Hxn.out] at h
       exact h.congr fun j hj=>by rw [Hxg.out j]
      have D2:Hid (CelW wo W.heap.size g2 3 (p.length*3) (fun t=>.int .i64 (s.s.regs.getD t 0))):=by
       have h:=K12o.out.of_block (hmT g2 (K12o.out.ne_own oTo.out (by decide)) K12o.out.lt)
       rw [Hyl.out] at h
       exact h.congr fun j hj=>by rw [Hyg.out j]
      have D3:Hid (CelW wo K g3 31 p.length fun t=>.slice (some ⟨(Vf t).b,0,none⟩) 3 (Vf t).c):=HV3.out.of_block (hmT g3 (HV3.out.ne_own oTo.out (by decide)) HV3.out.lt)
      have D4:Hid (∀ t,t<p.length→CelW wo K (Vf t).b 3 3 (vF (ownV s t))∧(Vf t).b<K2∧(Vf t).v=ownV s t∧3≤(Vf t).c∧κ1 (Vf t).b=10+2*t):=fun t ht=>by
       obtain⟨a1,a2,a3,a4⟩:=hvs.out t ht
       exact⟨a1.of_block (hmT _ (a1.ne_own oTo.out (by decide)) a1.lt),by rw [HK2.out]; exact a1.lt,a2,a3,a4⟩
      have D5:=Lib.hid hr4
      have ORr:=Lib.hid oRr
      clear oRr hmT hr4 hll hrow
      go_wp2_with fail
      refine bodyPost_ret (v:=.agg #[.slice (some ⟨g1,0,none⟩) xs.length c8,.slice (some ⟨g2,0,none⟩) ys.length c12,.slice (some ⟨g3,0,none⟩) p.length cv,.slice (some ⟨g4,0,none⟩) 3 cv4]) (by simp [results,Tryz.results114,go_sem,p0,p1,p2,p3]) rfl ?_
      have hk:∀ {b m:Nat} {B:Nat} {ty:TypeId} {F:Nat→Value},CelW wo B b ty m F→ty≠73→W.heap.size≤B→CelW ((((wo.setCell ⟨W.heap.size+1,0,none⟩ (.slice (some ⟨g1,0,none⟩) xs.length c8)).setCell ⟨W.heap.size+1,1,none⟩ (.slice (some ⟨g2,0,none⟩) ys.length c12)).setCell ⟨W.heap.size+1,2,none⟩ (.slice (some ⟨g3,0,none⟩) p.length cv)).setCell ⟨W.heap.size+1,3,none⟩ (.slice (some ⟨g4,0,none⟩) 3 cv4)) W.heap.size b ty m F:=fun {b m B ty F} hc hn hB=>by
       have h1:b≠W.heap.size+1:=hc.ne_own ORr.out hn
       refine (hc.of_block ?_).rebase hB
       rw [Go.Deep.blk_setCell_other _ _ _ _ h1,Go.Deep.blk_setCell_other _ _ _ _ h1,Go.Deep.blk_setCell_other _ _ _ _ h1,Go.Deep.blk_setCell_other _ _ _ _ h1]
      obtain⟨hgk1,hgk2,hgk3⟩:=HgK.out
      have hTK':=HTK.out
      have hKK:K≤K2:=by have:=HK2.out; omega
      have hg21:¬ g2=g1:=fun e=>Hg.out e.symm
      have hWK:W.heap.size≤K2:=by omega
      refine⟨⟨g1,c8,g2,c12,g3,cv,g4,cv4⟩,Vf,fun l=>(lstV s l).length,Lb,Lc,M,fun b=>if b=g1 then 0 else if b=g2 then 1 else if b<K2 then κ1 b else κ b,?_,?_,fun t ht=>(D4.out t ht).2.2.1,fun l _=>rfl,fun l hl k hk'=>((hls.out l hl).2.2.2.2 k hk').2.1,(((HBn.out.setCell (by simp) _).setCell (by simp) _).setCell (by simp) _).setCell (by simp) _⟩
      ·show Ending.returned (.agg #[.slice (some ⟨g1,0,none⟩) xs.length c8,.slice (some ⟨g2,0,none⟩) ys.length c12,.slice (some ⟨g3,0,none⟩) p.length cv,.slice (some ⟨g4,0,none⟩) 3 cv4])=.returned (.agg #[.slice (some ⟨g1,0,none⟩) p.length c8,.slice (some ⟨g2,0,none⟩) (p.length*3) c12,.slice (some ⟨g3,0,none⟩) p.length cv,.slice (some ⟨g4,0,none⟩) 3 cv4])
       rw [← Hxn.out,Hyl.out]
      ·refine⟨hk D1.out (by decide) (Nat.le_refl _),hk D2.out (by decide) (Nat.le_refl _),hk D3.out (by decide) hgk3,hk D5.out (by decide) hWK,fun t ht=>?_,fun l hl=>hk (hls.out l hl).1 (by decide) hWK,fun l hl k hk'=>?_,fun t ht=>(D4.out t ht).2.2.2.1,fun l hl=>⟨(hls.out l hl).2.1,(hls.out l hl).2.2.1⟩,fun l hl k hk'=>((hls.out l hl).2.2.2.2 k hk').2.2.1,?_,?_,fun t ht=>?_,fun l hl=>?_,fun l hl k hk'=>?_⟩
       ·rw [(D4.out t ht).2.2.1]
        exact hk (D4.out t ht).1 (by decide) hgk3
       ·obtain⟨d1,d2,_⟩:=(hls.out l hl).2.2.2.2 k hk'
        rw [d2]
        exact hk d1 (by decide) hWK
       ·exact if_pos rfl
       ·show (if g2=g1 then 0 else if g2=g2 then 1 else _)=1
        rw [if_neg hg21,if_pos rfl]
       ·obtain⟨d1,d2,_,_,d4⟩:=D4.out t ht
        have h1:=d1.1
        show (if (Vf t).b=g1 then 0 else if (Vf t).b=g2 then 1 else if (Vf t).b<K2 then κ1 (Vf t).b else κ (Vf t).b)=10+2*t
        rw [if_neg (by omega),if_neg (by omega),if_pos d2,d4]
       ·obtain⟨d1,_,_,d4,_⟩:=hls.out l hl
        have h1:=d1.1
        show (if Lb l=g1 then 0 else if Lb l=g2 then 1 else if Lb l<K2 then κ1 (Lb l) else κ (Lb l))=20+2*l
        rw [if_neg (by omega),if_neg (by omega),if_neg (by omega),d4]
       ·obtain⟨d1,_,_,d4⟩:=(hls.out l hl).2.2.2.2 k hk'
        have h1:=d1.1
        show (if (M l k).b=g1 then 0 else if (M l k).b=g2 then 1 else if (M l k).b<K2 then κ1 (M l k).b else κ (M l k).b)=11+2*(l+3*k)
        rw [if_neg (by omega),if_neg (by omega),if_neg (by omega),d4]
end Go.Proofs.YtojmofnamppbdaaGreat
namespace Go.Proofs.YtojmofnamppbdaaGreat
open Go.RowKit
set_option linter.unusedVariables false
set_option maxRecDepth 100000
structure FrT (base:Nat) (w w':World):Prop where
 os:w'.os=w.os
 tape:w'.tape=w.tape
 output:w'.output=w.output
 size:w.heap.size≤w'.heap.size
 block:∀ b,b<w.heap.size→(b<base∨∃ cur t,w.heap[b]?=some (.cells cur t (0,0))∧t≠3∧t≠138)→w'.heap[b]?=w.heap[b]?
namespace FrT
variable {base:Nat} {a b c:World}
theorem refl (base:Nat) (a:World):FrT base a a:=⟨rfl,rfl,rfl,Nat.le_refl _,fun _ _ _=>rfl⟩
theorem trans (h:FrT base a b) (k:FrT base b c):FrT base a c:=⟨k.os.trans h.os,k.tape.trans h.tape,k.output.trans h.output,Nat.le_trans h.size k.size,fun i hi hc=>by
 have e:=h.block i hi hc
 refine (k.block i (Nat.lt_of_lt_of_le hi h.size) ?_).trans e
 rcases hc with hc | ⟨cur,t,h1,h2⟩
 ·exact .inl hc
 ·exact .inr ⟨cur,t,e.trans h1,h2⟩⟩
theorem of_below (h:Below a.heap.size a b):FrT base a b:=⟨h.os,h.tape,h.output,h.size,fun i hi _=>h.block i hi⟩
theorem setI (h:FrT base a b) {p:Addr} {n:Nat} {F:Nat→Value} (hc:CelW b base p.block 3 n F) (v:Value):FrT base a (b.setCell p v):=h.trans ⟨rfl,rfl,rfl,by simp,fun i hi hn=>Go.Deep.blk_setCell_other _ _ _ _ fun e=>by
 rcases hn with hn | ⟨cur,t,h1,h2,_⟩
 ·have:=hc.1; omega
 ·exact (hc.ne_own (T:=i) h1 fun e=>h2 e.symm) e.symm⟩
theorem setS (h:FrT base a b) {p:Addr} {n:Nat} {F:Nat→Value} (hc:CelW b base p.block 138 n F) (v:Value):FrT base a (b.setCell p v):=h.trans ⟨rfl,rfl,rfl,by simp,fun i hi hn=>Go.Deep.blk_setCell_other _ _ _ _ fun e=>by
 rcases hn with hn | ⟨cur,t,h1,_,h2⟩
 ·have:=hc.1; omega
 ·exact (hc.ne_own (T:=i) h1 fun e=>h2 e.symm) e.symm⟩
theorem below {B:Nat} {w:World} (h:FrT base a b) (hb:Below B w a) (hB:B≤base) (hs:B≤a.heap.size):Below B w b:=⟨h.os.trans hb.os,h.tape.trans hb.tape,h.output.trans hb.output,Nat.le_trans hb.size h.size,fun i hi=>(h.block i (by omega) (.inl (by omega))).trans (hb.block i hi)⟩
theorem own (h:FrT base a b) {g:Nat} {t:TypeId} {cs:Array Value} (ho:Own a g t cs) (h1:t≠3) (h2:t≠138):Own b g t cs:=ho.of_block (h.block g ho.lt (.inr ⟨cs,t,ho,h1,h2⟩))
theorem le {B:Nat} (h:FrT base a b) (hB:B≤base) {x:World} (hx:Le x a) (hs:x.heap.size≤B):Le x b:=fun p v hc=>by
 have h1:=hx p v hc
 have hl:=World.block_lt_of_cell? _ _ h1
 have hl':=World.block_lt_of_cell? _ _ hc
 exact (World.cell?_of_block (h.block p.block hl (.inl (by omega)))).trans h1
end FrT
theorem Own5.congr {w:World} {base n:Nat} {q:L5} {P P':Nat→Nat} {G G':Nat→Int} {V V':Nat→V5} {N Lb Lc:Nat→Nat} {M M':Nat→Nat→M5} {κ:Nat→Nat} (h:Own5 w base q n P G V N Lb Lc M κ) (hP:∀ t,t<n→P t=P' t) (hG:∀ i,i<n*3→G i=G' i) (hV:∀ t,t<n→V t=V' t) (hM:∀ l,l<3→∀ k,k<N l→M l k=M' l k):Own5 w base q n P' G' V' N Lb Lc M' κ where
 at_:=h.at_.congr fun t ht=>by rw [hP t ht]
 regs:=h.regs.congr fun t ht=>by rw [hG t ht]
 view:=h.view.congr fun t ht=>by rw [hV t ht]
 list:=h.list
 vw:=fun t ht=>by rw [← hV t ht]; exact h.vw t ht
 lb:=fun l hl=>(h.lb l hl).congr fun j hj=>by
  unfold mF
  rw [hM l hl (j / 3) (by omega)]
 mv:=fun l hl k hk=>by rw [← hM l hl k hk]; exact h.mv l hl k hk
 capv:=fun t ht=>by rw [← hV t ht]; exact h.capv t ht
 capl:=h.capl
 capm:=fun l hl k hk=>by rw [← hM l hl k hk]; exact h.capm l hl k hk
 k1:=h.k1
 k2:=h.k2
 kv:=fun t ht=>by rw [← hV t ht]; exact h.kv t ht
 kl:=h.kl
 km:=fun l hl k hk=>by rw [← hM l hl k hk]; exact h.km l hl k hk
def jn5 (u v:List Nat) (i:Nat):List Nat:=(List.range 3).map fun j=>if j<i then max (atV u j) (atV v j) else atV u j
theorem jn5_at (u v:List Nat) (i j:Nat) (hj:j<3):atV (jn5 u v i) j=if j<i then max (atV u j) (atV v j) else atV u j:=by
 unfold jn5
 match j,hj with
 | 0,_=>rfl
 | 1,_=>rfl
 | 2,_=>rfl
theorem view_ext {u v:List Nat} (hu:u.length=3) (hv:v.length=3) (h:∀ j,j<3→atV u j=atV v j):u=v:=by
 match u,hu,v,hv with
 | [a,b,c],_,[d,e,f],_=>
  have h0:a=d:=h 0 (by omega)
  have h1:b=e:=h 1 (by omega)
  have h2:c=f:=h 2 (by omega)
  rw [h0,h1,h2]
theorem jn5_end {u v:List Nat} (hu:u.length=3) (hv:v.length=3):jn5 u v 3=joinV u v:=view_ext (by simp [jn5]) (join_len hu hv) fun j hj=>by rw [jn5_at _ _ _ _ hj,join_at hu hv j hj,if_pos hj]
theorem jn5_zero {u v:List Nat} (hu:u.length=3):jn5 u v 0=u:=view_ext (by simp [jn5]) hu fun j hj=>by rw [jn5_at _ _ _ _ hj,if_neg (by omega)]
def RetJn (w:World) (base:Nat) (q:L5) (n:Nat) (P:Nat→Nat) (G:Nat→Int) (V:Nat→V5) (N Lb Lc:Nat→Nat) (M:Nat→Nat→M5) (κ:Nat→Nat) (t:Nat) (v':List Nat) (e:Ending) (w':World):Prop:=
 e=.returned (.tuple #[])∧Own5 w' base q n P G (fun u=>if u=t then ⟨v',(V t).b,(V t).c⟩ else V u) N Lb Lc M κ∧FrT base w w'
set_option maxHeartbeats 2000000 in
theorem l5Join_any (w:World) (base n:Nat) (q:L5) (P:Nat→Nat) (G:Nat→Int) (V:Nat→V5) (N Lb Lc:Nat→Nat) (M:Nat→Nat→M5) (κ:Nat→Nat) (ho:Own5 w base q n P G V N Lb Lc M κ) (hn:n≤3) (t l k:Nat) (ht:t<n) (hl:l<3) (hk:k<N l) (hu3:(V t).v.length=3) (hv3:(M l k).m.view.length=3):
  Calls Tryz.prog 116 #[v5 q n,.int .i64 ((t:Nat):Int),.slice (some ⟨(M l k).b,0,none⟩) 3 (M l k).c] w (RetJn w base q n P G V N Lb Lc M κ t (joinV (V t).v (M l k).m.view)):=by
 rw [← jn5_end hu3 hv3]
 have hst:Own5 w base q n P G (fun u=>if u=t then ⟨jn5 (V t).v (M l k).m.view 0,(V t).b,(V t).c⟩ else V u) N Lb Lc M κ:=ho.congr (fun _ _=>rfl) (fun _ _=>rfl) (fun u hu=>by
  by_cases e:u=t
  ·rw [if_pos e,jn5_zero hu3,e]
  ·rw [if_neg e]) fun _ _ _ _=>rfl
 obtain⟨W,hW⟩:∃ W,W=w.alloc (.cells #[.slice (some ⟨q.b1,0,none⟩) n q.c1,.slice (some ⟨q.b2,0,none⟩) (n*3) q.c2,.slice (some ⟨q.b3,0,none⟩) n q.c3,.slice (some ⟨q.b4,0,none⟩) 3 q.c4] 73):=⟨_,rfl⟩
 have hB:Below w.heap.size w W:=by rw [hW]; exact (Below.refl _ _).alloc (Nat.le_refl _) _
 have oB:Own W w.heap.size 73 #[.slice (some ⟨q.b1,0,none⟩) n q.c1,.slice (some ⟨q.b2,0,none⟩) (n*3) q.c2,.slice (some ⟨q.b3,0,none⟩) n q.c3,.slice (some ⟨q.b4,0,none⟩) 3 q.c4]:=by rw [hW]; exact Own.new _ _ _
 have OB:=Lib.hid oB
 have HS:=Lib.hid (hst.under hB)
 have hMx:Hid (∀ j,j<3→W.cell? ⟨(M l k).b,j,none⟩=some (.int .i64 ((atV (M l k).m.view j:Nat):Int))):=fun j hj=>((ho.under hB).mv l hl k hk).cell hj
 have Hne:Hid ((M l k).b≠(V t).b):=fun e=>by
  have h1:=ho.km l hl k hk
  have h2:=ho.kv t ht
  rw [e,h2] at h1
  omega
 have Hfr:Hid (FrT base w W):=FrT.of_below hB
 unfold v5 v5C
 generalize (M l k).m.view=vv at *
 generalize hMb:(M l k).b=bm at *
 generalize (M l k).c=cm at *
 generalize hVv:(V t).v=uu at *
 generalize hVb:(V t).b=bu at *
 generalize hVc:(V t).c=cu at *
 have HVb:=Lib.hid hVb
 have HVc:=Lib.hid hVc
 clear ho hst hu3 hv3 hMb hVv hVb hVc oB
 have hti:(t:Int)<(n:Int):=by omega
 go_enter Tryz.func116,Tryz.ntmps116
 go_upto_region 1 with (fail)
 rw [← hW]
 clear hW
 go_wp2_with fail
 go_loopg [6] 3 (fun g s6 wr=>∃ i:Nat,i≤3∧g=3-i∧s6=.int .i64 i∧Hid (Own5 wr base q n P G (fun u=>if u=t then ⟨jn5 uu vv i,bu,cu⟩ else V u) N Lb Lc M κ)∧Hid (FrT base w wr)∧Hid (Own wr w.heap.size 73 #[.slice (some ⟨q.b1,0,none⟩) n q.c1,.slice (some ⟨q.b2,0,none⟩) (n*3) q.c2,.slice (some ⟨q.b3,0,none⟩) n q.c3,.slice (some ⟨q.b4,0,none⟩) 3 q.c4])∧Hid (∀ j,j<3→wr.cell? ⟨bm,j,none⟩=some (.int .i64 ((atV vv j:Nat):Int))))
 case atStart=>exact⟨0,Nat.zero_le _,rfl,rfl,HS.out,Hfr.out,OB.out,hMx.out⟩
 case round=>
  clear HS Hfr OB hMx
  obtain⟨i,hi,rfl,rfl,hs,hfr,hob,hmx⟩:=hrel
  by_cases hlt:i<3
  ·have hii:(i:Int)<3:=by omega
   have q2:wr.cell? ⟨w.heap.size,2,none⟩=some (.slice (some ⟨q.b3,0,none⟩) n q.c3):=hob.out.cell (i:=2) rfl
   have c3:wr.cell? ⟨q.b3,t,none⟩=some (.slice (some ⟨bu,0,none⟩) 3 cu):=by have h:=hs.out.view.cell ht; simpa using h
   have hcu:CelW wr base bu 3 3 (vF (jn5 uu vv i)):=by have h:=hs.out.vw t ht; simpa using h
   have cu0:wr.cell? ⟨bu,i,none⟩=some (.int .i64 ((atV uu i:Nat):Int)):=by
    have h:=hcu.cell hlt
    unfold vF aV at h
    rw [jn5_at _ _ _ _ hlt,if_neg (by omega)] at h
    exact h
   have fu:=hcu.frozen i
   have cm0:=hmx.out i hlt
   have hbul:=hcu.lt
   have f0:=fun n:Ext wr=>n.le _ _ q2
   have f1:=fun n:Ext wr=>n.le _ _ c3
   have f2:=fun n:Ext wr=>n.le _ _ cu0
   have f3:=fun n:Ext wr=>n.le _ _ cm0
   have Hcu:=Lib.hid hcu
   have Hv':Hid (∀ j,j<3→atV (jn5 uu vv (i+1)) j=if j=i then max (atV uu i) (atV vv i) else atV (jn5 uu vv i) j):=fun j hj=>by
    rw [jn5_at _ _ _ _ hj,jn5_at _ _ _ _ hj]
    by_cases e:j=i
    ·rw [if_pos e,if_pos (by omega),e]
    ·rw [if_neg e]
     by_cases h:j<i
     ·rw [if_pos h,if_pos (by omega)]
     ·rw [if_neg h,if_neg (by omega)]
   have Hxx:Hid (atV (jn5 uu vv i) i=atV uu i):=by show _=_; rw [jn5_at _ _ _ _ hlt,if_neg (Nat.lt_irrefl _)]
   generalize atV uu i=x at cu0 f2 Hv' Hxx
   generalize atV vv i=y at cm0 f3 Hv'
   clear hcu
   go_wp2_with fail
   refine wp_region_ext _ (by kernel_rfl) (by kernel_rfl) (Below.refl _ _) ?_
   repeat (go_big_quiet_step (fail))
   refine wpQuiet_nil ?_
   rintro wn ⟨⟨_,hbn⟩,rfl⟩
   have hsn:=Lib.hid (hs.out.under hbn)
   have hfn:=Lib.hid (hfr.out.trans (FrT.of_below hbn))
   have hon:=Lib.hid (hob.out.under hbn)
   have hmn:Hid (∀ j,j<3→wn.cell? ⟨bm,j,none⟩=some (.int .i64 ((atV vv j:Nat):Int))):=fun j hj=>Le.below hbn _ _ (hmx.out j hj)
   have Hcn:=Lib.hid (Hcu.out.under hbn)
   have q2:=Le.below hbn _ _ q2
   have c3:=Le.below hbn _ _ c3
   have cu0:=Le.below hbn _ _ cu0
   have cm0:=Le.below hbn _ _ cm0
   have fu:=Hcn.out.frozen i
   have hbul:=Hcn.out.lt
   clear f0 f1 f2 f3 hbn hs hfr hob hmx Hcu
   by_cases hxy:x<y
   ·have hd:decide (x<y)=true:=decide_eq_true hxy
    have hd':decide ((y:Int)>(x:Int))=true:=by rw [decide_eq_true_iff]; omega
    go_wp2_with fail
    go_still_tail 11,(by kernel_rfl)
    go_upto_region 3 with (fail)
    obtain⟨w9,hw9⟩:∃ w9,w9=(wn.setCell ⟨bu,i,none⟩ (.int .i64 (y:Int))).drew:=⟨_,rfl⟩
    rw [← hw9]
    have hx1:Hid (Own5 w9 base q n P G (fun u=>if u=t then ⟨jn5 uu vv (i+1),bu,cu⟩ else V u) N Lb Lc M κ):=by
     have h:=hsn.out.setV ht hlt y (jn5 uu vv (i+1)) fun j hj=>by
      simp only [if_true]
      rw [Hv'.out j hj]
      by_cases e:j=i
      ·rw [if_pos e,if_pos e]; omega
      ·rw [if_neg e,if_neg e]
     simp only [if_true] at h
     show Own5 _ _ _ _ _ _ _ _ _ _ _ _
     rw [hw9]
     refine (h.of_blocks (w':=(wn.setCell ⟨bu,i,none⟩ (.int .i64 (y:Int))).drew) fun _ _ _=>rfl).congr (fun _ _=>rfl) (fun _ _=>rfl) (fun u hu=>?_) fun _ _ _ _=>rfl
     by_cases e:u=t
     ·rw [if_pos e,if_pos e]
     ·rw [if_neg e,if_neg e,if_neg e]
    have hx2:Hid (FrT base w w9):=by
     show FrT _ _ _
     rw [hw9]
     exact (hfn.out.setI (p:=⟨bu,i,none⟩) Hcn.out _).trans ⟨rfl,rfl,rfl,Nat.le_refl _,fun _ _ _=>rfl⟩
    have hx3:Hid (Own w9 w.heap.size 73 #[.slice (some ⟨q.b1,0,none⟩) n q.c1,.slice (some ⟨q.b2,0,none⟩) (n*3) q.c2,.slice (some ⟨q.b3,0,none⟩) n q.c3,.slice (some ⟨q.b4,0,none⟩) 3 q.c4]):=by
     show Own _ _ _ _
     rw [hw9]
     exact (hon.out.far (fun e=>Hcn.out.ne_own hon.out (by decide) e.symm) _).drew
    have hx4:Hid (∀ j,j<3→w9.cell? ⟨bm,j,none⟩=some (.int .i64 ((atV vv j:Nat):Int))):=fun j hj=>by
     rw [hw9]
     exact (World.cell?_of_block (w:=wn) (Go.Deep.blk_setCell_other _ _ _ _ (show bm≠bu from Hne.out))).trans (hmn.out j hj)
    clear q2 c3 cu0 cm0 fu hw9 hsn hfn hon hmn
    go_wp2_with fail
    go_roundg (3-(i+1))
    case measure=>omega
    case rel=>exact⟨i+1,by omega,rfl,by go_num,hx1.out,hx2.out,hx3.out,hx4.out⟩
   ·have hd:decide (x<y)=false:=decide_eq_false hxy
    have hd':decide ((y:Int)>(x:Int))=false:=by rw [decide_eq_false_iff_not]; omega
    go_wp2_with fail
    go_roundg (3-(i+1))
    case measure=>omega
    case rel=>
     refine⟨i+1,by omega,rfl,by go_num,hsn.out.congr (fun _ _=>rfl) (fun _ _=>rfl) (fun u hu=>?_) fun _ _ _ _=>rfl,hfn.out,hon.out,hmn.out⟩
     by_cases e:u=t
     ·rw [if_pos e,if_pos e]
      congr 1
      refine view_ext (by simp [jn5]) (by simp [jn5]) fun j hj=>?_
      rw [Hv'.out j hj]
      by_cases e2:j=i
      ·rw [if_pos e2,e2,Hxx.out]
       omega
      ·rw [if_neg e2]
     ·rw [if_neg e,if_neg e]
  ·obtain rfl:i=3:=by omega
   go_wp2_with fail
   go_end0
   refine⟨rfl,?_,hfr.out⟩
   rw [HVb.out,HVc.out]
   exact hs.out
end Go.Proofs.YtojmofnamppbdaaGreat
namespace Go.Proofs.YtojmofnamppbdaaGreat
open Go.RowKit
set_option linter.unusedVariables false
set_option maxRecDepth 100000
theorem bumpV_no {l k:Nat} {v:List Nat} (hv:v.length=3) (h:¬ k≤atV v l) (hl:l<3):bumpV l k v=v:=view_ext (by rw [bump_len]; exact hv) hv fun j hj=>by
 rw [bump_at (by omega)]
 by_cases e:j=l
 ·rw [if_pos e,if_neg h,e]
 ·rw [if_neg e]
theorem bumpV_yes {l k:Nat} {v:List Nat} (hv:v.length=3) (h:k≤atV v l) (hl:l<3):∀ j,j<3→atV (bumpV l k v) j=if j=l then atV v l+1 else atV v j:=fun j hj=>by
 rw [bump_at (by omega)]
 by_cases e:j=l
 ·rw [if_pos e,if_pos e,if_pos h]
 ·rw [if_neg e,if_neg e]
def insK (κ:Nat→Nat) (l k gl gm:Nat) (b:Nat):Nat:=if b=gl then 20+2*l else if b=gm then 11+2*(l+3*k) else if 11+2*(l+3*k)≤κ b∧(κ b-(11+2*l)) % 6=0 then κ b+6 else κ b
theorem Own5.ins {w w':World} {base n:Nat} {q:L5} {P:Nat→Nat} {G:Nat→Int} {V:Nat→V5} {N Lb Lc:Nat→Nat} {M:Nat→Nat→M5} {κ:Nat→Nat} (h0:Own5 w base q n P G V N Lb Lc M κ) (hb:Below w.heap.size w w') {l k gl c':Nat} (mm:M5) (hl:l<3) (hk:k≤N l) (hn:n≤3)
  (hgl:CelW w' w.heap.size gl 137 ((N l+1)*3) (mF fun j=>if j<k then M l j else if j=k then mm else M l (j-1))) (hgm:CelW w' w.heap.size mm.b 3 3 (vF mm.m.view)) (hc1:N l+1≤c') (hc2:c'≤9223372036854775807) (hc3:3≤mm.c) (hbase:base≤w.heap.size):
  Own5 (w'.setCell ⟨q.b4,l,none⟩ (.slice (some ⟨gl,0,none⟩) (N l+1) c')) base q n P G V (fun j=>if j=l then N l+1 else N j) (fun j=>if j=l then gl else Lb j) (fun j=>if j=l then c' else Lc j) (fun l' j=>if l'=l then (if j<k then M l j else if j=k then mm else M l (j-1)) else M l' j) (insK κ l k gl mm.b):=by
 have h:=h0.under hb
 have old:∀ {b ty m F},CelW w base b ty m F→b≠gl∧b≠mm.b:=fun hc=>by
  have:=hc.lt; have:=hgl.1; have:=hgm.1
  exact⟨by omega,by omega⟩
 have kold:∀ {b ty m F},CelW w base b ty m F→insK κ l k gl mm.b b=if 11+2*(l+3*k)≤κ b∧(κ b-(11+2*l)) % 6=0 then κ b+6 else κ b:=fun hc=>by
  unfold insK
  rw [if_neg (old hc).1,if_neg (old hc).2]
 have hne:mm.b≠gl:=hgm.ne_type hgl (by decide)
 have mk:∀ l',l'<3→∀ j,j<N l'→insK κ l k gl mm.b (M l' j).b=if l'=l∧k≤j then 11+2*(l'+3*(j+1)) else 11+2*(l'+3*j):=fun l' hl' j hj=>by
  rw [kold (h0.mv l' hl' j hj),h0.km l' hl' j hj]
  by_cases e:l'=l∧k≤j
  ·obtain⟨rfl,e2⟩:=e
   rw [if_pos ⟨by omega,by omega⟩,if_pos ⟨rfl,e2⟩]
   omega
  ·rw [if_neg e,if_neg]
   rintro ⟨h1,h2⟩
   exact e ⟨by omega,by omega⟩
 refine⟨h.at_.far (h.at_.ne_type h.list (by decide)) _,h.regs.far (h.regs.ne_type h.list (by decide)) _,h.view.far (h.view.ne_type h.list (by decide)) _,?_,fun u hu=>(h.vw u hu).far ((h.vw u hu).ne_type h.list (by decide)) _,fun l' hl'=>?_,fun l' hl' j hj=>?_,h.capv,fun l' hl'=>?_,fun l' hl' j hj=>?_,?_,?_,fun u hu=>?_,fun l' hl'=>?_,fun l' hl' j hj=>?_⟩
 ·exact h.list.set _ hl fun j hj=>by by_cases e:j=l <;> simp [e]
 ·by_cases e:l'=l
  ·simp only [e,if_true]
   exact (hgl.rebase hbase).far ((hgl.rebase hbase).ne_type h.list (by decide)) _
  ·simp only [if_neg e]
   exact (h.lb l' hl').far ((h.lb l' hl').ne_type h.list (by decide)) _
 ·have far:∀ {b F},CelW w' base b 3 3 F→CelW (w'.setCell ⟨q.b4,l,none⟩ (.slice (some ⟨gl,0,none⟩) (N l+1) c')) base b 3 3 F:=fun hc=>hc.far (hc.ne_type h.list (by decide)) _
  by_cases e:l'=l
  ·simp only [e,if_true] at hj ⊢
   by_cases e1:j<k
   ·simp only [if_pos e1]
    exact far (h.mv l hl j (by omega))
   ·simp only [if_neg e1]
    by_cases e2:j=k
    ·simp only [if_pos e2]
     exact far (hgm.rebase hbase)
    ·simp only [if_neg e2]
     exact far (h.mv l hl (j-1) (by omega))
  ·simp only [if_neg e] at hj ⊢
   exact far (h.mv l' hl' j hj)
 ·by_cases e:l'=l
  ·simp only [e,if_true]
   exact⟨hc1,hc2⟩
  ·simp only [if_neg e]
   exact h.capl l' hl'
 ·by_cases e:l'=l
  ·simp only [e,if_true] at hj ⊢
   by_cases e1:j<k
   ·simp only [if_pos e1]
    exact h.capm l hl j (by omega)
   ·simp only [if_neg e1]
    by_cases e2:j=k
    ·simp only [if_pos e2]
     exact hc3
    ·simp only [if_neg e2]
     exact h.capm l hl (j-1) (by omega)
  ·simp only [if_neg e] at hj ⊢
   exact h.capm l' hl' j hj
 ·rw [kold h0.at_,h0.k1,if_neg (by omega)]
 ·rw [kold h0.regs,h0.k2,if_neg (by omega)]
 ·rw [kold (h0.vw u hu),h0.kv u hu,if_neg (by omega)]
 ·by_cases e:l'=l
  ·simp only [e,if_true]
   exact if_pos rfl
  ·simp only [if_neg e]
   rw [kold (h0.lb l' hl'),h0.kl l' hl',if_neg (by omega)]
 ·by_cases e:l'=l
  ·simp only [e,if_true] at hj ⊢
   by_cases e1:j<k
   ·simp only [if_pos e1]
    rw [mk l hl j (by omega),if_neg (by omega)]
   ·simp only [if_neg e1]
    by_cases e2:j=k
    ·simp only [if_pos e2]
     unfold insK
     rw [if_neg hne,if_pos rfl,e2]
    ·simp only [if_neg e2]
     rw [mk l hl (j-1) (by omega),if_pos ⟨rfl,by omega⟩]
     omega
  ·simp only [if_neg e] at hj ⊢
   rw [mk l' hl' j hj,if_neg fun h=>e h.1]
end Go.Proofs.YtojmofnamppbdaaGreat
namespace Go.Proofs.YtojmofnamppbdaaGreat
open Go.RowKit
set_option linter.unusedVariables false
set_option maxRecDepth 100000
def vB5 (V:Nat→V5) (l k i:Nat):Nat→V5:=fun u=>if u<i then ⟨bumpV l k (V u).v,(V u).b,(V u).c⟩ else V u
def mB5 (M:Nat→Nat→M5) (l k i j:Nat):Nat→Nat→M5:=fun l' k'=>if l'<i∨l'=i∧k'<j then ⟨bumpM l k (M l' k').m,(M l' k').b,(M l' k').c⟩ else M l' k'
theorem vB5_b (V:Nat→V5) (l k i u:Nat):(vB5 V l k i u).b=(V u).b:=by unfold vB5; split <;> rfl
theorem vB5_c (V:Nat→V5) (l k i u:Nat):(vB5 V l k i u).c=(V u).c:=by unfold vB5; split <;> rfl
theorem vB5_at (V:Nat→V5) (l k i:Nat):vB5 V l k i i=V i:=if_neg (Nat.lt_irrefl _)
theorem vB5_next (V:Nat→V5) (l k i u:Nat):(if u=i then (⟨bumpV l k (V i).v,(V i).b,(V i).c⟩:V5) else vB5 V l k i u)=vB5 V l k (i+1) u:=by
 unfold vB5
 by_cases e:u=i
 ·rw [if_pos e,if_pos (by omega),e]
 ·rw [if_neg e]
  by_cases h:u<i
  ·rw [if_pos h,if_pos (by omega)]
  ·rw [if_neg h,if_neg (by omega)]
theorem vB5_same {V:Nat→V5} {l k i:Nat} (h:bumpV l k (V i).v=(V i).v) (u:Nat):vB5 V l k i u=vB5 V l k (i+1) u:=by
 rw [← vB5_next,h]
 by_cases e:u=i
 ·rw [if_pos e,e,vB5_at]
 ·rw [if_neg e]
theorem mB5_b (M:Nat→Nat→M5) (l k i j l' k':Nat):(mB5 M l k i j l' k').b=(M l' k').b:=by unfold mB5; split <;> rfl
theorem mB5_c (M:Nat→Nat→M5) (l k i j l' k':Nat):(mB5 M l k i j l' k').c=(M l' k').c:=by unfold mB5; split <;> rfl
theorem mB5_at (M:Nat→Nat→M5) (l k i j:Nat):mB5 M l k i j i j=M i j:=if_neg (by omega)
theorem mB5_next (M:Nat→Nat→M5) (l k i j l' k':Nat):(if l'=i∧k'=j then (⟨bumpM l k (M i j).m,(M i j).b,(M i j).c⟩:M5) else mB5 M l k i j l' k')=mB5 M l k i (j+1) l' k':=by
 unfold mB5
 by_cases e:l'=i∧k'=j
 ·rw [if_pos e,if_pos (by omega),e.1,e.2]
 ·rw [if_neg e]
  by_cases h:l'<i∨l'=i∧k'<j
  ·rw [if_pos h,if_pos (by omega)]
  ·rw [if_neg h,if_neg (by omega)]
theorem mB5_same {M:Nat→Nat→M5} {l k i j:Nat} (h:bumpM l k (M i j).m=(M i j).m) (l' k':Nat):mB5 M l k i j l' k'=mB5 M l k i (j+1) l' k':=by
 rw [← mB5_next,h]
 by_cases e:l'=i∧k'=j
 ·rw [if_pos e,e.1,e.2,mB5_at]
 ·rw [if_neg e]
theorem mB5_up {M:Nat→Nat→M5} {l k i n:Nat} (l' k':Nat) (hk:l'=i→k'<n):mB5 M l k i n l' k'=mB5 M l k (i+1) 0 l' k':=by
 unfold mB5
 by_cases h:l'<i∨l'=i∧k'<n
 ·rw [if_pos h,if_pos (by omega)]
 ·rw [if_neg h,if_neg (by omega)]
theorem qms_one:∀ (cs:Nat→Value) (y:M5),QMs cs y→∀ j,j<3→(cs j).oneCell'=true:=fun cs y ⟨h0,h1,h2⟩ j hj=>by
 match j,hj with
 | 0,_=>rw [h0]; rfl
 | 1,_=>rw [h1]; rfl
 | 2,_=>rw [h2]; rfl
theorem qms_mF (F:Nat→M5) (i:Nat):QMs (fun j=>mF F (i*3+j)) (F i):=⟨mF0 F i,mF1 F i,mF2 F i⟩
theorem qms_all (F:Nat→M5) {cs:Nat→Value} {i:Nat} (hq:QMs cs (F i)):∀ j,j<3→cs j=mF F (i*3+j):=fun j hj=>by
 obtain⟨h0,h1,h2⟩:=hq
 match j,hj with
 | 0,_=>exact h0.trans (mF0 F i).symm
 | 1,_=>exact h1.trans (mF1 F i).symm
 | 2,_=>exact h2.trans (mF2 F i).symm
theorem CelW.slM {X:World} {base b n o m:Nat} {F:Nat→M5} (h:CelW X base b 137 (n*3) (mF F)) (c:Nat) (hom:o+m≤n) (hn:n≤100):SlR 3 (fun _=>QMs) X (.slice (some ⟨b,o*3,none⟩) ((List.range m).map fun j=>F (o+j)).length c) ((List.range m).map fun j=>F (o+j)):=by
 refine⟨_,c,rfl,by simp; omega,fun i hi=>⟨b,o*3,rfl,fun j=>mF F ((o+i)*3+j),fun j hj=>?_,?_⟩⟩
 ·have hi':i<m:=by simpa using hi
  have h1:=h.cell (j:=(o+i)*3+j) (by omega)
  rw [show o*3+i*3+j=(o+i)*3+j by omega]
  exact h1
 ·have e:((List.range m).map fun j=>F (o+j))[i]=F (o+i):=by simp
  rw [e]
  exact qms_mF F (o+i)
theorem ins_rows {F:Nat→M5} {mm:M5} {k n:Nat} (hk:k≤n):((List.range k).map fun j=>F (0+j))++[mm]++((List.range (n-k)).map fun j=>F (k+j))=(List.range (n+1)).map fun j=>if j<k then F j else if j=k then mm else F (j-1):=by
 refine List.ext_getElem (by simp; omega) fun i h1 h2=>?_
 simp only [List.getElem_map,List.getElem_range]
 by_cases e1:i<k
 ·rw [if_pos e1,List.getElem_append_left (by simp; omega),List.getElem_append_left (by simp; omega)]
  simp
 ·rw [if_neg e1]
  by_cases e2:i=k
  ·subst e2
   rw [if_pos rfl,List.getElem_append_left (by simp),List.getElem_append_right (by simp)]
   simp
  ·rw [if_neg e2,List.getElem_append_right (by simp; omega)]
   simp only [List.length_append,List.length_map,List.length_range,List.length_singleton,List.getElem_map,List.getElem_range]
   congr 1
   omega
def RetIn5 (w:World) (base:Nat) (q:L5) (n:Nat) (P:Nat→Nat) (G:Nat→Int) (V:Nat→V5) (N:Nat→Nat) (M:Nat→Nat→M5) (t l k:Nat) (x:Int) (e:Ending) (w':World):Prop:=
 e=.returned (.tuple #[])∧(∃ V' N' Lb' Lc' M' κ',Own5 w' base q n P G V' N' Lb' Lc' M' κ'
  ∧ (∀ u,u<n→(V' u).v=if u=t then (bumpV l k (V t).v).set l k else bumpV l k (V u).v)
  ∧ (∀ j,j<3→N' j=if j=l then N l+1 else N j)
  ∧ (∀ l',l'<3→∀ j,j<N' l'→(M' l' j).m=if l'=l then (if j<k then bumpM l k (M l j).m else if j=k then ⟨x,false,(bumpV l k (V t).v).set l k⟩ else bumpM l k (M l (j-1)).m) else bumpM l k (M l' j).m))∧FrT base w w'
set_option maxHeartbeats 8000000 in
theorem l5Insert_any (w:World) (base n:Nat) (q:L5) (P:Nat→Nat) (G:Nat→Int) (V:Nat→V5) (N Lb Lc:Nat→Nat) (M:Nat→Nat→M5) (κ:Nat→Nat) (ho:Own5 w base q n P G V N Lb Lc M κ) (hn:n≤3) (hbase:base≤w.heap.size) (t l k:Nat) (x:Int) (ht:t<n) (hl:l<3) (hk1:1≤k) (hk:k≤N l) (hN:∀ j,j<3→0<N j∧N j≤100) (hV3:∀ u,u<n→VwB (V u).v) (hM3:∀ j,j<3→∀ i,i<N j→VwB (M j i).m.view):
  Calls Tryz.prog 117 #[v5 q n,.int .i64 ((t:Nat):Int),.int .i64 ((l:Nat):Int),.int .i64 ((k:Nat):Int),.int .i64 x] w (RetIn5 w base q n P G V N M t l k x):=by
 obtain⟨i0,hi0,hz0,hz1,hz2⟩:=info_parts Tryz.infoInt
 obtain⟨i2,hi2,hx0,hx1,hx2⟩:=info_parts Tryz.infoMsg5
 obtain⟨W,hW⟩:∃ W,W=w.alloc (.cells #[.slice (some ⟨q.b1,0,none⟩) n q.c1,.slice (some ⟨q.b2,0,none⟩) (n*3) q.c2,.slice (some ⟨q.b3,0,none⟩) n q.c3,.slice (some ⟨q.b4,0,none⟩) 3 q.c4] 73):=⟨_,rfl⟩
 have hB:Below w.heap.size w W:=by rw [hW]; exact (Below.refl _ _).alloc (Nat.le_refl _) _
 have oB:Own W w.heap.size 73 #[.slice (some ⟨q.b1,0,none⟩) n q.c1,.slice (some ⟨q.b2,0,none⟩) (n*3) q.c2,.slice (some ⟨q.b3,0,none⟩) n q.c3,.slice (some ⟨q.b4,0,none⟩) 3 q.c4]:=by rw [hW]; exact Own.new _ _ _
 have OB:=Lib.hid oB
 have HS:Hid (Own5 W base q n P G (vB5 V l k 0) N Lb Lc M κ):=(ho.under hB).congr (fun _ _=>rfl) (fun _ _=>rfl) (fun u _=>(if_neg (Nat.not_lt_zero _)).symm) fun _ _ _ _=>rfl
 have Hfr:Hid (FrT base w W):=FrT.of_below hB
 have HN:=Lib.hid hN
 have HV3:=Lib.hid hV3
 have HM3:=Lib.hid hM3
 have hk100:k≤100:=by have:=(hN l hl).2; omega
 have Hk:=Lib.hid hk
 have hli:(l:Int)<3:=by omega
 have hti:(t:Int)<(n:Int):=by omega
 unfold v5 v5C
 clear ho oB hN hV3 hM3
 go_enter Tryz.func117,Tryz.ntmps117
 go_upto_region 1 with (fail)
 rw [← hW]
 clear hW
 go_wp2_with fail
 go_loopg [10] n (fun g s10 wr=>∃ i:Nat,i≤n∧g=n-i∧s10=.int .i64 i∧Hid (Own5 wr base q n P G (vB5 V l k i) N Lb Lc M κ)∧Hid (FrT base w wr)∧Hid (Own wr w.heap.size 73 #[.slice (some ⟨q.b1,0,none⟩) n q.c1,.slice (some ⟨q.b2,0,none⟩) (n*3) q.c2,.slice (some ⟨q.b3,0,none⟩) n q.c3,.slice (some ⟨q.b4,0,none⟩) 3 q.c4]))
 case atStart=>exact⟨0,Nat.zero_le _,rfl,rfl,HS.out,Hfr.out,OB.out⟩
 case round=>
  clear HS Hfr OB
  obtain⟨i,hi,rfl,rfl,hs,hfr,hob⟩:=hrel
  have q2:wr.cell? ⟨w.heap.size,2,none⟩=some (.slice (some ⟨q.b3,0,none⟩) n q.c3):=hob.out.cell (i:=2) rfl
  by_cases hlt:i<n
  ·have hii:(i:Int)<(n:Int):=by omega
   obtain⟨hu3,hu100⟩:=HV3.out i hlt
   have c3:wr.cell? ⟨q.b3,i,none⟩=some (.slice (some ⟨(V i).b,0,none⟩) 3 (V i).c):=by have h:=hs.out.view.cell hlt; rw [vB5_at] at h; exact h
   have hcu:CelW wr base (V i).b 3 3 (vF (V i).v):=by have h:=hs.out.vw i hlt; rw [vB5_at] at h; exact h
   have cu0:wr.cell? ⟨(V i).b,l,none⟩=some (.int .i64 ((atV (V i).v l:Nat):Int)):=hcu.cell hl
   have fu:=hcu.frozen l
   have hbul:=hcu.lt
   have Hcu:=Lib.hid hcu
   have Hno:Hid (¬ k≤atV (V i).v l→bumpV l k (V i).v=(V i).v):=fun h=>bumpV_no hu3 h hl
   have Hyes:Hid (k≤atV (V i).v l→∀ j,j<3→atV (bumpV l k (V i).v) j=if j=l then atV (V i).v l+1 else atV (vB5 V l k i i).v j):=fun h=>by rw [vB5_at]; exact bumpV_yes hu3 h hl
   have hx100:=hu100 l hl
   generalize atV (V i).v l=y at cu0 Hno Hyes hx100
   clear hcu hu3 hu100
   by_cases hxy:k≤y
   ·have hd:decide ((y:Int)≥(k:Int))=true:=by rw [decide_eq_true_iff]; omega
    have hd':decide (k≤y)=true:=decide_eq_true hxy
    go_wp2_with fail
    go_still_tail 16,(by kernel_rfl)
    go_upto_region 3 with (fail)
    obtain⟨w9,hw9⟩:∃ w9,w9=(wr.setCell ⟨(V i).b,l,none⟩ (.int .i64 ((y:Int)+1))).drew:=⟨_,rfl⟩
    rw [← hw9]
    have hx1:Hid (Own5 w9 base q n P G (vB5 V l k (i+1)) N Lb Lc M κ):=by
     have h:=hs.out.setV hlt hl (y+1) (bumpV l k (V i).v) (Hyes.out hxy)
     rw [vB5_b,vB5_c] at h
     show Own5 _ _ _ _ _ _ _ _ _ _ _ _
     rw [hw9]
     exact (h.of_blocks (w':=(wr.setCell ⟨(V i).b,l,none⟩ (.int .i64 ((y:Int)+1))).drew) fun _ _ _=>rfl).congr (fun _ _=>rfl) (fun _ _=>rfl) (fun u hu=>vB5_next V l k i u) fun _ _ _ _=>rfl
    have hx2:Hid (FrT base w w9):=by
     show FrT _ _ _
     rw [hw9]
     exact (hfr.out.setI (p:=⟨(V i).b,l,none⟩) Hcu.out _).trans ⟨rfl,rfl,rfl,Nat.le_refl _,fun _ _ _=>rfl⟩
    have hx3:Hid (Own w9 w.heap.size 73 #[.slice (some ⟨q.b1,0,none⟩) n q.c1,.slice (some ⟨q.b2,0,none⟩) (n*3) q.c2,.slice (some ⟨q.b3,0,none⟩) n q.c3,.slice (some ⟨q.b4,0,none⟩) 3 q.c4]):=by
     show Own _ _ _ _
     rw [hw9]
     exact (hob.out.far (fun e=>Hcu.out.ne_own hob.out (by decide) e.symm) _).drew
    clear q2 c3 cu0 fu hw9 hs hfr hob
    go_wp2_with fail
    go_roundg (n-(i+1))
    case measure=>omega
    case rel=>exact⟨i+1,by omega,rfl,by go_num,hx1.out,hx2.out,hx3.out⟩
   ·have hd:decide ((y:Int)≥(k:Int))=false:=by rw [decide_eq_false_iff_not]; omega
    have hd':decide (k≤y)=false:=decide_eq_false hxy
    go_wp2_with fail
    go_roundg (n-(i+1))
    case measure=>omega
    case rel=>exact⟨i+1,by omega,rfl,by go_num,hs.out.congr (fun _ _=>rfl) (fun _ _=>rfl) (fun u _=>vB5_same (Hno.out hxy) u) fun _ _ _ _=>rfl,hfr.out,hob.out⟩
  ·obtain rfl:i=n:=by omega
   have HS:Hid (Own5 wr base q i P G (vB5 V l k i) N Lb Lc (mB5 M l k 0 0) κ):=hs.out.congr (fun _ _=>rfl) (fun _ _=>rfl) (fun _ _=>rfl) fun l' _ k' _=>(if_neg (by omega)).symm
   go_wp2_with fail
   clear q2 hs hlt hi
   have Hfr:=hfr
   have OB:=hob
   clear hfr hob
   go_loopg [11] 3 (fun g s11 wr=>∃ a:Nat,a≤3∧g=3-a∧s11=.int .i64 a∧Hid (Own5 wr base q i P G (vB5 V l k i) N Lb Lc (mB5 M l k a 0) κ)∧Hid (FrT base w wr)∧Hid (Own wr w.heap.size 73 #[.slice (some ⟨q.b1,0,none⟩) i q.c1,.slice (some ⟨q.b2,0,none⟩) (i*3) q.c2,.slice (some ⟨q.b3,0,none⟩) i q.c3,.slice (some ⟨q.b4,0,none⟩) 3 q.c4]))
   case atStart=>exact⟨0,Nat.zero_le _,rfl,rfl,HS.out,Hfr.out,OB.out⟩
   case round=>
    clear HS Hfr OB
    obtain⟨a,ha,rfl,rfl,hs,hfr,hob⟩:=hrel
    have q3:wr.cell? ⟨w.heap.size,3,none⟩=some (.slice (some ⟨q.b4,0,none⟩) 3 q.c4):=hob.out.cell (i:=3) rfl
    by_cases hlt:a<3
    ·have hai:(a:Int)<(3:Int):=by omega
     obtain⟨hN0,hN100⟩:=HN.out a hlt
     have HS:=hs
     have Hfr:=hfr
     have OB:=hob
     clear hs hfr hob
     go_wp2_with fail
     clear q3
     go_loopg [12] (N a) (fun g s12 wr=>∃ j:Nat,j≤N a∧g=N a-j∧s12=.int .i64 j∧Hid (Own5 wr base q i P G (vB5 V l k i) N Lb Lc (mB5 M l k a j) κ)∧Hid (FrT base w wr)∧Hid (Own wr w.heap.size 73 #[.slice (some ⟨q.b1,0,none⟩) i q.c1,.slice (some ⟨q.b2,0,none⟩) (i*3) q.c2,.slice (some ⟨q.b3,0,none⟩) i q.c3,.slice (some ⟨q.b4,0,none⟩) 3 q.c4]))
     case atStart=>exact⟨0,Nat.zero_le _,rfl,rfl,HS.out,Hfr.out,OB.out⟩
     case round=>
      clear HS Hfr OB
      obtain⟨j,hj,rfl,rfl,hs,hfr,hob⟩:=hrel
      have q3:wr.cell? ⟨w.heap.size,3,none⟩=some (.slice (some ⟨q.b4,0,none⟩) 3 q.c4):=hob.out.cell (i:=3) rfl
      have c4:wr.cell? ⟨q.b4,a,none⟩=some (.slice (some ⟨Lb a,0,none⟩) (N a) (Lc a)):=hs.out.list.cell hlt
      by_cases hjl:j<N a
      ·have hji:(j:Int)<(N a:Int):=by omega
       obtain⟨hu3,hu100⟩:=HM3.out a hlt j hjl
       have c5:wr.cell? ⟨Lb a,j*3+2,none⟩=some (.slice (some ⟨(M a j).b,0,none⟩) 3 (M a j).c):=by
        have h:=(hs.out.lb a hlt).cell (j:=j*3+2) (by omega)
        rw [mF2,mB5_at] at h
        exact h
       have hcu:CelW wr base (M a j).b 3 3 (vF (M a j).m.view):=by have h:=hs.out.mv a hlt j hjl; rw [mB5_at] at h; exact h
       have cu0:wr.cell? ⟨(M a j).b,l,none⟩=some (.int .i64 ((atV (M a j).m.view l:Nat):Int)):=hcu.cell hl
       have fu:=hcu.frozen l
       have hbul:=hcu.lt
       have Hcu:=Lib.hid hcu
       have Hno:Hid (¬ k≤atV (M a j).m.view l→bumpM l k (M a j).m=(M a j).m):=fun h=>by
        unfold bumpM
        rw [bumpV_no hu3 h hl]
       have Hyes:Hid (k≤atV (M a j).m.view l→∀ e,e<3→atV (bumpV l k (M a j).m.view) e=if e=l then atV (M a j).m.view l+1 else atV (mB5 M l k a j a j).m.view e):=fun h=>by rw [mB5_at]; exact bumpV_yes hu3 h hl
       have hx100:=hu100 l hl
       generalize atV (M a j).m.view l=y at cu0 Hno Hyes hx100
       clear hcu hu3 hu100
       by_cases hxy:k≤y
       ·have hd:decide ((y:Int)≥(k:Int))=true:=by rw [decide_eq_true_iff]; omega
        have hd':decide (k≤y)=true:=decide_eq_true hxy
        go_wp2_with fail
        go_still_tail 24,(by kernel_rfl)
        go_upto_region 11 with (fail)
        obtain⟨w9,hw9⟩:∃ w9,w9=(wr.setCell ⟨(M a j).b,l,none⟩ (.int .i64 ((y:Int)+1))).drew:=⟨_,rfl⟩
        rw [← hw9]
        have hx1:Hid (Own5 w9 base q i P G (vB5 V l k i) N Lb Lc (mB5 M l k a (j+1)) κ):=by
         have h:=hs.out.setM hlt hjl hl (y+1) (bumpV l k (M a j).m.view) (Hyes.out hxy)
         rw [mB5_b,mB5_c,mB5_at] at h
         show Own5 _ _ _ _ _ _ _ _ _ _ _ _
         rw [hw9]
         exact (h.of_blocks (w':=(wr.setCell ⟨(M a j).b,l,none⟩ (.int .i64 ((y:Int)+1))).drew) fun _ _ _=>rfl).congr (fun _ _=>rfl) (fun _ _=>rfl) (fun _ _=>rfl) fun l' _ k' _=>mB5_next M l k a j l' k'
        have hx2:Hid (FrT base w w9):=by
         show FrT _ _ _
         rw [hw9]
         exact (hfr.out.setI (p:=⟨(M a j).b,l,none⟩) Hcu.out _).trans ⟨rfl,rfl,rfl,Nat.le_refl _,fun _ _ _=>rfl⟩
        have hx3:Hid (Own w9 w.heap.size 73 #[.slice (some ⟨q.b1,0,none⟩) i q.c1,.slice (some ⟨q.b2,0,none⟩) (i*3) q.c2,.slice (some ⟨q.b3,0,none⟩) i q.c3,.slice (some ⟨q.b4,0,none⟩) 3 q.c4]):=by
         show Own _ _ _ _
         rw [hw9]
         exact (hob.out.far (fun e=>Hcu.out.ne_own hob.out (by decide) e.symm) _).drew
        clear q3 c4 c5 cu0 fu hw9 hs hfr hob
        go_wp2_with fail
        go_roundg (N a-(j+1))
        case measure=>omega
        case rel=>exact⟨j+1,by omega,rfl,by go_num,hx1.out,hx2.out,hx3.out⟩
       ·have hd:decide ((y:Int)≥(k:Int))=false:=by rw [decide_eq_false_iff_not]; omega
        have hd':decide (k≤y)=false:=decide_eq_false hxy
        go_wp2_with fail
        go_roundg (N a-(j+1))
        case measure=>omega
        case rel=>exact⟨j+1,by omega,rfl,by go_num,hs.out.congr (fun _ _=>rfl) (fun _ _=>rfl) (fun _ _=>rfl) fun l' _ k' _=>mB5_same (Hno.out hxy) l' k',hfr.out,hob.out⟩
      ·obtain⟨rfl⟩:j=N a:=by omega
       have HS:Hid (Own5 wr base q i P G (vB5 V l k i) N Lb Lc (mB5 M l k (a+1) 0) κ):=hs.out.congr (fun _ _=>rfl) (fun _ _=>rfl) (fun _ _=>rfl) fun l' _ k' hk'=>mB5_up l' k' fun e=>by rw [← e]; exact hk'
       go_wp2_with fail
       go_roundg (3-(a+1))
       case measure=>omega
       case rel=>exact⟨a+1,by omega,rfl,by go_num,HS.out,hfr.out,hob.out⟩
    ·obtain rfl:a=3:=by omega
     have q2:wr.cell? ⟨w.heap.size,2,none⟩=some (.slice (some ⟨q.b3,0,none⟩) i q.c3):=hob.out.cell (i:=2) rfl
     have c3:wr.cell? ⟨q.b3,t,none⟩=some (.slice (some ⟨(V t).b,0,none⟩) 3 (V t).c):=by have h:=hs.out.view.cell ht; rw [vB5_b,vB5_c] at h; exact h
     have hcu:CelW wr base (V t).b 3 3 (vF (vB5 V l k i t).v):=by have h:=hs.out.vw t ht; rw [vB5_b] at h; exact h
     have cu0:wr.cell? ⟨(V t).b,l,none⟩=some (vF (vB5 V l k i t).v l):=hcu.cell hl
     have fu:=hcu.frozen l
     have hbul:=hcu.lt
     have Hcu:=Lib.hid hcu
     have hvt:(vB5 V l k i t).v=bumpV l k (V t).v:=by unfold vB5; rw [if_pos ht]
     have hb3:(bumpV l k (V t).v).length=3:=by rw [bump_len]; exact (HV3.out t ht).1
     obtain⟨vv,hvv⟩:∃ vv,vv=(bumpV l k (V t).v).set l k:=⟨_,rfl⟩
     have hv3:vv.length=3:=by rw [hvv,List.length_set]; exact hb3
     have hva:∀ j,j<3→atV vv j=if j=l then k else atV (vB5 V l k i t).v j:=fun j hj=>by rw [hvv,at_set (by rw [hb3]; exact hl),hvt]
     generalize vF (vB5 V l k i t).v l=old at cu0
     obtain⟨w1,hw1⟩:∃ w1,w1=wr.setCell ⟨(V t).b,l,none⟩ (.int .i64 (k:Int)):=⟨_,rfl⟩
     have hs1:Hid (Own5 w1 base q i P G (fun u=>if u=t then ⟨vv,(V t).b,(V t).c⟩ else vB5 V l k i u) N Lb Lc (mB5 M l k 3 0) κ):=by
      have h:=hs.out.setV ht hl k vv hva
      rw [vB5_b,vB5_c] at h
      show Own5 _ _ _ _ _ _ _ _ _ _ _ _
      rw [hw1]
      exact h
     have hf1:Hid (FrT base w w1):=by
      show FrT _ _ _
      rw [hw1]
      exact hfr.out.setI (p:=⟨(V t).b,l,none⟩) Hcu.out _
     have ho1:Hid (Own w1 w.heap.size 73 #[.slice (some ⟨q.b1,0,none⟩) i q.c1,.slice (some ⟨q.b2,0,none⟩) (i*3) q.c2,.slice (some ⟨q.b3,0,none⟩) i q.c3,.slice (some ⟨q.b4,0,none⟩) 3 q.c4]):=by
      show Own _ _ _ _
      rw [hw1]
      exact hob.out.far (fun e=>Hcu.out.ne_own hob.out (by decide) e.symm) _
     have Hvv:=Lib.hid hvv
     have Hv3':=Lib.hid hv3
     go_upto_region 15 with (fail)
     rw [← hw1]
     clear hcu hvt hb3 hvv hv3 hva hw1 q2 q3 c3 cu0 fu hs hfr hob Hcu ha
     have q2:w1.cell? ⟨w.heap.size,2,none⟩=some (.slice (some ⟨q.b3,0,none⟩) i q.c3):=ho1.out.cell (i:=2) rfl
     have c3:w1.cell? ⟨q.b3,t,none⟩=some (.slice (some ⟨(V t).b,0,none⟩) 3 (V t).c):=by have h:=hs1.out.view.cell ht; simpa using h
     have Hvi:Hid (Ints w1 (some ⟨(V t).b,0,none⟩) (V t).c (vw3 vv)):=by
      have h:=hs1.out.vw t ht
      simp only [if_true] at h
      exact View3.ints fun j hj=>h.cell hj
     have Hrl:Hid ((vw3 vv).length=3):=vw3_len _
     have Hrv:Hid (∀ (w:World) (base:Nat) (A:Option Addr) (n c:Nat),RowI w base (.slice A n c) (vw3 vv)→∃ g,A=some ⟨g,0,none⟩∧n=3∧3≤c∧CelW w base g 3 3 (vF vv)):=fun w base A n c h=>RowI.view h
     generalize vw3 vv=rj at Hvi Hrl Hrv
     replace c3:w1.cell? ⟨q.b3,t,none⟩=some (.slice (some ⟨(V t).b,0,none⟩) rj.length (V t).c):=by rw [Hrl.out]; exact c3
     have hl3:rj.length≤3:=by have:=Hrl.out; omega
     have hw1s:w.heap.size<w1.heap.size:=ho1.out.lt
     have hb3l:q.b3<w1.heap.size:=hs1.out.view.lt
     obtain⟨wl,hwl⟩:∃ wl,wl=w1.heap.size:=⟨_,rfl⟩
     have Hwl:=Lib.hid hwl
     clear hwl
     go_upto_region 16 with (at_builtin; refine wpList_append_list (o:=⟨some 118,_,_,_,_,_⟩) (by rfl) _ _ _ (by rfl) qint_congr (R:=RInt) w1.heap.size 3 i0 _ 8 Tryz.underlying31 hi0 hz0 hz1 hz2 rfl (by omega) (.slice (some ⟨w1.heap.size,0,none⟩) 0 0) [] (by rfl) (RowOf.made _ (Own.new w1 _ _) (Nat.le_refl _)) (some ⟨(V t).b,0,none⟩) (V t).c rj (by rfl) (Hvi.out.le (Le.alloc _ _)) (fun cs y h=>h) qint_one (by simp [maxLen]; omega) (by simp; omega) (by simp) (w1.heap.size+1) (by simp) ?_; intro A2 c2 w2 hrow2 hgrow2 hat2; rw [List.nil_append] at hrow2 hat2)
     have hb2:Below w1.heap.size w1 w2:=below_of_grown ((Below.refl w1.heap.size w1).alloc (Nat.le_refl _) _) hgrow2 (by simp) (fun g hg=>by simp only [Value.ownBlock,Option.some.injEq] at hg; omega)
     obtain⟨gm,rfl,hl3e,hcm,hgm⟩:=Hrv.out _ _ _ _ _ hrow2
     clear hl3e hrow2 hgrow2 hat2
     obtain⟨w3,hw3⟩:∃ w3,w3=w2.alloc (.cells #[.int .i64 x,.bool false,.slice (some ⟨gm,0,none⟩) rj.length c2] 137):=⟨_,rfl⟩
     rw [← hw3]
     have hs3:w3.heap.size=w2.heap.size+1:=by rw [hw3]; simp
     have hb23:Below w2.heap.size w2 w3:=by rw [hw3]; exact (Below.refl _ _).alloc (Nat.le_refl _) _
     have oM:Own w3 w2.heap.size 137 #[.int .i64 x,.bool false,.slice (some ⟨gm,0,none⟩) rj.length c2]:=by rw [hw3]; exact Own.new _ _ _
     have hb13:Below w1.heap.size w1 w3:=hb2.trans (hb23.mono hb2.size)
     have OM:=Lib.hid oM
     have m0:=oM.cell (i:=0) rfl
     have m1:=oM.cell (i:=1) rfl
     have m2:=oM.cell (i:=2) rfl
     have hMl:=oM.lt
     have Hs3:=Lib.hid hs3
     clear hw3 oM hs3
     obtain⟨nl,hnl⟩:∃ nl,nl=N l:=⟨_,rfl⟩
     obtain⟨lc,hlc⟩:∃ lc,lc=Lc l:=⟨_,rfl⟩
     obtain⟨bl,hbl⟩:∃ bl,bl=Lb l:=⟨_,rfl⟩
     have Hn1:=Lib.hid hnl
     have Hn2:=Lib.hid hlc
     have Hn3:=Lib.hid hbl
     have hnl100:nl≤100:=by rw [hnl]; exact (HN.out l hl).2
     have hknl:k≤nl:=by rw [hnl]; exact Hk.out
     have hlcap:nl≤lc∧lc≤9223372036854775807:=by rw [hnl,hlc]; exact hs1.out.capl l hl
     have hlb:CelW w1 base bl 137 (nl*3) (mF (mB5 M l k 3 0 l)):=by rw [hnl,hbl]; exact hs1.out.lb l hl
     have HLB:=Lib.hid hlb
     have hb4:Hid (∀ X,Below w1.heap.size w1 X→X.cell? ⟨q.b4,l,none⟩=some (.slice (some ⟨bl,0,none⟩) nl lc)∧X.frozen? ⟨q.b4,l,none⟩=false∧q.b4<X.heap.size∧X.cell? ⟨w.heap.size,3,none⟩=some (.slice (some ⟨q.b4,0,none⟩) 3 q.c4)∧w.heap.size<X.heap.size):=fun X hX=>by
      have h:=hs1.out.list.under hX
      have h':=ho1.out.under hX
      refine⟨?_,h.frozen l,h.lt,h'.cell (i:=3) rfl,h'.lt⟩
      rw [hnl,hbl,hlc]
      exact h.cell hl
     have Ht:Hid (∀ X,Below w1.heap.size w1 X→SlR 3 (fun _=>QMs) X (.slice (some ⟨bl,0,none⟩) ((List.range k).map fun j=>mB5 M l k 3 0 l (0+j)).length lc) ((List.range k).map fun j=>mB5 M l k 3 0 l (0+j))):=fun X hX=>by
      have h:=(hlb.under hX).slM (o:=0) (m:=k) lc (by omega) hnl100
      rw [Nat.zero_mul] at h
      exact h
     have Hd:Hid (∀ X,Below w1.heap.size w1 X→SlR 3 (fun _=>QMs) X (.slice (some ⟨bl,k*3,none⟩) ((List.range (nl-k)).map fun j=>mB5 M l k 3 0 l (k+j)).length (lc-k)) ((List.range (nl-k)).map fun j=>mB5 M l k 3 0 l (k+j))):=fun X hX=>(hlb.under hX).slM (o:=k) (m:=nl-k) (lc-k) (by omega) hnl100
     obtain⟨mm,hmm⟩:∃ mm:M5,mm=⟨⟨x,false,vv⟩,gm,c2⟩:=⟨_,rfl⟩
     have Hrows:=Lib.hid (ins_rows (F:=mB5 M l k 3 0 l) (mm:=mm) hknl)
     have Hmm:=Lib.hid hmm
     clear hmm
     have hlt1:((List.range k).map fun j=>mB5 M l k 3 0 l (0+j)).length=k:=by simp
     have hld1:((List.range (nl-k)).map fun j=>mB5 M l k 3 0 l (k+j)).length=nl-k:=by simp
     generalize ((List.range k).map fun j=>mB5 M l k 3 0 l (0+j))=T at Ht Hrows hlt1
     generalize ((List.range (nl-k)).map fun j=>mB5 M l k 3 0 l (k+j))=D at Hd Hrows hld1
     have Hl1:=Lib.hid hlt1
     have Hld:=Lib.hid hld1
     have hkI:(k:Int)≤(nl:Int):=by omega
     have hli3:(l:Int)<3:=hli
     have hklc:k≤lc:=by omega
     have Hgm:=Lib.hid hgm
     have Hcm:=Lib.hid hcm
     have Hb23:=Lib.hid hb23
     have Hb2:=Lib.hid hb2
     have HFin:Hid (∀ (gl c':Nat) (w9:World),Below w3.heap.size w3 w9→CelW w9 w3.heap.size gl 137 ((nl+1)*3) (mF fun j=>if j<k then mB5 M l k 3 0 l j else if j=k then mm else mB5 M l k 3 0 l (j-1))→nl+1≤c'→c'≤9223372036854775807→RetIn5 w base q i P G V N M t l k x (.returned (.tuple #[])) (w9.setCell ⟨q.b4,l,none⟩ (.slice (some ⟨gl,0,none⟩) (nl+1) c'))):=fun gl c' w9 h9 hgl hc1 hc2=>by
      have hs3:=Hs3.out
      have h29:Below w2.heap.size w2 w9:=Hb23.out.trans (h9.mono (by omega))
      have h19:Below w1.heap.size w1 w9:=Hb2.out.trans (h29.mono Hb2.out.size)
      have hw13:w1.heap.size≤w3.heap.size:=by have:=Hb2.out.size; omega
      rw [Hn1.out] at hgl hc1 ⊢
      rw [Hmm.out] at hgl
      have hI:=hs1.out.ins h19 (l:=l) (k:=k) (gl:=gl) (c':=c') ⟨⟨x,false,vv⟩,gm,c2⟩ hl Hk.out hn (hgl.rebase hw13) (Hgm.out.under h29) hc1 hc2 Hcm.out (by omega)
      refine⟨rfl,⟨_,_,_,_,_,_,hI,fun u hu=>?_,fun j hj=>rfl,fun l' hl' j hj=>?_⟩,hf1.out.trans ((FrT.of_below h19).setS (p:=⟨q.b4,l,none⟩) (hs1.out.list.under h19) _)⟩
      ·by_cases e:u=t
       ·subst e
        simp only [if_true]
        exact Hvv.out
       ·simp only [if_neg e]
        unfold vB5
        rw [if_pos hu]
      ·by_cases e:l'=l
       ·subst e
        simp only [if_true] at hj ⊢
        have hmb:∀ j,mB5 M l' k 3 0 l' j=⟨bumpM l' k (M l' j).m,(M l' j).b,(M l' j).c⟩:=fun j=>by unfold mB5; rw [if_pos (by omega)]
        simp only [hmb]
        by_cases e1:j<k
        ·simp only [if_pos e1]
        ·simp only [if_neg e1]
         by_cases e2:j=k
         ·simp only [if_pos e2]
          rw [Hvv.out]
         ·simp only [if_neg e2]
       ·simp only [if_neg e]
        unfold mB5
        rw [if_pos (by omega)]
     clear hnl hlc hbl hlb hgm hcm hlt1 hld1
     obtain⟨q3,f3,q3l,p3,p3l⟩:=id (hb4.out w3 hb13)
     have hW3:w1.heap.size≤w3.heap.size:=hb13.size
     clear f3
     go_upto_region 17 with (at_builtin; refine wpList_append_list (o:=⟨some 128,_,_,_,_,_⟩) (by rfl) _ _ _ (by rfl) qms_congr (R:=fun _=>QMs) w3.heap.size 137 i2 _ 40 Tryz.underlying138 hi2 hx0 hx1 hx2 rfl (by omega) (.slice (some ⟨w3.heap.size,0,none⟩) 0 0) [] (by rfl) (RowOf.made _ (Own.new w3 _ _) (Nat.le_refl _)) (some ⟨bl,0,none⟩) lc T (by rw [Hl1.out]; rfl) (Ht.out _ (hb13.alloc hW3 _)) (fun cs y h=>h) qms_one (by have:=Hl1.out; simp [maxLen]; omega) (by have:=Hl1.out; simp; omega) (by simp) (w3.heap.size+1) (by simp) ?_; intro A7 c7 w7 hrow7 hgrow7 hat7; rw [List.nil_append] at hrow7 hat7)
     have hB7:Below w3.heap.size w3 w7:=below_of_grown ((Below.refl _ _).alloc (Nat.le_refl _) _) hgrow7 (by simp) (fun g hg=>by simp only [Value.ownBlock,Option.some.injEq] at hg; omega)
     obtain⟨cs7,hown7,hq7⟩:=hrow7
     have Hown7:=Lib.hid hown7
     have Hq7:=Lib.hid hq7
     have htl7:T.length≤100:=by have:=Hl1.out; omega
     have hs7:=hB7.size
     have OM7:=OM.out.under (hB7.mono (Nat.le_refl _))
     have m0:w7.cell? ⟨w2.heap.size,0,none⟩=some (.int .i64 x):=OM7.cell (i:=0) rfl
     have m1:w7.cell? ⟨w2.heap.size,1,none⟩=some (.bool false):=OM7.cell (i:=1) rfl
     have m2:w7.cell? ⟨w2.heap.size,2,none⟩=some (.slice (some ⟨gm,0,none⟩) rj.length c2):=OM7.cell (i:=2) rfl
     have HB7:=Lib.hid hB7
     clear hown7 hq7 hgrow7 hat7 OM7 q3 p3
     have Hrl3:Hid (Value.slice (some ⟨gm,0,none⟩) rj.length c2=.slice (some ⟨gm,0,none⟩) 3 c2):=by show _=_; rw [Hrl.out]
     go_upto_region 18 with (at_builtin; refine wpList_append_lies (o:=⟨some 132,_,_,_,_,_⟩) _ (by rfl) _ _ _ (by rfl) w3.heap.size 137 i2 _ 3 40 Tryz.underlying138 hi2 hx0 hx1 hx2 rfl (by omega) (.slice A7 T.length c7) T.length cs7 (by rfl) (owns_alloc Hown7.out _) ⟨w7.heap.size,0,none⟩ 1 1 [.int .i64 x,.bool false,.slice (some ⟨gm,0,none⟩) rj.length c2] (by rfl) (by rfl) (World.news_of_block (cs:=#[.int .i64 x,.bool false,.slice (some ⟨gm,0,none⟩) rj.length c2]) (t:=137) (fr:=(0,0)) (heap_alloc_new w7 _)) (by simp [Value.oneCell']) (by omega) (by simp [maxLen]; omega) (by omega) (by simp; omega) (w7.heap.size+1) (by simp) ?_; intro gg cap w8 hown8 hgrow8 hat8 hlt8)
     have hB8:Below w3.heap.size w3 w8:=below_of_grown (hB7.alloc hB7.size _) hgrow8 (by simp; omega) (fun g hg=>owns_base' Hown7.out hg)
     have Hr8:Hid (RowOf 3 QMs w8 w3.heap.size 137 (.slice (some ⟨gg,0,none⟩) (T.length+1) cap) (T++[mm])):=RowOf.snoc (news:=[.int .i64 x,.bool false,.slice (some ⟨gm,0,none⟩) rj.length c2]) (x:=mm) qms_congr Hown7.out Hq7.out rfl (by rw [Hmm.out]; exact⟨rfl,rfl,Hrl3.out⟩) hown8
     have Hr8d:Hid (RowOf 3 QMs w8.drew w3.heap.size 137 (.slice (some ⟨gg,0,none⟩) (T.length+1) cap) (T++[mm])):=Hr8.out
     have hs8:w3.heap.size≤w8.heap.size:=hB8.size
     have hB18:Hid (Below w1.heap.size w1 w8):=hb13.trans (hB8.mono hW3)
     have HB8:=Lib.hid hB8
     have hgg:Hid (w3.heap.size≤gg):=(Hr8.out.blk (show (Value.slice (some ⟨gg,0,none⟩) (T.length+1) cap).ownBlock=some gg from rfl)).1
     have hqb:Hid (q.b4<w3.heap.size∧w.heap.size<w3.heap.size):=⟨q3l,p3l⟩
     obtain⟨q3,f3,q3l,p3,p3l⟩:=id (hb4.out w8 hB18.out)
     have Hafter:Hid (∀ w9,w8.drew.grownBy w9 (some gg)→w9.cell? ⟨q.b4,l,none⟩=some (.slice (some ⟨bl,0,none⟩) nl lc)∧w9.frozen? ⟨q.b4,l,none⟩=false∧w9.cell? ⟨w.heap.size,3,none⟩=some (.slice (some ⟨q.b4,0,none⟩) 3 q.c4)∧Below w3.heap.size w3 w9):=fun w9 hg=>by
      have hB9:Below w3.heap.size w3 w9:=below_of_grown HB8.out.drew hg HB8.out.size (fun g e=>by injection e with e; subst e; exact hgg.out)
      obtain⟨a1,a2,_,a4,_⟩:=hb4.out w9 (hb13.trans (hB9.mono hW3))
      exact⟨a1,a2,a4,hB9⟩
     have hgl8:gg<w8.heap.size:=(Hr8.out.blk (show (Value.slice (some ⟨gg,0,none⟩) (T.length+1) cap).ownBlock=some gg from rfl)).2
     clear hown8 hgrow8 hat8 m0 m1 m2 hB7 hB8 hb23 hb2 hlt8
     have Hclose:Hid (∀ (A9:Option Addr) (c9:Nat) (w9:World),RowOf 3 QMs w9 w3.heap.size 137 (.slice A9 (T++[mm]++D).length c9) (T++[mm]++D)→Below w3.heap.size w3 w9→RetIn5 w base q i P G V N M t l k x (.returned (.tuple #[])) (w9.setCell ⟨q.b4,l,none⟩ (.slice A9 (T.length+(D.length+1)) c9))):=fun A9 c9 w9 hrow hB9=>by
      rw [Hrows.out] at hrow
      obtain⟨gl,rfl,hn9,hc1,hc2,hcel,_⟩:=RowOf.celR (mF fun j=>if j<k then mB5 M l k 3 0 l j else if j=k then mm else mB5 M l k 3 0 l (j-1)) hrow (by omega) (by omega) fun cs i hi hq=>qms_all (fun j=>if j<k then mB5 M l k 3 0 l j else if j=k then mm else mB5 M l k 3 0 l (j-1)) hq
      rw [show T.length+(D.length+1)=nl+1 by have:=Hl1.out; have:=Hld.out; omega]
      exact HFin.out gl c9 w9 hB9 hcel (by omega) hc2
     by_cases hkc:lc=k
     ·have Hd0:Hid (SlR 3 (fun _=>QMs) w8.drew (.slice (some ⟨bl,0,none⟩) D.length 0) D):=by
       have:D=[]:=List.length_eq_zero_iff.1 (by rw [Hld.out]; omega)
       rw [this]
       exact⟨_,_,rfl,by simp,fun i hi=>absurd hi (Nat.not_lt_zero _)⟩
      go_wp2_with fail
      go_region_law (first
       | (refine step_append_list (o:=⟨some 144,_,_,_,_,_⟩) (by rfl) _ _ _ (by rfl) qms_congr (R:=fun _=>QMs) w3.heap.size 137 i2 _ 40 Tryz.underlying138 hi2 hx0 hx1 hx2 rfl (by omega) (.slice (some ⟨gg,0,none⟩) (T.length+1) cap) (T++[mm]) (by rfl) Hr8d.out (some ⟨bl,0,none⟩) 0 D (by rw [Hld.out]; rfl) Hd0.out (fun cs y h=>h) qms_one (by have:=Hl1.out; have:=Hld.out; simp [maxLen]; omega) (by have:=Hl1.out; have:=Hld.out; simp; omega) hs8 w8.heap.size rfl ?_; intro A9 c9 w9 hrow9 hgrow9 hat9; obtain⟨n3,g3,o3,hB9⟩:=Hafter.out w9 hgrow9))
      all_goals
       go_end0
       exact Hclose.out _ _ _ hrow9 hB9
     ·go_wp2_with fail
      go_region_law (first
       | (refine step_append_list (o:=⟨some 144,_,_,_,_,_⟩) (by rfl) _ _ _ (by rfl) qms_congr (R:=fun _=>QMs) w3.heap.size 137 i2 _ 40 Tryz.underlying138 hi2 hx0 hx1 hx2 rfl (by omega) (.slice (some ⟨gg,0,none⟩) (T.length+1) cap) (T++[mm]) (by rfl) Hr8d.out (some ⟨bl,k*3,none⟩) (lc-k) D (by rw [Hld.out]; rfl) (Hd.out _ hB18.out.drew) (fun cs y h=>h) qms_one (by have:=Hl1.out; have:=Hld.out; simp [maxLen]; omega) (by have:=Hl1.out; have:=Hld.out; simp; omega) hs8 w8.heap.size rfl ?_; intro A9 c9 w9 hrow9 hgrow9 hat9; obtain⟨n3,g3,o3,hB9⟩:=Hafter.out w9 hgrow9))
      all_goals
       go_end0
       exact Hclose.out _ _ _ hrow9 hB9
end Go.Proofs.YtojmofnamppbdaaGreat
namespace Go.Proofs.YtojmofnamppbdaaGreat
open Go.RowKit
set_option linter.unusedVariables false
set_option maxRecDepth 100000
def RetV5 (W:World) (p:Prg) (s:VSt) (e:Ending) (W':World):Prop:=∃ q,e=.returned (v5 q p.length)∧Rep5 (above W.heap.size W') q p s∧Below W.heap.size W W'
theorem pc0V (p:Prg) (t:Nat):pcS (st0 p) t=0:=by
 unfold pcS st0
 simp only [List.getD_eq_getElem?_getD,List.getElem?_replicate]
 split <;> rfl
theorem reg0V (p:Prg) (i:Nat):(st0 p).regs.getD i 0=0:=by
 unfold st0
 simp only [List.getD_eq_getElem?_getD,List.getElem?_replicate]
 split <;> rfl
theorem own0V (p:Prg) (t:Nat):ownV (vt0 p) t=[0,0,0]:=by
 unfold ownV vt0
 simp only [List.getD_eq_getElem?_getD,List.getElem?_replicate]
 split <;> rfl
theorem lst0V (p:Prg) {l:Nat} (hl:l<3):lstV (vt0 p) l=[m0V]:=by
 match l,hl with
 | 0,_=>rfl
 | 1,_=>rfl
 | 2,_=>rfl
theorem made_rep (z:Value) (n:Nat):(madeCells #[z] n).toList=List.replicate n z:=by
 unfold madeCells
 refine List.ext_getElem (by simp) fun i h1 h2=>?_
 simp only [Array.toList_map,List.getElem_map,List.getElem_replicate]
 have:(Array.range n).toList[i]'(by simpa using h1) % 1=0:=Nat.mod_one _
 simp [Nat.mod_one]
def ZeI (B n:Nat) (w:World) (v:Value):Prop:=∃ g,v=.slice (some ⟨g,0,none⟩) n n∧CelW w B g 3 n (fun _=>.int .i64 0)
theorem ZeI.nx {B n:Nat} {w w':World} {v:Value} (hb:Nx w w') (h:ZeI B n w v):ZeI B n w' v:=by
 obtain⟨g,e,h⟩:=h
 exact⟨g,e,h.under (show Below w.heap.size w w' from hb)⟩
theorem ZeI.made {w:World} {B n:Nat} (hB:B≤w.heap.size):ZeI B n (w.alloc (.cells (madeCells #[.int .i64 0] n) 3)) (.slice (some ⟨w.heap.size,0,none⟩) n n):=
 ⟨w.heap.size,rfl,hB,_,Own.new w _ _,fun j hj=>by rw [← Array.getElem?_toList,made_rep,List.getElem?_replicate,if_pos hj]⟩
def LsI (B:Nat) (w:World) (v:Value):Prop:=∃ g u,v=.slice (some ⟨g,0,none⟩) 1 1∧Own w g 137 #[.int .i64 0,.bool false,u]∧ZeI B 3 w u∧B≤g
theorem LsI.nx {B:Nat} {w w':World} {v:Value} (hb:Nx w w') (h:LsI B w v):LsI B w' v:=by
 obtain⟨g,u,e,h1,h2,h3⟩:=h
 exact⟨g,u,e,h1.under (show Below w.heap.size w w' from hb),h2.nx hb,h3⟩
def TS5 (Ap:Option Addr) (cp n V:Nat) (d:Nat) (w:World) (v:Value):Prop:=
 match d with
 | 6=>v=.slice Ap n cp
 | 7=>v=.int .i64 n
 | 8=>ZeI V n w v
 | 9=>v=.slice Ap n cp
 | 10=>v=.int .i64 n
 | 11=>v=.int .i64 ((n*3:Nat):Int)
 | 12=>ZeI V (n*3) w v
 | 13=>∃ v1 v2,v=.agg #[v1,v2,.slice none 0 0,.slice none 0 0]∧ZeI V n w v1∧ZeI V (n*3) w v2
 | 3=>HasB V 73 #[.slice none 0 0,.slice none 0 0,.slice none 0 0,.slice none 0 0] w v
 | _=>True
theorem ts5_nx {Ap:Option Addr} {cp n V:Nat}:∀ d w w' v,Nx w w'→TS5 Ap cp n V d w v→TS5 Ap cp n V d w' v:=fun d w w' v hb h=>by
 unfold TS5 at h ⊢
 split at h <;> first | exact h | exact ZeI.nx hb h | exact HasB.nx hb h | (obtain⟨v1,v2,e,h1,h2⟩:=h; exact⟨v1,v2,e,h1.nx hb,h2.nx hb⟩) | trivial
def TR5 (B T:Nat) (vr:Value) (d:Nat) (w:World) (v:Value):Prop:=
 match d with
 | 20=>v=.pointer (some ⟨T,2,none⟩)
 | 21=>v=vr
 | 22=>ZeI B 3 w v
 | 23=>∃ g u,v=.slice (some ⟨g,0,none⟩) 1 1∧Own w g 31 #[u]∧ZeI B 3 w u
 | 30=>v=.pointer (some ⟨T,3,none⟩)
 | 31=>v=vr
 | 32=>ZeI B 3 w v
 | 33=>∃ u,v=.agg #[.int .i64 0,.bool false,u]∧ZeI B 3 w u
 | 34=>LsI B w v
 | 35=>∃ g u,v=.slice (some ⟨g,0,none⟩) 1 1∧Own w g 138 #[u]∧LsI B w u
 | _=>True
theorem tr5_nx {B T:Nat} {vr:Value}:∀ d w w' v,Nx w w'→TR5 B T vr d w v→TR5 B T vr d w' v:=fun d w w' v hb h=>by
 have hb':Below w.heap.size w w':=hb
 unfold TR5 at h ⊢
 split at h <;> first | exact h | exact ZeI.nx hb h | exact LsI.nx hb h | (obtain⟨g,u,e,h1,h2⟩:=h; exact⟨g,u,e,h1.under hb',h2.nx hb⟩) | (obtain⟨u,e,h1⟩:=h; exact⟨u,e,h1.nx hb⟩) | trivial
def LZ (w:World) (B:Nat) (x:Nat×Nat×Nat):Prop:=x.2.1=1∧1≤x.2.2∧∃ gv,CelW w B x.1 137 3 (mF fun _=>⟨m0V,gv,3⟩)∧CelW w B gv 3 3 (fun _=>.int .i64 0)
theorem LZ.of {w w':World} {B:Nat} {x:Nat×Nat×Nat} (f:∀ {b ty m F},CelW w B b ty m F→ty≠73→ty≠138→CelW w' B b ty m F) (h:LZ w B x):LZ w' B x:=by
 obtain⟨h1,h2,gv,h3,h4⟩:=h
 exact⟨h1,h2,gv,f h3 (by decide) (by decide),f h4 (by decide) (by decide)⟩
set_option maxHeartbeats 4000000 in
theorem l5Start_any (p:Prg) (hp:PrgOk p) (W:World) (vp:Value) (hpr:PrgS W vp p):
  Calls Tryz.prog 59 #[vp] W (RetV5 W p (vt0 p)):=by
 obtain⟨Ap,cp,rfl,hpl⟩:=SlR.slice hpr
 obtain⟨i1,hi1,hy0,hy1,hy2⟩:=info_parts Tryz.infoInts5
 obtain⟨i3,hi3,hu0,hu1,hu2⟩:=info_parts Tryz.infoMsgs5
 have hp3:=hp.1.1
 have hpp:=hp.2.1
 have hmk1:=run_make_any (P:=Tryz.prog) 31 3 _ 1 8 Tryz.underlying31 Tryz.infoInt p.length (by omega) (by omega)
 have hmk2:=run_make_any (P:=Tryz.prog) 31 3 _ 1 8 Tryz.underlying31 Tryz.infoInt (p.length*3) (by omega) (by omega)
 have hmk3:=run_make_any (P:=Tryz.prog) 31 3 _ 1 8 Tryz.underlying31 Tryz.infoInt 3 (by omega) (by omega)
 obtain⟨V,hV⟩:∃ V,V=W.alloc (.cells #[.slice none 0 0,.slice none 0 0,.slice none 0 0,.slice none 0 0] 73):=⟨_,rfl⟩
 have hB:Below W.heap.size W V:=by rw [hV]; exact (Below.refl _ _).alloc (Nat.le_refl _) _
 have hVs:V.heap.size=W.heap.size+1:=by rw [hV]; simp
 have oR:Own V W.heap.size 73 #[.slice none 0 0,.slice none 0 0,.slice none 0 0,.slice none 0 0]:=by rw [hV]; exact Own.new _ _ _
 have HV:=Lib.hid (And.intro hVs (And.intro oR hB))
 have Hfin:Hid (∀ q e W',e=.returned (v5 q p.length)→Rep5 (above W.heap.size W') q p (vt0 p)→Below W.heap.size W W'→RetV5 W p (vt0 p) e W'):=fun q e W' h1 h2 h3=>⟨q,h1,h2,h3⟩
 have Hp0:Hid (∀ t,pcS (vt0 p).s t=0∧(vt0 p).s.regs.getD t 0=0∧ownV (vt0 p) t=[0,0,0]):=fun t=>⟨pc0V p t,reg0V p t,own0V p t⟩
 have Hl0:Hid (∀ l,l<3→lstV (vt0 p) l=[m0V]):=fun l hl=>lst0V p hl
 obtain⟨P,hP⟩:∃ P,P=RetV5 W p (vt0 p):=⟨_,rfl⟩
 rw [← hP] at Hfin ⊢
 have HP:=Lib.hid hP
 obtain⟨n,hn⟩:∃ n,n=p.length:=⟨_,rfl⟩
 rw [← hn] at hp3 hpp hmk1 hmk2 ⊢
 have Hn:=Lib.hid hn
 have hmkb:∀ w,(Instr.makeSlice 31 (.int .i64 ((n:Int)*3)) (.int .i64 ((n:Int)*3))).run Tryz.prog w=.ok (.slice (some ⟨w.heap.size,0,none⟩) (n*3) (n*3)) (w.alloc (.cells (madeCells #[.int .i64 0] (n*3)) 3)):=fun w=>by
  have h:=hmk2 w
  rw [show ((n*3:Nat):Int)=(n:Int)*3 by omega,Nat.mul_one] at h
  exact h
 have hmkc:∀ w,(Instr.makeSlice 31 (.int .i64 3) (.int .i64 3)).run Tryz.prog w=.ok (.slice (some ⟨w.heap.size,0,none⟩) 3 3) (w.alloc (.cells (madeCells #[.int .i64 0] 3) 3)):=fun w=>hmk3 w
 have hmka:∀ w,(Instr.makeSlice 31 (.int .i64 (n:Int)) (.int .i64 (n:Int))).run Tryz.prog w=.ok (.slice (some ⟨w.heap.size,0,none⟩) n n) (w.alloc (.cells (madeCells #[.int .i64 0] n) 3)):=fun w=>by
  have h:=hmk1 w
  rw [Nat.mul_one] at h
  exact h
 clear hmk1 hmk2 hmk3 hVs oR hpr hn hpl hP hB
 go_enter Tryz.func59,Tryz.ntmps59
 go_upto_region 1 with (fail)
 rw [← hV]
 clear hV
 refine wp_region_rel [0,1,2,3,4,5,6,7,8] [9] (TS5 Ap cp n V.heap.size) (fun _=>0) [6,7,8,9,10,11,12,13,3] (by kernel_rfl) (by kernel_rfl) rfl (by simp) ts5_nx (fun _ _ _ _ _ h=>absurd rfl h) ?_ ?_
 ·refine⟨?_,?_,?_,?_,?_,?_,?_,?_,?_,trivial⟩
  all_goals (intro xs w hw hdep hsep; have hVw:V.heap.size≤w.heap.size:=Nx.sz hw; simp only [shpA,fillL,List.contains_cons,List.contains_nil,Nat.reduceAdd,Nat.reduceBEq,Bool.or_false,Bool.or_true,Bool.false_eq_true,↓reduceIte])
  ·go_wp2_with fail
   exact RelPost.mk (Nx.refl _) _ rfl rfl rfl
  ·have e1:xs 6=.slice Ap n cp:=hdep 6 (List.mem_of_elem_eq_true (by kernel_rfl))
   rw [e1]
   go_wp2_with fail
   exact RelPost.mk (Nx.refl _) _ rfl rfl rfl
  ·have e1:xs 7=.int .i64 n:=hdep 7 (List.mem_of_elem_eq_true (by kernel_rfl))
   rw [e1]
   go_wp2_with fail
   exact RelPost.mk ((Below.refl _ _).alloc (Nat.le_refl _) _) _ rfl (ZeI.made hVw) rfl
  ·go_wp2_with fail
   exact RelPost.mk (Nx.refl _) _ rfl rfl rfl
  ·have e1:xs 9=.slice Ap n cp:=hdep 9 (List.mem_of_elem_eq_true (by kernel_rfl))
   rw [e1]
   go_wp2_with fail
   exact RelPost.mk (Nx.refl _) _ rfl rfl rfl
  ·have e1:xs 10=.int .i64 n:=hdep 10 (List.mem_of_elem_eq_true (by kernel_rfl))
   rw [e1]
   go_wp2_with fail
   exact RelPost.mk (Nx.refl _) _ rfl (by show _=_; go_num) rfl
  ·have e1:xs 11=.int .i64 ((n*3:Nat):Int):=hdep 11 (List.mem_of_elem_eq_true (by kernel_rfl))
   rw [e1]
   go_wp2_with fail
   exact RelPost.mk ((Below.refl _ _).alloc (Nat.le_refl _) _) _ rfl (ZeI.made hVw) rfl
  ·obtain⟨g8,e8,r8⟩:ZeI V.heap.size n w (xs 8):=hdep 8 (List.mem_of_elem_eq_true (by kernel_rfl))
   obtain⟨g12,e12,r12⟩:ZeI V.heap.size (n*3) w (xs 12):=hdep 12 (List.mem_of_elem_eq_true (by kernel_rfl))
   rw [e8,e12]
   go_wp2_with fail
   exact RelPost.mk (Nx.refl _) _ rfl ⟨_,_,rfl,⟨g8,rfl,r8⟩,⟨g12,rfl,r12⟩⟩ rfl
  ·go_wp2_with fail
   exact RelPost.mk ((Below.refl _ _).alloc (Nat.le_refl _) _) _ rfl ⟨w.heap.size,rfl,Own.new w _ _,hVw⟩ rfl
 intro us w5 hw5 hT hsep
 obtain⟨T,eT,oT,hT0⟩:HasB V.heap.size 73 #[.slice none 0 0,.slice none 0 0,.slice none 0 0,.slice none 0 0] w5 (us 3):=hT 3 (List.mem_of_elem_eq_true (by kernel_rfl))
 obtain⟨v1,v2,e13,⟨g1,rfl,r8⟩,⟨g2,rfl,r12⟩⟩:∃ v1 v2,us 13=.agg #[v1,v2,.slice none 0 0,.slice none 0 0]∧ZeI V.heap.size n w5 v1∧ZeI V.heap.size (n*3) w5 v2:=hT 13 (List.mem_of_elem_eq_true (by kernel_rfl))
 have hbw:=nx_below hw5
 show wpList _ _ _ [_] _ _
 simp only [shpA,fillL,List.contains_cons,List.contains_nil,Nat.reduceAdd,Nat.reduceBEq,Bool.or_false,Bool.or_true,Bool.false_eq_true,↓reduceIte]
 rw [eT,e13]
 have y0:=oT.frozen 0
 have y1:=oT.frozen 1
 have y2:=oT.frozen 2
 have y3:=oT.frozen 3
 have z0:=oT.cell (i:=0) rfl
 have z1:=oT.cell (i:=1) rfl
 have z2:=oT.cell (i:=2) rfl
 have z3:=oT.cell (i:=3) rfl
 obtain⟨w3,hw3⟩:∃ w3,w3=(((w5.setCell ⟨T,0,none⟩ (.slice (some ⟨g1,0,none⟩) n n)).setCell ⟨T,1,none⟩ (.slice (some ⟨g2,0,none⟩) (n*3) (n*3))).setCell ⟨T,2,none⟩ (.slice none 0 0)).setCell ⟨T,3,none⟩ (.slice none 0 0):=⟨_,rfl⟩
 have oT3:Own w3 T 73 #[.slice (some ⟨g1,0,none⟩) n n,.slice (some ⟨g2,0,none⟩) (n*3) (n*3),.slice none 0 0,.slice none 0 0]:=by
  rw [hw3]
  exact (((oT.set 0 (.slice (some ⟨g1,0,none⟩) n n)).set 1 (.slice (some ⟨g2,0,none⟩) (n*3) (n*3))).set 2 (.slice none 0 0)).set 3 (.slice none 0 0)
 have hB3:Below V.heap.size V w3:=by rw [hw3]; exact (((hbw.setCell hT0 _).setCell hT0 _).setCell hT0 _).setCell hT0 _
 have hfar:∀ b,b≠T→w3.heap[b]?=w5.heap[b]?:=fun b hb=>by
  rw [hw3]
  rw [Go.Deep.blk_setCell_other _ _ _ _ hb,Go.Deep.blk_setCell_other _ _ _ _ hb,Go.Deep.blk_setCell_other _ _ _ _ hb,Go.Deep.blk_setCell_other _ _ _ _ hb]
 have R8:Hid (CelW w3 V.heap.size g1 3 n (fun _=>.int .i64 0)):=r8.of_block (hfar _ (r8.ne_own oT (by decide)))
 have R12:Hid (CelW w3 V.heap.size g2 3 (n*3) (fun _=>.int .i64 0)):=r12.of_block (hfar _ (r12.ne_own oT (by decide)))
 have hTl:=oT3.lt
 have OT3:=Lib.hid oT3
 have HB3:=Lib.hid hB3
 clear hT hsep eT e13 hw5 hmka hmkb
 generalize us 6=u6x
 generalize us 7=u7x
 generalize us 8=u8x
 generalize us 9=u9x
 generalize us 10=u10x
 generalize us 11=u11x
 generalize us 12=u12x
 go_upto_region 2 with (fail)
 rw [← hw3]
 clear hw3 hfar r8 r12 oT y0 y1 y2 y3 z0 z1 z2 z3 hbw oT3
 obtain⟨K,hK⟩:∃ K,K=w3.heap.size:=⟨_,rfl⟩
 have HK:=Lib.hid hK
 have hTK:T<K:=by omega
 have hKV:V.heap.size≤K:=by have:=hB3.size; omega
 clear hK hB3
 go_wp2_with fail
 go_loopg [4] n (fun g s4 wr=>∃ (i:Nat) (v:Value) (ps:List (Nat×Nat)),i≤n∧g=n-i∧s4=.int .i64 i∧ps.length=i∧Hid (RowOf 1 QSv wr K 31 v ps)∧Hid (Own wr T 73 #[.slice (some ⟨g1,0,none⟩) n n,.slice (some ⟨g2,0,none⟩) (n*3) (n*3),v,.slice none 0 0])∧Hid (MvO [T] w3 wr)∧Hid (∀ x∈ps,3≤x.2∧CelW wr K x.1 3 3 (fun _=>.int .i64 0)))
 case atStart=>exact⟨0,_,[],Nat.zero_le _,rfl,rfl,rfl,RowOf.nil 1 _ _ _ _,OT3.out,MvO.refl _ _,fun x hx=>absurd hx (List.not_mem_nil)⟩
 case round=>
  obtain⟨wo,rfl⟩:∃ wo:World,wo=wr:=⟨_,rfl⟩
  obtain⟨i,v,ps,hi,rfl,rfl,hpl,hrow,hoT,hmv,hvs⟩:=hrel
  have hsz:=hmv.out.size
  by_cases hlt:i<n
  ·have hilt:(i:Int)<(n:Int):=by omega
   have HF:Hid (∀ U,Nx wo.drew U→U.cell? ⟨T,2,none⟩=some v):=fun U hU=>by
    have hb:Below wo.heap.size wo U:=(Below.refl wo.heap.size wo).drew.trans hU
    exact Le.below hb _ _ (hoT.out.cell (i:=2) rfl)
   obtain⟨Av,cv,rfl,_,_⟩:=RowOf.slice hrow.out
   have Hpl:=Lib.hid hpl
   rw [hpl] at hrow hoT HF
   have hTl':=hoT.out.lt
   clear hpl
   go_upto_region 5 with (fail)
   refine wp_region_rel [0,1,2,3] [4,5,6] (TR5 wo.heap.size T (.slice Av i cv)) (fun _=>0) [20,21,22,23] (by kernel_rfl) (by kernel_rfl) rfl (by simp) tr5_nx (fun _ _ _ _ _ h=>absurd rfl h) ?_ ?_
   ·refine⟨?_,?_,?_,?_,trivial⟩
    all_goals (intro us w hw hdep hsep; have hVw:wo.heap.size≤w.heap.size:=Nx.sz hw; simp only [shpA,fillL,List.contains_cons,List.contains_nil,Nat.reduceAdd,Nat.reduceBEq,Bool.or_false,Bool.or_true,Bool.false_eq_true,↓reduceIte])
    ·go_wp2_with fail
     exact RelPost.mk (Nx.refl _) _ rfl rfl rfl
    ·have e1:us 20=.pointer (some ⟨T,2,none⟩):=hdep 20 (List.mem_of_elem_eq_true (by kernel_rfl))
     have q:=HF.out w hw
     rw [e1]
     go_wp2_with fail
     exact RelPost.mk (Nx.refl _) _ rfl rfl rfl
    ·go_wp2_with fail
     exact RelPost.mk ((Below.refl _ _).alloc (Nat.le_refl _) _) _ rfl (ZeI.made hVw) rfl
    ·obtain⟨g8,e8,r8⟩:ZeI wo.heap.size 3 w (us 22):=hdep 22 (List.mem_of_elem_eq_true (by kernel_rfl))
     rw [e8]
     go_wp2_with fail
     exact RelPost.mk ((Below.refl _ _).alloc (Nat.le_refl _) _) _ rfl ⟨w.heap.size,_,rfl,Own.new w _ _,ZeI.nx ((Below.refl _ _).alloc (Nat.le_refl _) _) ⟨g8,rfl,r8⟩⟩ rfl
   ·intro us w7 hw7 hT hsep
    have e21:us 21=.slice Av i cv:=hT 21 (List.mem_of_elem_eq_true (by kernel_rfl))
    obtain⟨gb,u,e23,ob,gv,rfl,hcw⟩:∃ g u,us 23=.slice (some ⟨g,0,none⟩) 1 1∧Own w7 g 31 #[u]∧ZeI wo.heap.size 3 w7 u:=hT 23 (List.mem_of_elem_eq_true (by kernel_rfl))
    have hb7:Below wo.heap.size wo w7:=(Below.refl wo.heap.size wo).drew.trans hw7
    show wpList _ _ _ [_,_,_] _ _
    simp only [shpA,fillL,List.contains_cons,List.contains_nil,Nat.reduceAdd,Nat.reduceBEq,Bool.or_false,Bool.or_true,Bool.false_eq_true,↓reduceIte]
    rw [e21,e23]
    clear e21 e23 hT hsep
    have hs7:=hb7.size
    obtain⟨cs,hown,hqq⟩:=hrow.out
    rw [Hpl.out] at hown
    have Hown:=Lib.hid (owns_of_block hown (w':=w7) fun g _ _ hl=>hb7.block g hl)
    have Hqq:=Lib.hid hqq
    have Hob:=Lib.hid ob
    have Hcw:=Lib.hid hcw
    have Hvr:Hid (∀ g,(Value.slice Av i cv).ownBlock=some g→K≤g∧g<wo.heap.size):=fun g hg=>owns_base hown hg
    have hTn:Hid (¬ (Value.slice Av i cv).ownBlock=some T):=fun e=>by have:=(Hvr.out T e).1; omega
    clear ob hw7 hcw hown hqq
    go_wp2_with (at_builtin; refine wpList_append_lies (o:=⟨some 24,_,_,_,_,_⟩) _ (by rfl) _ _ _ (by rfl) K 31 i1 _ 1 24 Tryz.underlying25 hi1 hy0 hy1 hy2 rfl (by omega) (.slice Av i cv) i cs (by rfl) Hown.out ⟨gb,0,none⟩ 1 1 [.slice (some ⟨gv,0,none⟩) 3 3] (by rfl) (by rfl) (World.news_of_block (cs:=#[.slice (some ⟨gv,0,none⟩) 3 3]) (t:=31) (fr:=(0,0)) Hob.out) (by simp [Value.oneCell']) (by omega) (by simp [maxLen]; omega) (by omega) (by have:=HK.out; omega) w7.heap.size rfl ?_; intro gg cap w8 hown8 hgrow8 hat8 hlt8; have oT8:=(hoT.out.under hb7).of_block (World.grownBy.block hgrow8 T (by omega) (fun e=>hTn.out e.symm)); have q8:=oT8.cell (i:=2) rfl; have f8:=oT8.frozen 2)
    obtain⟨w9,hw9⟩:∃ w9,w9=w8.setCell ⟨T,2,none⟩ (.slice (some ⟨gg,0,none⟩) (i+1) cap):=⟨_,rfl⟩
    have hN:Hid (MvO [T] w3 w9):=by show MvO _ _ _; rw [hw9]; exact ((hmv.out.trans (.of_below hb7)).grown'' hgrow8 (fun g e=>by have:=(Hvr.out g e).1; have:=HK.out; exact .inr (by omega))).set (by simp) _
    have hO:Hid (Own w9 T 73 #[.slice (some ⟨g1,0,none⟩) n n,.slice (some ⟨g2,0,none⟩) (n*3) (n*3),.slice (some ⟨gg,0,none⟩) (i+1) cap,.slice none 0 0]):=by show Own _ _ _ _; rw [hw9]; exact oT8.set 2 _
    have hrow8:=RowOf.snoc (news:=[.slice (some ⟨gv,0,none⟩) 3 3]) (x:=(gv,3)) (xs:=ps) qsv_congr (w:=w7) (by rw [Hpl.out]; exact Hown.out) Hqq.out rfl rfl (by rw [Hpl.out]; exact hown8)
    have hgT:¬ (Value.slice (some ⟨gg,0,none⟩) (i+1) cap).ownBlock=some T:=fun e=>by have:=(owns_base hown8 e).1; omega
    have hrow9:Hid (RowOf 1 QSv w9 K 31 (.slice (some ⟨gg,0,none⟩) (i+1) cap) (ps++[(gv,3)])):=by
     show RowOf _ _ _ _ _ _ _
     rw [hw9]
     exact RowOf.kept hrow8 hgT
    have hkeep:∀ {b:Nat} {F:Nat→Value},CelW w7 K b 3 3 F→CelW w9 K b 3 3 F:=fun {b F} hc=>by
     have h1:CelW w8 K b 3 3 F:=hc.of_block (World.grownBy.block hgrow8 b hc.lt fun e=>hc.ne_row Hown.out (by decide) e.symm)
     rw [hw9]
     exact h1.far (h1.ne_own oT8 (by decide)) _
    have hvs9:Hid (∀ x∈ps++[(gv,3)],3≤x.2∧CelW w9 K x.1 3 3 (fun _=>.int .i64 0)):=fun x hx=>by
     rcases List.mem_append.1 hx with hx | hx
     ·exact⟨(hvs.out x hx).1,hkeep ((hvs.out x hx).2.under hb7)⟩
     ·rw [List.mem_singleton.1 hx]
      exact⟨Nat.le_refl _,hkeep (Hcw.out.rebase (by have:=HK.out; omega))⟩
    have hpl9:(ps++[(gv,3)]).length=i+1:=by rw [List.length_append,Hpl.out]; rfl
    clear hown8 hgrow8 hat8 oT8 hrow8 hgT hkeep
    go_wp2_with fail
    rw [← hw9]
    clear hw9 q8 f8
    go_roundg (n-(i+1))
    case measure=>omega
    case rel=>exact⟨i+1,_,ps++[(gv,3)],by omega,rfl,by go_num,hpl9,hrow9.out,hO.out,hN.out,hvs9.out⟩
  ·obtain rfl:i=n:=by omega
   obtain⟨Av,cv,rfl,_,_⟩:=RowOf.slice hrow.out
   obtain⟨g3,F3,e3,hn3,hc3,hr3,_,hq3⟩:=RowOf.celW hrow.out (show 0<ps.length by omega)
   subst e3
   have H3:Hid (∀ t,t<i→∃ b c,3≤c∧wo.cell? ⟨g3,t,none⟩=some (.slice (some ⟨b,0,none⟩) 3 c)∧CelW wo K b 3 3 (fun _=>.int .i64 0)):=fun t ht=>by
    have h1:=hr3.cell (j:=t) (by omega)
    have h2:=hq3 t (by omega)
    have h2':(if t*1+0<ps.length*1 then F3 (t*1+0) else undef)=.slice (some ⟨(ps[t]'(by omega)).1,0,none⟩) 3 (ps[t]'(by omega)).2:=h2
    rw [if_pos (by omega),Nat.mul_one,Nat.add_zero] at h2'
    rw [h2'] at h1
    obtain⟨a1,a2⟩:=hvs.out _ (List.getElem_mem (show t<ps.length by omega))
    exact⟨_,_,a1,h1,a2⟩
   have Hr3:Hid (CelW wo K g3 31 i F3):=by have h:=hr3; rw [hpl,Nat.mul_one] at h; exact h
   have hmT:∀ g,¬ g=T→g<w3.heap.size→wo.heap[g]?=w3.heap[g]?:=fun g hn hl=>hmv.out.block g hl (by simpa using hn)
   have K8o:Hid (CelW wo V.heap.size g1 3 i (fun _=>.int .i64 0)):=R8.out.of_block (hmT _ (R8.out.ne_own OT3.out (by decide)) R8.out.lt)
   have K12o:Hid (CelW wo V.heap.size g2 3 (i*3) (fun _=>.int .i64 0)):=R12.out.of_block (hmT _ (R12.out.ne_own OT3.out (by decide)) R12.out.lt)
   have HBo:Hid (Below V.heap.size V wo):=HB3.out.trans (hmv.out.below (fun x hx=>by simp at hx; omega) HB3.out.size)
   have Hpl:=Lib.hid hpl
   rw [hpl] at hoT
   have oTo:=Lib.hid hoT.out
   have hTl':=hoT.out.lt
   try rw [hpl]
   clear hr3 hq3 hn3 hpl hrow hvs hmT hmv hoT R8 R12 hsz hTl
   obtain⟨K2,hK2⟩:∃ K2,K2=wo.heap.size:=⟨_,rfl⟩
   have HK2:=Lib.hid hK2
   have hTK2:T<K2:=by omega
   have hKK2:V.heap.size≤K2:=by have:=HBo.out.size; omega
   clear hK2
   obtain⟨w6,hw6⟩:∃ w6:World,w6=wo:=⟨_,rfl⟩
   rw [← hw6] at H3 Hr3 K8o K12o HBo oTo HK2 hTl' ⊢
   clear hw6
   go_wp2_with fail
   go_loopg [5] 3 (fun g s5 wr=>∃ (l:Nat) (v:Value) (ps:List (Nat×Nat×Nat)),l≤3∧g=3-l∧s5=.int .i64 l∧ps.length=l∧Hid (RowOf 1 QSl wr K2 138 v ps)∧Hid (Own wr T 73 #[.slice (some ⟨g1,0,none⟩) i i,.slice (some ⟨g2,0,none⟩) (i*3) (i*3),.slice (some ⟨g3,0,none⟩) i cv,v])∧Hid (MvO [T] w6 wr)∧Hid (∀ x∈ps,LZ wr K2 x))
   case atStart=>exact⟨0,_,[],Nat.zero_le _,rfl,rfl,rfl,RowOf.nil 1 _ _ _ _,oTo.out,MvO.refl _ _,fun x hx=>absurd hx (List.not_mem_nil)⟩
   case round=>
    obtain⟨wo,rfl⟩:∃ wo:World,wo=wr:=⟨_,rfl⟩
    obtain⟨l,v,ps2,hl,rfl,rfl,hpl,hrow,hoT,hmv,hvs⟩:=hrel
    have hsz:=hmv.out.size
    by_cases hlt:l<3
    ·have hilt:(l:Int)≤2:=by omega
     have HF:Hid (∀ U,Nx wo.drew U→U.cell? ⟨T,3,none⟩=some v):=fun U hU=>by
      have hb:Below wo.heap.size wo U:=(Below.refl wo.heap.size wo).drew.trans hU
      exact Le.below hb _ _ (hoT.out.cell (i:=3) rfl)
     obtain⟨Av,cv2,rfl,_,_⟩:=RowOf.slice hrow.out
     have Hpl:=Lib.hid hpl
     rw [hpl] at hrow hoT HF
     have hTl2:=hoT.out.lt
     clear hpl
     go_upto_region 9 with (fail)
     refine wp_region_rel [0,1,2,3,4,5] [6,7,8] (TR5 wo.heap.size T (.slice Av l cv2)) (fun _=>0) [30,31,32,33,34,35] (by kernel_rfl) (by kernel_rfl) rfl (by simp) tr5_nx (fun _ _ _ _ _ h=>absurd rfl h) ?_ ?_
     ·refine⟨?_,?_,?_,?_,?_,?_,trivial⟩
      all_goals (intro us w hw hdep hsep; have hVw:wo.heap.size≤w.heap.size:=Nx.sz hw; simp only [shpA,fillL,List.contains_cons,List.contains_nil,Nat.reduceAdd,Nat.reduceBEq,Bool.or_false,Bool.or_true,Bool.false_eq_true,↓reduceIte])
      ·go_wp2_with fail
       exact RelPost.mk (Nx.refl _) _ rfl rfl rfl
      ·have e1:us 30=.pointer (some ⟨T,3,none⟩):=hdep 30 (List.mem_of_elem_eq_true (by kernel_rfl))
       have q:=HF.out w hw
       rw [e1]
       go_wp2_with fail
       exact RelPost.mk (Nx.refl _) _ rfl rfl rfl
      ·go_wp2_with fail
       exact RelPost.mk ((Below.refl _ _).alloc (Nat.le_refl _) _) _ rfl (ZeI.made hVw) rfl
      ·obtain⟨g8,e8,r8⟩:ZeI wo.heap.size 3 w (us 32):=hdep 32 (List.mem_of_elem_eq_true (by kernel_rfl))
       rw [e8]
       go_wp2_with fail
       exact RelPost.mk (Nx.refl _) _ rfl ⟨_,rfl,g8,rfl,r8⟩ rfl
      ·obtain⟨u,e8,r8⟩:∃ u,us 33=.agg #[.int .i64 0,.bool false,u]∧ZeI wo.heap.size 3 w u:=hdep 33 (List.mem_of_elem_eq_true (by kernel_rfl))
       obtain⟨g8,rfl,r8⟩:=r8
       rw [e8]
       go_wp2_with fail
       exact RelPost.mk ((Below.refl _ _).alloc (Nat.le_refl _) _) _ rfl ⟨w.heap.size,_,rfl,Own.new w _ _,ZeI.nx ((Below.refl _ _).alloc (Nat.le_refl _) _) ⟨g8,rfl,r8⟩,hVw⟩ rfl
      ·obtain⟨g8,u8,e8,r8⟩:LsI wo.heap.size w (us 34):=hdep 34 (List.mem_of_elem_eq_true (by kernel_rfl))
       rw [e8]
       go_wp2_with fail
       exact RelPost.mk ((Below.refl _ _).alloc (Nat.le_refl _) _) _ rfl ⟨w.heap.size,_,rfl,Own.new w _ _,LsI.nx ((Below.refl _ _).alloc (Nat.le_refl _) _) ⟨g8,u8,rfl,r8⟩⟩ rfl
     ·intro us w7 hw7 hT hsep
      have e31:us 31=.slice Av l cv2:=hT 31 (List.mem_of_elem_eq_true (by kernel_rfl))
      obtain⟨gb,u,e35,ob,gl,um,rfl,oM,hum,hgl⟩:∃ g u,us 35=.slice (some ⟨g,0,none⟩) 1 1∧Own w7 g 138 #[u]∧LsI wo.heap.size w7 u:=hT 35 (List.mem_of_elem_eq_true (by kernel_rfl))
      obtain⟨gv,rfl,hcw⟩:=hum
      have hb7:Below wo.heap.size wo w7:=(Below.refl wo.heap.size wo).drew.trans hw7
      show wpList _ _ _ [_,_,_] _ _
      simp only [shpA,fillL,List.contains_cons,List.contains_nil,Nat.reduceAdd,Nat.reduceBEq,Bool.or_false,Bool.or_true,Bool.false_eq_true,↓reduceIte]
      rw [e31,e35]
      clear e31 e35 hT hsep
      have hs7:=hb7.size
      obtain⟨cs,hown,hqq⟩:=hrow.out
      rw [Hpl.out] at hown
      have Hown:=Lib.hid (owns_of_block hown (w':=w7) fun g _ _ hl=>hb7.block g hl)
      have Hqq:=Lib.hid hqq
      have Hob:=Lib.hid ob
      have HLZ:Hid (LZ w7 wo.heap.size (gl,1,1)):=⟨rfl,Nat.le_refl _,gv,⟨hgl,_,oM,fun j hj=>by
       match j,hj with
       | 0,_=>rfl
       | 1,_=>rfl
       | 2,_=>rfl⟩,hcw⟩
      have Hvr:Hid (∀ g,(Value.slice Av l cv2).ownBlock=some g→K2≤g∧g<wo.heap.size):=fun g hg=>owns_base hown hg
      have hTn:Hid (¬ (Value.slice Av l cv2).ownBlock=some T):=fun e=>by have:=(Hvr.out T e).1; omega
      clear ob hw7 hcw hown hqq oM hgl
      go_wp2_with (at_builtin; refine wpList_append_lies (o:=⟨some 36,_,_,_,_,_⟩) _ (by rfl) _ _ _ (by rfl) K2 138 i3 _ 1 24 Tryz.underlying71 hi3 hu0 hu1 hu2 rfl (by omega) (.slice Av l cv2) l cs (by rfl) Hown.out ⟨gb,0,none⟩ 1 1 [.slice (some ⟨gl,0,none⟩) 1 1] (by rfl) (by rfl) (World.news_of_block (cs:=#[.slice (some ⟨gl,0,none⟩) 1 1]) (t:=138) (fr:=(0,0)) Hob.out) (by simp [Value.oneCell']) (by omega) (by simp [maxLen]; omega) (by omega) (by have:=HK2.out; omega) w7.heap.size rfl ?_; intro gg cap w8 hown8 hgrow8 hat8 hlt8; have oT8:=(hoT.out.under hb7).of_block (World.grownBy.block hgrow8 T (by omega) (fun e=>hTn.out e.symm)); have q8:=oT8.cell (i:=3) rfl; have f8:=oT8.frozen 3)
      obtain⟨w9,hw9⟩:∃ w9,w9=w8.setCell ⟨T,3,none⟩ (.slice (some ⟨gg,0,none⟩) (l+1) cap):=⟨_,rfl⟩
      have hN:Hid (MvO [T] w6 w9):=by show MvO _ _ _; rw [hw9]; exact ((hmv.out.trans (.of_below hb7)).grown'' hgrow8 (fun g e=>by have:=(Hvr.out g e).1; have:=HK2.out; exact .inr (by omega))).set (by simp) _
      have hO:Hid (Own w9 T 73 #[.slice (some ⟨g1,0,none⟩) i i,.slice (some ⟨g2,0,none⟩) (i*3) (i*3),.slice (some ⟨g3,0,none⟩) i cv,.slice (some ⟨gg,0,none⟩) (l+1) cap]):=by show Own _ _ _ _; rw [hw9]; exact oT8.set 3 _
      have hrow8:=RowOf.snoc (news:=[.slice (some ⟨gl,0,none⟩) 1 1]) (x:=(gl,1,1)) (xs:=ps2) qsl_congr (w:=w7) (by rw [Hpl.out]; exact Hown.out) Hqq.out rfl rfl (by rw [Hpl.out]; exact hown8)
      have hgT:¬ (Value.slice (some ⟨gg,0,none⟩) (l+1) cap).ownBlock=some T:=fun e=>by have:=(owns_base hown8 e).1; omega
      have hrow9:Hid (RowOf 1 QSl w9 K2 138 (.slice (some ⟨gg,0,none⟩) (l+1) cap) (ps2++[(gl,1,1)])):=by
       show RowOf _ _ _ _ _ _ _
       rw [hw9]
       exact RowOf.kept hrow8 hgT
      have hkeep:∀ {b m:Nat} {ty:TypeId} {F:Nat→Value},CelW w7 K2 b ty m F→ty≠73→ty≠138→CelW w9 K2 b ty m F:=fun {b m ty F} hc h1 h2=>by
       have h8:CelW w8 K2 b ty m F:=hc.of_block (World.grownBy.block hgrow8 b hc.lt fun e=>hc.ne_row Hown.out h2 e.symm)
       rw [hw9]
       exact h8.far (h8.ne_own oT8 h1) _
      have hvs9:Hid (∀ x∈ps2++[(gl,1,1)],LZ w9 K2 x):=fun x hx=>by
       rcases List.mem_append.1 hx with hx | hx
       ·exact ((hvs.out x hx).of fun hc _ _=>hc.under hb7).of hkeep
       ·rw [List.mem_singleton.1 hx]
        obtain⟨a1,a2,a3,a4,a5⟩:=HLZ.out
        exact⟨a1,a2,a3,hkeep (a4.rebase (by have:=HK2.out; omega)) (by decide) (by decide),hkeep (a5.rebase (by have:=HK2.out; omega)) (by decide) (by decide)⟩
      have hpl9:(ps2++[(gl,1,1)]).length=l+1:=by rw [List.length_append,Hpl.out]; rfl
      clear hown8 hgrow8 hat8 oT8 hrow8 hgT hkeep
      go_wp2_with fail
      rw [← hw9]
      clear hw9 q8 f8
      go_roundg (3-(l+1))
      case measure=>omega
      case rel=>exact⟨l+1,_,ps2++[(gl,1,1)],by omega,rfl,by go_num,hpl9,hrow9.out,hO.out,hN.out,hvs9.out⟩
    ·obtain rfl:l=3:=by omega
     obtain⟨Av,cv4,rfl,_,_⟩:=RowOf.slice hrow.out
     obtain⟨g4,F4,e4,hn4,hc4,hr4,_,hq4⟩:=RowOf.celW hrow.out (show 0<ps2.length by omega)
     subst e4
     have HZ:Hid (∀ x∈ps2,LZ wo K2 x):=hvs
     have H4:Hid (∀ l,l<3→∃ x,LZ wo K2 x∧wo.cell? ⟨g4,l,none⟩=some (.slice (some ⟨x.1,0,none⟩) x.2.1 x.2.2)):=fun t ht=>by
      have h1:=hr4.cell (j:=t) (by omega)
      have h2:=hq4 t (by omega)
      have h2':(if t*1+0<ps2.length*1 then F4 (t*1+0) else undef)=.slice (some ⟨(ps2[t]'(by omega)).1,0,none⟩) (ps2[t]'(by omega)).2.1 (ps2[t]'(by omega)).2.2:=h2
      rw [if_pos (by omega),Nat.mul_one,Nat.add_zero] at h2'
      rw [h2'] at h1
      exact⟨_,HZ.out _ (List.getElem_mem (show t<ps2.length by omega)),h1⟩
     have hmT:∀ g,¬ g=T→g<w6.heap.size→wo.heap[g]?=w6.heap[g]?:=fun g hn hl=>hmv.out.block g hl (by simpa using hn)
     have f6:∀ {b m:Nat} {B:Nat} {ty:TypeId} {F:Nat→Value},CelW w6 B b ty m F→ty≠73→CelW wo B b ty m F:=fun hc hn=>hc.of_block (hmT _ (hc.ne_own oTo.out hn) hc.lt)
     have D1:=Lib.hid (f6 K8o.out (by decide))
     have D2:=Lib.hid (f6 K12o.out (by decide))
     have D3:Hid (∀ t,t<i→∃ b c,3≤c∧wo.cell? ⟨g3,t,none⟩=some (.slice (some ⟨b,0,none⟩) 3 c)∧CelW wo K b 3 3 (fun _=>.int .i64 0)):=fun t ht=>by
      obtain⟨b,c,a1,a2,a3⟩:=H3.out t ht
      exact⟨b,c,a1,(World.cell?_of_block (w:=w6) (hmT g3 (Hr3.out.ne_own oTo.out (by decide)) Hr3.out.lt)).trans a2,f6 a3 (by decide)⟩
     have D3l:Hid (V.heap.size≤g3):=Nat.le_trans hKV Hr3.out.1
     have D4l:Hid (V.heap.size≤g4):=Nat.le_trans hKK2 hr4.1
     have HBw:Hid (Below V.heap.size V wo):=HBo.out.trans (hmv.out.below (fun x hx=>by simp at hx; omega) HBo.out.size)
     obtain⟨hVs,oRV,hBV⟩:=HV.out
     have oRo:=oRV.under HBw.out
     have hWl:=oRo.lt
     rw [hpl] at hoT
     have p0:=hoT.out.cell (i:=0) rfl
     have p1:=hoT.out.cell (i:=1) rfl
     have p2:=hoT.out.cell (i:=2) rfl
     have p3:=hoT.out.cell (i:=3) rfl
     have f0:=oRo.frozen 0
     have f1:=oRo.frozen 1
     have f2:=oRo.frozen 2
     have f3:=oRo.frozen 3
     have o0:=oRo.cell (i:=0) rfl
     have o1:=oRo.cell (i:=1) rfl
     have o2:=oRo.cell (i:=2) rfl
     have o3:=oRo.cell (i:=3) rfl
     have HVs:=Lib.hid hVs
     have HBV:=Lib.hid hBV
     clear hr4 hq4 hn4 hpl hrow hvs hmT hmv hoT f6 oRo hsz hVs oRV hBV H3 Hr3 K8o K12o
     go_wp2_with fail
     refine bodyPost_ret (v:=.agg #[.slice (some ⟨g1,0,none⟩) i i,.slice (some ⟨g2,0,none⟩) (i*3) (i*3),.slice (some ⟨g3,0,none⟩) i cv,.slice (some ⟨g4,0,none⟩) 3 cv4]) (by simp [results,Tryz.results59,go_sem,o0,o1,o2,o3]) rfl ?_
     have hcl:∀ {b j:Nat} {u:Value},V.heap.size≤b→wo.cell? ⟨b,j,none⟩=some u→(above W.heap.size ((((wo.setCell ⟨W.heap.size,0,none⟩ (.slice (some ⟨g1,0,none⟩) i i)).setCell ⟨W.heap.size,1,none⟩ (.slice (some ⟨g2,0,none⟩) (i*3) (i*3))).setCell ⟨W.heap.size,2,none⟩ (.slice (some ⟨g3,0,none⟩) i cv)).setCell ⟨W.heap.size,3,none⟩ (.slice (some ⟨g4,0,none⟩) 3 cv4))).cell? ⟨b,j,none⟩=some u:=fun {b j u} hb hc=>by
      have hne:b≠W.heap.size:=by have:=HVs.out; omega
      refine cell_above_of (by have:=HVs.out; show W.heap.size≤b; omega) ((World.cell?_of_block (w:=wo) ?_).trans hc)
      show (World.setCell _ _ _).heap[b]?=_
      rw [Go.Deep.blk_setCell_other _ _ _ _ hne,Go.Deep.blk_setCell_other _ _ _ _ hne,Go.Deep.blk_setCell_other _ _ _ _ hne,Go.Deep.blk_setCell_other _ _ _ _ hne]
     refine Hfin.out ⟨g1,i,g2,i*3,g3,cv,g4,cv4⟩ _ _ (by rw [← Hn.out]; rfl) ⟨fun t ht=>?_,fun j hj=>?_,fun t ht=>?_,fun l hl=>?_⟩ ((((HBV.out.trans (HBw.out.mono HBV.out.size)).setCell (Nat.le_refl _) _).setCell (Nat.le_refl _) _).setCell (Nat.le_refl _) _ |>.setCell (Nat.le_refl _) _)
     ·rw [← Hn.out] at ht
      rw [(Hp0.out t).1]
      exact hcl D1.out.1 (D1.out.cell ht)
     ·rw [← Hn.out] at hj
      rw [(Hp0.out j).2.1]
      exact hcl D2.out.1 (D2.out.cell hj)
     ·rw [← Hn.out] at ht
      obtain⟨b,c,a1,a2,a3⟩:=D3.out t ht
      refine⟨b,c,a1,hcl D3l.out a2,fun j hj=>?_⟩
      rw [(Hp0.out t).2.2]
      have h:=hcl (Nat.le_trans hKV a3.1) (a3.cell hj)
      rw [h]
      match j,hj with
      | 0,_=>rfl
      | 1,_=>rfl
      | 2,_=>rfl
     ·obtain⟨x,⟨a1,a2,gv,a3,a4⟩,a5⟩:=H4.out l hl
      rw [Hl0.out l hl]
      have hx:=hcl D4l.out a5
      rw [a1] at hx
      refine⟨x.1,x.2.2,a2,hx,fun k hk=>?_⟩
      obtain rfl:k=0:=by simpa using hk
      have c0:=hcl (Nat.le_trans hKK2 a3.1) (a3.cell (j:=0) (by omega))
      have c1:=hcl (Nat.le_trans hKK2 a3.1) (a3.cell (j:=1) (by omega))
      have c2:=hcl (Nat.le_trans hKK2 a3.1) (a3.cell (j:=2) (by omega))
      refine⟨c0,c1,gv,3,Nat.le_refl _,c2,fun j hj=>?_⟩
      have h:=hcl (Nat.le_trans hKK2 a4.1) (a4.cell hj)
      rw [h]
      match j,hj with
      | 0,_=>rfl
      | 1,_=>rfl
      | 2,_=>rfl
end Go.Proofs.YtojmofnamppbdaaGreat
