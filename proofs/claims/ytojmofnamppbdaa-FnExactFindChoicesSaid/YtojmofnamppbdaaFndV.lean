/-
  The program's search for moves that lead to an outcome: search and its function, at the machine with views.
-/
import Derived.Test.YtojmofnamppbdaaRunP
import Derived.Test.YtojmofnamppbdaaVxJ
import Derived.Test.YtojmofnamppbdaaTab
import Derived.Test.YtojmofnamppbdaaRgA
import Derived.Deep.Cut
import Derived.Test.YtojmofnamppbdaaOutV
namespace Go.Proofs.Ytojmofnamppbdaa
open Go.RowKit
set_option linter.unusedVariables false
set_option maxRecDepth 100000
def hP (m b3:Nat) (v:Value) (i:Nat):Prop:=i=m∨i=b3∨v.ownBlock=some i
noncomputable def hidF (m b3:Nat) (v:Value) (w:World):World:=hidP (hP m b3 v) w
structure SrT (m b3:Nat) (w w':World) (v v':Value):Prop where
 mv:MvP (hP m b3 v) w w'
 own:∀ g,v'.ownBlock=some g→v.ownBlock=some g∨w.heap.size≤g
section
variable {m b3:Nat} {w w' w'':World} {v v' v'':Value}
theorem SrT.refl (m b3:Nat) (w:World) (v:Value):SrT m b3 w w v v:=⟨.refl _ _,fun _ h=>.inl h⟩
theorem SrT.trans (h:SrT m b3 w w' v v') (k:SrT m b3 w' w'' v' v''):SrT m b3 w w'' v v'':=
 ⟨h.mv.trans k.mv fun i hi hq=>by
  rcases hq with hq | hq | hq
  ·exact .inl hq
  ·exact .inr (.inl hq)
  ·rcases h.own i hq with hq | hq
   ·exact .inr (.inr hq)
   ·omega,fun g hg=>by
  rcases k.own g hg with hg | hg
  ·exact h.own g hg
  ·have:=h.mv.size; omega⟩
theorem SrT.of_below (h:Below w.heap.size w w'):SrT m b3 w w' v v:=⟨.of_below h,fun _ h=>.inl h⟩
theorem SrT.le (h:SrT m b3 w w' v v'):Le (hidF m b3 v w) (hidF m b3 v' w'):=Le.hidP_mv h.mv (fun i _ hq=>hq) (fun i hi=>by
 rcases hi with hi | hi | hi
 ·exact .inl (.inl hi)
 ·exact .inl (.inr (.inl hi))
 ·rcases h.own i hi with hi | hi
  ·exact .inl (.inr (.inr hi))
  ·exact .inr hi)
theorem SrT.size (h:SrT m b3 w w' v v'):w.heap.size≤w'.heap.size:=h.mv.size
theorem SrT.block (h:SrT m b3 w w' v v') {i:Nat} (hi:i<w.heap.size) (h1:i≠m) (h2:i≠b3) (h3:¬ v.ownBlock=some i):w'.heap[i]?=w.heap[i]?:=h.mv.block i hi fun hp=>by
 rcases hp with hp | hp | hp
 ·exact h1 hp
 ·exact h2 hp
 ·exact h3 hp
theorem Le.hidF (m b3:Nat) (v:Value) (w:World):Le (Go.Proofs.Ytojmofnamppbdaa.hidF m b3 v w) w:=Le.hidP _ _
end
def frmV (b1 b2 b3 b4:Nat):Value:=.func (.func 54) #[] #[.pointer (some ⟨b1,0,none⟩),.pointer (some ⟨b2,0,none⟩),.pointer (some ⟨b3,0,none⟩),.pointer (some ⟨b4,0,none⟩)]
structure SrF {σ:Type} (M:Mach σ) (B:Nat) (w:World) (m b1 b2 b3 b4:Nat) (A:Option Addr) (c:Nat) (o:List Int) (F:List σ) (v:Value) (ms:List Int):Prop where
 c1:w.cell? ⟨b1,0,none⟩=some (.map (some m))
 c2:w.cell? ⟨b2,0,none⟩=some (.slice A o.length c)
 c3:Own w b3 23 #[v]
 c4:w.cell? ⟨b4,0,none⟩=some (frmV b1 b2 b3 b4)
 map:SetM w m F.length (F.map M.key)
 row:RowI w B v ms
 rap:∀ g,v.ownBlock=some g→g≠m∧g≠b1∧g≠b2∧g≠b3∧g≠b4
 ap:m≠b1∧m≠b2∧m≠b3∧m≠b4∧b3≠b1∧b3≠b2∧b3≠b4
 low:B≤m∧B≤b3
 ints:Ints (hidF m b3 v w) A c o
section
variable {σ:Type} {M:Mach σ} {B:Nat} {w w':World} {m b1 b2 b3 b4:Nat} {A:Option Addr} {c:Nat} {o:List Int} {F:List σ} {v v':Value} {ms ms':List Int}
theorem SrF.lt (h:SrF M B w m b1 b2 b3 b4 A c o F v ms):m<w.heap.size∧b1<w.heap.size∧b2<w.heap.size∧b3<w.heap.size∧b4<w.heap.size:=⟨h.map.lt,World.block_lt_of_cell? _ _ h.c1,World.block_lt_of_cell? _ _ h.c2,h.c3.lt,World.block_lt_of_cell? _ _ h.c4⟩
theorem SrF.own_lt (h:SrF M B w m b1 b2 b3 b4 A c o F v ms) {g:Nat} (hg:v.ownBlock=some g):B≤g∧g<w.heap.size:=h.row.own_lt hg
theorem cell_blk {w w':World} {x:Addr} {u:Value} (hc:w.cell? x=some u) (hb:w'.heap[x.block]?=w.heap[x.block]?):w'.cell? x=some u:=by rw [World.cell?_of_block (w:=w) hb]; exact hc
theorem SrF.below (h:SrF M B w m b1 b2 b3 b4 A c o F v ms) (hb:Below w.heap.size w w'):SrF M B w' m b1 b2 b3 b4 A c o F v ms:=
 ⟨Le.below hb _ _ h.c1,Le.below hb _ _ h.c2,h.c3.under hb,Le.below hb _ _ h.c4,h.map.below hb,RowOf.below h.row hb,h.rap,h.ap,h.low,h.ints.le (SrT.of_below hb).le⟩
theorem SrF.put {V:World} (h:SrF M B w m b1 b2 b3 b4 A c o F v ms) (hg:w.grownBy V v.ownBlock) (hr:RowI V B v' ms') (hv:∀ g,v'.ownBlock=some g→v.ownBlock=some g∨w.heap.size≤g):
  SrF M B (V.setCell ⟨b3,0,none⟩ v') m b1 b2 b3 b4 A c o F v' ms'∧SrT m b3 w (V.setCell ⟨b3,0,none⟩ v') v v':=by
 obtain⟨l0,l1,l2,l3,l4⟩:=h.lt
 obtain⟨a1,a2,a3,a4,a5,a6,a7⟩:=h.ap
 have hs:=World.grownBy.size hg
 have hrap:∀ g,v'.ownBlock=some g→g≠m∧g≠b1∧g≠b2∧g≠b3∧g≠b4:=fun g hgg=>by
  rcases hv g hgg with e | e
  ·exact h.rap g e
  ·exact⟨by omega,by omega,by omega,by omega,by omega⟩
 have hkeep:∀ i,i<w.heap.size→i≠b3→¬ v.ownBlock=some i→(V.setCell ⟨b3,0,none⟩ v').heap[i]?=w.heap[i]?:=fun i hi hn hq=>(Go.Deep.blk_setCell_other _ _ _ _ hn).trans (World.grownBy.block hg i hi (fun e=>hq e.symm))
 have n1:¬ v.ownBlock=some b1:=fun e=>(h.rap _ e).2.1 rfl
 have n2:¬ v.ownBlock=some b2:=fun e=>(h.rap _ e).2.2.1 rfl
 have n3:¬ v.ownBlock=some b3:=fun e=>(h.rap _ e).2.2.2.1 rfl
 have n4:¬ v.ownBlock=some b4:=fun e=>(h.rap _ e).2.2.2.2 rfl
 have n0:¬ v.ownBlock=some m:=fun e=>(h.rap _ e).1 rfl
 have hset:V.grownBy (V.setCell ⟨b3,0,none⟩ v') (some b3):=⟨rfl,rfl,rfl,by simp [World.setCell],fun i hi hne=>Go.Deep.blk_setCell_other _ _ _ _ (fun e=>hne (by rw [e]))⟩
 have hT:SrT m b3 w (V.setCell ⟨b3,0,none⟩ v') v v':=⟨⟨(World.grownBy.os hg).trans rfl,(World.grownBy.tape hg).trans rfl,(World.grownBy.output hg).trans rfl,by simpa [World.setCell] using hs,fun i hi hp=>hkeep i hi (fun e=>hp (.inr (.inl e))) (fun e=>hp (.inr (.inr e)))⟩,hv⟩
 refine⟨⟨cell_blk h.c1 (hkeep b1 l1 (fun e=>a5 e.symm) n1),cell_blk h.c2 (hkeep b2 l2 (fun e=>a6 e.symm) n2),?_,cell_blk h.c4 (hkeep b4 l4 (fun e=>a7 e.symm) n4),?_,?_,hrap,h.ap,h.low,h.ints.le hT.le⟩,hT⟩
 ·exact (Own.of_block h.c3 (World.grownBy.block hg b3 l3 (fun e=>n3 e.symm))).set 0 v'
 ·exact (h.map.kept hg (fun e=>n0 e.symm)).kept hset (fun e=>a3 (by injection e))
 ·exact RowOf.of_block hr fun g hgB hgg hgl=>Go.Deep.blk_setCell_other _ _ _ _ (hrap g hgg).2.2.2.1
theorem SrF.mark {s:σ} (h:SrF M B w m b1 b2 b3 b4 A c o F v ms) (hg:w.grownBy w' (some m)) (hm:SetM w' m (F.length+1) (F.map M.key++[M.key s])):
  SrF M B w' m b1 b2 b3 b4 A c o (F++[s]) v ms∧SrT m b3 w w' v v:=by
 obtain⟨l0,l1,l2,l3,l4⟩:=h.lt
 obtain⟨a1,a2,a3,a4,a5,a6,a7⟩:=h.ap
 have hkeep:∀ i,i<w.heap.size→i≠m→w'.heap[i]?=w.heap[i]?:=fun i hi hn=>World.grownBy.block hg i hi (fun e=>hn (by injection e))
 have hT:SrT m b3 w w' v v:=⟨MvP.of_grown hg fun g e=>.inl (by injection e with e; exact e.symm),fun _ h=>.inl h⟩
 refine⟨⟨cell_blk h.c1 (hkeep b1 l1 (fun e=>a1 e.symm)),cell_blk h.c2 (hkeep b2 l2 (fun e=>a2 e.symm)),h.c3.of_block (hkeep b3 l3 (fun e=>a3 e.symm)),cell_blk h.c4 (hkeep b4 l4 (fun e=>a4 e.symm)),?_,?_,h.rap,h.ap,h.low,h.ints.le hT.le⟩,hT⟩
 ·rw [List.length_append,List.map_append]; exact hm
 ·exact RowOf.of_block h.row fun g hgB hgg hgl=>hkeep g hgl (fun e=>(h.rap g hgg).1 e)
end
structure FOk {σ:Type} (M:Mach σ) (goal:σ→Bool) (F:List σ):Prop where
 nd:F.Nodup
 re:∀ x∈F,Reach M.succ M.s0 x
 bad:∀ x∈F,¬ Good M.succ goal x
theorem FOk.push {σ:Type} {M:Mach σ} {goal:σ→Bool} {F:List σ} {s:σ} (h:FOk M goal F) (hn:s∉F) (hr:Reach M.succ M.s0 s) (hb:¬ Good M.succ goal s):FOk M goal (F++[s]):=
 ⟨List.nodup_append.2 ⟨h.nd,by simp,fun a ha b hb' e=>hn (by rw [← List.mem_singleton.1 hb',← e]; exact ha)⟩,fun x hx=>by
  rcases List.mem_append.1 hx with hx | hx
  ·exact h.re x hx
  ·rw [List.mem_singleton.1 hx]; exact hr,fun x hx=>by
  rcases List.mem_append.1 hx with hx | hx
  ·exact h.bad x hx
  ·rw [List.mem_singleton.1 hx]; exact hb⟩
structure MachE {σ:Type} (M:Mach σ) (pot:σ→Nat):Prop where
 dec:∀ s t,Reach M.succ M.s0 s→t∈M.succ s→pot t<pot s
 low:∀ s,Reach M.succ M.s0 s→pot s≤1000
noncomputable def goalM {σ:Type} (M:Mach σ) (o:List Int) (s:σ):Bool:=M.done s && eqB (M.out s) o
def RetFr {σ:Type} (M:Mach σ) (pot:σ→Nat) (B:Nat) (m b1 b2 b3 b4:Nat) (A:Option Addr) (c:Nat) (o:List Int) (F:List σ) (v:Value) (ms:List Int) (s:σ) (w:World) (e:Ending) (w':World):Prop:=
 ∃ F' v' ms',SrF M B w' m b1 b2 b3 b4 A c o F' v' ms'∧SrT m b3 w w' v v'∧FOk M (goalM M o) F'∧(∀ x∈F',x∈F∨pot x≤pot s)
  ∧ ((e=.returned (.bool true)∧∃ l,FstP M.succ M.mv (goalM M o) s l∧ms'=ms++l)∨(e=.returned (.bool false)∧¬ Good M.succ (goalM M o) s∧ms'=ms))
def FromP {σ:Type} (M:Mach σ) (pot:σ→Nat) (B m b1 b2 b3 b4:Nat) (A:Option Addr) (c:Nat) (o:List Int) (s:σ):Prop:=
 ∀ (w:World) (b:Nat) (F:List σ) (v:Value) (ms:List Int),M.R (hidF m b3 v w) b s→SrF M B w m b1 b2 b3 b4 A c o F v ms→FOk M (goalM M o) F→ms.length+pot s≤2000 →
  Calls Try.prog 54 #[.iface 95 (.pointer (some ⟨b,0,none⟩)),.pointer (some ⟨b1,0,none⟩),.pointer (some ⟨b2,0,none⟩),.pointer (some ⟨b3,0,none⟩),.pointer (some ⟨b4,0,none⟩)] w (RetFr M pot B m b1 b2 b3 b4 A c o F v ms s w)
def TFr {σ:Type} (M:Mach σ) (m b1 b2 b3 b4 b:Nat) (v:Value) (mi:Int) (t:σ) (d:Nat) (w:World) (u:Value):Prop:=
 match d with
 | 34=>u=frmV b1 b2 b3 b4
 | 35=>u=.iface 95 (.pointer (some ⟨b,0,none⟩))
 | 36=>u=.int .i64 mi
 | 37=>∃ b',u=.iface 95 (.pointer (some ⟨b',0,none⟩))∧M.R (hidF m b3 v w) b' t
 | _=>True
theorem tfr_nx {σ:Type} {M:Mach σ} (hM:MachP M) {m b1 b2 b3 b4 b:Nat} {v:Value} {mi:Int} {t:σ}:∀ d w w' u,Nx w w'→TFr M m b1 b2 b3 b4 b v mi t d w u→TFr M m b1 b2 b3 b4 b v mi t d w' u:=fun d w w' u hb h=>by
 unfold TFr at h ⊢
 split at h <;> first | exact h | (obtain⟨b',e,hr⟩:=h; exact⟨b',e,hM.le _ _ _ _ (SrT.of_below (show Below w.heap.size w w' from hb)).le hr⟩) | trivial
theorem tfr_blk {σ:Type} {M:Mach σ} {m b1 b2 b3 b4 b:Nat} {v:Value} {mi:Int} {t:σ}:∀ d w u b',TFr M m b1 b2 b3 b4 b v mi t d w u→(fun _=>0:Nat→Nat) d≠0→blkV u=some b'→b'<w.heap.size:=fun _ _ _ _ _ h=>absurd rfl h
theorem row_read {w':World} {xs:List Int} {A:Option Addr} {n c B:Nat} (h:RowI w' B (.slice A n c) xs):Ints w' A c xs:=by
 obtain⟨A',c',e,hi⟩:=RowI.ints h
 injection e with e1 e2 e3
 subst e1 e3
 exact hi.le (Le.above _ _)
theorem grown_alloc {w w':World} {o:Obj} {row:Option Nat} (h:(w.alloc o).grownBy w' row):w.grownBy w' row:=
 ⟨(World.grownBy.os h).trans rfl,(World.grownBy.tape h).trans rfl,(World.grownBy.output h).trans rfl,by have:=World.grownBy.size h; simp at this; omega,fun i hi hn=>(World.grownBy.block h i (by simp; omega) hn).trans (Go.Deep.blk_alloc_lt _ _ _ hi)⟩
theorem metD (k b:Nat):∀ W,(method (k+4) 95 (.pointer (some ⟨b,0,none⟩)) "loop.example/weakmemory/impl.done").run Try.prog W=.ok (109,.pointer (some ⟨b,0,none⟩)) W:=fun W=>by kernel_rfl
set_option maxHeartbeats 4000000 in
theorem from_step {σ:Type} (M:Mach σ) (hM:MachP M) (hC:MachCV M) (pot:σ→Nat) (hE:MachE M pot) (B m b1 b2 b3 b4:Nat) (A:Option Addr) (c:Nat) (o:List Int) (s:σ) (hr:Reach M.succ M.s0 s)
  (ih:∀ t,Reach M.succ M.s0 t→pot t<pot s→FromP M pot B m b1 b2 b3 b4 A c o t):FromP M pot B m b1 b2 b3 b4 A c o s:=by
 intro w b F v ms hR hS hF hlen
 obtain⟨i0,hi0,hz0,hz1,hz2⟩:=info_parts Try.infoInt
 have hky:=hC.key s hr w b (hM.le _ _ _ _ (Le.hidF _ _ _ _) hR)
 have hkl:=hM.klen s
 have HF:=Lib.hid hF
 have HS:=Lib.hid hS
 have HR:=Lib.hid hR
 have Hr:=Lib.hid hr
 have HIH:=Lib.hid ih
 clear hR hS hF hr ih
 go_enter Try.func54,Try.ntmps54
 go_wp2_with fail
 refine hky.mono ?_
 rintro e1 w1 ⟨rfl,hb1⟩
 have S1:=Lib.hid (HS.out.below hb1)
 have T1:Hid (SrT m b3 w w1 v v):=SrT.of_below hb1
 have R1:=Lib.hid (hM.le _ _ _ _ T1.out.le HR.out)
 have hlk:=S1.out.map.look (k:=M.key s) (by simp [maxLen]; omega)
 have k1:=S1.out.c1
 have k2:=S1.out.c2
 have hl1:=S1.out.lt.2.1
 have hl2:=S1.out.lt.2.2.1
 clear hky HR HS
 by_cases hin:s∈F
 ·rw [inB_true (List.mem_map.2 ⟨s,hin,rfl⟩)] at hlk
  have Hin:=Lib.hid hin
  clear hin k2
  go_wp2_with fail
  go_ret
  exact⟨F,v,ms,S1.out,T1.out,HF.out,fun x hx=>.inl hx,.inr ⟨rfl,HF.out.bad s Hin.out,rfl⟩⟩
 ·have hnk:M.key s∉F.map M.key:=fun h=>by
   obtain⟨u,hu,e⟩:=List.mem_map.1 h
   exact hin (by rw [← hM.inj u s (HF.out.re u hu) Hr.out e]; exact hu)
  rw [inB_false hnk] at hlk
  have Hnin:=Lib.hid hin
  clear hin hnk
  have HDn:Hid (∀ W,Below w1.heap.size w1 W→Calls Try.prog 109 #[.pointer (some ⟨b,0,none⟩)] W (RetB W (M.done s))):=fun W hW=>hC.done s Hr.out W b (hM.le _ _ _ _ ((SrT.of_below hW).le.trans (Le.hidF _ _ _ _)) R1.out)
  cases hd:M.done s
  case' false=>
   have Hg:Hid (goalM M o s=false):=by show _=_; unfold goalM; rw [hd]; rfl
   rw [hd] at HDn
   have HDn2:Hid (∀ W,Below w1.heap.size w1 W→Calls Try.prog 109 #[.pointer (some ⟨b,0,none⟩)] W fun e w''=>e=.returned (.bool false)∧Below W.heap.size W w''):=HDn.out
   have hme:=fun k=>metD k b
   clear hd
   go_wp2_with fail
   refine wp_region_ext w1 (by kernel_rfl) (by kernel_rfl) (Below.refl _ _) ?_
   repeat (go_big_quiet_step ((go_at_call 109; with_reducible exact Ext.call _ HDn2.out)))
   refine wpQuiet_nil ?_
   rintro w5 ⟨⟨_,hb5⟩,rfl⟩
   have S5:=Lib.hid (S1.out.below hb5)
   have T5:Hid (SrT m b3 w w5 v v):=T1.out.trans (SrT.of_below hb5)
   have R5:=Lib.hid (hM.le _ _ _ _ (SrT.of_below hb5).le R1.out)
   have hmv:=hC.mv s Hr.out w5 b (hM.le _ _ _ _ (Le.hidF _ _ _ _) R5.out)
   clear hlk k1 k2 S1 R1 HDn HDn2 hb5 hme hb1 T1
  case' true=>
   have HOu:Hid (∀ W,Below w1.heap.size w1 W→Calls Try.prog 112 #[.pointer (some ⟨b,0,none⟩)] W (RetRowI W (M.out s))):=fun W hW=>hC.out s Hr.out W b (hM.le _ _ _ _ ((SrT.of_below hW).le.trans (Le.hidF _ _ _ _)) R1.out)
   have HK2:Hid (∀ W,Below w1.heap.size w1 W→W.cell? ⟨b2,0,none⟩=some (.slice A o.length c)∧Ints W A c o):=fun W hW=>⟨Le.below hW _ _ k2,(S1.out.ints.le ((SrT.of_below hW).le.trans (Le.hidF _ _ _ _)))⟩
   have Hgg:Hid (goalM M o s=eqB (M.out s) o):=by show _=_; unfold goalM; rw [hd]; rfl
   rw [hd] at HDn
   have HB1:=Lib.hid (Below.refl w1.heap.size w1)
   clear hd
   generalize hq:eqB (M.out s) o=q at Hgg
   have Hq:=Lib.hid hq
   clear hq
   cases q
   case' true=>
    go_wp2_with fail
    go_region_with (first
     | ((go_at_call 109; refine (HDn.out _ HB1.out.drew).mono ?_; rintro e2 w2 ⟨rfl,hb2⟩; have HB2:Below w1.heap.size w1 w2:=HB1.out.drew.trans hb2; have k2:w2.cell? ⟨b2,0,none⟩=some (.slice A o.length c):=(HK2.out w2 HB2).1; clear hb2))
     | ((go_at_call 112; refine (HOu.out w2 HB2).mono ?_; rintro e3 w3 ⟨A3,c3,rfl,hrow3,hb3⟩; have HB3:Below w1.heap.size w1 w3:=HB2.trans (hb3.mono HB2.size); have k2:w3.cell? ⟨b2,0,none⟩=some (.slice A o.length c):=(HK2.out w3 HB3).1; have HI3:Ints w3 A3 c3 (M.out s):=row_read hrow3; clear hrow3 hb3))
     | ((go_at_call 55; refine (equal_any (M.out s) o w3 A3 A c3 c HI3 (HK2.out w3 HB3).2).mono ?_; rw [Hq.out]; rintro e5 w5 ⟨rfl,hb5⟩; have HB5:Below w1.heap.size w1 w5:=HB3.trans (hb5.mono HB3.size))))
    all_goals
     have S5:=Lib.hid (S1.out.below HB5)
     have T5:Hid (SrT m b3 w w5 v v):=T1.out.trans (SrT.of_below HB5)
     go_wp2_with fail
     go_ret
     exact⟨F,v,ms,S5.out,T5.out,HF.out,fun x hx=>.inl hx,.inl ⟨rfl,[],.here Hgg.out,by simp⟩⟩
   case' false=>
    go_wp2_with fail
    go_region_with (first
     | ((go_at_call 109; refine (HDn.out _ HB1.out.drew).mono ?_; rintro e2 w2 ⟨rfl,hb2⟩; have HB2:Below w1.heap.size w1 w2:=HB1.out.drew.trans hb2; have k2:w2.cell? ⟨b2,0,none⟩=some (.slice A o.length c):=(HK2.out w2 HB2).1; clear hb2))
     | ((go_at_call 112; refine (HOu.out w2 HB2).mono ?_; rintro e3 w3 ⟨A3,c3,rfl,hrow3,hb3⟩; have HB3:Below w1.heap.size w1 w3:=HB2.trans (hb3.mono HB2.size); have k2:w3.cell? ⟨b2,0,none⟩=some (.slice A o.length c):=(HK2.out w3 HB3).1; have HI3:Ints w3 A3 c3 (M.out s):=row_read hrow3; clear hrow3 hb3))
     | ((go_at_call 55; refine (equal_any (M.out s) o w3 A3 A c3 c HI3 (HK2.out w3 HB3).2).mono ?_; rw [Hq.out]; rintro e5 w5 ⟨rfl,hb5⟩; have HB5:Below w1.heap.size w1 w5:=HB3.trans (hb5.mono HB3.size))))
    all_goals
     have S5:=Lib.hid (S1.out.below HB5)
     have T5:Hid (SrT m b3 w w5 v v):=T1.out.trans (SrT.of_below HB5)
     have R5:=Lib.hid (hM.le _ _ _ _ (SrT.of_below HB5).le R1.out)
     have hmv:=hC.mv s Hr.out w5 b (hM.le _ _ _ _ (Le.hidF _ _ _ _) R5.out)
     have Hg:Hid (goalM M o s=false):=Hgg.out
     clear hlk k1 S1 R1 HDn HOu HK2 HB1 hb1 T1 Hq k2 HB5 hb5 Hgg HI3 HB3 HB2
  all_goals
   go_wp2_with fail
   refine hmv.mono ?_
   rintro e6 w6 ⟨Am,cm,rfl,hrowm,hb6⟩
   have S6:=Lib.hid (S5.out.below hb6)
   have T6:Hid (SrT m b3 w w6 v v):=T5.out.trans (SrT.of_below hb6)
   have R6:=Lib.hid (hM.le _ _ _ _ (SrT.of_below hb6).le R5.out)
   have Hms:Hid (Ints (hidF m b3 v w6) Am cm (M.mv s)):=by
    obtain⟨A',c',e,hi⟩:=hrowm.ints
    injection e with e1 e2 e3
    subst e1 e3
    refine Ints.le hi (Le.above_hidP fun i hi=>?_)
    have h:=S5.out.lt
    rcases hi with hi | hi | hi
    ·omega
    ·omega
    ·exact (S5.out.own_lt hi).2
   have Hml:=Lib.hid (hM.len s Hr.out)
   clear hmv hrowm S5 R5 T5 hb6
   go_wp2_with fail
   go_loopg [26] (M.mv s).length (fun gi s26 wr=>∃ (i:Nat) (F':List σ) (v':Value),i≤(M.mv s).length∧gi=(M.mv s).length-i∧s26=.int .i64 i∧Hid (SrF M B wr m b1 b2 b3 b4 A c o F' v' ms)∧Hid (SrT m b3 w6 wr v v')∧Hid (FOk M (goalM M o) F')∧Hid (∀ x∈F',x∈F∨pot x<pot s)∧Hid (∀ j (h:j<(M.succ s).length),j<i→¬ Good M.succ (goalM M o) (M.succ s)[j]))
   case atStart=>exact⟨0,F,v,Nat.zero_le _,rfl,rfl,S6.out,.refl _ _ _ _,HF.out,fun x hx=>.inl hx,fun j h hj=>absurd hj (Nat.not_lt_zero _)⟩
   case round=>
    obtain⟨i,F',v',hi,rfl,rfl,hS,hT,hF',hFp,hbad⟩:=hrel
    have Si:=Lib.hid (hS.out)
    have hmlen:=Hms.out.len
    have hlt4:=hS.out.lt
    by_cases hlt:i<(M.mv s).length
    ·have Hls:Hid (i<(M.succ s).length):=by show _<_; rw [← Hml.out]; exact hlt
     obtain⟨bm,om,rfl,hbm,hcm⟩:=(Hms.out.le hT.out.le).get hlt
     have hcm:=Le.hidF _ _ _ _ _ _ hcm
     have hRi:=Lib.hid (hM.le _ _ _ _ hT.out.le R6.out)
     obtain⟨t,ht⟩:∃ t,t=(M.succ s)[i]'Hls.out:=⟨_,rfl⟩
     have Ht:=Lib.hid ht
     have Hrt:Hid (Reach M.succ M.s0 t):=.next Hr.out (by rw [ht]; exact List.getElem_mem Hls.out)
     have Hpt:Hid (pot t<pot s):=hE.dec s t Hr.out (by rw [ht]; exact List.getElem_mem Hls.out)
     have Hmi:Hid (∀ l,FstP M.succ M.mv (goalM M o) t l→FstP M.succ M.mv (goalM M o) s ((M.mv s)[i]::l)):=fun l h=>.step Hg.out Hls.out hlt hbad.out (by rw [← ht]; exact h)
     have Haf:Hid (∀ W a,Le a W→M.R a b s→Calls Try.prog 107 #[.pointer (some ⟨b,0,none⟩),.int .i64 (M.mv s)[i]] W fun e W'=>∃ b',e=.returned (.iface 95 (.pointer (some ⟨b',0,none⟩)))∧(∀ a',Le a a'→Le (above W.heap.size W') a'→M.R a' b' t)∧Below W.heap.size W W'):=fun W a hl h=>by
      rw [ht]
      exact hC.after s Hr.out i Hls.out hlt W b a hl h
     have Hnx:Hid (¬ Good M.succ (goalM M o) t→∀ j (h:j<(M.succ s).length),j<i+1→¬ Good M.succ (goalM M o) (M.succ s)[j]):=fun hn j hj hji=>by
      rcases Nat.lt_succ_iff_lt_or_eq.1 hji with h' | h'
      ·exact hbad.out j hj h'
      ·subst h'; rw [← ht]; exact hn
     generalize (M.mv s)[i]=mi at hcm Hmi Haf
     obtain⟨cs,hown,hqq⟩:=hS.out.row
     have hmll:ms.length≤2000:=by omega
     have Hown:=Lib.hid hown
     have Hqq:=Lib.hid hqq
     have k3:=hS.out.c3.cell (i:=0) rfl
     have kf:=hS.out.c3.frozen 0
     have Hn3:Hid (¬ v'.ownBlock=some b3):=fun e=>(hS.out.rap _ e).2.2.2.1 rfl
     have hl3:=hlt4.2.2.2.1
     have hK3:Hid (∀ w9,(wr.alloc (.cells #[.int .i64 mi] 3)).grownBy w9 v'.ownBlock→w9.heap[b3]?=wr.heap[b3]?):=fun w9 hg=>(World.grownBy.block hg b3 (by simp; omega) (fun e=>Hn3.out e.symm)).trans (Go.Deep.blk_alloc_lt _ _ _ hl3)
     have HO3:=Lib.hid hS.out.c3
     have hlow:=hS.out.low
     clear ht hown hqq hbm hbad
     go_wp2_with (at_builtin; refine wpList_append_lies _ (by rfl) _ _ _ (by rfl) B 3 i0 _ 1 8 Try.underlying23 hi0 hz0 hz1 hz2 rfl (by omega) v' ms.length cs (by rfl) (owns_alloc Hown.out _) ⟨wr.heap.size,0,none⟩ 1 1 [.int .i64 mi] (by rfl) (by rfl) (World.news_of_block (cs:=#[.int .i64 mi]) (t:=3) (fr:=(0,0)) (heap_alloc_new wr _)) (by simp [Value.oneCell']) (by omega) (by simp [maxLen]; omega) (by omega) (by simp; omega) (wr.heap.size+1) (by simp) ?_; intro gg cap w9 hown9 hgrow9 hat9 hlt9; have o9:Own w9 b3 23 #[v']:=HO3.out.of_block (hK3.out w9 hgrow9); have k9:=o9.cell (i:=0) rfl; have f9:=o9.frozen 0; have l9:=o9.lt; clear k3 kf)
     obtain⟨v9,hv9⟩:∃ v9,v9=Value.slice (some ⟨gg,0,none⟩) (ms.length+1) cap:=⟨_,rfl⟩
     rw [← hv9]
     have hown9':∀ g,v9.ownBlock=some g→v'.ownBlock=some g∨wr.heap.size≤g:=fun g hg=>by
      rw [hv9] at hg
      simp only [Value.ownBlock,Option.some.injEq] at hg
      rcases hat9 with h | h
      ·left; rw [h,hg]
      ·right; omega
     have hput:=Si.out.put (grown_alloc hgrow9) (v':=v9) (ms':=ms++[mi]) (by rw [hv9]; exact RowOf.snoc (news:=[.int .i64 mi]) (x:=mi) qint_congr Hown.out Hqq.out rfl rfl hown9) hown9'
     have S10:=Lib.hid hput.1
     have T10:=Lib.hid hput.2
     have R10:=Lib.hid (hM.le _ _ _ _ T10.out.le hRi.out)
     obtain⟨V10,hV10⟩:∃ V10,V10=w9.setCell ⟨b3,0,none⟩ v9:=⟨_,rfl⟩
     rw [← hV10] at S10 T10 R10 ⊢
     clear hv9 hown9' hput hV10 hown9 hgrow9 hat9 hlt9 o9 k9 f9 l9 Hown Hqq Hn3 hK3 HO3 hRi hcm
     refine wp_region_rel [0,1,2,3] [4] (TFr M m b1 b2 b3 b4 b v9 mi t) (fun _=>0) [34,35,36,37] (by kernel_rfl) (by kernel_rfl) rfl (by simp) (tfr_nx hM) tfr_blk ?_ ?_
     ·refine⟨?_,?_,?_,?_,trivial⟩
      all_goals (intro xs w hw hdep hsep; have hbw:=nx_below hw; simp only [shpA,fillL,List.contains_cons,List.contains_nil,Nat.reduceAdd,Nat.reduceBEq,Bool.or_false,Bool.or_true,Bool.false_eq_true,↓reduceIte])
      ·have k4:=(S10.out.below hbw).c4
       have hl4:=(S10.out.below hbw).lt.2.2.2.2
       go_wp2_with fail
       exact RelPost.mk (Nx.refl _) _ rfl rfl rfl
      ·go_wp2_with fail
       exact RelPost.mk (Nx.refl _) _ rfl rfl rfl
      ·go_wp2_with fail
       exact RelPost.mk (Nx.refl _) _ rfl rfl rfl
      ·have e35:xs 35=.iface 95 (.pointer (some ⟨b,0,none⟩)):=hdep 35 (List.mem_of_elem_eq_true (by kernel_rfl))
       have e36:xs 36=.int .i64 mi:=hdep 36 (List.mem_of_elem_eq_true (by kernel_rfl))
       rw [e35,e36]
       have haf:=Haf.out w (hidF m b3 v9 w) (Le.hidF _ _ _ _) (hM.le _ _ _ _ (SrT.of_below hbw).le R10.out)
       have hSw:=S10.out.below hbw
       go_wp2_with fail
       refine haf.mono ?_
       rintro e W' ⟨b',rfl,hR',hb'⟩
       have hRW:=hR' (hidF m b3 v9 W') (SrT.of_below hb').le (Le.above_hidP fun i hi=>by
        have h:=hSw.lt
        rcases hi with hi | hi | hi
        ·omega
        ·omega
        ·exact (hSw.own_lt hi).2)
       go_wp2_with fail
       exact RelPost.mk hb' _ rfl ⟨b',rfl,hRW⟩ rfl
     intro xs w11 hw hTT hsep
     have hbw:=nx_below hw
     have e34:xs 34=frmV b1 b2 b3 b4:=hTT 34 (List.mem_of_elem_eq_true (by kernel_rfl))
     obtain⟨b',e37,hR'⟩:∃ b',xs 37=.iface 95 (.pointer (some ⟨b',0,none⟩))∧M.R (hidF m b3 v9 w11) b' t:=hTT 37 (List.mem_of_elem_eq_true (by kernel_rfl))
     show wpList _ _ _ [_] _ _
     simp only [shpA,fillL,List.contains_cons,List.contains_nil,Nat.reduceAdd,Nat.reduceBEq,Bool.or_false,Bool.or_true,Bool.false_eq_true,↓reduceIte]
     rw [e34,e37]
     have S11:=Lib.hid (S10.out.below hbw)
     have T11:Hid (SrT m b3 w6 w11 v v9):=(hT.out.trans T10.out).trans (SrT.of_below hbw)
     have hrec:=HIH.out t Hrt.out Hpt.out w11 b' F' v9 (ms++[mi]) hR' S11.out hF'.out (by have:=Hpt.out; simp; omega)
     unfold frmV
     generalize xs 35=u35x
     generalize xs 36=u36x
     clear e34 e37 hTT hsep hw hbw hR' S10 T10 R10 hlt4
     go_wp2_with fail
     refine hrec.mono ?_
     rintro e12 w12 ⟨F3,v3,ms3,S12,T12,hF3,hFp3,hres⟩
     have HS12:=Lib.hid S12
     have TT12:Hid (SrT m b3 w6 w12 v v3):=T11.out.trans T12
     have HF3:=Lib.hid hF3
     have HFp3:Hid (∀ x∈F3,x∈F∨pot x<pot s):=fun x hx=>by
      rcases hFp3 x hx with h | h
      ·exact hFp.out x h
      ·right; have:=Hpt.out; omega
     clear hrec S12 T12 hF3 hFp3 S11 T11 Si hS hT hF' hFp hcm Haf
     rcases hres with ⟨rfl,l,hl,rfl⟩ | ⟨rfl,hb,rfl⟩
     ·have Hl:=Lib.hid hl
      clear hl
      go_wp2_with fail
      go_ret
      exact⟨F3,v3,_,HS12.out,T6.out.trans TT12.out,HF3.out,fun x hx=>(HFp3.out x hx).imp id (fun h=>by omega),.inl ⟨rfl,mi::l,Hmi.out l Hl.out,by simp⟩⟩
     ·have Hb:=Lib.hid (Hnx.out hb)
      obtain⟨g,c',cs',hv3,hBg,hgl,hlc,hc9,_,_,hpop⟩:=RowOf.pop qint_congr (by omega) HS12.out.row
      subst hv3
      have k3:=HS12.out.c3.cell (i:=0) rfl
      have kf:=HS12.out.c3.frozen 0
      have l3:=HS12.out.c3.lt
      have hsub:((ms.length+1:Nat):Int)-1=(ms.length:Int):=by omega
      have hput:=HS12.out.put (grown_refl _ _) hpop (fun g' hg=>.inl hg)
      have S13:=Lib.hid hput.1
      have T13:=Lib.hid hput.2
      have hlcI:(ms.length:Int)≤(c':Int):=by omega
      clear hput hpop hb
      go_wp2_with fail
      go_roundg ((M.mv s).length-(i+1))
      case measure=>omega
      case rel=>exact⟨i+1,F3,_,by omega,rfl,by go_num,S13.out,TT12.out.trans T13.out,HF3.out,HFp3.out,Hb.out⟩
    ·have hil:i=(M.mv s).length:=by omega
     have Hng:Hid (¬ Good M.succ (goalM M o) s):=not_good Hg.out fun j hj=>hbad.out j hj (by rw [hil,Hml.out]; exact hj)
     have Hns:Hid (s∉F'):=fun h=>by
      rcases hFp.out s h with h | h
      ·exact Hnin.out h
      ·omega
     have hfew:=hM.few F' hF'.out.nd hF'.out.re
     have hnk:M.key s∉F'.map M.key:=fun h=>by
      obtain⟨u,hu,e⟩:=List.mem_map.1 h
      exact Hns.out (by rw [← hM.inj u s (hF'.out.re u hu) Hr.out e]; exact hu)
     obtain⟨w14,hrun14,hset14,hg14⟩:=hS.out.map.put (k:=M.key s) (by simp [maxLen]; omega) (by simp [maxLen]; omega) hnk
     have hmk:=hS.out.mark hg14 hset14
     have S14:=Lib.hid hmk.1
     have T14:=Lib.hid hmk.2
     have k1:=hS.out.c1
     have HF4:Hid (FOk M (goalM M o) (F'++[s])):=hF'.out.push Hns.out Hr.out Hng.out
     clear hnk hset14 hg14 hmk hbad
     subst hil
     go_wp2_with fail
     go_ret
     exact⟨F'++[s],v',ms,S14.out,T6.out.trans (hT.out.trans T14.out),HF4.out,fun x hx=>by
      rcases List.mem_append.1 hx with hx | hx
      ·exact (hFp.out x hx).imp id (fun h=>by omega)
      ·rw [List.mem_singleton.1 hx]; exact .inr (Nat.le_refl _),.inr ⟨rfl,Hng.out,rfl⟩⟩
theorem from_all {σ:Type} (M:Mach σ) (hM:MachP M) (hC:MachCV M) (pot:σ→Nat) (hE:MachE M pot) (B m b1 b2 b3 b4:Nat) (A:Option Addr) (c:Nat) (o:List Int):∀ (n:Nat) (s:σ),pot s≤n→Reach M.succ M.s0 s→FromP M pot B m b1 b2 b3 b4 A c o s
 | 0,s,h,hr=>from_step M hM hC pot hE B m b1 b2 b3 b4 A c o s hr fun t _ ht=>by omega
 | n+1,s,h,hr=>from_step M hM hC pot hE B m b1 b2 b3 b4 A c o s hr fun t hrt ht=>from_all M hM hC pot hE B m b1 b2 b3 b4 A c o n t (by omega) hrt
def FRel {σ:Type} (M:Mach σ) (o:List Int) (r:Option (List Int)):Prop:=(∃ l,r=some l∧FstP M.succ M.mv (goalM M o) M.s0 l)∨(r=none∧¬ Good M.succ (goalM M o) M.s0)
def RetFnO {σ:Type} (M:Mach σ) (o:List Int) (W:World) (e:Ending) (W':World):Prop:=
 ∃ A c r F,e=.returned (.tuple #[.slice A (r.getD []).length c,.bool r.isSome])∧OwI1 W' (.slice A (r.getD []).length c) (r.getD []) F∧F.Nodup∧(∀ b∈F,W.heap.size≤b)∧Below W.heap.size W W'∧FRel M o r
theorem rowI_own {w:World} {B:Nat} {v:Value} {xs:List Int} (h:RowI w B v xs):∃ F,OwI1 w v xs F∧F.Nodup∧∀ b∈F,B≤b:=by
 obtain⟨cs,⟨hl,h1⟩,h2⟩:=h
 rcases h1 with ⟨rfl,h0⟩ | ⟨g,cap,cur,rfl,hb,hg⟩
 ·obtain rfl:xs=[]:=List.eq_nil_of_length_eq_zero h0
  exact⟨[],OwRow.nil,.nil,fun b hb=>by cases hb⟩
 ·have h:RowI w B (.slice (some ⟨g,0,none⟩) xs.length cap) xs:=⟨cs,⟨hl,.inr ⟨g,cap,cur,rfl,hb,hg⟩⟩,h2⟩
  exact⟨[g],(rowI_one h).1,by simp,fun b hm=>by rw [List.mem_singleton.1 hm]; exact hb⟩
set_option maxHeartbeats 2000000 in
theorem search_own {σ:Type} (M:Mach σ) (hM:MachP M) (hC:MachCV M) (pot:σ→Nat) (hE:MachE M pot) (o:List Int) (W:World) (b0:Nat) (h0:M.R W b0 M.s0) (A:Option Addr) (c:Nat) (hI:Ints W A c o):
  Calls Try.prog 27 #[.iface 95 (.pointer (some ⟨b0,0,none⟩)),.slice A o.length c] W (RetFnO M o W):=by
 have H0:=Lib.hid h0
 have HI:=Lib.hid hI
 have hmm:=@run_makeMap Try.prog
 clear h0 hI
 go_enter Try.func27,Try.ntmps27
 go_upto_region 4 with (fail)
 obtain⟨S,hS⟩:∃ S,S=W.heap.size:=⟨_,rfl⟩
 obtain⟨V5,hV5⟩:∃ V5,V5=((((((W.alloc (.cells #[.slice A o.length c] 23)).alloc (.map #[] 0)).alloc (.cells #[.map (some (W.heap.size+1))] 90)).alloc (.cells #[] 3)).alloc (.cells #[.slice (some ⟨W.heap.size+1+1+1,0,none⟩) 0 0] 23)).alloc (.cells #[.nilFunc] 91)):=⟨_,rfl⟩
 have o2:Own V5 S 23 #[.slice A o.length c]:=by rw [hV5,hS]; exact (((((Own.new _ _ _).alloc _).alloc _).alloc _).alloc _).alloc _
 have o1:Own V5 (S+1+1) 90 #[.map (some (S+1))]:=by
  rw [hV5,hS]
  refine Own.alloc (Own.alloc (Own.alloc ?_ _) _) _
  simpa using Own.new ((W.alloc (.cells #[.slice A o.length c] 23)).alloc (.map #[] 0)) 90 #[.map (some (W.heap.size+1))]
 have oR:Own V5 (S+1+1+1) 3 #[]:=by
  rw [hV5,hS]
  refine Own.alloc (Own.alloc ?_ _) _
  simpa using Own.new (((W.alloc (.cells #[.slice A o.length c] 23)).alloc (.map #[] 0)).alloc (.cells #[.map (some (W.heap.size+1))] 90)) 3 #[]
 have o3:Own V5 (S+1+1+1+1) 23 #[.slice (some ⟨S+1+1+1,0,none⟩) 0 0]:=by
  rw [hV5,hS]
  refine Own.alloc ?_ _
  simpa using Own.new ((((W.alloc (.cells #[.slice A o.length c] 23)).alloc (.map #[] 0)).alloc (.cells #[.map (some (W.heap.size+1))] 90)).alloc (.cells #[] 3)) 23 #[.slice (some ⟨W.heap.size+1+1+1,0,none⟩) 0 0]
 have o4:Own V5 (S+1+1+1+1+1) 91 #[.nilFunc]:=by
  rw [hV5,hS]
  simpa using Own.new (((((W.alloc (.cells #[.slice A o.length c] 23)).alloc (.map #[] 0)).alloc (.cells #[.map (some (W.heap.size+1))] 90)).alloc (.cells #[] 3)).alloc (.cells #[.slice (some ⟨W.heap.size+1+1+1,0,none⟩) 0 0] 23)) 91 #[.nilFunc]
 have hset:SetM V5 (S+1) 0 []:=by
  rw [hV5,hS]
  refine SetM.alloc (SetM.alloc (SetM.alloc (SetM.alloc ?_ _) _) _) _
  simpa using SetM.made (W.alloc (.cells #[.slice A o.length c] 23))
 have hB5:Below W.heap.size W V5:=by
  rw [hV5]
  exact ((((((Below.refl _ _).alloc (Nat.le_refl _) _).alloc (by simp) _).alloc (by simp; omega) _).alloc (by simp; omega) _).alloc (by simp; omega) _).alloc (by simp; omega) _
 rw [← hV5,← hS]
 have k4:V5.cell? ⟨S+1+1+1+1+1,0,none⟩=some .nilFunc:=o4.cell (i:=0) rfl
 have f4:=o4.frozen 0
 have l4:=o4.lt
 have HS:=Lib.hid hS
 obtain⟨V6,hV6⟩:∃ V6,V6=V5.setCell ⟨S+1+1+1+1+1,0,none⟩ (frmV (S+1+1) S (S+1+1+1+1) (S+1+1+1+1+1)):=⟨_,rfl⟩
 have hkeep:∀ i,i≠S+1+1+1+1+1→V6.heap[i]?=V5.heap[i]?:=fun i hi=>by rw [hV6]; exact Go.Deep.blk_setCell_other _ _ _ _ hi
 have hB6:Below W.heap.size W V6:=by rw [hV6]; exact hB5.setCell (by show W.heap.size≤S+1+1+1+1+1; omega) _
 have hLe:Le W (hidF (S+1) (S+1+1+1+1) (.slice (some ⟨S+1+1+1,0,none⟩) 0 0) V6):=Le.to_hidP hB6 fun i hi=>by
  rcases hi with hi | hi | hi
  ·omega
  ·omega
  ·simp only [Value.ownBlock,Option.some.injEq] at hi; omega
 have o46:Own V6 (S+1+1+1+1+1) 91 #[frmV (S+1+1) S (S+1+1+1+1) (S+1+1+1+1+1)]:=by rw [hV6]; exact o4.set 0 _
 have hs6:V6.grownBy V6 none:=grown_refl _ _
 have hset6:SetM V6 (S+1) 0 []:=hset.kept (row:=some (S+1+1+1+1+1)) ⟨by rw [hV6]; rfl,by rw [hV6]; rfl,by rw [hV6]; rfl,by rw [hV6]; simp [World.setCell],fun i _ hne=>hkeep i (fun e=>hne (by rw [e]))⟩ (fun e=>by injection e with e; omega)
 have hSr:Hid (SrF M S V6 (S+1) (S+1+1) S (S+1+1+1+1) (S+1+1+1+1+1) A c o ([]:List σ) (.slice (some ⟨S+1+1+1,0,none⟩) 0 0) []):=by
  refine⟨(o1.of_block (hkeep _ (by omega))).cell (i:=0) rfl,(o2.of_block (hkeep _ (by omega))).cell (i:=0) rfl,o3.of_block (hkeep _ (by omega)),o46.cell (i:=0) rfl,hset6,RowOf.made _ (oR.of_block (hkeep _ (by omega))) (by omega),fun g hg=>?_,⟨by omega,by omega,by omega,by omega,by omega,by omega,by omega⟩,⟨by omega,by omega⟩,HI.out.le hLe⟩
  simp only [Value.ownBlock,Option.some.injEq] at hg
  exact⟨by omega,by omega,by omega,by omega,by omega⟩
 have hlow:=hE.low M.s0 .start
 have hfr:=from_all M hM hC pot hE S (S+1) (S+1+1) S (S+1+1+1+1) (S+1+1+1+1+1) A c o (pot M.s0) M.s0 (Nat.le_refl _) .start V6 b0 [] (.slice (some ⟨S+1+1+1,0,none⟩) 0 0) [] (hM.le _ _ _ _ hLe H0.out) hSr.out ⟨by simp,fun x hx=>(by cases hx),fun x hx=>(by cases hx)⟩ (by simp; omega)
 have k46:V6.cell? ⟨S+1+1+1+1+1,0,none⟩=some (frmV (S+1+1) S (S+1+1+1+1) (S+1+1+1+1+1)):=o46.cell (i:=0) rfl
 have l46:=o46.lt
 unfold frmV at hV6 k46
 have HB6:=Lib.hid hB6
 clear o1 o2 oR o3 o4 hset hB5 hS hV5 hkeep hB6 hLe o46 hs6 hset6 hmm
 have hst:=fun (w:World) (m:Mode)=>run_store Try.prog w ⟨S+1+1+1+1+1,0,none⟩ (.func (.func 54) #[] #[.pointer (some ⟨S+1+1,0,none⟩),.pointer (some ⟨S,0,none⟩),.pointer (some ⟨S+1+1+1+1,0,none⟩),.pointer (some ⟨S+1+1+1+1+1,0,none⟩)]) m rfl
 go_upto_region 5 with (fail)
 rw [← hV6]
 clear hV6 k4 f4 l4 hst
 go_wp2_with fail
 refine hfr.mono ?_
 rintro e7 w7 ⟨F',v',ms',S7,T7,_,_,hres⟩
 have HS7:=Lib.hid S7
 have HT7:=Lib.hid T7
 have k3:=S7.c3.cell (i:=0) rfl
 have l3:=S7.c3.lt
 have HB7:Hid (Below W.heap.size W w7):=HB6.out.trans (T7.mv.below (fun i hi=>by
  have hSW:=HS.out
  rcases hi with hi | hi | hi
  ·omega
  ·omega
  ·simp only [Value.ownBlock,Option.some.injEq] at hi; omega) HB6.out.size)
 clear hfr S7 T7 k46
 rcases hres with ⟨rfl,l,hl,hms⟩ | ⟨rfl,hb,hms⟩
 ·have Hl:=Lib.hid hl
  have Hms:Hid (ms'=l):=by show _=_; simpa using hms
  clear hl hms
  obtain⟨A',c',hv',_,_⟩:=RowOf.slice HS7.out.row
  subst hv'
  go_wp2_with fail
  refine bodyPost_ret (v:=.tuple #[.slice A' ms'.length c',.bool true]) (by simp [results,Try.results27,go_sem]) rfl ?_
  obtain⟨F4,i1,i2,i3⟩:=rowI_own HS7.out.row
  have hSW:=HS.out
  rw [Hms.out] at i1
  exact⟨A',c',some l,F4,by rw [Hms.out]; rfl,i1,i2,by rw [← hSW]; exact i3,HB7.out,.inl ⟨l,rfl,Hl.out⟩⟩
 ·have Hb:=Lib.hid hb
  clear hb hms
  go_wp2_with fail
  refine bodyPost_ret (v:=.tuple #[.slice none 0 0,.bool false]) (by simp [results,Try.results27,go_sem]) rfl ?_
  exact⟨none,0,none,[],rfl,OwRow.nil,.nil,fun b hb=>(by cases hb),HB7.out,.inr ⟨rfl,Hb.out⟩⟩
end Go.Proofs.Ytojmofnamppbdaa
