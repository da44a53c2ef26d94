/-
  A set of texts, kept in a map[string]bool of the call's own. No function in sight. Machines: what a search through their states keeps in memory. No function in sight.
-/
import Derived.Test.YtojmofnamppbdaaRwS
import Derived.Test.YtojmofnamppbdaaPrg
import Derived.Test.YtojmofnamppbdaaPlM
import Derived.Test.YtojmofnamppbdaaSlA
import Derived.Maps.OwnSet
namespace Go.Proofs.Ytojmofnamppbdaa
open Go.RowKit
set_option linter.unusedVariables false
set_option maxRecDepth 100000
noncomputable def inB (ks:List ByteArray) (k:ByteArray):Bool:=@decide (k∈ks) (Classical.propDecidable _)
theorem inB_true {ks:List ByteArray} {k:ByteArray} (h:k∈ks):inB ks k=true:=by
 unfold inB
 exact @decide_eq_true _ (Classical.propDecidable _) h
theorem inB_false {ks:List ByteArray} {k:ByteArray} (h:k∉ks):inB ks k=false:=by
 unfold inB
 exact @decide_eq_false _ (Classical.propDecidable _) h
theorem inB_iff {ks:List ByteArray} {k:ByteArray}:inB ks k=true↔k∈ks:=by
 by_cases h:k∈ks
 ·simp [inB_true h,h]
 ·simp [inB_false h,h]
theorem inB_snoc {ks:List ByteArray} {k j:ByteArray} (h:j≠k):inB (ks++[k]) j=inB ks j:=by
 by_cases hj:j∈ks
 ·rw [inB_true hj,inB_true (List.mem_append_left _ hj)]
 ·rw [inB_false hj,inB_false (by simp [hj,h])]
theorem litS_inj {s t:ByteArray} (h:Lit.string s.data.toList=Lit.string t.data.toList):s=t:=by
 injection h with h
 cases s
 cases t
 simp only [Array.toList_inj] at h
 rw [h]
def SetM (w:World) (b n:Nat) (ks:List ByteArray):Prop:=
 ∃ D:DataW Unit,w.ownsMap Try.prog 9 (plainElem Try.prog 4) b n D∧Maps.size D=ks.length
  ∧ (∀ k:ByteArray,Maps.has D (.string k.data.toList)=inB ks k)∧∀ k:ByteArray,D.atKey (.string k.data.toList) (.lit (.bool false))=.lit (.bool (inB ks k))
theorem SetM.made (w:World):SetM (w.alloc (.map #[] 0)) w.heap.size 0 []:=
 ⟨.map [],World.ownsMap_made _ _ _ _,rfl,fun k=>by rw [inB_false (by simp)]; rfl,fun k=>by rw [inB_false (by simp)]; rfl⟩
section
variable {w w':World} {b n:Nat} {ks:List ByteArray} {k:ByteArray}
theorem SetM.lt (h:SetM w b n ks):b<w.heap.size:=by
 obtain⟨D,h,_⟩:=h
 exact h.lt
theorem SetM.kept {row:Option Nat} (h:SetM w b n ks) (hg:w.grownBy w' row) (hne:some b≠row):SetM w' b n ks:=by
 obtain⟨D,h,r⟩:=h
 exact⟨D,h.kept hg hne,r⟩
theorem SetM.below (h:SetM w b n ks) (hb:Below w.heap.size w w'):SetM w' b n ks:=h.kept (row:=none) ⟨hb.os,hb.tape,hb.output,hb.size,fun i hi _=>hb.block i hi⟩ (by simp)
theorem SetM.alloc (h:SetM w b n ks) (o:Obj):SetM (w.alloc o) b n ks:=by
 obtain⟨D,h,r⟩:=h
 exact⟨D,h.alloc o,r⟩
theorem SetM.look (h:SetM w b n ks) (hk:k.size≤maxLen):(Instr.lookup 90 (.map (some b)) (.string k) false).run Try.prog w=.ok (.bool (inB ks k)) w:=by
 obtain⟨D,h,_,_,ha⟩:=h
 obtain⟨v,ps,hrun,hv⟩:=h.lookup (Go.Maps.string_keyed Try.underlying9) Try.underlying90 (z:=.bool false) (by kernel_rfl) (plainElem_bool Try.underlying4 false) (Go.WideMaps.keyOf_string_mk Try.underlying9 hk)
 rw [ha k] at hv
 obtain⟨e,rfl,he⟩:∃ x,v=.bool x∧x=inB ks k:=by
  unfold plainElem at hv
  rw [Try.underlying4] at hv
  cases v <;> simp at hv
  exact⟨_,rfl,hv.1⟩
 rw [hrun,he]
theorem SetM.len (h:SetM w b n ks) (ty:TypeId):(Builtin.len_ #[90] ty #[.map (some b)]).run Try.prog w=.ok (.int .i64 (ks.length:Int)) w:=by
 obtain⟨D,h,hs,_⟩:=h
 rw [h.len Try.underlying90,hs]
theorem SetM.put (h:SetM w b n ks) (hn:n<maxLen) (hk:k.size≤maxLen) (hnew:k∉ks):
  ∃ w',(Instr.mapUpdate 90 (.map (some b)) (.string k) (.bool true)).run Try.prog w=.ok () w'∧SetM w' b (n+1) (ks++[k])∧w.grownBy w' (some b):=by
 obtain⟨D,h,hs,hh,ha⟩:=h
 obtain⟨w',hrun,ho,hg⟩:=h.update (Go.Maps.string_keyed Try.underlying9) Try.underlying90 hn (val:=.bool true) (Go.WideMaps.keyOf_string_mk Try.underlying9 hk) (plainElem_bool Try.underlying4 true)
 refine⟨w',hrun,⟨_,ho,?_,fun j=>?_,fun j=>?_⟩,hg⟩
 ·rw [Maps.size_put (h.tidy (Go.Maps.string_keyed Try.underlying9)),hh k,inB_false hnew,hs]
  simp
 ·by_cases e:j=k
  ·subst e
   rw [Maps.has_put_same h.isMap (by simp [WideAt.IsKeyLit]),inB_true (by simp)]
  ·rw [Maps.has_put_other (fun e'=>e (litS_inj e')),hh j,inB_snoc e]
 ·by_cases e:j=k
  ·subst e
   rw [Maps.atKey_put_same h.isMap (by simp [WideAt.IsKeyLit]),inB_true (by simp)]
  ·rw [Maps.atKey_put_other (fun e'=>e (litS_inj e')),ha j,inB_snoc e]
end
end Go.Proofs.Ytojmofnamppbdaa
namespace Go.Proofs.Ytojmofnamppbdaa
open Go.RowKit
set_option linter.unusedVariables false
set_option maxRecDepth 100000
theorem RowOf.pop {α:Type} {k:Nat} {Q:(Nat→Value)→α→Prop} (hQ:∀ (f g:Nat→Value) x,(∀ j,j<k→f j=g j)→Q f x→Q g x) (hk:0<k) {w:World} {base:Nat} {e:TypeId} {v:Value} {xs:List α} {x:α} (h:RowOf k Q w base e v (xs++[x])):
  ∃ g c cs,v=.slice (some ⟨g,0,none⟩) (xs.length+1) c∧base≤g∧g<w.heap.size∧xs.length<c∧c≤9223372036854775807∧(∀ j,j<k→w.cell? ⟨g,xs.length*k+j,none⟩=some (cs j))∧Q cs x∧RowOf k Q w base e (.slice (some ⟨g,0,none⟩) xs.length c) xs:=by
 obtain⟨cs,h1,h2⟩:=h
 have hl:(xs++[x]).length=xs.length+1:=by simp
 rw [hl] at h1
 have hlen:=h1.1
 have hq:=h2 xs.length (by simp)
 rw [List.getElem_append_right (Nat.le_refl _)] at hq
 simp only [Nat.sub_self,List.getElem_singleton] at hq
 have hcell:∀ j,j<k→∃ g cap,v=.slice (some ⟨g,0,none⟩) (xs.length+1) cap∧base≤g∧w.cell? ⟨g,xs.length*k+j,none⟩=some (cs.getD (xs.length*k+j) undef):=fun j hj=>owns_cell h1 hk (by omega) hj
 rcases h1.2 with ⟨_,h0⟩ | ⟨g,cap,cur,hv,hb,hg,hn,hm,hc,ht⟩
 ·omega
 ·have hlt:g<w.heap.size:=(Array.getElem?_eq_some_iff.1 hg).elim fun h _=>h
  refine⟨g,cap,fun j=>cs.getD (xs.length*k+j) undef,hv,hb,hlt,by omega,by simpa [maxLen] using hm,fun j hj=>?_,hq,cs.take (xs.length*k),⟨?_,.inr ⟨g,cap,cur,rfl,hb,hg,by omega,hm,hc,?_⟩⟩,fun i hi=>?_⟩
  ·obtain⟨g',cap',hv',_,h3⟩:=hcell j hj
   rw [hv] at hv'
   injection hv' with e1
   injection e1 with e1
   injection e1 with e1
   subst e1
   exact h3
  ·rw [List.length_take,hlen,Nat.add_mul,Nat.one_mul]
   omega
  ·rw [← ht,List.take_take]
   congr 1
   rw [Nat.add_mul,Nat.one_mul]
   omega
  ·have h3:=h2 i (by simp; omega)
   rw [List.getElem_append_left hi] at h3
   refine hQ _ _ _ (fun j hj=>?_) h3
   have h4:(i+1)*k≤xs.length*k:=Nat.mul_le_mul_right k hi
   rw [Nat.add_mul,Nat.one_mul] at h4
   simp only [List.getD_eq_getElem?_getD]
   rw [List.getElem?_take,if_pos (by omega)]
def hidS (m:Nat) (v5 v6:Value) (w:World):World:=keepW (fun b=>b≠m∧¬ v5.ownBlock=some b∧¬ v6.ownBlock=some b) w
theorem Le.hidS (m:Nat) (v5 v6:Value) (w:World):Le (Go.Proofs.Ytojmofnamppbdaa.hidS m v5 v6 w) w:=fun x v hc=>(of_cell_keepW hc).2
theorem Le.hidS_grown {m:Nat} {v5 v6 v5' v6':Value} {a b:World} {row:Option Nat} (h:a.grownBy b row) (hr:row=none∨row=some m∨row=v5.ownBlock∨row=v6.ownBlock) (h5:∀ g,v5'.ownBlock=some g→v5.ownBlock=some g∨a.heap.size≤g) (h6:∀ g,v6'.ownBlock=some g→v6.ownBlock=some g∨a.heap.size≤g):
  Le (Go.Proofs.Ytojmofnamppbdaa.hidS m v5 v6 a) (Go.Proofs.Ytojmofnamppbdaa.hidS m v5' v6' b):=fun x v hc=>by
 obtain⟨⟨h1,h2,h3⟩,h4⟩:=of_cell_keepW hc
 have hl:=World.block_lt_of_cell? _ _ h4
 refine cell_keepW_of ⟨h1,fun e=>?_,fun e=>?_⟩ ?_
 ·rcases h5 _ e with e | e
  ·exact h2 e
  ·omega
 ·rcases h6 _ e with e | e
  ·exact h3 e
  ·omega
 ·rw [World.cell?_of_block (w:=a) (World.grownBy.block h x.block hl (fun e=>by
   rcases hr with hr | hr | hr | hr
   ·rw [hr] at e; cases e
   ·rw [hr] at e; injection e with e; exact h1 e
   ·exact h2 (by rw [← hr,← e])
   ·exact h3 (by rw [← hr,← e])))]
  exact h4
theorem grown_of_below {a b:World} (h:Below a.heap.size a b):a.grownBy b none:=⟨h.os,h.tape,h.output,h.size,fun i hi _=>h.block i hi⟩
theorem Le.hidS_below {m:Nat} {v5 v6:Value} {a b:World} (h:Below a.heap.size a b):Le (Go.Proofs.Ytojmofnamppbdaa.hidS m v5 v6 a) (Go.Proofs.Ytojmofnamppbdaa.hidS m v5 v6 b):=Le.hidS_grown (grown_of_below h) (.inl rfl) (fun _ h=>.inl h) (fun _ h=>.inl h)
theorem RowOf.single1 {α:Type} {Q:(Nat→Value)→α→Prop} {w:World} {g base:Nat} {e:TypeId} {u:Value} {x:α} (h:Own w g e #[u]) (hb:base≤g) (hq:∀ cs:Nat→Value,cs 0=u→Q cs x):RowOf 1 Q w base e (.slice (some ⟨g,0,none⟩) 1 1) [x]:=
 ⟨[u],⟨rfl,.inr ⟨g,1,#[u],rfl,hb,h,Nat.le_refl _,by decide,rfl,rfl⟩⟩,fun i hi=>by
  obtain rfl:i=0:=by simpa using hi
  exact hq _ rfl⟩
structure Mach (σ:Type) where
 succ:σ→List σ
 s0:σ
 key:σ→ByteArray
 done:σ→Bool
 out:σ→List Int
 mv:σ→List Int
 R:World→Nat→σ→Prop
structure MachP {σ:Type} (M:Mach σ):Prop where
 le:∀ a a' b s,Le a a'→M.R a b s→M.R a' b s
 len:∀ s,Reach M.succ M.s0 s→(M.mv s).length=(M.succ s).length
 inj:∀ s t,Reach M.succ M.s0 s→Reach M.succ M.s0 t→M.key s=M.key t→s=t
 klen:∀ s,(M.key s).size≤1000000
 few:∀ V:List σ,V.Nodup→(∀ s∈V,Reach M.succ M.s0 s)→V.length≤5000000000000
 opos:∀ s,Reach M.succ M.s0 s→0<(M.out s).length
structure OE where
 g:Nat
 c:Nat
 x:List Int
def OE.v (o:OE):Value:=.slice (some ⟨o.g,0,none⟩) o.x.length o.c
def QOE (cs:Nat→Value) (o:OE):Prop:=cs 0=o.v
def QSt {σ:Type} (T:TypeId) (cs:Nat→Value) (x:Nat×σ):Prop:=cs 0=.iface T (.pointer (some ⟨x.1,0,none⟩))
structure Srch {σ:Type} (M:Mach σ) (T:TypeId) (B:Nat) (w:World) (v5 v6:Value) (V:List σ) (Kb:List (Nat×σ)) (os:List OE):Prop where
 map:SetM w B V.length (V.map M.key)
 stk:RowOf 1 (QSt T) w (B+1) 55 v6 Kb
 sts:∀ x∈Kb,M.R (hidS B v5 v6 w) x.1 x.2
 outs:RowOf 1 QOE w (B+1) 23 v5 os
 rows:∀ o∈os,RowI w (B+1) o.v o.x∧o.g≠B∧¬ v5.ownBlock=some o.g∧¬ v6.ownBlock=some o.g
 apart:(os.map OE.g).Nodup
 sep:∀ g,v5.ownBlock=some g→¬ v6.ownBlock=some g
 few:os.length+Kb.length≤V.length
 what:∀ y,y∈os.map OE.x↔∃ s∈V,s∉Kb.map Prod.snd∧M.done s=true∧M.out s=y
theorem RowOf.own_lt {α:Type} {k:Nat} {Q:(Nat→Value)→α→Prop} {w:World} {base:Nat} {e:TypeId} {v:Value} {xs:List α} (h:RowOf k Q w base e v xs) {g:Nat} (hg:v.ownBlock=some g):base≤g∧g<w.heap.size:=by
 obtain⟨cs,h1,_⟩:=h
 refine⟨owns_base' h1 hg,?_⟩
 rcases h1.2 with ⟨rfl,_⟩ | ⟨g',cap,cur,rfl,hb,hh,_⟩
 ·cases hg
 ·simp only [Value.ownBlock,Option.some.injEq] at hg
  subst hg
  exact (Array.getElem?_eq_some_iff.1 hh).elim fun h _=>h
theorem RowOf.grown {α:Type} {k:Nat} {Q:(Nat→Value)→α→Prop} {w w':World} {base:Nat} {e:TypeId} {v:Value} {xs:List α} {row:Option Nat} (h:RowOf k Q w base e v xs) (hg:w.grownBy w' row) (hne:∀ g,v.ownBlock=some g→¬ row=some g):RowOf k Q w' base e v xs:=
 h.of_block fun g _ hv hl=>World.grownBy.block hg g hl fun e=>hne g hv e.symm
section
variable {σ:Type} {M:Mach σ} {T:TypeId} {B:Nat} {w w':World} {v5 v6 v5' v6':Value} {V:List σ} {Kb:List (Nat×σ)} {os:List OE}
theorem Srch.below (hM:MachP M) (h:Srch M T B w v5 v6 V Kb os) (hb:Below w.heap.size w w'):Srch M T B w' v5 v6 V Kb os:=
 ⟨h.map.below hb,h.stk.grown (grown_of_below hb) (fun _ _=>by simp),fun x hx=>hM.le _ _ _ _ (Le.hidS_below hb) (h.sts x hx),h.outs.grown (grown_of_below hb) (fun _ _=>by simp),
  fun o ho=>⟨(h.rows o ho).1.grown (grown_of_below hb) (fun _ _=>by simp),(h.rows o ho).2⟩,h.apart,h.sep,h.few,h.what⟩
end
end Go.Proofs.Ytojmofnamppbdaa
