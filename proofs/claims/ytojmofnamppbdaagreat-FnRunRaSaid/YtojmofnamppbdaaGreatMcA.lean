/-
  A set of texts, kept in a map[string]bool of the call's own. No function in sight. Machines: what a search through their states keeps in memory. No function in sight.
-/
import Derived.Test.YtojmofnamppbdaaGreatRwS
import Derived.Test.YtojmofnamppbdaaGreatPrg
import Derived.Test.YtojmofnamppbdaaGreatPlM
import Derived.Test.YtojmofnamppbdaaGreatSlA
import Derived.Maps.OwnSet
namespace Go.Proofs.YtojmofnamppbdaaGreat
open Go.RowKit
set_option linter.unusedVariables false
set_option maxRecDepth 100000
noncomputable def inB (ks:List ByteArray) (k:ByteArray):Bool:=@decide (k∈ks) (Classical.propDecidable _)
theorem inB_true {ks:List ByteArray} {k:ByteArray} (h:k∈ks):inB ks k=true:=by
 unfold inB
 exact @decide_eq_true _ (Classical.propDecidable _) h
theorem inB_false {ks:List ByteArray} {k:ByteArray} (h:k∉ks):inB ks k=false:=by
 unfold inB
 exact @decide_eq_false _ (Classical.propDecidable _) h
theorem inB_iff {ks:List ByteArray} {k:ByteArray}:inB ks k=true↔k∈ks:=by
 by_cases h:k∈ks
 ·simp [inB_true h,h]
 ·simp [inB_false h,h]
theorem inB_snoc {ks:List ByteArray} {k j:ByteArray} (h:j≠k):inB (ks++[k]) j=inB ks j:=by
 by_cases hj:j∈ks
 ·rw [inB_true hj,inB_true (List.mem_append_left _ hj)]
 ·rw [inB_false hj,inB_false (by simp [hj,h])]
theorem litS_inj {s t:ByteArray} (h:Lit.string s.data.toList=Lit.string t.data.toList):s=t:=by
 injection h with h
 cases s
 cases t
 simp only [Array.toList_inj] at h
 rw [h]
def SetM (w:World) (b n:Nat) (ks:List ByteArray):Prop:=
 ∃ D:DataW Unit,w.ownsMap Tryz.prog 9 (plainElem Tryz.prog 4) b n D∧Maps.size D=ks.length
  ∧ (∀ k:ByteArray,Maps.has D (.string k.data.toList)=inB ks k)∧∀ k:ByteArray,D.atKey (.string k.data.toList) (.lit (.bool false))=.lit (.bool (inB ks k))
theorem SetM.made (w:World):SetM (w.alloc (.map #[] 0)) w.heap.size 0 []:=
 ⟨.map [],World.ownsMap_made _ _ _ _,rfl,fun k=>by rw [inB_false (by simp)]; rfl,fun k=>by rw [inB_false (by simp)]; rfl⟩
section
variable {w w':World} {b n:Nat} {ks:List ByteArray} {k:ByteArray}
theorem SetM.lt (h:SetM w b n ks):b<w.heap.size:=by
 obtain⟨D,h,_⟩:=h
 exact h.lt
theorem SetM.kept {row:Option Nat} (h:SetM w b n ks) (hg:w.grownBy w' row) (hne:some b≠row):SetM w' b n ks:=by
 obtain⟨D,h,r⟩:=h
 exact⟨D,h.kept hg hne,r⟩
theorem SetM.below (h:SetM w b n ks) (hb:Below w.heap.size w w'):SetM w' b n ks:=h.kept (row:=none) ⟨hb.os,hb.tape,hb.output,hb.size,fun i hi _=>hb.block i hi⟩ (by simp)
theorem SetM.alloc (h:SetM w b n ks) (o:Obj):SetM (w.alloc o) b n ks:=by
 obtain⟨D,h,r⟩:=h
 exact⟨D,h.alloc o,r⟩
theorem SetM.look (h:SetM w b n ks) (hk:k.size≤maxLen):(Instr.lookup 95 (.map (some b)) (.string k) false).run Tryz.prog w=.ok (.bool (inB ks k)) w:=by
 obtain⟨D,h,_,_,ha⟩:=h
 obtain⟨v,ps,hrun,hv⟩:=h.lookup (Go.Maps.string_keyed Tryz.underlying9) Tryz.underlying95 (z:=.bool false) (by kernel_rfl) (plainElem_bool Tryz.underlying4 false) (Go.WideMaps.keyOf_string_mk Tryz.underlying9 hk)
 rw [ha k] at hv
 obtain⟨e,rfl,he⟩:∃ x,v=.bool x∧x=inB ks k:=by
  unfold plainElem at hv
  rw [Tryz.underlying4] at hv
  cases v <;> simp at hv
  exact⟨_,rfl,hv.1⟩
 rw [hrun,he]
theorem SetM.len (h:SetM w b n ks) (ty:TypeId):(Builtin.len_ #[95] ty #[.map (some b)]).run Tryz.prog w=.ok (.int .i64 (ks.length:Int)) w:=by
 obtain⟨D,h,hs,_⟩:=h
 rw [h.len Tryz.underlying95,hs]
theorem SetM.put (h:SetM w b n ks) (hn:n<maxLen) (hk:k.size≤maxLen) (hnew:k∉ks):
  ∃ w',(Instr.mapUpdate 95 (.map (some b)) (.string k) (.bool true)).run Tryz.prog w=.ok () w'∧SetM w' b (n+1) (ks++[k])∧w.grownBy w' (some b):=by
 obtain⟨D,h,hs,hh,ha⟩:=h
 obtain⟨w',hrun,ho,hg⟩:=h.update (Go.Maps.string_keyed Tryz.underlying9) Tryz.underlying95 hn (val:=.bool true) (Go.WideMaps.keyOf_string_mk Tryz.underlying9 hk) (plainElem_bool Tryz.underlying4 true)
 refine⟨w',hrun,⟨_,ho,?_,fun j=>?_,fun j=>?_⟩,hg⟩
 ·rw [Maps.size_put (h.tidy (Go.Maps.string_keyed Tryz.underlying9)),hh k,inB_false hnew,hs]
  simp
 ·by_cases e:j=k
  ·subst e
   rw [Maps.has_put_same h.isMap (by simp [WideAt.IsKeyLit]),inB_true (by simp)]
  ·rw [Maps.has_put_other (fun e'=>e (litS_inj e')),hh j,inB_snoc e]
 ·by_cases e:j=k
  ·subst e
   rw [Maps.atKey_put_same h.isMap (by simp [WideAt.IsKeyLit]),inB_true (by simp)]
  ·rw [Maps.atKey_put_other (fun e'=>e (litS_inj e')),ha j,inB_snoc e]
end
end Go.Proofs.YtojmofnamppbdaaGreat
namespace Go.Proofs.YtojmofnamppbdaaGreat
open Go.RowKit
set_option linter.unusedVariables false
set_option maxRecDepth 100000
theorem RowOf.pop {α:Type} {k:Nat} {Q:(Nat→Value)→α→Prop} (hQ:∀ (f g:Nat→Value) x,(∀ j,j<k→f j=g j)→Q f x→Q g x) (hk:0<k) {w:World} {base:Nat} {e:TypeId} {v:Value} {xs:List α} {x:α} (h:RowOf k Q w base e v (xs++[x])):
  ∃ g c cs,v=.slice (some ⟨g,0,none⟩) (xs.length+1) c∧base≤g∧g<w.heap.size∧xs.length<c∧c≤9223372036854775807∧(∀ j,j<k→w.cell? ⟨g,xs.length*k+j,none⟩=some (cs j))∧Q cs x∧RowOf k Q w base e (.slice (some ⟨g,0,none⟩) xs.length c) xs:=by
 obtain⟨cs,h1,h2⟩:=h
 have hl:(xs++[x]).length=xs.length+1:=by simp
 rw [hl] at h1
 have hlen:=h1.1
 have hq:=h2 xs.length (by simp)
 rw [List.getElem_append_right (Nat.le_refl _)] at hq
 simp only [Nat.sub_self,List.getElem_singleton] at hq
 have hcell:∀ j,j<k→∃ g cap,v=.slice (some ⟨g,0,none⟩) (xs.length+1) cap∧base≤g∧w.cell? ⟨g,xs.length*k+j,none⟩=some (cs.getD (xs.length*k+j) undef):=fun j hj=>owns_cell h1 hk (by omega) hj
 rcases h1.2 with ⟨_,h0⟩ | ⟨g,cap,cur,hv,hb,hg,hn,hm,hc,ht⟩
 ·omega
 ·have hlt:g<w.heap.size:=(Array.getElem?_eq_some_iff.1 hg).elim fun h _=>h
  refine⟨g,cap,fun j=>cs.getD (xs.length*k+j) undef,hv,hb,hlt,by omega,by simpa [maxLen] using hm,fun j hj=>?_,hq,cs.take (xs.length*k),⟨?_,.inr ⟨g,cap,cur,rfl,hb,hg,by omega,hm,hc,?_⟩⟩,fun i hi=>?_⟩
  ·obtain⟨g',cap',hv',_,h3⟩:=hcell j hj
   rw [hv] at hv'
   injection hv' with e1
   injection e1 with e1
   injection e1 with e1
   subst e1
   exact h3
  ·rw [List.length_take,hlen,Nat.add_mul,Nat.one_mul]
   omega
  ·rw [← ht,List.take_take]
   congr 1
   rw [Nat.add_mul,Nat.one_mul]
   omega
  ·have h3:=h2 i (by simp; omega)
   rw [List.getElem_append_left hi] at h3
   refine hQ _ _ _ (fun j hj=>?_) h3
   have h4:(i+1)*k≤xs.length*k:=Nat.mul_le_mul_right k hi
   rw [Nat.add_mul,Nat.one_mul] at h4
   simp only [List.getD_eq_getElem?_getD]
   rw [List.getElem?_take,if_pos (by omega)]
def hidS (m:Nat) (v5 v6:Value) (w:World):World:=keepW (fun b=>b≠m∧¬ v5.ownBlock=some b∧¬ v6.ownBlock=some b) w
theorem Le.hidS (m:Nat) (v5 v6:Value) (w:World):Le (Go.Proofs.YtojmofnamppbdaaGreat.hidS m v5 v6 w) w:=fun x v hc=>(of_cell_keepW hc).2
theorem Le.hidS_grown {m:Nat} {v5 v6 v5' v6':Value} {a b:World} {row:Option Nat} (h:a.grownBy b row) (hr:row=none∨row=some m∨row=v5.ownBlock∨row=v6.ownBlock) (h5:∀ g,v5'.ownBlock=some g→v5.ownBlock=some g∨a.heap.size≤g) (h6:∀ g,v6'.ownBlock=some g→v6.ownBlock=some g∨a.heap.size≤g):
  Le (Go.Proofs.YtojmofnamppbdaaGreat.hidS m v5 v6 a) (Go.Proofs.YtojmofnamppbdaaGreat.hidS m v5' v6' b):=fun x v hc=>by
 obtain⟨⟨h1,h2,h3⟩,h4⟩:=of_cell_keepW hc
 have hl:=World.block_lt_of_cell? _ _ h4
 refine cell_keepW_of ⟨h1,fun e=>?_,fun e=>?_⟩ ?_
 ·rcases h5 _ e with e | e
  ·exact h2 e
  ·omega
 ·rcases h6 _ e with e | e
  ·exact h3 e
  ·omega
 ·rw [World.cell?_of_block (w:=a) (World.grownBy.block h x.block hl (fun e=>by
   rcases hr with hr | hr | hr | hr
   ·rw [hr] at e; cases e
   ·rw [hr] at e; injection e with e; exact h1 e
   ·exact h2 (by rw [← hr,← e])
   ·exact h3 (by rw [← hr,← e])))]
  exact h4
theorem grown_of_below {a b:World} (h:Below a.heap.size a b):a.grownBy b none:=⟨h.os,h.tape,h.output,h.size,fun i hi _=>h.block i hi⟩
theorem Le.hidS_below {m:Nat} {v5 v6:Value} {a b:World} (h:Below a.heap.size a b):Le (Go.Proofs.YtojmofnamppbdaaGreat.hidS m v5 v6 a) (Go.Proofs.YtojmofnamppbdaaGreat.hidS m v5 v6 b):=Le.hidS_grown (grown_of_below h) (.inl rfl) (fun _ h=>.inl h) (fun _ h=>.inl h)
theorem Le.above_hidS {B m:Nat} {v5 v6:Value} {w:World} (hm:m<B) (h5:∀ g,v5.ownBlock=some g→g<B) (h6:∀ g,v6.ownBlock=some g→g<B):Le (Go.Proofs.YtojmofnamppbdaaGreat.above B w) (Go.Proofs.YtojmofnamppbdaaGreat.hidS m v5 v6 w):=fun x v hc=>by
 obtain⟨h1,h2⟩:=cell_above_lt hc
 exact cell_keepW_of ⟨by omega,fun e=>by have:=h5 _ e; omega,fun e=>by have:=h6 _ e; omega⟩ h2
theorem Le.to_hidS {m:Nat} {v5 v6:Value} {a w:World} (h:Below a.heap.size a w) (hm:a.heap.size≤m) (h5:∀ g,v5.ownBlock=some g→a.heap.size≤g) (h6:∀ g,v6.ownBlock=some g→a.heap.size≤g):Le a (Go.Proofs.YtojmofnamppbdaaGreat.hidS m v5 v6 w):=fun x v hc=>by
 have hl:=World.block_lt_of_cell? _ _ hc
 exact cell_keepW_of ⟨by omega,fun e=>by have:=h5 _ e; omega,fun e=>by have:=h6 _ e; omega⟩ (Le.below h _ _ hc)
theorem RowOf.single1 {α:Type} {Q:(Nat→Value)→α→Prop} {w:World} {g base:Nat} {e:TypeId} {u:Value} {x:α} (h:Own w g e #[u]) (hb:base≤g) (hq:∀ cs:Nat→Value,cs 0=u→Q cs x):RowOf 1 Q w base e (.slice (some ⟨g,0,none⟩) 1 1) [x]:=
 ⟨[u],⟨rfl,.inr ⟨g,1,#[u],rfl,hb,h,Nat.le_refl _,by decide,rfl,rfl⟩⟩,fun i hi=>by
  obtain rfl:i=0:=by simpa using hi
  exact hq _ rfl⟩
structure Mach (σ:Type) where
 succ:σ→List σ
 s0:σ
 key:σ→ByteArray
 done:σ→Bool
 out:σ→List Int
 mv:σ→List Int
 R:World→Nat→σ→Prop
structure MachP {σ:Type} (M:Mach σ):Prop where
 le:∀ a a' b s,Le a a'→M.R a b s→M.R a' b s
 len:∀ s,Reach M.succ M.s0 s→(M.mv s).length=(M.succ s).length
 inj:∀ s t,Reach M.succ M.s0 s→Reach M.succ M.s0 t→M.key s=M.key t→s=t
 klen:∀ s,(M.key s).size≤1000000
 few:∀ V:List σ,V.Nodup→(∀ s∈V,Reach M.succ M.s0 s)→V.length≤5000000000000
 opos:∀ s,Reach M.succ M.s0 s→0<(M.out s).length
structure OE where
 g:Nat
 c:Nat
 x:List Int
def OE.v (o:OE):Value:=.slice (some ⟨o.g,0,none⟩) o.x.length o.c
def QOE (cs:Nat→Value) (o:OE):Prop:=cs 0=o.v
theorem qoe_congr:∀ (f g:Nat→Value) (x:OE),(∀ j,j<1→f j=g j)→QOE f x→QOE g x:=fun f g x h hq=>(h 0 (by omega)).symm.trans hq
def QSt {σ:Type} (T:TypeId) (cs:Nat→Value) (x:Nat×σ):Prop:=cs 0=.iface T (.pointer (some ⟨x.1,0,none⟩))
theorem qst_congr {σ:Type} (T:TypeId):∀ (f g:Nat→Value) (x:Nat×σ),(∀ j,j<1→f j=g j)→QSt T f x→QSt T g x:=fun f g x h hq=>(h 0 (by omega)).symm.trans hq
structure Srch {σ:Type} (M:Mach σ) (T:TypeId) (B:Nat) (w:World) (v5 v6:Value) (V:List σ) (Kb:List (Nat×σ)) (os:List OE):Prop where
 map:SetM w B V.length (V.map M.key)
 stk:RowOf 1 (QSt T) w (B+1) 55 v6 Kb
 sts:∀ x∈Kb,M.R (hidS B v5 v6 w) x.1 x.2
 outs:RowOf 1 QOE w (B+1) 31 v5 os
 rows:∀ o∈os,RowI w (B+1) o.v o.x∧o.g≠B∧¬ v5.ownBlock=some o.g∧¬ v6.ownBlock=some o.g
 apart:(os.map OE.g).Nodup
 sep:∀ g,v5.ownBlock=some g→¬ v6.ownBlock=some g
 few:os.length+Kb.length≤V.length
 what:∀ y,y∈os.map OE.x↔∃ s∈V,s∉Kb.map Prod.snd∧M.done s=true∧M.out s=y
theorem RowOf.own_lt {α:Type} {k:Nat} {Q:(Nat→Value)→α→Prop} {w:World} {base:Nat} {e:TypeId} {v:Value} {xs:List α} (h:RowOf k Q w base e v xs) {g:Nat} (hg:v.ownBlock=some g):base≤g∧g<w.heap.size:=by
 obtain⟨cs,h1,_⟩:=h
 refine⟨owns_base' h1 hg,?_⟩
 rcases h1.2 with ⟨rfl,_⟩ | ⟨g',cap,cur,rfl,hb,hh,_⟩
 ·cases hg
 ·simp only [Value.ownBlock,Option.some.injEq] at hg
  subst hg
  exact (Array.getElem?_eq_some_iff.1 hh).elim fun h _=>h
theorem RowOf.grown {α:Type} {k:Nat} {Q:(Nat→Value)→α→Prop} {w w':World} {base:Nat} {e:TypeId} {v:Value} {xs:List α} {row:Option Nat} (h:RowOf k Q w base e v xs) (hg:w.grownBy w' row) (hne:∀ g,v.ownBlock=some g→¬ row=some g):RowOf k Q w' base e v xs:=
 h.of_block fun g _ hv hl=>World.grownBy.block hg g hl fun e=>hne g hv e.symm
section
variable {σ:Type} {M:Mach σ} {T:TypeId} {B:Nat} {w w':World} {v5 v6 v5' v6':Value} {V:List σ} {Kb:List (Nat×σ)} {os:List OE}
theorem Srch.start {b0:Nat} (hM:MachP M) (h0:M.R (hidS B (.slice none 0 0) (.slice (some ⟨w.heap.size,0,none⟩) 1 1) (w.alloc (.cells #[.iface T (.pointer (some ⟨b0,0,none⟩))] 55))) b0 M.s0) (hm:SetM w B 1 [M.key M.s0]):
  Srch M T B (w.alloc (.cells #[.iface T (.pointer (some ⟨b0,0,none⟩))] 55)) (.slice none 0 0) (.slice (some ⟨w.heap.size,0,none⟩) 1 1) [M.s0] [(b0,M.s0)] []:=
 ⟨hm.alloc _,RowOf.single1 (Own.new w _ _) (by have:=hm.lt; omega) (fun cs h=>h),(fun x hx=>by
  obtain rfl:x=(b0,M.s0):=by simpa using hx
  exact h0),RowOf.nil _ _ _ _ _,(fun o ho=>by cases ho),by simp,(fun g hg=>by cases hg),by simp,(fun y=>⟨fun h=>by simp at h,fun⟨s,h1,h2,_⟩=>absurd (by simpa using h1) (fun e:s=M.s0=>h2 (by simp [e]))⟩)⟩
theorem Srch.below (hM:MachP M) (h:Srch M T B w v5 v6 V Kb os) (hb:Below w.heap.size w w'):Srch M T B w' v5 v6 V Kb os:=
 ⟨h.map.below hb,h.stk.grown (grown_of_below hb) (fun _ _=>by simp),fun x hx=>hM.le _ _ _ _ (Le.hidS_below hb) (h.sts x hx),h.outs.grown (grown_of_below hb) (fun _ _=>by simp),
  fun o ho=>⟨(h.rows o ho).1.grown (grown_of_below hb) (fun _ _=>by simp),(h.rows o ho).2⟩,h.apart,h.sep,h.few,h.what⟩
theorem Srch.pop {b:Nat} {s:σ} (hM:MachP M) (hdone:M.done s=false) (h:Srch M T B w v5 v6 V (Kb++[(b,s)]) os) (hv:v6'.ownBlock=v6.ownBlock) (hr:RowOf 1 (QSt T) w (B+1) 55 v6' Kb):
  Srch M T B w v5 v6' V Kb os:=by
 have he:hidS B v5 v6' w=hidS B v5 v6 w:=by unfold hidS; rw [hv]
 refine⟨h.map,hr,fun x hx=>by rw [he]; exact h.sts x (List.mem_append_left _ hx),h.outs,fun o ho=>by rw [hv]; exact h.rows o ho,h.apart,fun g hg=>by rw [hv]; exact h.sep g hg,?_,fun y=>(h.what y).trans ⟨?_,?_⟩⟩
 ·have:=h.few
  rw [List.length_append] at this
  omega
 ·rintro ⟨t,h1,h2,h3,h4⟩
  exact⟨t,h1,fun hm=>h2 (by rw [List.map_append]; exact List.mem_append_left _ hm),h3,h4⟩
 ·rintro ⟨t,h1,h2,h3,h4⟩
  refine⟨t,h1,fun hm=>?_,h3,h4⟩
  rw [List.map_append] at hm
  rcases List.mem_append.1 hm with hm | hm
  ·exact h2 hm
  ·have:t=s:=by simpa using hm
   subst this
   rw [hdone] at h3
   cases h3
theorem Srch.popOut {b:Nat} {s:σ} {o:OE} (hM:MachP M) (hsV:s∈V) (hsK:s∉Kb.map Prod.snd) (hdone:M.done s=true) (h:Srch M T B w v5 v6 V (Kb++[(b,s)]) os) (hg:w.grownBy w' v5.ownBlock) (h5:∀ g,v5'.ownBlock=some g→v5.ownBlock=some g∨w.heap.size≤g)
  (hv:v6'.ownBlock=v6.ownBlock) (hr:RowOf 1 (QSt T) w (B+1) 55 v6' Kb) (hx:o.x=M.out s) (ho:RowI w (B+1) o.v o.x) (ho5:¬ v5.ownBlock=some o.g) (ho6:¬ v6.ownBlock=some o.g) (hon:o.g∉os.map OE.g) (hos:RowOf 1 QOE w' (B+1) 31 v5' (os++[o])):
  Srch M T B w' v5' v6' V Kb (os++[o]):=by
 have hlB:=h.map.lt
 have h6lt:∀ g,v6.ownBlock=some g→g<w.heap.size:=fun g hg=>(h.stk.own_lt hg).2
 have h5b:∀ g,v5.ownBlock=some g→B+1≤g:=fun g hg=>(h.outs.own_lt hg).1
 have hle:Le (hidS B v5 v6 w) (hidS B v5' v6' w'):=Le.hidS_grown hg (.inr (.inr (.inl rfl))) h5 (fun g hg=>.inl (by rw [← hv]; exact hg))
 have hogB:=ho.own_lt (g:=o.g) rfl
 have hrow:∀ q:OE,RowI w (B+1) q.v q.x→¬ v5.ownBlock=some q.g→RowI w' (B+1) q.v q.x:=fun q hq hn=>hq.grown hg fun g hg e=>by
  have:g=q.g:=by simpa [OE.v,Value.ownBlock] using hg.symm
  subst this
  exact hn e
 refine⟨h.map.kept hg (fun e=>?_),hr.grown hg (fun g hg' e=>h.sep g e (by rw [← hv]; exact hg')),fun x hx'=>hM.le _ _ _ _ hle (h.sts x (List.mem_append_left _ hx')),hos,fun q hq=>?_,?_,fun g hg' e=>?_,?_,fun y=>?_⟩
 ·have:=h5b B e.symm; omega
 ·rcases List.mem_append.1 hq with hq | hq
  ·obtain⟨r1,r2,r3,r4⟩:=h.rows q hq
   refine⟨hrow q r1 r3,r2,fun e=>?_,by rw [hv]; exact r4⟩
   rcases h5 _ e with e | e
   ·exact r3 e
   ·have:=(r1.own_lt (g:=q.g) rfl).2; omega
  ·obtain rfl:q=o:=List.mem_singleton.1 hq
   refine⟨hrow q ho ho5,by have:=hogB.1; omega,fun e=>?_,by rw [hv]; exact ho6⟩
   rcases h5 _ e with e | e
   ·exact ho5 e
   ·have:=hogB.2; omega
 ·rw [List.map_append,List.nodup_append]
  exact⟨h.apart,by simp,fun a ha b hb e=>hon (by simp at hb; rw [← hb,← e]; exact ha)⟩
 ·rw [hv] at e
  rcases h5 g hg' with e' | e'
  ·exact h.sep g e' e
  ·have:=h6lt g e; omega
 ·have:=h.few
  simp only [List.length_append,List.length_singleton] at this ⊢
  omega
 ·rw [List.map_append,List.mem_append,h.what y]
  constructor
  ·rintro (⟨t,h1,h2,h3,h4⟩ | hy)
   ·exact⟨t,h1,fun hm=>h2 (by rw [List.map_append]; exact List.mem_append_left _ hm),h3,h4⟩
   ·refine⟨s,hsV,hsK,hdone,?_⟩
    rw [← hx]
    exact (by simpa using hy:y=o.x).symm
  ·rintro ⟨t,h1,h2,h3,h4⟩
   by_cases e:t=s
   ·right
    subst e
    rw [← h4,← hx]
    simp
   ·left
    refine⟨t,h1,fun hm=>?_,h3,h4⟩
    rw [List.map_append] at hm
    rcases List.mem_append.1 hm with hm | hm
    ·exact h2 hm
    ·exact e (by simpa using hm)
theorem Srch.put {b:Nat} {s:σ} (hM:MachP M) (hs:s∉V) (h:Srch M T B w v5 v6 V Kb os) (hb:M.R (hidS B v5 v6 w) b s) {w1:World} (hmap:SetM w1 B (V.length+1) (V.map M.key++[M.key s])) (hg:w.grownBy w1 (some B))
  (hg2:w1.grownBy w' v6.ownBlock) (h6:∀ g,v6'.ownBlock=some g→v6.ownBlock=some g∨w1.heap.size≤g) (hr:RowOf 1 (QSt T) w' (B+1) 55 v6' (Kb++[(b,s)])):
  Srch M T B w' v5 v6' (V++[s]) (Kb++[(b,s)]) os:=by
 have hsz:=World.grownBy.size hg
 have h5b:∀ g,v5.ownBlock=some g→B+1≤g∧g<w.heap.size:=fun g hg=>h.outs.own_lt hg
 have h6b:∀ g,v6.ownBlock=some g→B+1≤g∧g<w.heap.size:=fun g hg=>h.stk.own_lt hg
 have hle1:Le (hidS B v5 v6 w) (hidS B v5 v6 w1):=Le.hidS_grown hg (.inr (.inl rfl)) (fun _ h=>.inl h) (fun _ h=>.inl h)
 have hle:Le (hidS B v5 v6 w) (hidS B v5 v6' w'):=hle1.trans (Le.hidS_grown hg2 (.inr (.inr (.inr rfl))) (fun _ h=>.inl h) h6)
 have hrow:∀ q:OE,RowI w (B+1) q.v q.x→q.g≠B→¬ v6.ownBlock=some q.g→RowI w' (B+1) q.v q.x:=fun q hq hn hn6=>(hq.grown hg fun g hg e=>by
  have:g=q.g:=by simpa [OE.v,Value.ownBlock] using hg.symm
  subst this
  injection e with e
  exact hn e.symm).grown hg2 fun g hg e=>by
  have:g=q.g:=by simpa [OE.v,Value.ownBlock] using hg.symm
  subst this
  exact hn6 e
 refine⟨?_,hr,fun x hx=>?_,(h.outs.grown hg (fun g hg e=>?_)).grown hg2 (fun g hg e=>h.sep g hg e),fun q hq=>?_,h.apart,fun g hg' e=>?_,?_,fun y=>(h.what y).trans ?_⟩
 ·rw [List.length_append,List.map_append]
  exact hmap.kept hg2 fun e=>by have:=h6b B e.symm; omega
 ·rcases List.mem_append.1 hx with hx | hx
  ·exact hM.le _ _ _ _ hle (h.sts x hx)
  ·obtain rfl:x=(b,s):=List.mem_singleton.1 hx
   exact hM.le _ _ _ _ hle hb
 ·injection e with e; have:=h5b g hg; omega
 ·obtain⟨r1,r2,r3,r4⟩:=h.rows q hq
  refine⟨hrow q r1 r2 r4,r2,r3,fun e=>?_⟩
  rcases h6 _ e with e | e
  ·exact r4 e
  ·have:=(r1.own_lt (g:=q.g) rfl).2; omega
 ·rcases h6 g e with e | e
  ·exact h.sep g hg' e
  ·have:=h5b g hg'; omega
 ·have:=h.few
  simp only [List.length_append,List.length_singleton]
  omega
 ·constructor
  ·rintro ⟨t,h1,h2,h3,h4⟩
   refine⟨t,List.mem_append_left _ h1,fun hm=>?_,h3,h4⟩
   rw [List.map_append] at hm
   rcases List.mem_append.1 hm with hm | hm
   ·exact h2 hm
   ·have:t=s:=by simpa using hm
    subst this
    exact hs h1
  ·rintro ⟨t,h1,h2,h3,h4⟩
   rw [List.map_append] at h2
   refine⟨t,?_,fun hm=>h2 (List.mem_append_left _ hm),h3,h4⟩
   rcases List.mem_append.1 h1 with h1 | h1
   ·exact h1
   ·have:t=s:=by simpa using h1
    subst this
    exact absurd (List.mem_append_right _ (by simp)) h2
end
end Go.Proofs.YtojmofnamppbdaaGreat
