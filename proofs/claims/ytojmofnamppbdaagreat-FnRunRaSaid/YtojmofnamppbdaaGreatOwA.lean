/-
  Slices that a call has made and appends to: what they hold. No program in sight. Rows that are one's own: a slice whose cells lie in a block by itself, of elements that may lead to blocks of their own; which blocks they are. No program in sight. Rows that a call appends to, of elements that may lead to blocks of their own. No program in sight.
-/
import Derived.Test.YtojmofnamppbdaaGreatLib
import Derived.Deep.AppendLies
import Derived.OwnWalk
import Derived.Deep.RegionWith
namespace Go.Proofs.YtojmofnamppbdaaGreat
open Go.RowKit
set_option linter.unusedVariables false
set_option maxRecDepth 100000
theorem owns_cell {w:World} {base:Nat} {e:TypeId} {k n:Nat} {v:Value} {cs:List Value} (h:w.ownsRow base e k v n cs) (hk:0<k) {i j:Nat} (hi:i<n) (hj:j<k):
  ∃ g cap,v=.slice (some ⟨g,0,none⟩) n cap∧base≤g∧w.cell? ⟨g,i*k+j,none⟩=some (cs.getD (i*k+j) undef):=by
 obtain⟨hl,h⟩:=h
 rcases h with ⟨_,h0⟩ | ⟨g,cap,cur,hv,hb,hg,hn,_,hc,ht⟩
 ·omega
 ·refine⟨g,cap,hv,hb,?_⟩
  have hlt:i*k+j<n*k:=by
   have h1:(i+1)*k≤n*k:=Nat.mul_le_mul_right k hi
   rw [Nat.add_mul,Nat.one_mul] at h1
   omega
  have hle:n*k≤cap*k:=Nat.mul_le_mul_right k hn
  have h1:cs[i*k+j]?=cur.toList[i*k+j]?:=by rw [← ht,List.getElem?_take,if_pos hlt]
  have h2:i*k+j<cs.length:=by omega
  rw [cell_of_row w g (i*k+j) cur e (0,0) hg,← Array.getElem?_toList,← h1,List.getElem?_eq_getElem h2,List.getD_eq_getElem?_getD,List.getElem?_eq_getElem h2]
  rfl
def RowOf {α:Type} (k:Nat) (Q:(Nat→Value)→α→Prop) (w:World) (base:Nat) (e:TypeId) (v:Value) (xs:List α):Prop:=
 ∃ cs:List Value,w.ownsRow base e k v xs.length cs∧∀ i (h:i<xs.length),Q (fun j=>cs.getD (i*k+j) undef) xs[i]
theorem RowOf.imp {α:Type} {k:Nat} {Q Q':(Nat→Value)→α→Prop} {w:World} {base:Nat} {e:TypeId} {v:Value} {xs:List α} (h:RowOf k Q w base e v xs) (hq:∀ cs x,Q cs x→Q' cs x):RowOf k Q' w base e v xs:=by
 obtain⟨cs,h1,h2⟩:=h
 exact⟨cs,h1,fun i hi=>hq _ _ (h2 i hi)⟩
theorem RowOf.nil {α:Type} (k:Nat) (Q:(Nat→Value)→α→Prop) (w:World) (base:Nat) (e:TypeId):RowOf k Q w base e (.slice none 0 0) ([]:List α):=⟨[],World.ownsRow_nil w base e k,fun i hi=>absurd hi (Nat.not_lt_zero _)⟩
theorem RowOf.made {α:Type} {k:Nat} (Q:(Nat→Value)→α→Prop) {w:World} {base g:Nat} {e:TypeId} (h:Own w g e #[]) (hb:base≤g):RowOf k Q w base e (.slice (some ⟨g,0,none⟩) 0 0) ([]:List α):=
 ⟨[],⟨by simp,.inr ⟨g,0,#[],rfl,hb,h,Nat.le_refl _,by simp [maxLen],by simp,by simp⟩⟩,fun i hi=>absurd hi (Nat.not_lt_zero _)⟩
theorem RowOf.slR {α:Type} {k:Nat} (hk:0<k) {R:World→(Nat→Value)→α→Prop} {Q:(Nat→Value)→α→Prop} {w a:World} {base:Nat} {e:TypeId} {v:Value} {xs:List α} (h:RowOf k Q w base e v xs) (hq:∀ cs x,Q cs x→R a cs x) (ha:Le (above base w) a):SlR k R a v xs:=by
 obtain⟨cs,h1,h2⟩:=h
 have hform:∃ A c,v=.slice A xs.length c∧xs.length≤9223372036854775807:=by
  rcases h1.2 with ⟨rfl,h0⟩ | ⟨g,cap,cur,rfl,_,_,hn,hc,_⟩
  ·rw [h0]; exact⟨_,_,rfl,by omega⟩
  ·simp only [maxLen] at hc
   exact⟨_,_,rfl,by omega⟩
 obtain⟨A,c,rfl,hm⟩:=hform
 refine⟨A,c,rfl,hm,fun i hi=>?_⟩
 obtain⟨g,cap,hv,hb,_⟩:=owns_cell h1 hk hi hk
 refine⟨g,0,by injection hv,_,fun j hj=>?_,hq _ _ (h2 i hi)⟩
 obtain⟨g',cap',hv',hb',hc'⟩:=owns_cell h1 hk hi hj
 rw [hv] at hv'
 injection hv' with e1
 injection e1 with e1
 injection e1 with e1
 subst e1
 rw [Nat.zero_add]
 exact ha _ _ (cell_above_of hb hc')
theorem RowOf.slR' {α:Type} {k:Nat} (hk:0<k) {R:World→(Nat→Value)→α→Prop} {Q:(Nat→Value)→α→Prop} {w a:World} {base:Nat} {e:TypeId} {v:Value} {xs:List α} (h:RowOf k Q w base e v xs) (hq:∀ cs x,Q cs x→R a cs x) (ha:∀ g o u,base≤g→v.ownBlock=some g→w.cell? ⟨g,o,none⟩=some u→a.cell? ⟨g,o,none⟩=some u):SlR k R a v xs:=by
 obtain⟨cs,h1,h2⟩:=h
 have hform:∃ A c,v=.slice A xs.length c∧xs.length≤9223372036854775807:=by
  rcases h1.2 with ⟨rfl,h0⟩ | ⟨g,cap,cur,rfl,_,_,hn,hc,_⟩
  ·rw [h0]; exact⟨_,_,rfl,by omega⟩
  ·simp only [maxLen] at hc
   exact⟨_,_,rfl,by omega⟩
 obtain⟨A,c,rfl,hm⟩:=hform
 refine⟨A,c,rfl,hm,fun i hi=>?_⟩
 obtain⟨g,cap,hv,hb,_⟩:=owns_cell h1 hk hi hk
 refine⟨g,0,by injection hv,_,fun j hj=>?_,hq _ _ (h2 i hi)⟩
 obtain⟨g',cap',hv',hb',hc'⟩:=owns_cell h1 hk hi hj
 have e0:=hv.symm.trans hv'
 injection e0 with e1
 injection e1 with e1
 injection e1 with e1
 subst e1
 rw [Nat.zero_add]
 exact ha _ _ _ hb (by rw [hv]; rfl) hc'
theorem RowOf.snoc {α:Type} {k:Nat} {Q:(Nat→Value)→α→Prop} (hQ:∀ (f g:Nat→Value) x,(∀ j,j<k→f j=g j)→Q f x→Q g x) {w w':World} {base:Nat} {e:TypeId} {v v':Value} {xs:List α} {cs news:List Value} {x:α} (h:w.ownsRow base e k v xs.length cs) (hcs:∀ i (h:i<xs.length),Q (fun j=>cs.getD (i*k+j) undef) xs[i])
  (hn:news.length=k) (hx:Q (fun j=>news.getD j undef) x) (h':w'.ownsRow base e k v' (xs.length+1) (cs++news)):RowOf k Q w' base e v' (xs++[x]):=by
 refine⟨cs++news,by simpa using h',fun i hi=>?_⟩
 rw [List.length_append,List.length_singleton] at hi
 have hl:=h.1
 by_cases hlt:i<xs.length
 ·rw [List.getElem_append_left hlt]
  refine hQ _ _ _ (fun j hj=>?_) (hcs i hlt)
  have h1:i*k+j<cs.length:=by
   have h1:(i+1)*k≤xs.length*k:=Nat.mul_le_mul_right k hlt
   rw [Nat.add_mul,Nat.one_mul] at h1
   omega
  simp only [List.getD_eq_getElem?_getD]
  rw [List.getElem?_append_left h1]
 ·obtain rfl:i=xs.length:=by omega
  rw [List.getElem_append_right (Nat.le_refl _)]
  simp only [Nat.sub_self,List.getElem_singleton]
  refine hQ _ _ _ (fun j hj=>?_) hx
  simp only [List.getD_eq_getElem?_getD]
  rw [List.getElem?_append_right (by omega),hl,show xs.length*k+j-xs.length*k=j by omega]
theorem RowOf.of_block {α:Type} {k:Nat} {Q:(Nat→Value)→α→Prop} {w w':World} {base:Nat} {e:TypeId} {v:Value} {xs:List α} (h:RowOf k Q w base e v xs) (hb:∀ g,base≤g→v.ownBlock=some g→g<w.heap.size→w'.heap[g]?=w.heap[g]?):RowOf k Q w' base e v xs:=by
 obtain⟨cs,⟨h1,h3⟩,h2⟩:=h
 refine⟨cs,⟨h1,?_⟩,h2⟩
 rcases h3 with h3 | ⟨g,cap,cur,rfl,hbg,hg,rest⟩
 ·exact .inl h3
 ·refine .inr ⟨g,cap,cur,rfl,hbg,?_,rest⟩
  rw [hb g hbg rfl ((Array.getElem?_eq_some_iff.1 hg).elim fun h _=>h)]
  exact hg
def NewsAt (w:World) (ad:Addr) (news:List Value):Prop:=∀ j u,news[j]?=some u→w.cell? (ad.add j)=some u
theorem add_lit (b o j:Nat):(⟨b,o,none⟩:Addr).add j=⟨b,o+j,none⟩:=by simp [Addr.add]
theorem SlR.news {α:Type} {k:Nat} {R:World→(Nat→Value)→α→Prop} {w:World} {A:Option Addr} {c n:Nat} {xs:List α} (h:SlR k R w (.slice A n c) xs) (hk:0<k) (hn:0<n):
  ∃ b o,A=some ⟨b,o,none⟩∧∃ news:List Value,news.length=n*k∧NewsAt w ⟨b,o,none⟩ news∧∀ i (hi:i<xs.length),∃ cs,(∀ j,j<k→cs j=news.getD (i*k+j) undef)∧R w cs xs[i]:=by
 obtain⟨A',c',e,_,h⟩:=h
 injection e with e1 e2 e3
 subst e1 e2
 obtain⟨b,o,rfl,_⟩:=h 0 hn
 have key:∀ i,i<xs.length→∃ cs:Nat→Value,(∀ j,j<k→w.cell? ⟨b,o+i*k+j,none⟩=some (cs j))∧∀ hi:i<xs.length,R w cs xs[i]:=fun i hi=>by
  obtain⟨b',o',e,cs,h1,h2⟩:=h i hi
  injection e with e
  injection e with e1 e2
  subst e1 e2
  exact⟨cs,h1,fun _=>h2⟩
 refine⟨b,o,rfl,(List.range (xs.length*k)).map (fun t=>(w.cell? ⟨b,o+t,none⟩).getD undef),by simp,fun j u hj=>?_,fun i hi=>?_⟩
 ·rw [List.getElem?_map] at hj
  rcases Nat.lt_or_ge j (xs.length*k) with hlt | hge
  ·rw [List.getElem?_range hlt] at hj
   simp only [Option.map_some,Option.some.injEq] at hj
   have hi:j / k<xs.length:=by rw [Nat.div_lt_iff_lt_mul hk]; exact hlt
   obtain⟨cs,h1,_⟩:=key _ hi
   have h2:=h1 (j % k) (Nat.mod_lt _ hk)
   rw [show o+j / k*k+j % k=o+j by rw [Nat.add_assoc,Nat.mul_comm,Nat.div_add_mod]] at h2
   rw [h2] at hj
   rw [add_lit,h2,← hj]
   rfl
  ·rw [List.getElem?_eq_none (by simpa using hge)] at hj
   cases hj
 ·obtain⟨cs,h1,h2⟩:=key i hi
  refine⟨cs,fun j hj=>?_,h2 hi⟩
  have hlt:i*k+j<xs.length*k:=by
   have h1:(i+1)*k≤xs.length*k:=Nat.mul_le_mul_right k hi
   rw [Nat.add_mul,Nat.one_mul] at h1
   omega
  rw [List.getD_eq_getElem?_getD,List.getElem?_map,List.getElem?_range hlt]
  have:=h1 j hj
  rw [Nat.add_assoc] at this
  simp [this]
theorem news_one {k n:Nat} {news:List Value} (hk:0<k) (hl:news.length=n*k) (h:∀ i,i<n→∀ j,j<k→(news.getD (i*k+j) undef).oneCell'=true):∀ u∈news,u.oneCell'=true:=fun u hu=>by
 obtain⟨t,ht,rfl⟩:=List.getElem_of_mem hu
 have h1:=h (t / k) (by rw [Nat.div_lt_iff_lt_mul hk]; omega) (t % k) (Nat.mod_lt _ hk)
 rw [show t / k*k+t % k=t by rw [Nat.mul_comm,Nat.div_add_mod],List.getD_eq_getElem?_getD,List.getElem?_eq_getElem ht] at h1
 exact h1
theorem made_owns {w:World} {base g k:Nat} {e:TypeId} (h:Own w g e #[]) (hb:base≤g):w.ownsRow base e k (.slice (some ⟨g,0,none⟩) 0 0) 0 []:=
 ⟨by simp,.inr ⟨g,0,#[],rfl,hb,h,Nat.le_refl _,by simp [maxLen],by simp,by simp⟩⟩
theorem run_append_empty {P:Program} (w:World) (t ty e:TypeId) (i:TypeInfo) (ht:P.underlying t=some (.slice e)) (hi:P.info? e=some i) (b off n cap:Nat) (hn:n≤cap) (A:Option Addr) (c:Nat):
  (Builtin.append_ #[t,t] ty #[.slice (some ⟨b,off,none⟩) n cap,.slice A 0 c]).run P w=.ok (.slice (some ⟨b,off,none⟩) n cap) w:=by
 cases A with
 | some a=>
  have h:=run_append_room_cells (P:=P) w t ty e i ht hi b off n cap a 0 c [] (by simp) (fun j u h=>by simp at h) (fun u h=>by cases h) (by omega) (fun j hj=>absurd hj (Nat.not_lt_zero _)) (fun j hj=>absurd hj (Nat.not_lt_zero _))
  rw [h]
  simp [World.setCells]
 | none=>
  simp [Builtin.append_,run_underlying ht,sizeOf,typeInfo,hi,Builtin.lenOf,Builtin.firstCells,hn,storeCells]
def keepW (q:Nat→Prop) [DecidablePred q] (w:World):World:={ w with heap:=w.heap.mapIdx fun i o=>if q i then o else .map #[] 0 }
theorem cell_keepW (q:Nat→Prop) [DecidablePred q] (w:World) (a:Addr):(keepW q w).cell? a=if q a.block then w.cell? a else none:=by
 unfold World.cell? keepW
 simp only [Array.getElem?_mapIdx]
 cases h:w.heap[a.block]? with
 | none=>simp
 | some o=>by_cases hb:q a.block <;> simp [hb]
theorem cell_keepW_of {q:Nat→Prop} [DecidablePred q] {w:World} {a:Addr} {v:Value} (hq:q a.block) (h:w.cell? a=some v):(keepW q w).cell? a=some v:=by rw [cell_keepW,if_pos hq]; exact h
theorem of_cell_keepW {q:Nat→Prop} [DecidablePred q] {w:World} {a:Addr} {v:Value} (h:(keepW q w).cell? a=some v):q a.block∧w.cell? a=some v:=by
 rw [cell_keepW] at h
 by_cases hb:q a.block
 ·rw [if_pos hb] at h; exact⟨hb,h⟩
 ·rw [if_neg hb] at h; cases h
theorem owns_base {w:World} {base:Nat} {e:TypeId} {k n:Nat} {v:Value} {cs:List Value} (h:w.ownsRow base e k v n cs) {g:Nat} (hv:v.ownBlock=some g):base≤g∧g<w.heap.size:=by
 rcases h.2 with ⟨rfl,_⟩ | ⟨g',cap,cur,rfl,hb,hg,_⟩
 ·cases hv
 ·simp only [Value.ownBlock,Option.some.injEq] at hv
  subst hv
  exact⟨hb,(Array.getElem?_eq_some_iff.1 hg).elim fun h _=>h⟩
theorem owns_of_block {w w':World} {base:Nat} {e:TypeId} {k n:Nat} {v:Value} {cs:List Value} (h:w.ownsRow base e k v n cs) (hb:∀ g,v.ownBlock=some g→base≤g→g<w.heap.size→w'.heap[g]?=w.heap[g]?):w'.ownsRow base e k v n cs:=by
 refine⟨h.1,?_⟩
 rcases h.2 with h3 | ⟨g,cap,cur,rfl,hbg,hg,rest⟩
 ·exact .inl h3
 ·refine .inr ⟨g,cap,cur,rfl,hbg,?_,rest⟩
  rw [hb g rfl hbg ((Array.getElem?_eq_some_iff.1 hg).elim fun h _=>h)]
  exact hg
theorem owns_alloc {w:World} {base:Nat} {e:TypeId} {k n:Nat} {v:Value} {cs:List Value} (h:w.ownsRow base e k v n cs) (o:Obj):(w.alloc o).ownsRow base e k v n cs:=by
 refine⟨h.1,?_⟩
 rcases h.2 with h3 | ⟨g,cap,cur,rfl,hbg,hg,rest⟩
 ·exact .inl h3
 ·refine .inr ⟨g,cap,cur,rfl,hbg,?_,rest⟩
  rw [Go.Deep.blk_alloc_lt _ _ _ ((Array.getElem?_eq_some_iff.1 hg).elim fun h _=>h)]
  exact hg
theorem owns_base' {w:World} {base:Nat} {e:TypeId} {k n:Nat} {v:Value} {cs:List Value} (h:w.ownsRow base e k v n cs) {g:Nat} (hv:v.ownBlock=some g):base≤g:=by
 rcases h.2 with ⟨rfl,_⟩ | ⟨g',cap,cur,rfl,hb,hg,_⟩
 ·cases hv
 ·simp only [Value.ownBlock,Option.some.injEq] at hv
  omega
theorem below_grown {B:Nat} {w X w1:World} {row:Option Nat} (h:Below B w X) (hg:X.grownBy w1 row) (hB:B≤w.heap.size) (hr:∀ g,row=some g→B≤g):Below B w w1:=
 ⟨(World.grownBy.os hg).trans h.os,(World.grownBy.tape hg).trans h.tape,(World.grownBy.output hg).trans h.output,Nat.le_trans h.size (World.grownBy.size hg),fun i hi=>(World.grownBy.block hg i (by have:=h.size; omega) (fun e=>by have:=hr i e.symm; omega)).trans (h.block i hi)⟩
def Kr (base:Nat) (v:Value) (b:Nat):Prop:=base≤b∧v.ownBlock≠some b
instance (base:Nat) (v:Value):DecidablePred (Kr base v):=fun _=>inferInstanceAs (Decidable (_∧_))
end Go.Proofs.YtojmofnamppbdaaGreat
namespace Go.Proofs.YtojmofnamppbdaaGreat
open Go.RowKit
set_option linter.unusedVariables false
set_option maxRecDepth 100000
abbrev OwP (α:Type):=World→(Nat→Value)→α→List Nat→Prop
structure OwLoc {α:Type} (k:Nat) (P:OwP α):Prop where
 move:∀ {w w':World} {cs:Nat→Value} {x:α} {F:List Nat},P w cs x F→(∀ b∈F,w'.heap[b]?=w.heap[b]?)→P w' cs x F
 lt:∀ {w:World} {cs:Nat→Value} {x:α} {F:List Nat},P w cs x F→∀ b∈F,b<w.heap.size
 congr:∀ {w:World} {cs cs':Nat→Value} {x:α} {F:List Nat},(∀ j,j<k→cs j=cs' j)→P w cs x F→P w cs' x F
theorem mem_ft {n:Nat} {Fs:Nat→List Nat} {i x:Nat} (hi:i<n) (hx:x∈Fs i):x∈((List.range n).map Fs).flatten:=
 List.mem_flatten.2 ⟨Fs i,List.mem_map.2 ⟨i,List.mem_range.2 hi,rfl⟩,hx⟩
theorem of_mem_ft {n:Nat} {Fs:Nat→List Nat} {x:Nat} (h:x∈((List.range n).map Fs).flatten):∃ i,i<n∧x∈Fs i:=by
 obtain⟨l,hl,hx⟩:=List.mem_flatten.1 h
 obtain⟨i,hi,rfl⟩:=List.mem_map.1 hl
 exact⟨i,List.mem_range.1 hi,hx⟩
def OwRow {α:Type} (k:Nat) (e:TypeId) (P:OwP α) (w:World) (v:Value) (xs:List α) (F:List Nat):Prop:=
 (v=.slice none 0 0∧xs=[]∧F=[])∨∃ (g c N:Nat) (G:Nat→Value) (Fs:Nat→List Nat),v=.slice (some ⟨g,0,none⟩) xs.length c∧xs.length≤c∧w.rowIs g e N G∧xs.length*k≤N∧xs.length≤9223372036854775807 ∧
  (∀ i (h:i<xs.length),P w (fun j=>G (i*k+j)) xs[i] (Fs i))∧F=g::((List.range xs.length).map Fs).flatten
namespace OwRow
variable {α:Type} {k:Nat} {e:TypeId} {P:OwP α} {w w':World} {v:Value} {xs:List α} {F:List Nat}
theorem nil:OwRow k e P w (.slice none 0 0) ([]:List α) []:=Or.inl ⟨rfl,rfl,rfl⟩
theorem slice (h:OwRow k e P w v xs F):∃ A c,v=.slice A xs.length c∧xs.length≤c∧xs.length≤9223372036854775807:=by
 rcases h with ⟨rfl,rfl,rfl⟩ | ⟨g,c,N,G,Fs,rfl,hc,_,_,hm,_⟩
 ·exact⟨_,_,rfl,Nat.le_refl _,by simp⟩
 ·exact⟨_,_,rfl,hc,hm⟩
theorem lt (hP:OwLoc k P) (h:OwRow k e P w v xs F):∀ b∈F,b<w.heap.size:=fun b hb=>by
 rcases h with ⟨rfl,rfl,rfl⟩ | ⟨g,c,N,G,Fs,rfl,_,hr,_,hm,hel,rfl⟩
 ·cases hb
 ·rcases List.mem_cons.1 hb with rfl | hb
  ·exact hr.lt
  ·obtain⟨i,hi,hx⟩:=of_mem_ft hb
   exact hP.lt (hel i hi) b hx
theorem move (hP:OwLoc k P) (h:OwRow k e P w v xs F) (hb:∀ b∈F,w'.heap[b]?=w.heap[b]?):OwRow k e P w' v xs F:=by
 rcases h with ⟨rfl,rfl,rfl⟩ | ⟨g,c,N,G,Fs,rfl,hc,hr,hN,hm,hel,rfl⟩
 ·exact Or.inl ⟨rfl,rfl,rfl⟩
 ·exact Or.inr ⟨g,c,N,G,Fs,rfl,hc,hr.of_block (hb g (by simp)),hN,hm,fun i hi=>hP.move (hel i hi) fun b hm=>hb b (List.mem_cons_of_mem _ (mem_ft hi hm)),rfl⟩
theorem below (hP:OwLoc k P) (h:OwRow k e P w v xs F) (hb:Below w.heap.size w w'):OwRow k e P w' v xs F:=h.move hP fun b hm=>hb.block b (h.lt hP b hm)
theorem slR {R:World→(Nat→Value)→α→Prop} {B:Nat} (h:OwRow k e P w v xs F) (hR:∀ cs x F',(∀ b∈F',B≤b)→P w cs x F'→R (above B w) cs x) (hB:∀ b∈F,B≤b):SlR k R (above B w) v xs:=by
 rcases h with ⟨rfl,rfl,rfl⟩ | ⟨g,c,N,G,Fs,rfl,hc,hr,hN,hm,hel,rfl⟩
 ·exact⟨none,0,rfl,by simp,fun i hi=>absurd hi (Nat.not_lt_zero _)⟩
 ·refine⟨_,_,rfl,hm,fun i hi=>⟨g,0,rfl,fun j=>G (i*k+j),fun j hj=>?_,hR _ _ _ (fun b hb=>hB b (List.mem_cons_of_mem _ (mem_ft hi hb))) (hel i hi)⟩⟩
  have h1:(i+1)*k≤xs.length*k:=Nat.mul_le_mul_right k hi
  rw [Nat.add_mul,Nat.one_mul] at h1
  rw [Nat.zero_add]
  exact cell_above_of (hB g (by simp)) (hr.cell (by omega))
theorem elem {A:Option Addr} {n c:Nat} (h:OwRow k e P w (.slice A n c) xs F) (hP:OwLoc k P) (hnd:F.Nodup) {i:Nat} (hi:i<xs.length):
  ∃ g N G Fi,A=some ⟨g,0,none⟩∧n=xs.length∧g<w.heap.size∧g∈F∧(∀ x∈Fi,x∈F)∧Fi.Nodup∧g∉Fi∧w.rowIs g e N G∧(i+1)*k≤N∧P w (fun j=>G (i*k+j)) xs[i] Fi ∧
   ∀ (w':World) (G':Nat→Value) (x:α),w'.rowIs g e N G'→(∀ t j,t≠i→j<k→G' (t*k+j)=G (t*k+j))→(∀ b∈F,b≠g→b∉Fi→w'.heap[b]?=w.heap[b]?)→P w' (fun j=>G' (i*k+j)) x Fi→OwRow k e P w' (.slice A n c) (xs.set i x) F:=by
 rcases h with ⟨_,rfl,_⟩ | ⟨g,c',N,G,Fs,hv,hc,hr,hN,hm,hel,rfl⟩
 ·simp at hi
 ·injection hv with e1 e2 e3
  subst e1; subst e2; subst e3
  rw [List.nodup_cons] at hnd
  have hnd2:=hnd.2
  unfold List.Nodup at hnd2
  rw [List.pairwise_flatten] at hnd2
  obtain⟨hn1,hn2⟩:=hnd2
  have hgn:∀ j,j<xs.length→g∉Fs j:=fun j hj hm=>hnd.1 (mem_ft hj hm)
  have hij:∀ j,j<xs.length→j≠i→∀ x∈Fs j,x∉Fs i:=fun j hj hne x hx hx'=>by
   rw [List.pairwise_map] at hn2
   have h2:=List.pairwise_iff_getElem.1 hn2
   rcases Nat.lt_or_gt_of_ne hne with h | h
   ·exact h2 j i (by simpa using hj) (by simpa using hi) h x (by simpa using hx) x (by simpa using hx') rfl
   ·exact h2 i j (by simpa using hi) (by simpa using hj) h x (by simpa using hx') x (by simpa using hx) rfl
  have h1:(i+1)*k≤xs.length*k:=Nat.mul_le_mul_right k hi
  refine⟨g,N,G,Fs i,rfl,rfl,hr.lt,by simp,fun x hx=>List.mem_cons_of_mem _ (mem_ft hi hx),hn1 _ (List.mem_map.2 ⟨i,List.mem_range.2 hi,rfl⟩),hgn i hi,hr,by omega,hel i hi,?_⟩
  intro w' G' x hr' hG hb hx
  rw [show xs.length=(xs.set i x).length by rw [List.length_set]]
  refine Or.inr ⟨g,c,N,G',Fs,rfl,by rw [List.length_set]; exact hc,hr',by rw [List.length_set]; exact hN,by rw [List.length_set]; exact hm,fun j hj=>?_,by rw [List.length_set]⟩
  rw [List.length_set] at hj
  by_cases hji:j=i
  ·subst hji
   rw [List.getElem_set_self]
   exact hx
  ·rw [List.getElem_set_ne (fun e=>hji e.symm)]
   refine hP.congr (fun t ht=>(hG j t hji ht).symm) (hP.move (hel j hj) fun b hbm=>hb b (List.mem_cons_of_mem _ (mem_ft hj hbm)) (fun e=>hgn j hj (by rw [← e]; exact hbm)) (hij j hj hji b hbm))
theorem made {g c N:Nat} {G:Nat→Value} (Fs:Nat→List Nat) (hr:w.rowIs g e N G) (hc:xs.length≤c) (hN:xs.length*k≤N) (hm:xs.length≤9223372036854775807) (hel:∀ i (h:i<xs.length),P w (fun j=>G (i*k+j)) xs[i] (Fs i)):
  OwRow k e P w (.slice (some ⟨g,0,none⟩) xs.length c) xs (g::((List.range xs.length).map Fs).flatten):=Or.inr ⟨g,c,N,G,Fs,rfl,hc,hr,hN,hm,hel,rfl⟩
end OwRow
def flat {α:Type} (Q:(Nat→Value)→α→Prop):OwP α:=fun _ cs x F=>Q cs x∧F=[]
theorem flat_loc {α:Type} {k:Nat} {Q:(Nat→Value)→α→Prop} (hQ:∀ (f g:Nat→Value) x,(∀ j,j<k→f j=g j)→Q f x→Q g x):OwLoc k (flat Q):=
 ⟨fun h _=>h,(fun h b hb=>by rw [h.2] at hb; cases hb),fun hc h=>⟨hQ _ _ _ hc h.1,h.2⟩⟩
def sub {α:Type} (k:Nat) (e:TypeId) (P:OwP α):OwP (List α):=fun w cs xs F=>OwRow k e P w (cs 0) xs F
theorem sub_loc {α:Type} {k:Nat} {e:TypeId} {P:OwP α} (hP:OwLoc k P):OwLoc 1 (sub k e P):=
 ⟨fun h hb=>OwRow.move hP h hb,fun h=>OwRow.lt hP h,fun hc h=>by
  unfold sub at h ⊢
  rw [← hc 0 (by omega)]
  exact h⟩
structure MvO (F:List Nat) (w w':World):Prop where
 os:w'.os=w.os
 tape:w'.tape=w.tape
 output:w'.output=w.output
 size:w.heap.size≤w'.heap.size
 block:∀ i,i<w.heap.size→i∉F→w'.heap[i]?=w.heap[i]?
namespace MvO
variable {F:List Nat} {a b c:World}
theorem refl (F:List Nat) (w:World):MvO F w w:=⟨rfl,rfl,rfl,Nat.le_refl _,fun _ _ _=>rfl⟩
theorem trans (h:MvO F a b) (k:MvO F b c):MvO F a c:=
 ⟨k.os.trans h.os,k.tape.trans h.tape,k.output.trans h.output,Nat.le_trans h.size k.size,fun i hi hn=>(k.block i (Nat.lt_of_lt_of_le hi h.size) hn).trans (h.block i hi hn)⟩
theorem of_below (h:Below a.heap.size a b):MvO F a b:=⟨h.os,h.tape,h.output,h.size,fun i hi _=>h.block i hi⟩
theorem mono {G:List Nat} (h:MvO F a b) (hs:∀ x∈F,x∈G):MvO G a b:=⟨h.os,h.tape,h.output,h.size,fun i hi hn=>h.block i hi fun hm=>hn (hs i hm)⟩
theorem set (h:MvO F a b) {p:Addr} (hp:p.block∈F) (v:Value):MvO F a (b.setCell p v):=
 ⟨h.os,h.tape,h.output,by simpa [World.setCell] using h.size,fun i hi hn=>(Below.heap_setCell _ _ _ _ (fun e=>hn (by rw [e]; exact hp))).trans (h.block i hi hn)⟩
theorem below {B:Nat} (h:MvO F a b) (hF:∀ x∈F,B≤x) (hB:B≤a.heap.size):Below B a b:=⟨h.os,h.tape,h.output,h.size,fun i hi=>h.block i (by omega) fun hm=>by have:=hF i hm; omega⟩
theorem cell (h:MvO F a b) {p:Addr} {v:Value} (hc:a.cell? p=some v) (hn:p.block∉F):b.cell? p=some v:=by
 rw [World.cell?_of_block (w:=a) (h.block _ (World.block_lt_of_cell? _ _ hc) hn)]
 exact hc
theorem le {B:Nat} {x:World} (h:MvO F a b) (hF:∀ y∈F,B≤y) (hx:x.heap.size≤B) (hl:Le x a):Le x b:=fun p u hc=>h.cell (hl p u hc) fun hm=>by
 have:=hF _ hm
 have:=World.block_lt_of_cell? _ _ hc
 omega
end MvO
structure Fill {α:Type} (k:Nat) (P:OwP α) (w:World) (lo g:Nat) (G:Nat→Value) (xs:List α) (n:Nat) (Fs:Nat→List Nat):Prop where
 el:∀ i (h:i<xs.length),i<n→P w (fun j=>G (i*k+j)) xs[i] (Fs i)
 nd:((List.range n).map Fs).flatten.Nodup
 ge:∀ i,i<n→∀ b∈Fs i,lo≤b∧b≠g
namespace Fill
variable {α:Type} {k:Nat} {P:OwP α} {w:World} {lo g:Nat} {G:Nat→Value} {xs:List α} {n:Nat} {Fs:Nat→List Nat}
theorem zero (P:OwP α) (w:World) (lo g:Nat) (G:Nat→Value) (xs:List α):Fill k P w lo g G xs 0 (fun _=>[]):=
 ⟨fun i _ h=>absurd h (Nat.not_lt_zero _),by simp,fun i h=>absurd h (Nat.not_lt_zero _)⟩
theorem step (hP:OwLoc k P) (h:Fill k P w lo g G xs n Fs) (hn:n<xs.length) {w1 w2:World} {G' cs:Nat→Value} {F:List Nat} (hlo:lo≤w.heap.size) (hg:g<w.heap.size) (hb:Below w.heap.size w w1) (hx:P w1 cs xs[n] F) (hF:∀ b∈F,w.heap.size≤b) (hFn:F.Nodup)
  (h2:∀ b,b≠g→b<w1.heap.size→w2.heap[b]?=w1.heap[b]?) (hc:∀ j,j<k→G' (n*k+j)=cs j) (ho:∀ t j,t≠n→j<k→G' (t*k+j)=G (t*k+j)):Fill k P w2 lo g G' xs (n+1) (fun i=>if i=n then F else Fs i):=by
 have hold:∀ i,i<n→∀ b∈Fs i,b<w.heap.size:=fun i hi b hb=>hP.lt (h.el i (by omega) hi) b hb
 refine⟨fun i hi hin=>?_,?_,fun i hi b hb=>?_⟩
 ·by_cases he:i=n
  ·subst he
   rw [if_pos rfl]
   refine hP.congr (fun j hj=>(hc j hj).symm) (hP.move hx fun b hb=>h2 b (fun e=>?_) (hP.lt hx b hb))
   have:=hF b hb
   omega
  ·rw [if_neg he]
   have h1:=h.el i hi (by omega)
   refine hP.congr (fun j hj=>(ho i j he hj).symm) (hP.move h1 fun b hbm=>?_)
   have hlt:=hold i (by omega) b hbm
   rw [h2 b (h.ge i (by omega) b hbm).2 (by have:=hb.size; omega)]
   exact hb.block b hlt
 ·rw [List.range_succ,List.map_append,List.flatten_append]
  have e1:(List.range n).map (fun i=>if i=n then F else Fs i)=(List.range n).map Fs:=List.map_congr_left fun i hi=>by
   have:=List.mem_range.1 hi
   rw [if_neg (by omega)]
  rw [e1]
  simp only [List.map_cons,List.map_nil,if_true,List.flatten_cons,List.flatten_nil,List.append_nil]
  refine List.nodup_append.2 ⟨h.nd,hFn,fun a ha b hb e=>?_⟩
  obtain⟨i,hi,hm⟩:=of_mem_ft ha
  have:=hold i hi a hm
  have:=hF b hb
  omega
 ·have hb:b∈(if i=n then F else Fs i):=hb
  by_cases he:i=n
  ·rw [if_pos he] at hb
   have:=hF b hb
   exact⟨by omega,by omega⟩
  ·rw [if_neg he] at hb
   exact h.ge i (by omega) b hb
theorem done {e:TypeId} {c N:Nat} (h:Fill k P w lo g G xs xs.length Fs) (hr:w.rowIs g e N G) (hc:xs.length≤c) (hN:xs.length*k≤N) (hm:xs.length≤9223372036854775807) (hg:lo≤g):
  ∃ F,OwRow k e P w (.slice (some ⟨g,0,none⟩) xs.length c) xs F∧F.Nodup∧∀ b∈F,lo≤b:=by
 refine⟨_,OwRow.made Fs hr hc hN hm (fun i hi=>h.el i hi hi),?_,?_⟩
 ·rw [List.nodup_cons]
  refine⟨fun hm=>?_,h.nd⟩
  obtain⟨i,hi,hx⟩:=of_mem_ft hm
  exact (h.ge i hi g hx).2 rfl
 ·intro b hb
  rcases List.mem_cons.1 hb with rfl | hb
  ·exact hg
  ·obtain⟨i,hi,hx⟩:=of_mem_ft hb
   exact (h.ge i hi b hx).1
end Fill
end Go.Proofs.YtojmofnamppbdaaGreat
namespace Go.Proofs.YtojmofnamppbdaaGreat
open Go.RowKit
set_option linter.unusedVariables false
set_option maxRecDepth 100000
structure RowW {α:Type} (k:Nat) (e:TypeId) (P:OwP α) (w:World) (base:Nat) (v:Value) (xs:List α) (cs:List Value) (Fs:Nat→List Nat):Prop where
 own:w.ownsRow base e k v xs.length cs
 el:∀ i (h:i<xs.length),P w (fun j=>cs.getD (i*k+j) undef) xs[i] (Fs i)
 nd:((List.range xs.length).map Fs).flatten.Nodup
 ge:∀ i,i<xs.length→∀ b∈Fs i,base≤b∧v.ownBlock≠some b
namespace RowW
variable {α:Type} {k:Nat} {e:TypeId} {P:OwP α} {w w':World} {base:Nat} {v:Value} {xs:List α} {cs:List Value} {Fs:Nat→List Nat}
theorem nil (k:Nat) (e:TypeId) (P:OwP α) (w:World) (base:Nat):RowW k e P w base (.slice none 0 0) ([]:List α) [] (fun _=>[]):=
 ⟨World.ownsRow_nil w base _ k,fun i h=>absurd h (Nat.not_lt_zero _),by simp,fun i h=>absurd h (Nat.not_lt_zero _)⟩
theorem made {g:Nat} (k:Nat) (P:OwP α) (h:Own w g e #[]) (hb:base≤g):RowW k e P w base (.slice (some ⟨g,0,none⟩) 0 0) ([]:List α) [] (fun _=>[]):=
 ⟨made_owns h hb,fun i h=>absurd h (Nat.not_lt_zero _),by simp,fun i h=>absurd h (Nat.not_lt_zero _)⟩
theorem move (hP:OwLoc k P) (h:RowW k e P w base v xs cs Fs) (hb:∀ b,base≤b→b<w.heap.size→w'.heap[b]?=w.heap[b]?):RowW k e P w' base v xs cs Fs:=
 ⟨owns_of_block h.own fun g _ h1 h2=>hb g h1 h2,fun i hi=>hP.move (h.el i hi) fun b hm=>hb b (h.ge i hi b hm).1 (hP.lt (h.el i hi) b hm),h.nd,h.ge⟩
theorem below (hP:OwLoc k P) (h:RowW k e P w base v xs cs Fs) (hb:Below w.heap.size w w'):RowW k e P w' base v xs cs Fs:=h.move hP fun b _ hl=>hb.block b hl
theorem slR (hk:0<k) {R:World→(Nat→Value)→α→Prop} {B:Nat} (h:RowW k e P w base v xs cs Fs) (hB:B≤base) (hR:∀ cs x F',(∀ b∈F',B≤b)→P w cs x F'→R (above B w) cs x):SlR k R (above B w) v xs:=by
 have hrow:RowOf k (fun cs x=>∃ F',(∀ b∈F',B≤b)∧P w cs x F') w base e v xs:=⟨cs,h.own,fun i hi=>⟨Fs i,fun b hb=>Nat.le_trans hB (h.ge i hi b hb).1,h.el i hi⟩⟩
 exact hrow.slR hk (fun cs x ⟨F',h1,h2⟩=>hR cs x F' h1 h2) (Le.above_mono hB _)
theorem push (hP:OwLoc k P) (h:RowW k e P w base v xs cs Fs) {X w1:World} {gg cap' H:Nat} {x:α} {F:List Nat} {news:List Value} (hs:w.heap.size≤X.heap.size) (hX:∀ b,base≤b→b<w.heap.size→X.heap[b]?=w.heap[b]?) (hg:X.grownBy w1 v.ownBlock)
  (hn:news.length=k) (hx:P X (fun j=>news.getD j undef) x F) (hF:∀ b∈F,w.heap.size≤b) (hFn:F.Nodup) (hbw:base≤w.heap.size)
  (hown1:w1.ownsRow base e k (.slice (some ⟨gg,0,none⟩) (xs.length+1) cap') (xs.length+1) (cs++news)) (hat:v.ownBlock=some gg∨gg=H) (hH:X.heap.size=H):
  RowW k e P w1 base (.slice (some ⟨gg,0,none⟩) (xs.length+1) cap') (xs++[x]) (cs++news) (fun i=>if i=xs.length then F else Fs i):=by
 have hlen:cs.length=xs.length*k:=h.own.1
 have hlt:∀ g,v.ownBlock=some g→base≤g∧g<w.heap.size:=fun g hv=>owns_base h.own hv
 have ne:∀ b,v.ownBlock≠some b→b<X.heap.size→(Value.slice (some ⟨gg,0,none⟩) (xs.length+1) cap').ownBlock≠some b:=fun b hn hl e=>by
  simp only [Value.ownBlock,Option.some.injEq] at e
  rcases hat with h | h
  ·exact hn (by rw [h,e])
  ·omega
 have hold:∀ i,i<xs.length→∀ b∈Fs i,b<w.heap.size:=fun i hi b hb=>hP.lt (h.el i hi) b hb
 have hFne:∀ b∈F,v.ownBlock≠some b:=fun b hb e=>by have:=hlt _ e; have:=hF b hb; omega
 refine⟨by rw [List.length_append,List.length_singleton]; exact hown1,fun i hi=>?_,?_,fun i hi b hb=>?_⟩
 ·rw [List.length_append,List.length_singleton] at hi
  by_cases hlast:i=xs.length
  ·subst hlast
   rw [List.getElem_append_right (Nat.le_refl _)]
   simp only [Nat.sub_self,List.getElem_cons_zero,if_pos]
   refine hP.congr (fun j hj=>?_) (hP.move hx fun b hb=>World.grownBy.block hg b (hP.lt hx b hb) (fun e=>hFne b hb e.symm))
   show news.getD j undef=(cs++news).getD (xs.length*k+j) undef
   rw [List.getD_eq_getElem?_getD,List.getD_eq_getElem?_getD,List.getElem?_append_right (by omega),hlen,Nat.add_sub_cancel_left]
  ·have hi':i<xs.length:=by omega
   rw [List.getElem_append_left hi',if_neg hlast]
   have h1:(i+1)*k≤xs.length*k:=Nat.mul_le_mul_right k hi'
   rw [Nat.add_mul,Nat.one_mul] at h1
   refine hP.congr (fun j hj=>?_) (hP.move (h.el i hi') fun b hb=>?_)
   ·show cs.getD (i*k+j) undef=(cs++news).getD (i*k+j) undef
    rw [List.getD_eq_getElem?_getD,List.getD_eq_getElem?_getD,List.getElem?_append_left (by omega)]
   ·have hbl:=hold i hi' b hb
    rw [World.grownBy.block hg b (by omega) (fun e=>(h.ge i hi' b hb).2 e.symm)]
    exact hX b (h.ge i hi' b hb).1 hbl
 ·rw [List.length_append,List.length_singleton,List.range_succ,List.map_append,List.flatten_append]
  have e1:(List.range xs.length).map (fun i=>if i=xs.length then F else Fs i)=(List.range xs.length).map Fs:=List.map_congr_left fun i hi=>by
   have:=List.mem_range.1 hi
   rw [if_neg (by omega)]
  rw [e1]
  simp only [List.map_cons,List.map_nil,if_true,List.flatten_cons,List.flatten_nil,List.append_nil]
  refine List.nodup_append.2 ⟨h.nd,hFn,fun a ha b hb e=>?_⟩
  obtain⟨i,hi,hm⟩:=of_mem_ft ha
  have:=hold i hi a hm
  have:=hF b hb
  omega
 ·rw [List.length_append,List.length_singleton] at hi
  have hb:b∈(if i=xs.length then F else Fs i):=hb
  by_cases hlast:i=xs.length
  ·rw [if_pos hlast] at hb
   have:=hF b hb
   exact⟨by omega,ne b (hFne b hb) (hP.lt hx b hb)⟩
  ·rw [if_neg hlast] at hb
   obtain⟨h1,h2⟩:=h.ge i (by omega) b hb
   exact⟨h1,ne b h2 (by have:=hold i (by omega) b hb; omega)⟩
theorem ow (hP:OwLoc k P) (h:RowW k e P w base v xs cs Fs):∃ F,OwRow k e P w v xs F∧F.Nodup∧∀ b∈F,base≤b:=by
 obtain⟨own,el,nd,ge⟩:=h
 obtain⟨hl,h⟩:=own
 rcases h with ⟨rfl,h0⟩ | ⟨g,cap',cur,rfl,hbg,hg,hn,hm,hc,ht⟩
 ·obtain rfl:xs=[]:=List.length_eq_zero_iff.1 h0
  exact⟨[],OwRow.nil,List.nodup_nil,fun b hb=>by cases hb⟩
 ·have hcap:xs.length*k≤cap'*k:=Nat.mul_le_mul_right k hn
  have hml:xs.length≤9223372036854775807:=by unfold maxLen at hm; omega
  have gg:∀ j,j<xs.length*k→cur.getD j undef=cs.getD j undef:=fun j hj=>by
   rw [← ht,List.getD_eq_getElem?_getD,List.getElem?_take,if_pos hj,Array.getElem?_toList]
   simp [Array.getD,show j<cur.size by omega]
  have gs:∀ i,i<cur.size→cur[i]?=some (cur.getD i undef):=fun i h=>by simp [Array.getD,h]
  refine⟨_,OwRow.made (g:=g) (c:=cap') (N:=cap'*k) (G:=fun j=>cur.getD j undef) Fs ⟨cur,hg,hc,fun i hi=>gs i (by omega)⟩ hn hcap hml (fun i hi=>?_),?_,?_⟩
  ·have h1:(i+1)*k≤xs.length*k:=Nat.mul_le_mul_right k hi
   rw [Nat.add_mul,Nat.one_mul] at h1
   exact hP.congr (fun j hj=>(gg _ (by omega)).symm) (el i hi)
  ·rw [List.nodup_cons]
   refine⟨fun hm=>?_,nd⟩
   obtain⟨i,hi,hx⟩:=of_mem_ft hm
   exact (ge i hi g hx).2 rfl
  ·intro b hb
   rcases List.mem_cons.1 hb with rfl | hb
   ·exact hbg
   ·obtain⟨i,hi,hx⟩:=of_mem_ft hb
    exact (ge i hi b hx).1
end RowW
end Go.Proofs.YtojmofnamppbdaaGreat
