/-
  Programs that a call builds itself: a row of threads, each thread a row in a block of its own; one thread gets an instruction more. No program in sight. Programs whose threads' slices have room for what they hold. No program in sight. 'append(xs, ys...)' where xs is the call's own row and ys whatever slice that can be read, nil and empty too. No program in sight.
-/
import Derived.Test.YtojmofnamppbdaaGreatOwA
import Derived.Test.YtojmofnamppbdaaGreatPrg
import Derived.Maps.AppendAt
namespace Go.Proofs.YtojmofnamppbdaaGreat
open Go.RowKit
set_option linter.unusedVariables false
set_option maxRecDepth 100000
theorem RowOf.rebase {α:Type} {k:Nat} {Q:(Nat→Value)→α→Prop} {w:World} {base base':Nat} {e:TypeId} {v:Value} {xs:List α} (h:RowOf k Q w base e v xs) (hb:∀ g,v.ownBlock=some g→base'≤g):RowOf k Q w base' e v xs:=by
 obtain⟨cs,⟨h1,h3⟩,h2⟩:=h
 refine⟨cs,⟨h1,?_⟩,h2⟩
 rcases h3 with h3 | ⟨g,cap,cur,rfl,hbg,hg,rest⟩
 ·exact .inl h3
 ·exact .inr ⟨g,cap,cur,rfl,hb g rfl,hg,rest⟩
theorem RowOf.blk {α:Type} {k:Nat} {Q:(Nat→Value)→α→Prop} {w:World} {base:Nat} {e:TypeId} {v:Value} {xs:List α} (h:RowOf k Q w base e v xs) {g:Nat} (hv:v.ownBlock=some g):base≤g∧g<w.heap.size:=by
 obtain⟨cs,h1,_⟩:=h
 exact owns_base h1 hv
theorem RowOf.below {α:Type} {k:Nat} {Q:(Nat→Value)→α→Prop} {w w':World} {base:Nat} {e:TypeId} {v:Value} {xs:List α} (h:RowOf k Q w base e v xs) (hb:Below w.heap.size w w'):RowOf k Q w' base e v xs:=h.of_block fun g _ _ hl=>hb.block g hl
theorem nodup_ft {n:Nat} {Fs:Nat→List Nat}:((List.range n).map Fs).flatten.Nodup↔(∀ i,i<n→(Fs i).Nodup)∧∀ i j,i<n→j<n→i≠j→∀ x∈Fs i,x∉Fs j:=by
 unfold List.Nodup
 rw [List.pairwise_flatten,List.pairwise_map]
 constructor
 ·rintro ⟨h1,h2⟩
  refine⟨fun i hi=>h1 _ (List.mem_map.2 ⟨i,List.mem_range.2 hi,rfl⟩),fun i j hi hj hne x hx hx'=>?_⟩
  have h3:=List.pairwise_iff_getElem.1 h2
  rcases Nat.lt_or_gt_of_ne hne with h | h
  ·exact h3 i j (by simpa using hi) (by simpa using hj) h x (by simpa using hx) x (by simpa using hx') rfl
  ·exact h3 j i (by simpa using hj) (by simpa using hi) h x (by simpa using hx') x (by simpa using hx) rfl
 ·rintro ⟨h1,h2⟩
  refine⟨fun l hl=>?_,List.pairwise_iff_getElem.2 fun i j hi hj hij x hx y hy e=>?_⟩
  ·obtain⟨i,hi,rfl⟩:=List.mem_map.1 hl
   exact h1 i (List.mem_range.1 hi)
  ·subst e
   exact h2 i j (by simpa using hi) (by simpa using hj) (by omega) x (by simpa using hx) (by simpa using hy)
namespace RowW
variable {α:Type} {e:TypeId} {P:OwP α} {w w':World} {base:Nat} {v:Value} {xs:List α} {cs:List Value} {Fs:Nat→List Nat}
theorem elem1 (hP:OwLoc 1 P) (h:RowW 1 e P w base v xs cs Fs) {i:Nat} (hi:i<xs.length):
  ∃ g c,v=.slice (some ⟨g,0,none⟩) xs.length c∧base≤g∧g<w.heap.size∧w.cell? ⟨g,i,none⟩=some (cs.getD i undef)∧w.frozen? ⟨g,i,none⟩=false∧P w (fun _=>cs.getD i undef) xs[i] (Fs i)∧(Fs i).Nodup∧(∀ b∈Fs i,base≤b∧b≠g)∧xs.length≤c∧c≤9223372036854775807:=by
 have hel:=h.el i hi
 have hnd:=(nodup_ft.1 h.nd).1 i hi
 have hge:=h.ge i hi
 obtain⟨hl,h3⟩:=h.own
 rcases h3 with ⟨_,h0⟩ | ⟨g,cap,cur,rfl,hb,hg,hn,hm,hc,ht⟩
 ·omega
 ·have h1:cs[i]?=cur.toList[i]?:=by rw [← ht,List.getElem?_take,if_pos (by omega)]
  have h2:i<cs.length:=by omega
  refine⟨g,cap,rfl,hb,(Array.getElem?_eq_some_iff.1 hg).elim fun h _=>h,?_,?_,?_,hnd,fun b hb=>⟨(hge b hb).1,fun e=>(hge b hb).2 (by rw [e]; rfl)⟩,hn,by unfold maxLen at hm; exact hm⟩
  ·rw [cell_of_row w g i cur e (0,0) hg,← Array.getElem?_toList,← h1,List.getElem?_eq_getElem h2,List.getD_eq_getElem?_getD,List.getElem?_eq_getElem h2]
   rfl
  ·simp [World.frozen?,hg]
  ·refine hP.congr (fun j hj=>?_) hel
   obtain rfl:j=0:=by omega
   simp
theorem set (hP:OwLoc 1 P) {V:World} {g n c i:Nat} {nv:Value} {x:α} {F:List Nat} (h:RowW 1 e P w base (.slice (some ⟨g,0,none⟩) n c) xs cs Fs) (hi:i<xs.length) (hs:w.heap.size≤V.heap.size) (hV:∀ b,base≤b→b<w.heap.size→b∉Fs i→V.heap[b]?=w.heap[b]?)
  (hx:P V (fun _=>nv) x F) (hFn:F.Nodup) (hF:∀ b∈F,base≤b∧(b∈Fs i∨w.heap.size≤b)):
  RowW 1 e P (V.setCell ⟨g,i,none⟩ nv) base (.slice (some ⟨g,0,none⟩) n c) (xs.set i x) (cs.set i nv) (fun j=>if j=i then F else Fs j):=by
 obtain⟨⟨hl,h3⟩,hel,hnd,hge⟩:=h
 rcases h3 with ⟨hv,_⟩ | ⟨g',cap,cur,hv,hb,hg,hn,hm,hc,ht⟩
 ·cases hv
 ·injection hv with e1 e2 e3
  injection e1 with e1
  injection e1 with e1
  subst e1 e2 e3
  have hgl:g<w.heap.size:=(Array.getElem?_eq_some_iff.1 hg).elim fun h _=>h
  have hgn:∀ j,j<xs.length→g∉Fs j:=fun j hj hm=>(hge j hj g hm).2 rfl
  have hVg:V.heap[g]?=some (.cells cur e (0,0)):=(hV g hb hgl (hgn i hi)).trans hg
  obtain⟨hn1,hn2⟩:=nodup_ft.1 hnd
  have hset:(V.setCell ⟨g,i,none⟩ nv).heap[g]?=some (.cells (cur.setIfInBounds i nv) e (0,0)):=by
   have:=(show Own V g e cur from hVg).set i nv
   exact this
  have hother:∀ b,b≠g→(V.setCell ⟨g,i,none⟩ nv).heap[b]?=V.heap[b]?:=fun b hb=>Below.heap_setCell _ _ _ _ hb
  have hFg:∀ b∈F,b≠g:=fun b hb e=>by
   rcases (hF b hb).2 with h | h
   ·exact hgn i hi (by rw [← e]; exact h)
   ·omega
  refine⟨⟨by simp [hl],.inr ⟨g,c,_,by simp,hb,hset,by simpa using hn,hm,by simpa using hc,?_⟩⟩,fun j hj=>?_,?_,fun j hj b hb'=>?_⟩
  ·rw [List.length_set,← ht]
   simp [List.take_set]
  ·rw [List.length_set] at hj
   by_cases hji:j=i
   ·subst hji
    rw [List.getElem_set_self,if_pos rfl]
    refine hP.congr (fun t ht=>?_) (hP.move hx fun b hb=>hother b (hFg b hb))
    obtain rfl:t=0:=by omega
    have:j<cs.length:=by omega
    simp [this]
   ·rw [List.getElem_set_ne (fun e=>hji e.symm),if_neg hji]
    refine hP.congr (fun t ht=>?_) (hP.move (hel j hj) fun b hb=>?_)
    ·obtain rfl:t=0:=by omega
     simp [List.getElem?_set_ne (fun e:i=j=>hji e.symm)]
    ·have hlt:=hP.lt (hel j hj) b hb
     rw [hother b (fun e=>hgn j hj (by rw [← e]; exact hb))]
     exact hV b (hge j hj b hb).1 hlt (hn2 j i hj hi hji b hb)
  ·rw [List.length_set]
   refine nodup_ft.2 ⟨fun j hj=>?_,fun j k hj hk hne x hx hx'=>?_⟩
   ·by_cases hji:j=i
    ·rw [if_pos hji]; exact hFn
    ·rw [if_neg hji]; exact hn1 j hj
   ·have old:∀ j,j<xs.length→j≠i→∀ x∈Fs j,x∉F:=fun j hj hne x hx hx'=>by
     rcases (hF x hx').2 with h | h
     ·exact hn2 j i hj hi hne x hx h
     ·have:=hP.lt (hel j hj) x hx
      omega
    by_cases hji:j=i
    ·have hki:k≠i:=fun e=>hne (by omega)
     rw [if_pos hji] at hx
     rw [if_neg hki] at hx'
     exact old k hk hki x hx' hx
    ·rw [if_neg hji] at hx
     by_cases hki:k=i
     ·rw [if_pos hki] at hx'
      exact old j hj hji x hx hx'
     ·rw [if_neg hki] at hx'
      exact hn2 j k hj hk hne x hx hx'
  ·rw [List.length_set] at hj
   by_cases hji:j=i
   ·simp only [if_pos hji] at hb'
    exact⟨(hF b hb').1,fun e=>hFg b hb' (by simp only [Value.ownBlock,Option.some.injEq] at e; exact e.symm)⟩
   ·simp only [if_neg hji] at hb'
    exact hge j hj b hb'
end RowW
def QIn (cs:Nat→Value) (x:Ins):Prop:=cs 0=.int .i64 x.op∧cs 1=.int .i64 x.loc∧cs 2=.int .i64 x.reg∧cs 3=.int .i64 x.val
theorem qin_congr:∀ (f g:Nat→Value) (x:Ins),(∀ j,j<4→f j=g j)→QIn f x→QIn g x:=fun f g x h hq=>
 ⟨(h 0 (by omega)).symm.trans hq.1,(h 1 (by omega)).symm.trans hq.2.1,(h 2 (by omega)).symm.trans hq.2.2.1,(h 3 (by omega)).symm.trans hq.2.2.2⟩
abbrev RowT (w:World) (base:Nat) (v:Value) (t:List Ins):Prop:=RowOf 4 QIn w base 50 v t
def thr:OwP (List Ins):=fun w cs t F=>RowT w 0 (cs 0) t∧F=(cs 0).ownBlock.toList
theorem mem_own {v:Value} {b:Nat}:b∈v.ownBlock.toList↔v.ownBlock=some b:=by simp
theorem thr_loc:OwLoc 1 thr:=
 ⟨fun {w w' cs x F} h hb=>⟨h.1.of_block fun g _ hv _=>hb g (by rw [h.2]; exact mem_own.2 hv),h.2⟩,
 fun {w cs x F} h b hb=>by rw [h.2] at hb; exact (h.1.blk (mem_own.1 hb)).2,
 fun {w cs cs' x F} hc h=>by unfold thr at h ⊢; rw [← hc 0 (by omega)]; exact h⟩
theorem RowT.thr {w:World} {base:Nat} {v:Value} {t:List Ins} (h:RowT w base v t):thr w (fun _=>v) t v.ownBlock.toList:=⟨h.rebase fun _ _=>Nat.zero_le _,rfl⟩
theorem own_nodup (v:Value):v.ownBlock.toList.Nodup:=by cases v.ownBlock <;> simp
abbrev PrgW (w:World) (base:Nat) (v:Value) (p:Prg) (cs:List Value) (Fs:Nat→List Nat):Prop:=RowW 1 48 thr w base v p cs Fs
theorem PrgW.prgS {w:World} {base:Nat} {v:Value} {p:Prg} {cs:List Value} {Fs:Nat→List Nat} (h:PrgW w base v p cs Fs):PrgS (above base w) v p:=
 h.slR (by omega) (Nat.le_refl _) fun cs x F' hF h=>by
  have hs:=h.1.slR' (k:=4) (R:=RIns) (a:=above base w) (by omega) (fun cs x h=>h) (fun g o u _ hv hc=>cell_above_of (by have:=hF g (by rw [h.2]; exact mem_own.2 hv); show base≤g; omega) hc)
  obtain⟨A,c,e,_⟩:=hs.slice
  exact⟨A,c,e,by rw [← e]; exact hs⟩
theorem SlR.tail {α:Type} {k:Nat} {R:World→(Nat→Value)→α→Prop} {w:World} {b o n c:Nat} {x:α} {xs:List α} (h:SlR k R w (.slice (some ⟨b,o,none⟩) n c) (x::xs)) (c':Nat):SlR k R w (.slice (some ⟨b,o+k,none⟩) xs.length c') xs:=by
 obtain⟨A,c0,e,hm,h⟩:=h
 injection e with e1 e2 e3
 subst e1
 refine⟨_,_,rfl,by simp at hm; omega,fun i hi=>?_⟩
 obtain⟨b',o',e,cs,h1,h2⟩:=h (i+1) (by simpa using hi)
 injection e with e
 injection e with e1 e2
 subst e1 e2
 refine⟨b,o+k,rfl,cs,fun j hj=>?_,by simpa using h2⟩
 have:=h1 j hj
 rw [Nat.add_mul,Nat.one_mul] at this
 rw [show o+k+i*k+j=o+(i*k+k)+j by omega]
 exact this
end Go.Proofs.YtojmofnamppbdaaGreat
namespace Go.Proofs.YtojmofnamppbdaaGreat
open Go.RowKit
set_option linter.unusedVariables false
set_option maxRecDepth 100000
def Room (w:World) (v:Value) (p:Prg):Prop:=∀ b o n c,v=.slice (some ⟨b,o,none⟩) n c→∀ t (h:t<p.length) A m c',w.cell? ⟨b,o+t,none⟩=some (.slice A m c')→m≤c'
theorem Room.le {w w':World} {v:Value} {p:Prg} (h:Room w v p) (hp:PrgS w v p) (hl:Le w w'):Room w' v p:=fun b o n c e t ht A m c' hc=>by
 subst e
 obtain⟨_,_,A',c'',e1,_,h3,_,_⟩:=SlR.getSub hp ht
 injection e1 with e1
 injection e1 with e1 e2
 subst e1 e2
 have:=hl _ _ h3
 rw [hc] at this
 injection this with this
 injection this with e3 e4 e5
 subst e3 e4 e5
 exact h _ _ _ _ rfl t ht _ _ _ h3
def PrgQ (w:World) (v:Value) (p:Prg):Prop:=PrgS w v p∧Room w v p
theorem PrgQ.le {w w':World} {v:Value} {p:Prg} (h:PrgQ w v p) (hl:Le w w'):PrgQ w' v p:=⟨PrgS.le h.1 hl,h.2.le h.1 hl⟩
theorem PrgQ.nil (w:World) (A:Option Addr) (c:Nat):PrgQ w (.slice A 0 c) []:=⟨⟨_,_,rfl,by simp,fun i hi=>absurd hi (Nat.not_lt_zero _)⟩,fun b o n c e t ht=>absurd ht (Nat.not_lt_zero _)⟩
theorem RowT.cap {w:World} {base:Nat} {A:Option Addr} {m c:Nat} {t:List Ins} (h:RowT w base (.slice A m c) t):m≤c:=by
 obtain⟨cs,⟨_,h⟩,_⟩:=h
 rcases h with ⟨e,_⟩ | ⟨g,cap,cur,e,_,_,hn,_⟩
 ·injection e with e1 e2 e3
  omega
 ·injection e with e1 e2 e3
  omega
theorem PrgW.room {w:World} {base:Nat} {v:Value} {p:Prg} {cs:List Value} {Fs:Nat→List Nat} (h:PrgW w base v p cs Fs):Room w v p:=by
 intro b o n c e t ht A m c' hc
 subst e
 obtain⟨g',c0,e0,_,_,hcell,_,hth,_⟩:=h.elem1 thr_loc ht
 injection e0 with e1 _ _
 injection e1 with e1
 injection e1 with e1 e2
 subst e1 e2
 rw [Nat.zero_add,hcell] at hc
 injection hc with hc
 have h1:=hth.1
 simp only [hc] at h1
 exact RowT.cap h1
theorem PrgW.prgQ {w:World} {base:Nat} {v:Value} {p:Prg} {cs:List Value} {Fs:Nat→List Nat} (h:PrgW w base v p cs Fs):PrgQ (above base w) v p:=
 ⟨h.prgS,fun b o n c e t ht A m c' hc=>h.room b o n c e t ht A m c' (cell_above_lt hc).2⟩
theorem PrgQ.tail {w:World} {b o n c:Nat} {t:List Ins} {p:Prg} (h:PrgQ w (.slice (some ⟨b,o,none⟩) n c) (t::p)) (c':Nat):PrgQ w (.slice (some ⟨b,o+1,none⟩) p.length c') p:=
 ⟨SlR.tail h.1 c',fun b' o' n' c'' e i hi A m d hc=>by
  injection e with e1 _ _
  injection e1 with e1
  injection e1 with e1 e2
  subst e1 e2
  exact h.2 _ _ _ _ rfl (i+1) (by simpa using hi) A m d (by rw [← hc]; congr 2; omega)⟩
end Go.Proofs.YtojmofnamppbdaaGreat
namespace Go.Proofs.YtojmofnamppbdaaGreat
open Go.RowKit
set_option linter.unusedVariables false
set_option maxRecDepth 100000
theorem RowOf.slice {α:Type} {k:Nat} {Q:(Nat→Value)→α→Prop} {w:World} {base:Nat} {e:TypeId} {v:Value} {xs:List α} (h:RowOf k Q w base e v xs):∃ A c,v=.slice A xs.length c∧xs.length≤c∧c≤9223372036854775807:=by
 obtain⟨cs,h1,_⟩:=h
 rcases h1.2 with ⟨rfl,h0⟩ | ⟨g,cap,cur,rfl,_,_,hn,hm,_⟩
 ·exact⟨none,0,by rw [h0],by omega,by omega⟩
 ·exact⟨_,_,rfl,hn,by unfold maxLen at hm; exact hm⟩
theorem RowOf.more {α:Type} {k:Nat} {Q:(Nat→Value)→α→Prop} (hQ:∀ (f g:Nat→Value) x,(∀ j,j<k→f j=g j)→Q f x→Q g x) {w w':World} {base:Nat} {e:TypeId} {v v':Value} {xs ys:List α} {cs news:List Value} (h:w.ownsRow base e k v xs.length cs) (hcs:∀ i (h:i<xs.length),Q (fun j=>cs.getD (i*k+j) undef) xs[i])
  (hn:news.length=ys.length*k) (hx:∀ i (hi:i<ys.length),Q (fun j=>news.getD (i*k+j) undef) ys[i]) (h':w'.ownsRow base e k v' (xs.length+ys.length) (cs++news)):RowOf k Q w' base e v' (xs++ys):=by
 have hl:=h.1
 refine⟨cs++news,by simpa using h',fun i hi=>?_⟩
 rw [List.length_append] at hi
 by_cases hlt:i<xs.length
 ·rw [List.getElem_append_left hlt]
  refine hQ _ _ _ (fun j hj=>?_) (hcs i hlt)
  have h1:i*k+j<cs.length:=by
   have h1:(i+1)*k≤xs.length*k:=Nat.mul_le_mul_right k hlt
   rw [Nat.add_mul,Nat.one_mul] at h1
   omega
  simp only [List.getD_eq_getElem?_getD]
  rw [List.getElem?_append_left h1]
 ·rw [List.getElem_append_right (by omega)]
  refine hQ _ _ _ (fun j hj=>?_) (hx (i-xs.length) (by omega))
  simp only [List.getD_eq_getElem?_getD]
  have e1:i*k=xs.length*k+(i-xs.length)*k:=by rw [← Nat.add_mul]; congr 1; omega
  rw [List.getElem?_append_right (by omega),hl,show i*k+j-xs.length*k=(i-xs.length)*k+j by omega]
theorem run_append_nilx {P:Program} (w:World) (t ty e:TypeId) (i:TypeInfo) (ht:P.underlying t=some (.slice e)) (hi:P.info? e=some i) (base k:Nat) (v:Value) (n:Nat) (cs:List Value) (h:w.ownsRow base e k v n cs) (c:Nat):
  (Builtin.append_ #[t,t] ty #[v,.slice none 0 c]).run P w=.ok v w:=by
 rcases h.2 with ⟨rfl,rfl⟩ | ⟨g,cap,cur,rfl,_,_,hn,_⟩
 ·simp [Builtin.append_,run_underlying ht,sizeOf,typeInfo,hi,Builtin.lenOf,Builtin.firstCells]
 ·exact run_append_empty w t ty e i ht hi g 0 n cap hn none c
theorem run_append_list {α:Type} {P:Program} (w:World) {k:Nat} {Q:(Nat→Value)→α→Prop} (hQ:∀ (f g:Nat→Value) x,(∀ j,j<k→f j=g j)→Q f x→Q g x) {R:World→(Nat→Value)→α→Prop} (t ty:TypeId) (base:Nat) (e:TypeId) (i:TypeInfo) (z:Value) (bytes:Nat) (ht:P.underlying t=some (.slice e)) (hi:P.info? e=some i) (hz:i.zero=some z)
  (hsize:i.size=k) (hby:i.bytes=bytes) (hzs:z.cells.size=k) (hsz:0<k) (v:Value) (xs:List α) (hown:RowOf k Q w base e v xs) (A:Option Addr) (c:Nat) (ys:List α) (hy:SlR k R w (.slice A ys.length c) ys)
  (hRQ:∀ cs y,R w cs y→Q cs y) (h1:∀ cs y,Q cs y→∀ j,j<k→(cs j).oneCell'=true) (h63:xs.length+ys.length≤maxLen) (hbytes:(xs.length+ys.length)*bytes≤140737488355328) (hbase:base≤w.heap.size):
  ∃ v' w',(Builtin.append_ #[t,t] ty #[v,.slice A ys.length c]).run P w=.ok v' w'∧RowOf k Q w' base e v' (xs++ys)∧w.grownBy w' v.ownBlock∧(∀ g,v'.ownBlock=some g→v.ownBlock=some g∨g=w.heap.size):=by
 have hnil:A=none→ys.length=0:=fun e=>by
  rcases Nat.eq_zero_or_pos ys.length with h | h
  ·exact h
  ·obtain⟨b,o,e1,_⟩:=SlR.news hy hsz h
   rw [e] at e1; cases e1
 obtain⟨cs,ho,hq⟩:=hown
 cases A with
 | none=>
  have h0:=hnil rfl
  obtain rfl:ys=[]:=List.length_eq_zero_iff.1 h0
  refine⟨v,w,run_append_nilx w t ty e i ht hi base k v _ cs ho c,by rw [List.append_nil]; exact⟨cs,ho,hq⟩,⟨rfl,rfl,rfl,Nat.le_refl _,fun _ _ _=>rfl⟩,fun g hg=>.inl hg⟩
 | some a=>
  rcases Nat.eq_zero_or_pos ys.length with h0 | hpos
  ·obtain⟨v',w',hr,h2,h3,h4,h5⟩:=run_append_own_at (P:=P) w base t ty e i z k bytes ht hi hz hsize hby hzs hsz v xs.length cs ho a 0 c [] (by simp) (fun j u h=>by simp at h) (fun u h=>by cases h) (by omega) (by rw [h0] at hbytes; exact hbytes) hbase
   obtain rfl:ys=[]:=List.length_eq_zero_iff.1 h0
   refine⟨v',w',hr,?_,h3,fun g hg=>?_⟩
   ·rw [List.append_nil]
    rw [List.append_nil,Nat.add_zero] at h2
    exact⟨cs,h2,hq⟩
   ·rcases h5 with h5 | h5
    ·exact .inl (by rw [← h5]; exact hg)
    ·right; rw [h5] at hg; injection hg with hg; exact hg.symm
  ·obtain⟨b,o,e1,news,hnl,hnw,hnr⟩:=SlR.news hy hsz hpos
   obtain rfl:a=⟨b,o,none⟩:=by injection e1
   have hnq:∀ i (hi:i<ys.length),Q (fun j=>news.getD (i*k+j) undef) ys[i]:=fun i hi=>by
    obtain⟨cs,h1,h2⟩:=hnr i hi
    exact hQ _ _ _ h1 (hRQ _ _ h2)
   obtain⟨v',w',hr,h2,h3,h4,h5⟩:=run_append_own_at (P:=P) w base t ty e i z k bytes ht hi hz hsize hby hzs hsz v xs.length cs ho ⟨b,o,none⟩ ys.length c news hnl hnw (news_one hsz hnl fun i hi j hj=>h1 _ _ (hnq i hi) j hj) h63 hbytes hbase
   refine⟨v',w',hr,RowOf.more hQ ho hq hnl hnq h2,h3,fun g hg=>?_⟩
   rcases h5 with h5 | h5
   ·exact .inl (by rw [← h5]; exact hg)
   ·right; rw [h5] at hg; injection hg with hg; exact hg.symm
theorem wpList_append_list {α:Type} {P:Program} {w:World} {ops:Array Oper} {rest:List Oper} {o:Oper} {a:Act} {QQ:Exit→Act→World→Prop} (hgd:o.guard=none) (s x:Operand) (t:TypeId) (ho:o.op=.call { callee:=.builtin .append,args:=#[s,x],argTypes:=#[t,t] })
  {k:Nat} {Q:(Nat→Value)→α→Prop} (hQ:∀ (f g:Nat→Value) x,(∀ j,j<k→f j=g j)→Q f x→Q g x) {R:World→(Nat→Value)→α→Prop} (base:Nat) (e:TypeId) (i:TypeInfo) (z:Value) (bytes:Nat) (ht:P.underlying t=some (.slice e)) (hi:P.info? e=some i) (hz:i.zero=some z)
  (hsize:i.size=k) (hby:i.bytes=bytes) (hzs:z.cells.size=k) (hsz:0<k) (v:Value) (xs:List α) (hs:a.eval s=v) (hown:RowOf k Q w base e v xs) (A:Option Addr) (c:Nat) (ys:List α) (hx:a.eval x=.slice A ys.length c) (hy:SlR k R w (.slice A ys.length c) ys)
  (hRQ:∀ cs y,R w cs y→Q cs y) (h1:∀ cs y,Q cs y→∀ j,j<k→(cs j).oneCell'=true) (h63:xs.length+ys.length≤maxLen) (hbytes:(xs.length+ys.length)*bytes≤140737488355328) (hbase:base≤w.heap.size) (H:Nat) (hH:w.heap.size=H)
  (h:∀ A' c' w',RowOf k Q w' base e (.slice A' (xs++ys).length c') (xs++ys)→w.grownBy w' v.ownBlock→(∀ g,(Value.slice A' (xs++ys).length c').ownBlock=some g→v.ownBlock=some g∨g=H)→wpList P ops QQ rest (a.put o.dst (.slice A' (xs++ys).length c')) w'):wpList P ops QQ (o::rest) a w:=
 wpList_plain hgd fun _ hK=>by
  obtain⟨v',w',hr,h2,h3,h4⟩:=run_append_list (P:=P) w hQ t o.type base e i z bytes ht hi hz hsize hby hzs hsz v xs hown A c ys hy hRQ h1 h63 hbytes hbase
  obtain⟨A',c',rfl,_⟩:=h2.slice
  unfold Oper.wp execOp
  simp only [ho,resolve,invoke,builtin,Sem.run_bind,Sem.run_pure,Result.andThen_ok,List.map_toArray,List.map_cons,List.map_nil,hs,hx,hr]
  exact hK _ _ (h A' c' w' h2 h3 (fun g hg=>by rw [← hH]; exact h4 g hg))
end Go.Proofs.YtojmofnamppbdaaGreat
