/-
  Rows of rows that a call builds; 'append(xs, ys...)' at a step of a region that draws its order. No program in sight. Worlds in which a row of the call's own has been appended to, again and again. No program in sight. Rows of rows whose elements are shared: what they lead to is read, never written. No program in sight. Rows of candidates: what they lead to is read, never written. No walk.
-/
import Derived.Test.YtojmofnamppbdaaSlA
import Derived.Test.YtojmofnamppbdaaInts
namespace Go.Proofs.Ytojmofnamppbdaa
open Go.RowKit
set_option linter.unusedVariables false
set_option maxRecDepth 100000
theorem step_append_list {α:Type} {P:Program} {w:World} {ops:Array Oper} {o:Oper} {a:Act} {K:Act→World→Prop} {QQ:Exit→Act→World→Prop} {E:Prop} (hgd:o.guard=none) (s x:Operand) (t:TypeId) (ho:o.op=.call { callee:=.builtin .append,args:=#[s,x],argTypes:=#[t,t] })
  {k:Nat} {Q:(Nat→Value)→α→Prop} (hQ:∀ (f g:Nat→Value) x,(∀ j,j<k→f j=g j)→Q f x→Q g x) {R:World→(Nat→Value)→α→Prop} (base:Nat) (e:TypeId) (i:TypeInfo) (z:Value) (bytes:Nat) (ht:P.underlying t=some (.slice e)) (hi:P.info? e=some i) (hz:i.zero=some z)
  (hsize:i.size=k) (hby:i.bytes=bytes) (hzs:z.cells.size=k) (hsz:0<k) (v:Value) (xs:List α) (hs:a.eval s=v) (hown:RowOf k Q w base e v xs) (A:Option Addr) (c:Nat) (ys:List α) (hx:a.eval x=.slice A ys.length c) (hy:SlR k R w (.slice A ys.length c) ys)
  (hRQ:∀ cs y,R w cs y→Q cs y) (h1:∀ cs y,Q cs y→∀ j,j<k→(cs j).oneCell'=true) (h63:xs.length+ys.length≤maxLen) (hbytes:(xs.length+ys.length)*bytes≤140737488355328) (hbase:base≤w.heap.size) (H:Nat) (hH:w.heap.size=H)
  (h:∀ A' c' w',RowOf k Q w' base e (.slice A' (xs++ys).length c') (xs++ys)→w.grownBy w' v.ownBlock→(∀ g,(Value.slice A' (xs++ys).length c').ownBlock=some g→v.ownBlock=some g∨g=H)→K (a.put o.dst (.slice A' (xs++ys).length c')) w'):
  if Region.wanted o (yielded ops a.tmps)=true then Oper.wp P o a w K QQ else E:=by
 have hw:Region.wanted o (yielded ops a.tmps)=true:=by simp [Region.wanted,hgd]
 rw [if_pos hw]
 obtain⟨v',w',hr,h2,h3,h4⟩:=run_append_list (P:=P) w hQ t o.type base e i z bytes ht hi hz hsize hby hzs hsz v xs hown A c ys hy hRQ h1 h63 hbytes hbase
 obtain⟨A',c',rfl,_⟩:=h2.slice
 unfold Oper.wp execOp
 simp only [ho,resolve,invoke,builtin,Sem.run_bind,Sem.run_pure,Result.andThen_ok,List.map_toArray,List.map_cons,List.map_nil,hs,hx,hr]
 exact h A' c' w' h2 h3 (fun g hg=>by rw [← hH]; exact h4 g hg)
def rowP {α:Type} (k:Nat) (e:TypeId) (Q:(Nat→Value)→α→Prop):OwP (List α):=fun w cs t F=>RowOf k Q w 0 e (cs 0) t∧F=(cs 0).ownBlock.toList
theorem rowP_loc {α:Type} (k:Nat) (e:TypeId) (Q:(Nat→Value)→α→Prop):OwLoc 1 (rowP k e Q):=
 ⟨fun {w w' cs x F} h hb=>⟨h.1.of_block fun g _ hv _=>hb g (by rw [h.2]; exact mem_own.2 hv),h.2⟩,
 fun {w cs x F} h b hb=>by rw [h.2] at hb; exact (h.1.blk (mem_own.1 hb)).2,
 fun {w cs cs' x F} hc h=>by unfold rowP at h ⊢; rw [← hc 0 (by omega)]; exact h⟩
theorem RowI.single {w:World} {g base:Nat} {n:Int} (h:Own w g 3 #[.int .i64 n]) (hb:base≤g):RowI w base (.slice (some ⟨g,0,none⟩) 1 1) [n]:=
 ⟨[.int .i64 n],⟨rfl,.inr ⟨g,1,_,rfl,hb,h,by simp,by simp [maxLen],by simp,by simp⟩⟩,fun i hi=>by
  obtain rfl:i=0:=by simp at hi; omega
  rfl⟩
end Go.Proofs.Ytojmofnamppbdaa
namespace Go.Proofs.Ytojmofnamppbdaa
open Go.RowKit
set_option linter.unusedVariables false
set_option maxRecDepth 100000
theorem grown_refl (w:World) (r:Option Nat):w.grownBy w r:=⟨rfl,rfl,rfl,Nat.le_refl _,fun _ _ _=>rfl⟩
theorem grown_below {a b c:World} {r:Option Nat} (h:a.grownBy b r) (hb:Below b.heap.size b c):a.grownBy c r:=
 ⟨hb.os.trans (World.grownBy.os h),hb.tape.trans (World.grownBy.tape h),hb.output.trans (World.grownBy.output h),Nat.le_trans (World.grownBy.size h) hb.size,fun k hk hn=>(hb.block k (Nat.lt_of_lt_of_le hk (World.grownBy.size h))).trans (World.grownBy.block h k hk hn)⟩
theorem grown_next {a b c:World} {r s:Option Nat} (h:a.grownBy b r) (k:b.grownBy c s) (hs:∀ g,s=some g→r=some g∨a.heap.size≤g):a.grownBy c r:=
 ⟨(World.grownBy.os k).trans (World.grownBy.os h),(World.grownBy.tape k).trans (World.grownBy.tape h),(World.grownBy.output k).trans (World.grownBy.output h),Nat.le_trans (World.grownBy.size h) (World.grownBy.size k),fun i hi hn=>
  (World.grownBy.block k i (Nat.lt_of_lt_of_le hi (World.grownBy.size h)) (fun e=>by
   rcases hs i e.symm with h1 | h1
   ·exact hn h1.symm
   ·omega)).trans (World.grownBy.block h i hi hn)⟩
theorem below_of_grown {B:Nat} {w a b:World} {r:Option Nat} (h:Below B w a) (k:a.grownBy b r) (hB:B≤a.heap.size) (hr:∀ g,r=some g→B≤g):Below B w b:=
 ⟨(World.grownBy.os k).trans h.os,(World.grownBy.tape k).trans h.tape,(World.grownBy.output k).trans h.output,Nat.le_trans h.size (World.grownBy.size k),fun i hi=>(World.grownBy.block k i (by omega) (fun e=>by have:=hr i e.symm; omega)).trans (h.block i hi)⟩
theorem Le.above_grown {B:Nat} {a b:World} {r:Option Nat} (h:a.grownBy b r) (hr:∀ g,r=some g→g<B):Le (Go.Proofs.Ytojmofnamppbdaa.above B a) (Go.Proofs.Ytojmofnamppbdaa.above B b):=fun x v hc=>by
 obtain⟨h1,h2⟩:=cell_above_lt hc
 refine cell_above_of h1 ?_
 rw [World.cell?_of_block (w:=a) (World.grownBy.block h x.block (World.block_lt_of_cell? _ _ h2) (fun e=>by have:=hr _ e.symm; omega))]
 exact h2
def RowFrom (v:Value) (a:World) (v':Value):Prop:=∀ g,v'.ownBlock=some g→v.ownBlock=some g∨a.heap.size≤g
theorem RowFrom.refl (v:Value) (a:World):RowFrom v a v:=fun g h=>.inl h
theorem RowFrom.next {v v':Value} {a:World} {gg H n c:Nat} (h:RowFrom v a v') (hat:v'.ownBlock=some gg∨gg=H) (hH:a.heap.size≤H):RowFrom v a (.slice (some ⟨gg,0,none⟩) n c):=fun g hg=>by
 simp only [Value.ownBlock,Option.some.injEq] at hg
 subst hg
 rcases hat with e | e
 ·exact h _ e
 ·exact .inr (by omega)
theorem Ints.take {w:World} {A:Option Addr} {c:Nat} {xs:List Int} (h:Ints w A c xs) (i:Nat) (hi:i≤xs.length):Ints w A c (xs.take i):=by
 have hl:=h.len
 obtain⟨A',c',e,_,h⟩:=h
 injection e with e1 e2 e3
 subst e1
 refine⟨_,_,rfl,by rw [List.length_take]; omega,fun j hj=>?_⟩
 rw [List.length_take] at hj
 obtain⟨b,o,h1,cs,h2,h3⟩:=h j (by omega)
 exact⟨b,o,h1,cs,h2,by rw [List.getElem_take]; exact h3⟩
end Go.Proofs.Ytojmofnamppbdaa
namespace Go.Proofs.Ytojmofnamppbdaa
open Go.RowKit
set_option linter.unusedVariables false
set_option maxRecDepth 100000
def far (B:Nat) (r:Option Nat) (w:World):World:=keepW (fun b=>B≤b∧¬ r=some b) w
theorem far_of {B:Nat} {r:Option Nat} {w:World} {x:Addr} {v:Value} (h1:B≤x.block) (h2:¬ r=some x.block) (h:w.cell? x=some v):(far B r w).cell? x=some v:=cell_keepW_of ⟨h1,h2⟩ h
theorem of_far {B:Nat} {r:Option Nat} {w:World} {x:Addr} {v:Value} (h:(far B r w).cell? x=some v):B≤x.block∧¬ r=some x.block∧w.cell? x=some v:=
 let h':=of_cell_keepW h
 ⟨h'.1.1,h'.1.2,h'.2⟩
theorem Le.far_below {B:Nat} {a b:World} {r:Option Nat} (h:Below a.heap.size a b):Le (far B r a) (far B r b):=fun x v hc=>by
 obtain⟨h1,h2,h3⟩:=of_far hc
 exact far_of h1 h2 (Le.below h _ _ h3)
theorem rint_le:∀ a a' (cs:Nat→Value) (x:Int),Le a a'→RInt a cs x→RInt a' cs x:=fun _ _ _ _ _ h=>h
theorem rints_le:∀ a a' (cs:Nat→Value) (x:List Int),Le a a'→RSub 1 RInt a cs x→RSub 1 RInt a' cs x:=RSub.le rint_le
theorem rintss_le:∀ a a' (cs:Nat→Value) (x:List (List Int)),Le a a'→RSub 1 (RSub 1 RInt) a cs x→RSub 1 (RSub 1 RInt) a' cs x:=RSub.le rints_le
abbrev I3 (w:World) (A:Option Addr) (c:Nat) (xs:List (List (List Int))):Prop:=SlR 1 (RSub 1 (RSub 1 RInt)) w (.slice A xs.length c) xs
theorem I3.le {w w':World} {A:Option Addr} {c:Nat} {xs:List (List (List Int))} (h:I3 w A c xs) (hl:Le w w'):I3 w' A c xs:=SlR.le' rintss_le h hl
theorem I3.len {w:World} {A:Option Addr} {c:Nat} {xs:List (List (List Int))} (h:I3 w A c xs):xs.length≤9223372036854775807:=h.slice.elim fun _ h=>h.elim fun _ h=>h.2
def QS (W:World) (cs:Nat→Value) (xs:List Int):Prop:=RSub 1 RInt W cs xs
theorem QS.le {W W':World} (h:Le W W') (cs:Nat→Value) (x:List Int) (k:QS W cs x):QS W' cs x:=rints_le _ _ _ _ h k
theorem RowW.imp {α:Type} {k:Nat} {e:TypeId} {P P':OwP α} {w:World} {base:Nat} {v:Value} {xs:List α} {cs:List Value} {Fs:Nat→List Nat} (h:RowW k e P w base v xs cs Fs) (hP:∀ cs x F,P w cs x F→P' w cs x F):RowW k e P' w base v xs cs Fs:=
 ⟨h.own,fun i hi=>hP _ _ _ (h.el i hi),h.nd,h.ge⟩
abbrev Rows3 (w:World) (base B:Nat) (v:Value) (xs:List (List (List Int))) (cs:List Value) (Fs:Nat→List Nat):Prop:=RowW 1 45 (rowP 1 23 (QS (far B v.ownBlock w))) w base v xs cs Fs
theorem rowP_imp {α:Type} {k:Nat} {e:TypeId} {Q Q':(Nat→Value)→α→Prop} (h:∀ cs x,Q cs x→Q' cs x):∀ (w:World) (cs:Nat→Value) (x:List α) (F:List Nat),rowP k e Q w cs x F→rowP k e Q' w cs x F:=fun w cs x F hp=>⟨hp.1.imp h,hp.2⟩
theorem Rows3.below {w w':World} {base B:Nat} {v:Value} {xs:List (List (List Int))} {cs:List Value} {Fs:Nat→List Nat} (h:Rows3 w base B v xs cs Fs) (hb:Below w.heap.size w w'):Rows3 w' base B v xs cs Fs:=
 (RowW.below (rowP_loc _ _ _) h hb).imp (rowP_imp (QS.le (Le.far_below hb)) w')
end Go.Proofs.Ytojmofnamppbdaa
namespace Go.Proofs.Ytojmofnamppbdaa
open Go.RowKit
set_option linter.unusedVariables false
set_option maxRecDepth 100000
def RX (w:World) (cs:Nat→Value) (x:Ex):Prop:=∃ A c B d,cs 0=.slice A x.from_.length c∧cs 1=.slice B x.order.length d∧RepX w A c B d x
theorem rx_le:∀ a a' (cs:Nat→Value) (x:Ex),Le a a'→RX a cs x→RX a' cs x:=fun _ _ _ _ h ⟨A,c,B,d,h1,h2,h3⟩=>⟨A,c,B,d,h1,h2,h3.le h⟩
abbrev ExS (w:World) (v:Value) (xs:List Ex):Prop:=SlR 2 RX w v xs
theorem ExS.le {w w':World} {v:Value} {xs:List Ex} (h:ExS w v xs) (hl:Le w w'):ExS w' v xs:=SlR.le' rx_le h hl
end Go.Proofs.Ytojmofnamppbdaa
