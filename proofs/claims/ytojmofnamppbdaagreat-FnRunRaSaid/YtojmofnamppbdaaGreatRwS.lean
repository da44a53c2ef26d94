/-
  Rows of rows that a call builds; 'append(xs, ys...)' at a step of a region that draws its order. No program in sight. Worlds in which a row of the call's own has been appended to, again and again. No program in sight. Rows of rows whose elements are shared: what they lead to is read, never written. No program in sight. Rows of candidates: what they lead to is read, never written. No walk.
-/
import Derived.Test.YtojmofnamppbdaaGreatSlA
import Derived.Test.YtojmofnamppbdaaGreatInts
namespace Go.Proofs.YtojmofnamppbdaaGreat
open Go.RowKit
set_option linter.unusedVariables false
set_option maxRecDepth 100000
theorem step_append_list {α:Type} {P:Program} {w:World} {ops:Array Oper} {o:Oper} {a:Act} {K:Act→World→Prop} {QQ:Exit→Act→World→Prop} {E:Prop} (hgd:o.guard=none) (s x:Operand) (t:TypeId) (ho:o.op=.call { callee:=.builtin .append,args:=#[s,x],argTypes:=#[t,t] })
  {k:Nat} {Q:(Nat→Value)→α→Prop} (hQ:∀ (f g:Nat→Value) x,(∀ j,j<k→f j=g j)→Q f x→Q g x) {R:World→(Nat→Value)→α→Prop} (base:Nat) (e:TypeId) (i:TypeInfo) (z:Value) (bytes:Nat) (ht:P.underlying t=some (.slice e)) (hi:P.info? e=some i) (hz:i.zero=some z)
  (hsize:i.size=k) (hby:i.bytes=bytes) (hzs:z.cells.size=k) (hsz:0<k) (v:Value) (xs:List α) (hs:a.eval s=v) (hown:RowOf k Q w base e v xs) (A:Option Addr) (c:Nat) (ys:List α) (hx:a.eval x=.slice A ys.length c) (hy:SlR k R w (.slice A ys.length c) ys)
  (hRQ:∀ cs y,R w cs y→Q cs y) (h1:∀ cs y,Q cs y→∀ j,j<k→(cs j).oneCell'=true) (h63:xs.length+ys.length≤maxLen) (hbytes:(xs.length+ys.length)*bytes≤140737488355328) (hbase:base≤w.heap.size) (H:Nat) (hH:w.heap.size=H)
  (h:∀ A' c' w',RowOf k Q w' base e (.slice A' (xs++ys).length c') (xs++ys)→w.grownBy w' v.ownBlock→(∀ g,(Value.slice A' (xs++ys).length c').ownBlock=some g→v.ownBlock=some g∨g=H)→K (a.put o.dst (.slice A' (xs++ys).length c')) w'):
  if Region.wanted o (yielded ops a.tmps)=true then Oper.wp P o a w K QQ else E:=by
 have hw:Region.wanted o (yielded ops a.tmps)=true:=by simp [Region.wanted,hgd]
 rw [if_pos hw]
 obtain⟨v',w',hr,h2,h3,h4⟩:=run_append_list (P:=P) w hQ t o.type base e i z bytes ht hi hz hsize hby hzs hsz v xs hown A c ys hy hRQ h1 h63 hbytes hbase
 obtain⟨A',c',rfl,_⟩:=h2.slice
 unfold Oper.wp execOp
 simp only [ho,resolve,invoke,builtin,Sem.run_bind,Sem.run_pure,Result.andThen_ok,List.map_toArray,List.map_cons,List.map_nil,hs,hx,hr]
 exact h A' c' w' h2 h3 (fun g hg=>by rw [← hH]; exact h4 g hg)
theorem RowI.single {w:World} {g base:Nat} {n:Int} (h:Own w g 3 #[.int .i64 n]) (hb:base≤g):RowI w base (.slice (some ⟨g,0,none⟩) 1 1) [n]:=
 ⟨[.int .i64 n],⟨rfl,.inr ⟨g,1,_,rfl,hb,h,by simp,by simp [maxLen],by simp,by simp⟩⟩,fun i hi=>by
  obtain rfl:i=0:=by simp at hi; omega
  rfl⟩
end Go.Proofs.YtojmofnamppbdaaGreat
namespace Go.Proofs.YtojmofnamppbdaaGreat
open Go.RowKit
set_option linter.unusedVariables false
set_option maxRecDepth 100000
theorem grown_refl (w:World) (r:Option Nat):w.grownBy w r:=⟨rfl,rfl,rfl,Nat.le_refl _,fun _ _ _=>rfl⟩
theorem grown_below {a b c:World} {r:Option Nat} (h:a.grownBy b r) (hb:Below b.heap.size b c):a.grownBy c r:=
 ⟨hb.os.trans (World.grownBy.os h),hb.tape.trans (World.grownBy.tape h),hb.output.trans (World.grownBy.output h),Nat.le_trans (World.grownBy.size h) hb.size,fun k hk hn=>(hb.block k (Nat.lt_of_lt_of_le hk (World.grownBy.size h))).trans (World.grownBy.block h k hk hn)⟩
theorem grown_next {a b c:World} {r s:Option Nat} (h:a.grownBy b r) (k:b.grownBy c s) (hs:∀ g,s=some g→r=some g∨a.heap.size≤g):a.grownBy c r:=
 ⟨(World.grownBy.os k).trans (World.grownBy.os h),(World.grownBy.tape k).trans (World.grownBy.tape h),(World.grownBy.output k).trans (World.grownBy.output h),Nat.le_trans (World.grownBy.size h) (World.grownBy.size k),fun i hi hn=>
  (World.grownBy.block k i (Nat.lt_of_lt_of_le hi (World.grownBy.size h)) (fun e=>by
   rcases hs i e.symm with h1 | h1
   ·exact hn h1.symm
   ·omega)).trans (World.grownBy.block h i hi hn)⟩
theorem below_of_grown {B:Nat} {w a b:World} {r:Option Nat} (h:Below B w a) (k:a.grownBy b r) (hB:B≤a.heap.size) (hr:∀ g,r=some g→B≤g):Below B w b:=
 ⟨(World.grownBy.os k).trans h.os,(World.grownBy.tape k).trans h.tape,(World.grownBy.output k).trans h.output,Nat.le_trans h.size (World.grownBy.size k),fun i hi=>(World.grownBy.block k i (by omega) (fun e=>by have:=hr i e.symm; omega)).trans (h.block i hi)⟩
end Go.Proofs.YtojmofnamppbdaaGreat
namespace Go.Proofs.YtojmofnamppbdaaGreat
open Go.RowKit
set_option linter.unusedVariables false
set_option maxRecDepth 100000
def far (B:Nat) (r:Option Nat) (w:World):World:=keepW (fun b=>B≤b∧¬ r=some b) w
theorem rint_le:∀ a a' (cs:Nat→Value) (x:Int),Le a a'→RInt a cs x→RInt a' cs x:=fun _ _ _ _ _ h=>h
theorem rints_le:∀ a a' (cs:Nat→Value) (x:List Int),Le a a'→RSub 1 RInt a cs x→RSub 1 RInt a' cs x:=RSub.le rint_le
def QS (W:World) (cs:Nat→Value) (xs:List Int):Prop:=RSub 1 RInt W cs xs
theorem qs_congr (W:World):∀ (f g:Nat→Value) (x:List Int),(∀ j,j<1→f j=g j)→QS W f x→QS W g x:=fun f g x h ⟨A,c,h1,h2⟩=>⟨A,c,(h 0 (by omega)).symm.trans h1,h2⟩
theorem qs_one (W:World):∀ (cs:Nat→Value) (y:List Int),QS W cs y→∀ j,j<1→(cs j).oneCell'=true:=fun cs y ⟨A,c,h1,_⟩ j hj=>by
 obtain rfl:j=0:=by omega
 rw [h1]; rfl
theorem QS.le {W W':World} (h:Le W W') (cs:Nat→Value) (x:List Int) (k:QS W cs x):QS W' cs x:=rints_le _ _ _ _ h k
theorem i2_still {W w:World} {A:Option Addr} {c:Nat} {x:List (List Int)} (h:SlR 1 (RSub 1 RInt) W (.slice A x.length c) x) (hl:Le W w):SlR 1 (fun _=>QS W) w (.slice A x.length c) x:=by
 obtain⟨A',c',e,hm,h⟩:=h
 injection e with e1 e2 e3
 subst e1 e3
 refine⟨_,_,rfl,hm,fun i hi=>?_⟩
 obtain⟨b,o,h1,cs,h2,h3⟩:=h i hi
 exact⟨b,o,h1,cs,fun j hj=>hl _ _ (h2 j hj),h3⟩
end Go.Proofs.YtojmofnamppbdaaGreat
namespace Go.Proofs.YtojmofnamppbdaaGreat
open Go.RowKit
set_option linter.unusedVariables false
set_option maxRecDepth 100000
end Go.Proofs.YtojmofnamppbdaaGreat
