/-
  Small facts on worlds that only grow, and on slices of rows of cells: no program in sight. The base of all walks of this seat. Slices of ints and slices of such slices, as they lie in memory. Lists that are marked element by element, each element taking so many numbers. No program in sight. Worlds in which one block, and what is new, may have turned. No program in sight.
-/
import Derived.Test.YtojmofnamppbdaaGreatRows
import Derived.WalkKit
import Derived.WalkSpells
import Derived.WalkLawsBesides
import Derived.Lib.Hide
import Derived.Deep.QuietTactic
import Derived.BigQuiet
import Derived.Deep.LoopGhost
import Derived.Deep.RegionHeld3
import Derived.Deep.OwnRows
namespace Go.Proofs.YtojmofnamppbdaaGreat
open Go.RowKit
set_option linter.unusedVariables false
set_option maxRecDepth 100000
def Le (w w':World):Prop:=∀ a v,w.cell? a=some v→w'.cell? a=some v
theorem Le.refl (w:World):Le w w:=fun _ _ h=>h
theorem Le.trans {a b c:World} (h:Le a b) (k:Le b c):Le a c:=fun x v hx=>k x v (h x v hx)
theorem Le.alloc (w:World) (o:Obj):Le w (w.alloc o):=fun a v h=>(World.cell?_alloc_lt w o a (World.block_lt_of_cell? _ _ h)).trans h
theorem Le.drew (w:World):Le w w.drew:=fun _ _ h=>h
theorem Le.below {w w':World} (h:Below w.heap.size w w'):Le w w':=fun a v hc=>(h.cell (World.block_lt_of_cell? _ _ hc)).trans hc
theorem Le.to_alloc {a w:World} (h:Le a w) (o:Obj):Le a (w.alloc o):=h.trans (.alloc w o)
theorem below_drewN {B:Nat} {a w:World} (h:Below B a w) (n:Nat):Below B a (w.drewN n):=⟨h.os,h.tape,h.output,h.size,h.block⟩
structure Ext (w:World) where
 val:World
 h:Below w.heap.size w val
instance (w:World):Nonempty (Ext w):=⟨⟨w,Below.refl _ _⟩⟩
theorem Ext.le {w:World} (n:Ext w):Le w n.val:=Le.below n.h
theorem wp_region_ext {P:Program} (w0:World) {id:Nat} {Q:Exit→Act→World→Prop} {a:Act} {w:World} {l:List Oper} (hm:P.follows .mixedOrders=true) (hB:Region.lexB .any l.toArray=true) (hw:Below w0.heap.size w0 w)
  (h:wpQuiet P l.toArray (fun w'=>∃ n:Ext w0,w'=n.val) (fun a'=>∀ w',(∃ n:Ext w0,w'=n.val)→Q .normal a' w') l a):(Code.region id l.toArray true).wp P Q a w:=
 wp_region_quiet (C:=fun w'=>∃ n:Ext w0,w'=n.val) hm hB ⟨⟨_,hw.drew⟩,rfl⟩ (by simpa using h)
theorem Ext.call {P:Program} {f:FuncId} {args:Array Value} {v:Value} {w0:World} (n:Ext w0)
  (h:∀ W,Below w0.heap.size w0 W→Calls P f args W fun e w''=>e=.returned v∧Below W.heap.size W w''):Calls P f args n.val fun e w''=>e=.returned v∧∃ m:Ext w0,w''=m.val:=
 (h n.val n.h).mono fun _ w'' ⟨he,hb⟩=>⟨he,⟨w'',n.h.trans (hb.mono n.h.size)⟩,rfl⟩
def SlR {α:Type} (k:Nat) (R:World→(Nat→Value)→α→Prop) (w:World) (v:Value) (xs:List α):Prop:=
 ∃ A c,v=.slice A xs.length c∧xs.length≤9223372036854775807∧∀ i (h:i<xs.length),∃ b o,A=some ⟨b,o,none⟩∧∃ cs:Nat→Value,(∀ j,j<k→w.cell? ⟨b,o+i*k+j,none⟩=some (cs j))∧R w cs xs[i]
theorem SlR.le {α:Type} {k:Nat} {R:World→(Nat→Value)→α→Prop} {w w':World} {v:Value} {xs:List α} (hR:∀ i (h:i<xs.length) cs,R w cs xs[i]→R w' cs xs[i]) (h:SlR k R w v xs) (hl:Le w w'):SlR k R w' v xs:=by
 obtain⟨A,c,rfl,hm,h⟩:=h
 refine⟨A,c,rfl,hm,fun i hi=>?_⟩
 obtain⟨b,o,rfl,cs,hc,hr⟩:=h i hi
 exact⟨b,o,rfl,cs,fun j hj=>hl _ _ (hc j hj),hR i hi cs hr⟩
def Own (w:World) (b:Nat) (t:TypeId) (cs:Array Value):Prop:=w.heap[b]?=some (.cells cs t (0,0))
namespace Own
variable {w w':World} {b:Nat} {t:TypeId} {cs:Array Value}
theorem lt (h:Own w b t cs):b<w.heap.size:=(Array.getElem?_eq_some_iff.1 h).elim fun h _=>h
theorem of_block (h:Own w b t cs) (e:w'.heap[b]?=w.heap[b]?):Own w' b t cs:=e.trans h
theorem new (w:World) (t:TypeId) (cs:Array Value):Own (w.alloc (.cells cs t)) w.heap.size t cs:=Go.Deep.blk_alloc_new _ _
theorem alloc (h:Own w b t cs) (o:Obj):Own (w.alloc o) b t cs:=h.of_block (Go.Deep.blk_alloc_lt _ _ _ h.lt)
theorem drew (h:Own w b t cs):Own w.drew b t cs:=h
theorem drewN (h:Own w b t cs) (n:Nat):Own (w.drewN n) b t cs:=h
theorem below {B:Nat} (h:Own w b t cs) (hb:Below B w w') (hB:b<B):Own w' b t cs:=h.of_block (hb.block b hB)
theorem under (h:Own w b t cs) (hb:Below w.heap.size w w'):Own w' b t cs:=h.of_block (hb.block b h.lt)
theorem far (h:Own w b t cs) {a:Addr} (ha:b≠a.block) (v:Value):Own (w.setCell a v) b t cs:=h.of_block (Go.Deep.blk_setCell_other _ _ _ _ ha)
theorem set (h:Own w b t cs) (i:Nat) (v:Value):Own (w.setCell ⟨b,i,none⟩ v) b t (cs.setIfInBounds i v):=by
 unfold Own at h ⊢
 simp [World.setCell,Array.getElem?_modify,h]
theorem cell (h:Own w b t cs) {i:Nat} {v:Value} (hv:cs[i]?=some v):w.cell? ⟨b,i,none⟩=some v:=by
 unfold Own at h
 simp [World.cell?,h,hv]
theorem frozen (h:Own w b t cs) (i:Nat):w.frozen? ⟨b,i,none⟩=false:=by
 unfold Own at h
 simp [World.frozen?,h]
end Own
theorem SlR.get1 {α:Type} {R:World→(Nat→Value)→α→Prop} {w:World} {A:Option Addr} {c n:Nat} {xs:List α} (h:SlR 1 R w (.slice A n c) xs) {i:Nat} (hi:i<xs.length):
  ∃ b o cs,A=some ⟨b,o,none⟩∧w.cell? ⟨b,o+i,none⟩=some (cs 0)∧R w cs xs[i]:=by
 obtain⟨A',c',e,_,h⟩:=h
 obtain⟨b,o,h1,cs,hc,hr⟩:=h i hi
 injection e with e1 _ _
 exact⟨b,o,cs,e1.trans h1,by simpa using hc 0 (by omega),hr⟩
theorem SlR.slice {α:Type} {k:Nat} {R:World→(Nat→Value)→α→Prop} {w:World} {v:Value} {xs:List α} (h:SlR k R w v xs):∃ A c,v=.slice A xs.length c∧xs.length≤9223372036854775807:=by
 obtain⟨A,c,e,hm,_⟩:=h
 exact⟨A,c,e,hm⟩
theorem run_make_any {P:Program} (t e:TypeId) (z:Value) (k bytes:Nat) (ht:P.underlying t=some (.slice e)) (hinfo:(P.info? e).map (fun i=>(i.zero,i.size,i.bytes))=some (some z,k,bytes))
  (n:Nat) (hbytes:bytes*n≤281474976710656) (h63:n≤9223372036854775807) (w:World):
  (Instr.makeSlice t (.int .i64 (n:Int)) (.int .i64 (n:Int))).run P w=.ok (.slice (some ⟨w.heap.size,0,none⟩) n n) (w.alloc (.cells (madeCells z.cells (n*k)) e)):=by
 obtain⟨i,hi,hz,hs,hb⟩:=info_parts hinfo
 have hb':(i.bytes:Int)*(n:Int)≤281474976710656:=by
  have h:((i.bytes*n:Nat):Int)≤281474976710656:=by rw [hb]; omega
  rwa [Int.natCast_mul] at h
 have hr:=run_make (P:=P) w t e i z ht hi hz .i64 .i64 n n (by omega) (Int.le_refl _) hb' (by omega)
 simpa only [Int.toNat_natCast,hs] using hr
theorem str_eq_false {a b:ByteArray} (h:a≠b):(a.toList == b.toList)=false:=by
 rw [beq_eq_false_iff_ne]
 intro e
 apply h
 have e':a.data.toList=b.data.toList:=by
  have h1:∀ x:ByteArray,x.toList=x.data.toList:=fun x=>Go.ByteArray.toList_eq x
  rw [← h1,← h1,e]
 cases a
 cases b
 simp only [Array.toList_inj] at e'
 rw [e']
theorem ret_int {k:IntKind} {a b:Int} (h:a=b):Ending.returned (.int k a)=.returned (.int k b):=by rw [h]
theorem ret_bool {a b:Bool} (h:a=b):Ending.returned (.bool a)=.returned (.bool b):=by rw [h]
def above (B:Nat) (w:World):World:={ w with heap:=w.heap.mapIdx fun i o=>if i<B then .map #[] 0 else o }
theorem cell_above (B:Nat) (w:World) (a:Addr):(above B w).cell? a=if a.block<B then none else w.cell? a:=by
 unfold World.cell? above
 simp only [Array.getElem?_mapIdx]
 cases h:w.heap[a.block]? with
 | none=>simp
 | some o=>by_cases hb:a.block<B <;> simp [hb]
theorem cell_above_of {B:Nat} {w:World} {a:Addr} {v:Value} (hB:B≤a.block) (h:w.cell? a=some v):(above B w).cell? a=some v:=by
 rw [cell_above,if_neg (by omega)]; exact h
theorem cell_above_lt {B:Nat} {w:World} {a:Addr} {v:Value} (h:(above B w).cell? a=some v):B≤a.block∧w.cell? a=some v:=by
 rw [cell_above] at h
 by_cases hb:a.block<B
 ·rw [if_pos hb] at h; cases h
 ·rw [if_neg hb] at h; exact⟨by omega,h⟩
theorem Le.above (B:Nat) (w:World):Le (above B w) w:=fun _ _ h=>(cell_above_lt h).2
theorem Le.above_mono {B B':Nat} (h:B≤B') (w:World):Le (Go.Proofs.YtojmofnamppbdaaGreat.above B' w) (Go.Proofs.YtojmofnamppbdaaGreat.above B w):=fun a v hc=>by
 obtain⟨h1,h2⟩:=cell_above_lt hc
 exact cell_above_of (by omega) h2
theorem Le.above_le {w w':World} (B:Nat) (h:Le w w'):Le (Go.Proofs.YtojmofnamppbdaaGreat.above B w) (Go.Proofs.YtojmofnamppbdaaGreat.above B w'):=fun a v hc=>by
 obtain⟨h1,h2⟩:=cell_above_lt hc
 exact cell_above_of h1 (h _ _ h2)
end Go.Proofs.YtojmofnamppbdaaGreat
namespace Go.Proofs.YtojmofnamppbdaaGreat
open Go.RowKit
set_option linter.unusedVariables false
set_option maxRecDepth 100000
open Classical in
noncomputable def eqB {α:Type} (a b:α):Bool:=decide (a=b)
theorem eqB_iff {α:Type} {a b:α}:eqB a b=true↔a=b:=by simp [eqB]
theorem eqB_false {α:Type} {a b:α}:eqB a b=false↔a≠b:=by rw [← Bool.not_eq_true,Ne,eqB_iff]
theorem eqB_self {α:Type} (a:α):eqB a a=true:=eqB_iff.2 rfl
theorem eqB_ne_length {α:Type} {a b:List α} (h:¬ a.length=b.length):eqB a b=false:=eqB_false.2 fun e=>h (by rw [e])
def RetB (w:World) (b:Bool) (e:Ending) (w':World):Prop:=e=.returned (.bool b)∧Below w.heap.size w w'
def RetI (w:World) (n:Int) (e:Ending) (w':World):Prop:=e=.returned (.int .i64 n)∧Below w.heap.size w w'
theorem take_eq_of' {α:Type} {xs ys:List α} {k:Nat} (hx:k<xs.length) (hy:k<ys.length) (h:xs.take k=ys.take k) (he:xs[k]=ys[k]):xs.take (k+1)=ys.take (k+1):=by
 rw [List.take_succ_eq_append_getElem hx,List.take_succ_eq_append_getElem hy,h,he]
theorem eq_of_take {α:Type} {xs ys:List α} (hl:xs.length=ys.length) (h:xs.take xs.length=ys.take xs.length):xs=ys:=by
 rw [List.take_length,hl,List.take_length] at h
 exact h
def wSum {α:Type} (f:α→Nat):List α→Nat
 | []=>0
 | x::xs=>f x+wSum f xs
theorem wSum_take_succ {α:Type} (f:α→Nat) (xs:List α) (k:Nat) (h:k<xs.length):wSum f (xs.take (k+1))=wSum f (xs.take k)+f xs[k]:=by
 induction xs generalizing k with
 | nil=>simp at h
 | cons e es ih=>
  cases k with
  | zero=>simp [wSum]
  | succ k=>
   have:=ih k (by simpa using h)
   simp only [List.take_succ_cons,wSum,List.getElem_cons_succ] at this ⊢
   omega
def RInt (_:World) (cs:Nat→Value) (n:Int):Prop:=cs 0=.int .i64 n
def Ints (w:World) (A:Option Addr) (c:Nat) (xs:List Int):Prop:=SlR 1 RInt w (.slice A xs.length c) xs
theorem Ints.le {w w':World} {A:Option Addr} {c:Nat} {xs:List Int} (h:Ints w A c xs) (hl:Le w w'):Ints w' A c xs:=SlR.le (R:=RInt) (w:=w) (fun _ _ _ h=>h) h hl
theorem Ints.len {w:World} {A:Option Addr} {c:Nat} {xs:List Int} (h:Ints w A c xs):xs.length≤9223372036854775807:=h.slice.elim fun _ h=>h.elim fun _ h=>h.2
theorem Ints.get {w:World} {A:Option Addr} {c:Nat} {xs:List Int} (h:Ints w A c xs) {i:Nat} (hi:i<xs.length):
  ∃ b o,A=some ⟨b,o,none⟩∧b<w.heap.size∧w.cell? ⟨b,o+i,none⟩=some (.int .i64 xs[i]):=by
 obtain⟨b,o,cs,h0,h1,h2⟩:=SlR.get1 h hi
 exact⟨b,o,h0,World.block_lt_of_cell? _ _ h1,by rw [h1,show cs 0=_ from h2]⟩
theorem Ints.mk {w:World} {b o c:Nat} {xs:List Int} (hl:xs.length≤9223372036854775807) (h:∀ i (h:i<xs.length),w.cell? ⟨b,o+i,none⟩=some (.int .i64 xs[i])):Ints w (some ⟨b,o,none⟩) c xs:=
 ⟨_,_,rfl,hl,fun i hi=>⟨b,o,rfl,fun _=>.int .i64 xs[i],fun j hj=>by
  obtain rfl:j=0:=by omega
  simpa using h i hi,rfl⟩⟩
def RInts (w:World) (cs:Nat→Value) (xs:List Int):Prop:=∃ A c,cs 0=.slice A xs.length c∧Ints w A c xs
def Intss (w:World) (A:Option Addr) (c:Nat) (xss:List (List Int)):Prop:=SlR 1 RInts w (.slice A xss.length c) xss
theorem Intss.le {w w':World} {A:Option Addr} {c:Nat} {xss:List (List Int)} (h:Intss w A c xss) (hl:Le w w'):Intss w' A c xss:=
 SlR.le (fun _ _ _ ⟨A,c,h1,h2⟩=>⟨A,c,h1,h2.le hl⟩) h hl
theorem Intss.len {w:World} {A:Option Addr} {c:Nat} {xss:List (List Int)} (h:Intss w A c xss):xss.length≤9223372036854775807:=h.slice.elim fun _ h=>h.elim fun _ h=>h.2
theorem Intss.get {w:World} {A:Option Addr} {c:Nat} {xss:List (List Int)} (h:Intss w A c xss) {i:Nat} (hi:i<xss.length):
  ∃ b o A' c',A=some ⟨b,o,none⟩∧b<w.heap.size∧w.cell? ⟨b,o+i,none⟩=some (.slice A' xss[i].length c')∧Ints w A' c' xss[i]:=by
 obtain⟨b,o,cs,h0,h1,A',c',h2,h3⟩:=SlR.get1 h hi
 exact⟨b,o,A',c',h0,World.block_lt_of_cell? _ _ h1,by rw [h1,h2],h3⟩
end Go.Proofs.YtojmofnamppbdaaGreat
namespace Go.Proofs.YtojmofnamppbdaaGreat
set_option linter.unusedVariables false
end Go.Proofs.YtojmofnamppbdaaGreat
namespace Go.Proofs.YtojmofnamppbdaaGreat
open Go.RowKit
set_option linter.unusedVariables false
set_option maxRecDepth 100000
def Mv (R:Nat) (w w':World):Prop:=w.grownBy w' (some R)
theorem Mv.refl (R:Nat) (w:World):Mv R w w:=⟨rfl,rfl,rfl,Nat.le_refl _,fun _ _ _=>rfl⟩
theorem Mv.trans {R:Nat} {a b c:World} (h:Mv R a b) (k:Mv R b c):Mv R a c:=
 ⟨k.os.trans h.os,k.tape.trans h.tape,k.output.trans h.output,Nat.le_trans h.size k.size,fun i hi hne=>(k.block i (Nat.lt_of_lt_of_le hi h.size) hne).trans (h.block i hi hne)⟩
theorem Mv.of_below {R:Nat} {a b:World} (h:Below a.heap.size a b):Mv R a b:=⟨h.os,h.tape,h.output,h.size,fun i hi _=>h.block i hi⟩
theorem Mv.below {R B:Nat} {a b:World} (h:Mv R a b) (hB:B≤R) (hs:B≤a.heap.size):Below B a b:=⟨h.os,h.tape,h.output,h.size,fun i hi=>h.block i (by omega) (fun e=>by injection e with e; omega)⟩
theorem Mv.size {R:Nat} {a b:World} (h:Mv R a b):a.heap.size≤b.heap.size:=World.grownBy.size h
theorem Mv.block {R:Nat} {a b:World} (h:Mv R a b) {i:Nat} (hi:i<a.heap.size) (hne:i≠R):b.heap[i]?=a.heap[i]?:=World.grownBy.block h i hi (fun e=>hne (by injection e))
theorem Mv.above {R:Nat} {a b:World} (h:Mv R a b):Le (Go.Proofs.YtojmofnamppbdaaGreat.above (R+1) a) (Go.Proofs.YtojmofnamppbdaaGreat.above (R+1) b):=fun x v hx=>by
 obtain⟨h1,h2⟩:=cell_above_lt hx
 refine cell_above_of h1 ?_
 have hlt:=World.block_lt_of_cell? _ _ h2
 rw [World.cell?_of_block (w:=a) (h.block hlt (by omega))]
 exact h2
theorem Mv.alloc {R:Nat} {a w:World} (h:Mv R a w) (o:Obj):Mv R a (w.alloc o):=h.trans (.of_below (Below.alloc (Below.refl _ _) (Nat.le_refl _) o))
theorem Mv.setR {R:Nat} {a w:World} (h:Mv R a w) (i:Nat) (v:Value):Mv R a (w.setCell ⟨R,i,none⟩ v):=
 h.trans ⟨rfl,rfl,rfl,by simp [World.setCell],fun k hk hne=>Below.heap_setCell _ _ _ _ (fun e=>hne (by rw [e]))⟩
theorem Mv.setNew {R:Nat} {a w:World} (h:Mv R a w) {p:Addr} (hp:a.heap.size≤p.block) (v:Value):Mv R a (w.setCell p v):=
 ⟨h.os,h.tape,h.output,by simpa [World.setCell] using h.size,fun i hi hne=>(Below.heap_setCell _ _ _ _ (by omega)).trans (World.grownBy.block h i hi hne)⟩
theorem Mv.drewN {R:Nat} {a w:World} (h:Mv R a w) (n:Nat):Mv R a (w.drewN n):=⟨h.os,h.tape,h.output,h.size,(show a.grownBy w (some R) from h).block⟩
theorem Mv.drew {R:Nat} {a w:World} (h:Mv R a w):Mv R a w.drew:=⟨h.os,h.tape,h.output,h.size,(show a.grownBy w (some R) from h).block⟩
theorem Own.mv {w w':World} {b R:Nat} {t:TypeId} {cs:Array Value} (h:Own w b t cs) (hm:Mv R w w') (hne:b≠R):Own w' b t cs:=h.of_block (hm.block h.lt hne)
theorem Mv.cell {R:Nat} {a b:World} (h:Mv R a b) {p:Addr} {v:Value} (hc:a.cell? p=some v) (hne:p.block≠R):b.cell? p=some v:=by
 rw [World.cell?_of_block (w:=a) (h.block (World.block_lt_of_cell? _ _ hc) hne)]
 exact hc
end Go.Proofs.YtojmofnamppbdaaGreat
