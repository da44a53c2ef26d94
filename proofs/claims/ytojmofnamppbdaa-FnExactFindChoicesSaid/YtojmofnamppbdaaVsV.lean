/-
  FindChoices of the program; the draw of an outcome with views: DrawFindChoices.
-/
import Derived.Test.YtojmofnamppbdaaVsT
import Derived.Test.YtojmofnamppbdaaVsU
import Derived.Test.YtojmofnamppbdaaFndV
import Derived.Test.YtojmofnamppbdaaWmA
namespace Go.Proofs.Ytojmofnamppbdaa
open Go.RowKit
set_option linter.unusedVariables false
set_option maxRecDepth 100000
theorem viewM_E {p:Prg} (hp:PrgOk p) (Ap:Option Addr) (cp:Nat):MachE (viewM p Ap cp) potV where
 dec:=fun s t hs ht=>potV_lt hp hs ht
 low:=fun s hs=>by
  have:=potV_le s
  omega
def RetFSVO (p:Prg) (o:List Int) (W:World) (e:Ending) (W':World):Prop:=
 ∃ A c r F,e=.returned (.tuple #[.slice A (r.getD []).length c,.bool r.isSome])∧OwI1 W' (.slice A (r.getD []).length c) (r.getD []) F∧F.Nodup∧(∀ b∈F,W.heap.size≤b)∧Below W.heap.size W W'∧FndSV p o r
theorem RetFSVO.ints {p:Prg} {o:List Int} {W W':World} {e:Ending} (h:RetFSVO p o W e W'):RetFSV p o W e W':=by
 obtain⟨A,c,r,F,rfl,h1,_,h3,h4,h5⟩:=h
 have h6:Ints (above W.heap.size W') A c (r.getD []):=OwI1.ints h1 h3
 exact⟨A,c,r,rfl,h6.le (Le.above _ _),h4,h5⟩
set_option maxHeartbeats 1000000 in
theorem implFC_own (p:Prg) (hl:p.length≤1048576) (hls:∀ t∈p,t.length≤1048576) (o:List Int) (W:World) (v:Value) (hr:PrgS W v p) (B:Option Addr) (d:Nat) (hI:Ints W B d o):Calls Try.prog 9 #[v,.slice B o.length d] W (RetFSVO p o W):=by
 have hov:=implOV_any p hl hls o W v hr B d hI
 have HR:=Lib.hid hr
 have HI:=Lib.hid hI
 have hm:=hI.len
 obtain⟨A,c,rfl,_⟩:=hr.slice
 have HF:Hid (ovB p o=false→¬ OutOk p o):=fun h=>ovB_false.1 h
 have HT:Hid (ovB p o=true→OutOk p o):=fun h=>ovB_iff.1 h
 clear hI
 go_enter Try.func9,Try.ntmps9
 go_wp2_with fail
 refine hov.mono ?_
 rintro e1 w1 ⟨rfl,hb1⟩
 clear hov
 cases hb:ovB p o
 ·have Hn:=Lib.hid (HF.out hb)
  clear hb HT HF
  go_wp2_with fail
  refine bodyPost_ret (v:=.tuple #[.slice none 0 0,.bool false]) (by simp [results,Try.results9,go_sem]) rfl ?_
  exact⟨none,0,none,[],rfl,OwRow.nil,.nil,fun b hb=>(by cases hb),hb1,.inr ⟨Hn.out,rfl⟩⟩
 ·have Hok:Hid (OutOk p o):=HT.out hb
  have hns:=newViews_any p (by have:=Hok.out.1.1.1; omega) w1 _ (HR.out.le (Le.below hb1))
  clear hb HT HF
  go_wp2_with fail
  refine hns.mono ?_
  rintro e2 w2 ⟨Ap,cp,b,e,rfl,hR,hpr2,hb2⟩
  injection e with e1 _ e3
  subst e1 e3
  have hB2:=hb1.trans (hb2.mono hb1.size)
  have hse:=search_own (viewM p A c) (viewM_P Hok.out.1 A c) (viewM_C Hok.out.1 A c) potV (viewM_E Hok.out.1 A c) o w2 b ⟨hR,hpr2⟩ B d (HI.out.le (Le.below hB2))
  clear hns hR hpr2
  go_wp2_with fail
  refine hse.mono ?_
  rintro e3 w3 ⟨A3,c3,r,F3,rfl,hi3,hn3,hF3,hb3,hf3⟩
  have hB3:=hB2.trans (hb3.mono hB2.size)
  have Hi3:=Lib.hid hi3
  have HF3:=Lib.hid (show ∀ b∈F3,W.heap.size≤b from fun b hb=>Nat.le_trans hB2.size (hF3 b hb))
  have Hf3:=Lib.hid hf3
  clear hse hi3 hf3 hF3
  go_wp2_with fail
  refine bodyPost_ret (v:=.tuple #[.slice A3 (r.getD []).length c3,.bool r.isSome]) (by simp [results,Try.results9,go_sem]) rfl ?_
  exact⟨A3,c3,r,F3,rfl,Hi3.out,hn3,HF3.out,hB3,.inl ⟨Hok.out,Hf3.out⟩⟩
theorem implFC_any (p:Prg) (hl:p.length≤1048576) (hls:∀ t∈p,t.length≤1048576) (o:List Int) (W:World) (v:Value) (hr:PrgS W v p) (B:Option Addr) (d:Nat) (hI:Ints W B d o):Calls Try.prog 9 #[v,.slice B o.length d] W (RetFSV p o W):=
 (implFC_own p hl hls o W v hr B d hI).mono fun _ _ h=>h.ints
def Kp (R K:Nat) (a b:World):Prop:=K≤b.heap.size∧∀ i,i<K→i≠R→b.heap[i]?=a.heap[i]?
section
variable {R K:Nat} {a b c:World}
theorem Kp.refl (h:K≤a.heap.size):Kp R K a a:=⟨h,fun _ _ _=>rfl⟩
theorem Kp.mv (h:Kp R K a b) (m:Mv R b c):Kp R K a c:=⟨Nat.le_trans h.1 m.size,fun i hi hn=>(m.block (by have:=h.1; omega) hn).trans (h.2 i hi hn)⟩
theorem Kp.below (h:Kp R K a b) (m:Below b.heap.size b c):Kp R K a c:=⟨Nat.le_trans h.1 m.size,fun i hi hn=>(m.block i (by have:=h.1; omega)).trans (h.2 i hi hn)⟩
theorem Kp.set (h:Kp R K a b) {p:Addr} (hp:K≤p.block) (v:Value):Kp R K a (b.setCell p v):=⟨by simpa [World.setCell] using h.1,fun i hi hn=>(Go.Deep.blk_setCell_other _ _ _ _ (by omega)).trans (h.2 i hi hn)⟩
theorem Kp.alloc (h:Kp R K a b) (o:Obj):Kp R K a (b.alloc o):=h.below ((Below.refl _ _).alloc (Nat.le_refl _) o)
theorem Kp.grown {row:Option Nat} (h:Kp R K a b) (hg:b.grownBy c row) (hr:∀ g,row=some g→K≤g):Kp R K a c:=
 ⟨Nat.le_trans h.1 (World.grownBy.size hg),fun i hi hn=>(World.grownBy.block hg i (by have:=h.1; omega) (fun e=>by have:=hr i e.symm; omega)).trans (h.2 i hi hn)⟩
theorem Kp.le {B:Nat} (h:Kp R K a b) (hB:R<B) (hK:a.heap.size≤K):Le (above B a) (above B b):=fun x u hc=>by
 obtain⟨h1,h2⟩:=cell_above_lt hc
 have hl:=World.block_lt_of_cell? _ _ h2
 refine cell_above_of h1 ?_
 rw [World.cell?_of_block (w:=a) (h.2 x.block (by omega) (by omega))]
 exact h2
end
end Go.Proofs.Ytojmofnamppbdaa
