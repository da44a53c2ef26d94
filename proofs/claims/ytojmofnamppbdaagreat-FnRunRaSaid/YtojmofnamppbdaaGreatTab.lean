/-
  The reference's table of texts: what it is in memory; l3Found, l3Mark.
-/
import Derived.Test.YtojmofnamppbdaaGreatS3A
import Derived.Test.YtojmofnamppbdaaGreatMcA
namespace Go.Proofs.YtojmofnamppbdaaGreat
open Go.RowKit
set_option linter.unusedVariables false
set_option maxRecDepth 100000
theorem Tryz.infoStrT:(Tryz.prog.info? 9).map (fun i=>(i.zero,i.size,i.bytes))=some (some (.string ⟨#[]⟩),1,16):=by kernel_rfl
def QTx (cs:Nat→Value) (s:ByteArray):Prop:=cs 0=.string s
theorem qtx_congr:∀ (f g:Nat→Value) (x:ByteArray),(∀ j,j<1→f j=g j)→QTx f x→QTx g x:=fun f g x h hq=>(h 0 (by omega)).symm.trans hq
abbrev RowTx (w:World) (base:Nat) (v:Value) (xs:List ByteArray):Prop:=RowOf 1 QTx w base 9 v xs
theorem str_eq_trueT {a b:ByteArray} (h:a=b):(a.toList == b.toList)=true:=by rw [h]; exact beq_self_eq_true _
structure MvP (p:Nat→Prop) (a b:World):Prop where
 os:b.os=a.os
 tape:b.tape=a.tape
 output:b.output=a.output
 size:a.heap.size≤b.heap.size
 block:∀ i,i<a.heap.size→¬ p i→b.heap[i]?=a.heap[i]?
namespace MvP
variable {p q:Nat→Prop} {a b c:World}
theorem refl (p:Nat→Prop) (a:World):MvP p a a:=⟨rfl,rfl,rfl,Nat.le_refl _,fun _ _ _=>rfl⟩
theorem trans (h:MvP p a b) (k:MvP q b c) (hq:∀ i,i<a.heap.size→q i→p i):MvP p a c:=
 ⟨k.os.trans h.os,k.tape.trans h.tape,k.output.trans h.output,Nat.le_trans h.size k.size,fun i hi hn=>(k.block i (Nat.lt_of_lt_of_le hi h.size) fun hm=>hn (hq i hi hm)).trans (h.block i hi hn)⟩
theorem of_below (h:Below a.heap.size a b):MvP p a b:=⟨h.os,h.tape,h.output,h.size,fun i hi _=>h.block i hi⟩
theorem of_grown {row:Option Nat} (h:a.grownBy b row) (hr:∀ g,row=some g→p g):MvP p a b:=
 ⟨World.grownBy.os h,World.grownBy.tape h,World.grownBy.output h,World.grownBy.size h,fun i hi hn=>World.grownBy.block h i hi fun e=>hn (hr i e.symm)⟩
theorem below {B:Nat} (h:MvP p a b) (hp:∀ i,p i→B≤i) (hB:B≤a.heap.size):Below B a b:=⟨h.os,h.tape,h.output,h.size,fun i hi=>h.block i (by omega) fun hm=>by have:=hp i hm; omega⟩
theorem cell (h:MvP p a b) {x:Addr} {v:Value} (hc:a.cell? x=some v) (hn:¬ p x.block):b.cell? x=some v:=by
 rw [World.cell?_of_block (w:=a) (h.block x.block (World.block_lt_of_cell? _ _ hc) hn)]
 exact hc
end MvP
noncomputable def hidP (p:Nat→Prop) (w:World):World:=@keepW (fun b=>¬ p b) (fun _=>Classical.propDecidable _) w
theorem cell_hidP {p:Nat→Prop} {w:World} {x:Addr} {v:Value}:(hidP p w).cell? x=some v↔¬ p x.block∧w.cell? x=some v:=by
 unfold hidP
 exact⟨fun h=>@of_cell_keepW _ (fun _=>Classical.propDecidable _) _ _ _ h,fun h=>@cell_keepW_of _ (fun _=>Classical.propDecidable _) _ _ _ h.1 h.2⟩
theorem Le.hidP (p:Nat→Prop) (w:World):Le (Go.Proofs.YtojmofnamppbdaaGreat.hidP p w) w:=fun x v hc=>(cell_hidP.1 hc).2
theorem Le.hidP_mv {p p' q:Nat→Prop} {a b:World} (h:MvP q a b) (hq:∀ i,i<a.heap.size→q i→p i) (hp:∀ i,p' i→p i∨a.heap.size≤i):Le (Go.Proofs.YtojmofnamppbdaaGreat.hidP p a) (Go.Proofs.YtojmofnamppbdaaGreat.hidP p' b):=fun x v hc=>by
 obtain⟨h1,h2⟩:=cell_hidP.1 hc
 have hl:=World.block_lt_of_cell? _ _ h2
 refine cell_hidP.2 ⟨fun hm=>?_,h.cell h2 fun hm=>h1 (hq _ hl hm)⟩
 rcases hp _ hm with hm | hm
 ·exact h1 hm
 ·omega
theorem Le.hidP_below {p:Nat→Prop} {a b:World} (h:Below a.heap.size a b) (hp:∀ i,p i→i<a.heap.size∨True):Le (Go.Proofs.YtojmofnamppbdaaGreat.hidP p a) (Go.Proofs.YtojmofnamppbdaaGreat.hidP p b):=
 Le.hidP_mv (q:=fun _=>False) (.of_below h) (fun _ _ h=>h.elim) (fun _ h=>.inl h)
theorem Le.above_hidP {B:Nat} {p:Nat→Prop} {w:World} (hp:∀ i,p i→i<B):Le (Go.Proofs.YtojmofnamppbdaaGreat.above B w) (Go.Proofs.YtojmofnamppbdaaGreat.hidP p w):=fun x v hc=>by
 obtain⟨h1,h2⟩:=cell_above_lt hc
 exact cell_hidP.2 ⟨fun hm=>by have:=hp _ hm; omega,h2⟩
structure TabM (w:World) (g:Nat) (xss:Nat→List ByteArray) (bs:Nat→Option Nat):Prop where
 row:∃ cur:Array Value,Own w g 127 cur∧cur.size=4096∧∀ i,i<4096→∃ v,cur[i]?=some v∧RowTx w 0 v (xss i)∧v.ownBlock=bs i
 dis:∀ i j b,i<4096→j<4096→bs i=some b→bs j=some b→i=j
 ne:∀ i,i<4096→bs i≠some g
def OwT (g:Nat) (bs:Nat→Option Nat) (b:Nat):Prop:=b=g∨∃ i,i<4096∧bs i=some b
namespace TabM
variable {w w':World} {g:Nat} {xss:Nat→List ByteArray} {bs:Nat→Option Nat}
theorem lt (h:TabM w g xss bs) {b:Nat} (hb:OwT g bs b):b<w.heap.size:=by
 obtain⟨cur,h1,h2,h3⟩:=h.row
 rcases hb with rfl | ⟨i,hi,hb⟩
 ·exact h1.lt
 ·obtain⟨v,_,h5,h6⟩:=h3 i hi
  exact (h5.blk (h6.trans hb)).2
theorem move (h:TabM w g xss bs) (hb:∀ b,OwT g bs b→w'.heap[b]?=w.heap[b]?):TabM w' g xss bs:=by
 obtain⟨⟨cur,h1,h2,h3⟩,h4,h5⟩:=h
 refine⟨⟨cur,h1.of_block (hb g (.inl rfl)),h2,fun i hi=>?_⟩,h4,h5⟩
 obtain⟨v,k1,k2,k3⟩:=h3 i hi
 exact⟨v,k1,k2.of_block fun b _ hv _=>hb b (.inr ⟨i,hi,k3.symm.trans hv⟩),k3⟩
theorem mv {q:Nat→Prop} (h:TabM w g xss bs) (hm:MvP q w w') (hq:∀ b,OwT g bs b→¬ q b):TabM w' g xss bs:=h.move fun b hb=>hm.block b (h.lt hb) (hq b hb)
theorem below (h:TabM w g xss bs) (hb:Below w.heap.size w w'):TabM w' g xss bs:=h.move fun b hm=>hb.block b (h.lt hm)
theorem made {cur:Array Value} (h:Own w g 127 cur) (hs:cur.size=4096) (hc:∀ i,i<4096→cur[i]?=some (.slice none 0 0)):TabM w g (fun _=>[]) (fun _=>none):=
 ⟨⟨cur,h,hs,fun i hi=>⟨_,hc i hi,RowOf.nil _ _ _ _ _,rfl⟩⟩,fun _ _ _ _ _ h=>(by simp at h),fun _ _ h=>(by simp at h)⟩
theorem set (h:TabM w g xss bs) {V:World} {k gg:Nat} (hk:k<4096) {nv:Value} {ys:List ByteArray} (hm:MvP (fun b=>bs k=some b) w V) (hr:RowTx V 0 nv ys) (hv:nv.ownBlock=some gg) (hg:bs k=some gg∨w.heap.size≤gg):
  TabM (V.setCell ⟨g,k,none⟩ nv) g (fun i=>if i=k then ys else xss i) (fun i=>if i=k then some gg else bs i):=by
 have hgl:=h.lt (.inl rfl)
 have hold:∀ i b,i<4096→i≠k→bs i=some b→b≠g∧V.heap[b]?=w.heap[b]?∧b≠gg:=fun i b hi hne hb=>by
  have hbl:=h.lt (.inr ⟨i,hi,hb⟩)
  refine⟨fun e=>h.ne i hi (by rw [hb,e]),hm.block b hbl fun e=>hne (h.dis i k b hi hk hb e),fun e=>?_⟩
  rcases hg with hg | hg
  ·exact hne (h.dis i k b hi hk hb (by rw [e]; exact hg))
  ·omega
 have hgg:gg≠g:=fun e=>by
  rcases hg with hg | hg
  ·exact h.ne k hk (by rw [hg,e])
  ·omega
 obtain⟨⟨cur,h1,h2,h3⟩,h4,h5⟩:=h
 have hVg:V.heap[g]?=w.heap[g]?:=hm.block g hgl (h5 k hk)
 refine⟨⟨cur.setIfInBounds k nv,(h1.of_block hVg).set k nv,by simpa using h2,fun i hi=>?_⟩,fun i j b hi hj hi' hj'=>?_,fun i hi e=>?_⟩
 ·by_cases e:i=k
  ·subst e
   refine⟨nv,by simp [h2,hi],?_,?_⟩
   ·rw [if_pos rfl]
    exact hr.of_block fun b _ hb _=>Go.Deep.blk_setCell_other _ _ _ _ (fun e=>by rw [hv] at hb; injection hb with hb; simp only at e; omega)
   ·rw [if_pos rfl,hv]
  ·obtain⟨v,k1,k2,k3⟩:=h3 i hi
   refine⟨v,?_,?_,?_⟩
   ·rw [Array.getElem?_setIfInBounds_ne (fun e'=>e e'.symm)]
    exact k1
   ·rw [if_neg e]
    exact k2.of_block fun b _ hb _=>by
     obtain⟨n1,n2,_⟩:=hold i b hi e (k3.symm.trans hb)
     rw [Go.Deep.blk_setCell_other _ _ _ _ (fun e'=>n1 (by simpa using e'))]
     exact n2
   ·rw [if_neg e]
    exact k3
 ·by_cases e1:i=k
  ·by_cases e2:j=k
   ·rw [e1,e2]
   ·simp only [if_pos e1] at hi'
    simp only [if_neg e2] at hj'
    injection hi' with hi'
    exact absurd hi'.symm (hold j b hj e2 hj').2.2
  ·simp only [if_neg e1] at hi'
   by_cases e2:j=k
   ·simp only [if_pos e2] at hj'
    injection hj' with hj'
    exact absurd hj'.symm (hold i b hi e1 hi').2.2
   ·simp only [if_neg e2] at hj'
    exact h4 i j b hi hj hi' hj'
 ·by_cases e1:i=k
  ·simp only [if_pos e1] at e
   injection e with e
   exact hgg e
  ·simp only [if_neg e1] at e
   exact h5 i hi e
end TabM
theorem hashS_lt (s:ByteArray):hashS s<4096:=hashN_lt s _
set_option maxHeartbeats 1500000 in
theorem l3Found_any (s:ByteArray) (hs:s.size≤1000000) (W:World) (g:Nat) (xss:Nat→List ByteArray) (bs:Nat→Option Nat) (h:TabM W g xss bs):
  Calls Tryz.prog 85 #[.slice (some ⟨g,0,none⟩) 4096 4096,.string s] W (RetB W (inB (xss (hashS s)) s)):=by
 have hh:=l3Hash_any s hs W
 have hlt:=hashS_lt s
 obtain⟨cur,h1,h2,h3⟩:=h.row
 obtain⟨v,k1,k2,k3⟩:=h3 (hashS s) hlt
 have q0:=h1.cell k1
 obtain⟨Av,cv,rfl,hn1,hn2⟩:=k2.slice
 have Hr:=Lib.hid (RowOf.slR (R:=fun _=>QTx) (by omega) k2 (fun _ _ h=>h) (Le.above 0 W))
 generalize xss (hashS s)=xs at Hr hn1 q0
 generalize hashS s=hv at hh hlt q0
 clear h h1 h2 h3 k1 k2 k3
 go_enter Tryz.func85,Tryz.ntmps85
 go_wp2_with fail
 refine hh.mono ?_
 rintro e5 w5 ⟨rfl,hb5⟩
 have q0:=Le.below hb5 _ _ q0
 have hvi:(hv:Int)<4096:=by omega
 clear hh
 go_wp2_with fail
 go_loopg [6] xs.length (fun gk s6 wr=>∃ k:Nat,k≤xs.length∧gk=xs.length-k∧s6=.int .i64 k∧Hid (∀ x∈xs.take k,x≠s)∧Below W.heap.size W wr)
 case atStart=>exact⟨0,Nat.zero_le _,rfl,rfl,fun x hx=>by simp at hx,hb5⟩
 case round=>
  obtain⟨wo,rfl⟩:∃ wo:World,wo=wr:=⟨_,rfl⟩
  obtain⟨k,hk,rfl,rfl,hall,hb⟩:=hrel
  by_cases hkl:k<xs.length
  ·obtain⟨_,_,e0,_,hc⟩:=Hr.out
   injection e0 with e1 e2 e3
   subst e1 e3
   obtain⟨b,o,rfl,cs,hcs,hq⟩:=hc k hkl
   have k0:=hcs 0 (by omega)
   rw [show cs 0=.string xs[k] from hq,Nat.mul_one,Nat.add_zero] at k0
   have k0:=Le.below hb _ _ k0
   have Htk:=Lib.hid (List.take_succ_eq_append_getElem hkl)
   have Hmem:=Lib.hid (List.getElem_mem hkl)
   generalize xs[k]=x at k0 Htk Hmem
   clear hc hcs hq
   by_cases hx:x=s
   ·have hf:=str_eq_trueT hx
    have Hin:Hid (inB xs s=true):=inB_true (by rw [← hx]; exact Hmem.out)
    clear hx
    go_wp2_with fail
    go_ret
    exact⟨by rw [Hin.out]; rfl,hb⟩
   ·have hf:=str_eq_false hx
    have Hall:Hid (∀ y∈xs.take (k+1),y≠s):=fun y hy=>by
     rw [Htk.out] at hy
     rcases List.mem_append.1 hy with hy | hy
     ·exact hall.out y hy
     ·rw [List.mem_singleton.1 hy]; exact hx
    clear hx
    go_wp2_with fail
    go_roundg (xs.length-(k+1))
    case measure=>omega
    case rel=>exact⟨k+1,by omega,rfl,by go_num,Hall.out,hb⟩
  ·obtain rfl:k=xs.length:=by omega
   have Hin:Hid (inB xs s=false):=inB_false (fun hm=>hall.out s (by rw [List.take_length]; exact hm) rfl)
   go_wp2_with fail
   go_ret
   exact⟨by rw [Hin.out]; rfl,hb⟩
def RetMk (W:World) (g:Nat) (xss:Nat→List ByteArray) (bs:Nat→Option Nat) (s:ByteArray) (e:Ending) (W':World):Prop:=
 e=.returned (.tuple #[])∧∃ bs',TabM W' g (fun i=>if i=hashS s then xss (hashS s)++[s] else xss i) bs'∧MvP (OwT g bs) W W'∧∀ b,OwT g bs' b→OwT g bs b∨W.heap.size≤b
set_option maxHeartbeats 1500000 in
theorem l3Mark_any (s:ByteArray) (hs:s.size≤1000000) (W:World) (g:Nat) (xss:Nat→List ByteArray) (bs:Nat→Option Nat) (h:TabM W g xss bs) (hl:(xss (hashS s)).length≤5000000000000):
  Calls Tryz.prog 80 #[.slice (some ⟨g,0,none⟩) 4096 4096,.string s] W (RetMk W g xss bs s):=by
 obtain⟨i0,hi0,hz0,hz1,hz2⟩:=info_parts Tryz.infoStrT
 have hh:=l3Hash_any s hs W
 have hlt:=hashS_lt s
 have HT:=Lib.hid h
 have Hlt:=Lib.hid hlt
 have Hdef:Hid (∀ e W',RetMk W g xss bs s e W'↔e=.returned (.tuple #[])∧∃ bs',TabM W' g (fun i=>if i=hashS s then xss (hashS s)++[s] else xss i) bs'∧MvP (OwT g bs) W W'∧∀ b,OwT g bs' b→OwT g bs b∨W.heap.size≤b):=fun e W'=>Iff.rfl
 obtain⟨P,hP⟩:∃ P,P=RetMk W g xss bs s:=⟨_,rfl⟩
 rw [← hP] at Hdef ⊢
 clear hP h
 generalize hashS s=k at hh hlt hl Hlt Hdef
 go_enter Tryz.func80,Tryz.ntmps80
 go_wp2_with fail
 refine hh.mono ?_
 rintro e5 w5 ⟨rfl,hb5⟩
 have hT5:=HT.out.below hb5
 obtain⟨cur,h1,h2,h3⟩:=hT5.row
 obtain⟨v,k1,k2,k3⟩:=h3 k hlt
 have hne:=hT5.ne k hlt
 have q0:=h1.cell k1
 have HT5:=Lib.hid hT5
 have H1:=Lib.hid h1
 obtain⟨xs,hxs⟩:∃ xs,xs=xss k:=⟨_,rfl⟩
 rw [← hxs] at k2 hl
 have Hxs:=Lib.hid hxs
 have K1:=Lib.hid k1
 obtain⟨Av,cv,rfl,hn1,hn2⟩:=k2.slice
 obtain⟨cs,hown,hq⟩:=k2
 have Hown:=Lib.hid hown
 have Hq:=Lib.hid hq
 have K3:=Lib.hid k3
 have Hne:=Lib.hid hne
 have hgl:=h1.lt
 have hki:(k:Int)<4096:=by omega
 clear hh hT5 h1 h2 h3 k1 k3 hxs hown hq hne
 go_wp2_with (at_builtin; refine wpList_append_lies (o:=⟨some 15,_,_,_,_,_⟩) _ (by rfl) _ _ _ (by rfl) 0 9 i0 _ 1 16 Tryz.underlying127 hi0 hz0 hz1 hz2 rfl (by omega) (.slice Av xs.length cv) xs.length cs (by rfl) (owns_alloc Hown.out _) ⟨w5.heap.size,0,none⟩ 1 1 [.string s] (by rfl) (by rfl) (World.news_of_block (cs:=#[.string s]) (t:=9) (fr:=(0,0)) (heap_alloc_new w5 _)) (by simp [Value.oneCell']) (by omega) (by simp [maxLen]; omega) (by omega) (by simp) (w5.heap.size+1) (by simp) ?_; intro gg cap w8 hown8 hgrow8 hat8 hlt8; have o8:=(H1.out.alloc (.cells #[.string s] 9)).of_block (World.grownBy.block hgrow8 g (H1.out.alloc _).lt (fun e=>Hne.out (K3.out.symm.trans e.symm))); have q8:=o8.cell (i:=k) K1.out; have f8:=o8.frozen k)
 have hM8:MvP (fun b=>bs k=some b) w5 w8:=⟨(World.grownBy.os hgrow8).trans rfl,(World.grownBy.tape hgrow8).trans rfl,(World.grownBy.output hgrow8).trans rfl,by have:=World.grownBy.size hgrow8; simp at this; omega,fun i hi hn=>(World.grownBy.block hgrow8 i (by simp; omega) (fun e=>hn (by rw [← K3.out,← e]))).trans (Go.Deep.blk_alloc_lt _ _ _ hi)⟩
 have Hr8:Hid (RowTx w8 0 (.slice (some ⟨gg,0,none⟩) (xs.length+1) cap) (xs++[s])):=RowOf.snoc (news:=[.string s]) qtx_congr Hown.out Hq.out rfl rfl hown8
 have hgg:bs k=some gg∨w5.heap.size≤gg:=by
  rcases hat8 with h | h
  ·left; rw [← K3.out]; exact h
  ·right; omega
 have HS:=Lib.hid (HT5.out.set (nv:=.slice (some ⟨gg,0,none⟩) (xs.length+1) cap) Hlt.out hM8 Hr8.out rfl hgg)
 have HM:Hid (MvP (OwT g bs) W (w8.setCell ⟨g,k,none⟩ (.slice (some ⟨gg,0,none⟩) (xs.length+1) cap))):=by
  have h1:MvP (OwT g bs) W w5:=.of_below hb5
  have h2:MvP (fun b=>bs k=some b) W w8:=(MvP.of_below (p:=fun b=>bs k=some b) hb5).trans hM8 (fun _ _ h=>h)
  refine⟨h2.os,h2.tape,h2.output,by simpa using h2.size,fun i hi hn=>?_⟩
  rw [Go.Deep.blk_setCell_other _ _ _ _ (fun e=>hn (.inl (by simpa using e)))]
  exact h2.block i hi fun e=>hn (.inr ⟨k,Hlt.out,e⟩)
 have HB:Hid (∀ b,OwT g (fun i=>if i=k then some gg else bs i) b→OwT g bs b∨W.heap.size≤b):=fun b hb=>by
  have hs5:=hb5.size
  rcases hb with rfl | ⟨i,hi,hb⟩
  ·exact .inl (.inl rfl)
  ·by_cases e:i=k
   ·simp only [if_pos e] at hb
    injection hb with hb
    subst hb
    rcases hgg with h | h
    ·exact .inl (.inr ⟨k,Hlt.out,h⟩)
    ·exact .inr (by omega)
   ·simp only [if_neg e] at hb
    exact .inl (.inr ⟨i,hi,hb⟩)
 clear hown8 hgrow8 hat8 o8 hM8 hgg
 go_wp2_with fail
 go_end0
 refine (Hdef.out _ _).2 ⟨rfl,_,?_,HM.out,HB.out⟩
 rw [show (fun i=>if i=k then xss k++[s] else xss i)=(fun i=>if i=k then xs++[s] else xss i) by rw [Hxs.out]]
 exact HS.out
end Go.Proofs.YtojmofnamppbdaaGreat
