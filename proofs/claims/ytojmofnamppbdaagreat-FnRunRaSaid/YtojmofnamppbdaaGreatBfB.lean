/-
  A state with store buffers in the program's memory; the walks of what reads it. slices.Backward over bytes: what it hands back. The walk of impl.read: what a thread sees of a location. Bytes in a block of one's own, whatever its mark (a block that came out of a string bears one); appending to them. The walks of the machine with store buffers: its key. The walks of the machine with store buffers: done, moves, newBuffers. The walks of the machine with store buffers: newBuffers; slices.Clone of rows of bytes.
-/
import Derived.Test.YtojmofnamppbdaaGreatSeqC
import Derived.Test.YtojmofnamppbdaaGreatBufA
import Derived.Test.YtojmofnamppbdaaGreatLib
import Derived.RangeFuncNested
import Derived.RangeFuncBound
import Derived.RangeFuncCalls
import Derived.RangeFuncLeaves
import Derived.RangeFuncBox
import Derived.Shelf.Abstract
import Derived.Shelf.RegionOpen
import Derived.WalkKit
import Derived.OwnWalkIn
import Derived.TacticsInMore
import Derived.LoopNIn
import Derived.LoopIn
import Derived.Lib.ConvBytes
import Derived.Laws.IdiomCopy
import Derived.Lib.SliceRun
namespace Go.Proofs.YtojmofnamppbdaaGreat
open Go.RowKit
set_option linter.unusedVariables false
set_option maxRecDepth 100000
def bytB (s:BSt):List (List Int):=s.bufs.map fun bf=>bf.map encZ
def RBy (w:World) (cs:Nat→Value) (x:List Int):Prop:=∃ A c,cs 0=.slice A x.length c∧x.length≤c∧SlR 1 (fun _=>QB) w (.slice A x.length c) x
theorem rby_le:∀ (a a':World) (cs:Nat→Value) (x:List Int),Le a a'→RBy a cs x→RBy a' cs x:=fun a a' cs x hl ⟨A,c,h1,h0,h2⟩=>⟨A,c,h1,h0,SlR.le (fun _ _ _ h=>h) h2 hl⟩
structure BufL (W:World) (b:Nat) (Ap:Option Addr) (cp:Nat) (p:Prg) (sp:Bool) (s:BSt):Prop where
 vals:SeqL W b Ap cp p s.s
 spl:W.cell? ⟨b,16,none⟩=some (.bool sp)
 wts:∃ A c,W.cell? ⟨b,17,none⟩=some (.slice A s.bufs.length c)∧SlR 1 RBy W (.slice A s.bufs.length c) (bytB s)
section
variable {W W':World} {b:Nat} {Ap:Option Addr} {cp:Nat} {p:Prg} {sp:Bool} {s:BSt}
theorem BufL.le (h:BufL W b Ap cp p sp s) (hl:Le W W'):BufL W' b Ap cp p sp s:=
 ⟨h.vals.le hl,hl _ _ h.spl,h.wts.elim fun A ⟨c,h1,h2⟩=>⟨A,c,hl _ _ h1,SlR.le' rby_le h2 hl⟩⟩
theorem BufL.under (h:BufL W b Ap cp p sp s) (hb:Below W.heap.size W W'):BufL W' b Ap cp p sp s:=h.le (Le.below hb)
theorem BufL.lt (h:BufL W b Ap cp p sp s):b<W.heap.size:=h.vals.lt
theorem bytB_get {k:Nat} (hk:k<s.bufs.length):(bytB s)[k]'(by simpa [bytB] using hk)=(bufB s k).map encZ:=by
 unfold bytB bufB
 rw [List.getElem_map,List.getD_eq_getElem?_getD,List.getElem?_eq_getElem hk]
 rfl
theorem BufL.rows (h:BufL W b Ap cp p sp s):∃ A c,W.cell? ⟨b,17,none⟩=some (.slice A s.bufs.length c)∧SlR 1 RBy W (.slice A s.bufs.length c) (bytB s) ∧
  (∀ k,k<s.bufs.length→∃ bp op A1 c1,A=some ⟨bp,op,none⟩∧bp<W.heap.size∧W.cell? ⟨bp,op+k,none⟩=some (.slice A1 (bufB s k).length c1)∧SlR 1 (fun _=>QB) W (.slice A1 (bufB s k).length c1) ((bufB s k).map encZ)∧(bufB s k).length≤c1):=by
 obtain⟨A,c,h1,h2⟩:=h.wts
 refine⟨A,c,h1,h2,fun k hk=>?_⟩
 obtain⟨bp,op,cs,e,k0,A1,c1,k1,hc,hr⟩:=SlR.get1 h2 (i:=k) (by simpa [bytB] using hk)
 rw [bytB_get hk] at k1 hr hc
 rw [List.length_map] at k1 hr hc
 rw [k1] at k0
 exact⟨bp,op,A1,c1,e,World.block_lt_of_cell? _ _ k0,k0,hr,hc⟩
end
set_option maxHeartbeats 400000 in
theorem buffer_any (sp:Bool) (W:World) (b:Nat) (ho:W.cell? ⟨b,16,none⟩=some (.bool sp)) (t l:Nat) (ht:t<3) (hl:l<3):
  Calls Tryz.prog 206 #[.pointer (some ⟨b,0,none⟩),.int .i64 t,.int .i64 l] W (fun e W'=>e=.returned (.int .i64 ((plB sp t l:Nat):Int))∧Below W.heap.size W W'):=by
 go_enter Tryz.func206,Tryz.ntmps206
 cases sp
 ·go_wp2_with fail
  go_ret
  exact⟨by rw [show plB false t l=t from if_neg (by decide)]; rfl,Below.refl _ _⟩
 ·go_wp2_with fail
  go_ret
  refine⟨?_,Below.refl _ _⟩
  rw [show plB true t l=3*t+l from if_pos rfl]
  go_num
def empT (sp:Bool) (s:BSt) (t i:Nat):Prop:=∀ l,l<i→bufB s (plB sp t l)=[]
set_option maxHeartbeats 1000000 in
theorem isEmpty_any (p:Prg) (hp:PrgOk p) (sp:Bool) (s:BSt) (hs:BOk p sp s) (t:Nat) (ht:t<p.length) (W:World) (b:Nat) (Ap:Option Addr) (cp:Nat) (ho:BufL W b Ap cp p sp s):
  Calls Tryz.prog 210 #[.pointer (some ⟨b,0,none⟩),.int .i64 t] W (RetB W (empB sp s t)):=by
 have h3:=hp.1.1
 have ht3:t<3:=by omega
 have hpl:Hid (∀ l,l<3→plB sp t l<s.bufs.length):=fun l hl=>by rw [hs.len]; exact pl_lt ht hl
 have HT:Hid (empT sp s t 3→empB sp s t=true):=fun h=>by
  unfold empB
  rw [List.all_eq_true]
  intro l hl
  rw [h l (List.mem_range.1 hl)]
  rfl
 have HF:Hid (∀ l,l<3→bufB s (plB sp t l)≠[]→empB sp s t=false):=fun l hl h=>by
  unfold empB
  rw [List.all_eq_false]
  exact⟨l,List.mem_range.2 hl,by rw [List.isEmpty_iff]; exact h⟩
 go_enter Tryz.func210,Tryz.ntmps210
 go_wp2_with fail
 go_loopg [6] 3 (fun g s6 wr=>∃ i:Nat,i≤3∧g=3-i∧s6=.int .i64 i∧Hid (empT sp s t i)∧Below W.heap.size W wr)
 case atStart=>exact⟨0,Nat.zero_le _,rfl,rfl,fun j h=>absurd h (Nat.not_lt_zero _),Below.refl _ _⟩
 case round=>
  obtain⟨wo,rfl⟩:∃ wo:World,wo=wr:=⟨_,rfl⟩
  obtain⟨i,hi,rfl,rfl,hall,hb⟩:=hrel
  by_cases hlt:i<3
  ·have hO:=ho.under hb
   obtain⟨A,c,q17,_,hrows⟩:=hO.rows
   have hk:=hpl.out i hlt
   obtain⟨bp,op,A1,c1,rfl,hbp,k0,_⟩:=hrows _ hk
   have q16:=hO.spl
   have hki:((plB sp t i:Nat):Int)<(s.bufs.length:Int):=by omega
   have Hb:Hid (bufB s (plB sp t i)≠[]→empB sp s t=false):=HF.out i hlt
   have Hnext:Hid (bufB s (plB sp t i)=[]→empT sp s t (i+1)):=fun h j hj=>by
    rcases Nat.lt_succ_iff_lt_or_eq.1 hj with h' | h'
    ·exact hall.out j h'
    ·rw [h']; exact h
   have Hc:Hid (∀ U,Below wo.heap.size wo U→Calls Tryz.prog 206 #[.pointer (some ⟨b,0,none⟩),.int .i64 t,.int .i64 i] U (fun e U'=>e=.returned (.int .i64 ((plB sp t i:Nat):Int))∧Below U.heap.size U U')):=fun U hU=>buffer_any sp U b (Le.below hU _ _ q16) t i ht3 hlt
   generalize plB sp t i=k at hk hki k0 Hb Hnext Hc
   have Hlen:Hid ((bufB s k).length=0→bufB s k=[]):=List.length_eq_zero_iff.1
   have Hlen':Hid (0<(bufB s k).length→bufB s k≠[]):=fun h e=>by rw [e] at h; exact Nat.lt_irrefl 0 h
   generalize (bufB s k).length=n at k0 Hlen Hlen'
   have hbl:=hO.lt
   have f0:=fun n:Ext wo=>n.le _ _ q17
   have f1:=fun n:Ext wo=>n.le _ _ k0
   clear hrows hO hall q17 k0 q16
   go_wp2_with fail
   refine wp_region_ext _ (by kernel_rfl) (by kernel_rfl) (Below.refl _ _) ?_
   repeat (go_big_quiet_step ((go_at_call 206; with_reducible exact Ext.call _ Hc.out)))
   refine wpQuiet_nil ?_
   rintro wn ⟨⟨_,hbn⟩,rfl⟩
   have hBn:=hb.trans (hbn.mono hb.size)
   clear f0 f1 hbn Hc
   by_cases hn:0<n
   ·have hd:decide ((0:Int)<(n:Int))=true:=by rw [decide_eq_true_iff]; omega
    have Hr:Hid (empB sp s t=false):=Hb.out (Hlen'.out hn)
    go_wp2_with fail
    go_ret
    exact⟨by rw [Hr.out]; rfl,hBn⟩
   ·have hd:decide ((0:Int)<(n:Int))=false:=by rw [decide_eq_false_iff_not]; omega
    have Hr:Hid (empT sp s t (i+1)):=Hnext.out (Hlen.out (by omega))
    go_wp2_with fail
    go_roundg (3-(i+1))
    case measure=>omega
    case rel=>exact⟨i+1,by omega,rfl,by go_num,Hr.out,hBn⟩
  ·obtain rfl:i=3:=by omega
   have Hd:Hid (empB sp s t=true):=HT.out hall.out
   clear hall
   go_wp2_with fail
   go_ret
   exact⟨by rw [Hd.out]; rfl,hb⟩
end Go.Proofs.YtojmofnamppbdaaGreat
namespace Go.Proofs.YtojmofnamppbdaaGreat
open Go.RowKit Go.Shelf
set_option linter.unusedVariables false
attribute [local go_sem] Oper.semAt_some
set_option maxRecDepth 100000 in
set_option maxHeartbeats 2000000 in
theorem back1_in (F:Fence) (n:Nat) (hF:F.fn 213) (hro:F.round=none) (hn:1≤n) (l Bs n₀ cap:Nat) (A:Option Addr) (xs:List WK) (hreach:xs.length≤1000000) (hBn:Bs<n₀) (J Jx:List (Nat×WK)→World→Prop)
  (hY:∀ pre x W,J pre W→pre.length<xs.length→YieldAt F (n-1) Tryz.prog l #[.int .i64 (x.1:Int),.int .u8 (encZ x.2.1)] W fun e W'=>
   (e=.returned (.bool true)∧J (pre++[x]) W'∧Below n₀ W W')∨(e=.returned (.bool false)∧Jx (pre++[x]) W'))
  (W:World) (hBs:W.cell? ⟨Bs,0,none⟩=some (.slice A xs.length cap)) (hc:∀ j (hj:j<xs.length),∃ b off,A=some ⟨b,off,none⟩∧b<n₀∧W.cell? ⟨b,off+j,none⟩=some (.int .u8 (encZ xs[j].1))) (h0:J [] W):
  CallsIn F n Tryz.prog 213 #[.func (.yield l) #[] #[],.pointer (some ⟨Bs,0,none⟩)] W fun e W'=>(∃ v,e=.returned v) ∧
   ((∃ ys,ys=seqK xs∧J ys W')∨(∃ pre,pre <+: seqK xs∧Jx pre W')):=by
 refine callsIn_of_wp Tryz.func213 rfl hF ?_ hro
 simp only [Tryz.ntmps213,List.size_toArray,List.length_cons,List.length_nil,Nat.reduceAdd,Nat.reduceSub,Array.replicate_succ,Array.replicate_zero,List.push_toArray,List.append_toArray,List.nil_append,List.cons_append]
 gi_wp2
 gi_loopw [3] (fun i wr=>∃ k j:Nat,k+j=xs.length∧i=.int .i64 ((j:Int)-1)∧J ((seqK xs).take k) wr∧Below n₀ W wr)
  (fun i _=>(intOf i+1).toNat)
 case atStart=>exact⟨0,xs.length,by omega,rfl,h0,Below.refl _ _⟩
 case round=>
  obtain⟨k,j,hk,rfl,hJs,hnx⟩:=hrel
  have hbx:wr.cell? ⟨Bs,0,none⟩=some (.slice A xs.length cap):=(hnx.cell (p:=⟨Bs,0,none⟩) hBn).trans hBs
  cases j with
  | succ j=>
   have hjl:j<xs.length:=by omega
   obtain⟨b,off,rfl,hb,hcj⟩:=hc j hjl
   have hcx:wr.cell? ⟨b,off+j,none⟩=some (.int .u8 (encZ xs[j].1)):=(hnx.cell (p:=⟨b,off+j,none⟩) hb).trans hcj
   have hkl:k<(seqK xs).length:=by rw [seqK_length]; omega
   have hus:(seqK xs).take (k+1)=(seqK xs).take k++[(j,xs[j])]:=by
    rw [List.take_succ_eq_append_getElem hkl,seqK_get xs k hkl (by omega)]
    simp only [show xs.length-1-k=j by omega]
   obtain⟨fn,tmps,assign,body,hy,hR⟩:=hY _ (j,xs[j]) wr hJs (by rw [List.length_take,seqK_length]; omega)
   dsimp only at hy
   have ej:((j+1:Nat):Int)-1=(j:Int):=by omega
   rw [ej]
   have hjl':(j:Int)<(xs.length:Int):=by omega
   clear ej hc hcj
   generalize xs[j]=z at hcx hy hR hus
   gi_wp2
   refine hR.mono ?_
   rintro e W3 (⟨rfl,hJ3,hk3⟩ | ⟨rfl,hJx3⟩)
   ·gi_wp2
    go_roundw
    case rel=>exact⟨k+1,j,by omega,by go_num,by rw [hus]; exact hJ3,hnx.trans hk3⟩
    case measure=>simp [intOf]
   ·gi_wp2
    refine bodyPost_ret (results_none rfl _ _ _) rfl ?_
    exact⟨⟨_,rfl⟩,.inr ⟨_,by rw [← hus]; exact List.take_prefix _ _,hJx3⟩⟩
  | zero=>
   obtain rfl:k=xs.length:=by omega
   gi_wp2
   go_end0
   refine⟨⟨_,rfl⟩,.inl ⟨_,?_,hJs⟩⟩
   rw [← seqK_length,List.take_length]
set_option maxHeartbeats 1000000 in
theorem back_in (F:Fence) (n:Nat) (hF:F.fn 211) (hro:F.round=none) (a:Option Addr) (len cap:Nat) (w:World):
  CallsIn F n Tryz.prog 211 #[.slice a len cap] w fun e w'=>e=.returned (.func (.func 213) #[] #[.pointer (some ⟨w.heap.size,0,none⟩)])∧w'=w.alloc (.cells #[.slice a len cap] 22):=by
 refine callsIn_of_wp Tryz.func211 rfl hF ?_ hro
 simp only [Tryz.ntmps211,List.size_toArray,List.length_cons,List.length_nil,Nat.reduceAdd,Nat.reduceSub,Array.replicate_succ,Array.replicate_zero,List.push_toArray,List.append_toArray,List.nil_append,List.cons_append]
 gi_wp2
 go_ret
 exact⟨rfl,rfl⟩
theorem back_stops (F:Fence) (n:Nat) (hF:F.fn 213) (hro:F.round=none) (hn:1≤n) (Bs n₀ cap:Nat) (A:Option Addr) (xs:List WK) (hreach:xs.length≤1000000) (w:World) (hBs:Bs<w.heap.size) (hn₀:n₀≤w.heap.size) (hBn:Bs<n₀)
  (hc:w.cell? ⟨Bs,0,none⟩=some (.slice A xs.length cap)) (hcs:∀ j (hj:j<xs.length),∃ b off,A=some ⟨b,off,none⟩∧b<n₀∧w.cell? ⟨b,off+j,none⟩=some (.int .u8 (encZ xs[j].1))):
  SeqStopsK F n Tryz.prog 213 #[.pointer (some ⟨Bs,0,none⟩)] (fun x:Nat×WK=>#[Value.int .i64 (x.1:Int),Value.int .u8 (encZ x.2.1)]) (Below n₀) (fun ys=>ys=seqK xs) (fun pre=>pre <+: seqK xs) xs.length w:=fun l J Jx W hW _ _ hY h0=>
 back1_in F n hF hro hn l Bs n₀ cap A xs hreach hBn J Jx hY W ((hW.cell (p:=⟨Bs,0,none⟩) hBs).trans hc) (fun j hj=>by
  obtain⟨b,off,e,hb,hcj⟩:=hcs j hj
  exact⟨b,off,e,hb,((hW.mono hn₀).cell (p:=⟨b,off+j,none⟩) hb).trans hcj⟩) h0
end Go.Proofs.YtojmofnamppbdaaGreat
namespace Go.Proofs.YtojmofnamppbdaaGreat
open Go.RowKit Go.Shelf
set_option linter.unusedVariables false
attribute [local go_sem] Oper.semAt_some
theorem seen_none {bf:List (Int×Int)} {l m:Int} (h:∀ w∈bf,w.1≠l):seenB bf l m=m:=by
 unfold seenB
 have:bf.reverse.find? (fun w=>decide (w.1=l))=none:=List.find?_eq_none.2 fun w hw=>by
  have:=h w (List.mem_reverse.1 hw)
  simpa using this
 rw [this]
theorem seen_some {bf ini:List (Int×Int)} {w:Int×Int} {l m:Int} (h:ini++[w] <+: bf.reverse) (hi:∀ u∈ini,u.1≠l) (hw:w.1=l):seenB bf l m=w.2:=by
 obtain⟨r,hr⟩:=h
 unfold seenB
 rw [← hr,List.append_assoc,List.find?_append]
 have:ini.find? (fun w=>decide (w.1=l))=none:=List.find?_eq_none.2 fun u hu=>by simpa using hi u hu
 rw [this,List.singleton_append,List.find?_cons_of_pos (by simpa using hw)]
 rfl
set_option maxRecDepth 100000 in
set_option maxHeartbeats 2000000 in
theorem read_any (p:Prg) (hp:PrgOk p) (sp:Bool) (s:BSt) (hs:BOk p sp s) (t l:Nat) (ht:t<p.length) (hl:l<3) (W:World) (b:Nat) (Ap:Option Addr) (cp:Nat) (ho:BufL W b Ap cp p sp s):
  Calls Tryz.prog 205 #[.pointer (some ⟨b,0,none⟩),.int .i64 t,.int .i64 l] W (fun e W'=>e=.returned (.int .u8 (seenB (bufB s (plB sp t l)) (l:Int) (meF s.s l)))∧Below W.heap.size W W'):=by
 have h3:=hp.1.1
 have ht3:t<3:=by omega
 have hro:(Fence.wide).round=none:=rfl
 refine (callsIn_wide (n:=9)).1 ?_
 refine callsIn_of_wp_marks Tryz.func205 rfl trivial ?_ hro
 simp only [Tryz.ntmps205,List.size_toArray,List.length_cons,List.length_nil,Nat.reduceAdd,Nat.reduceSub,Array.replicate_succ,Array.replicate_zero,List.push_toArray,List.append_toArray,List.nil_append,List.cons_append]
 refine wpIn_wide.2 ?_
 have hk:plB sp t l<s.bufs.length:=by rw [hs.len]; exact pl_lt ht hl
 obtain⟨A,c,q17,_,hrows⟩:=ho.rows
 obtain⟨bp,op,A1,c1,rfl,hbp,k0,hby,_⟩:=hrows _ hk
 have h7:=hs.short7 hp (plB sp t l)
 obtain⟨xs,hxs⟩:=wk_list (bf:=bufB s (plB sp t l)) fun w hw=>hs.ent _ w hw
 have hm0:=ho.vals.mem hl
 rw [← hxs] at hby k0 h7 ⊢
 rw [List.length_map] at hby k0 h7
 have hcs:∀ j (hj:j<xs.length),∃ b off,A1=some ⟨b,off,none⟩∧b<W.heap.size∧W.cell? ⟨b,off+j,none⟩=some (.int .u8 (encZ xs[j].1)):=fun j hj=>by
  obtain⟨b1,o1,cs,e,k1,k2⟩:=SlR.get1 hby (i:=j) (by simpa using hj)
  have k2:cs 0=.int .u8 _:=k2
  rw [k2] at k1
  exact⟨b1,o1,e,World.block_lt_of_cell? _ _ k1,by rw [k1]; simp⟩
 clear hxs hby
 have hki:((plB sp t l:Nat):Int)<(s.bufs.length:Int):=by omega
 have q16:=ho.spl
 have hbl:=ho.lt
 obtain⟨V,hV⟩:∃ V,V=(W.alloc (.cells #[.int .i64 l] 3)).alloc (.cells #[.int .u8 0] 5):=⟨_,rfl⟩
 have hB:Below W.heap.size W V:=by rw [hV]; exact ((Below.refl _ _).alloc (Nat.le_refl _) _).alloc (by simp) _
 have o5:Own V W.heap.size 3 #[.int .i64 l]:=by rw [hV]; exact (Own.new _ _ _).alloc _
 have o6:Own V (W.heap.size+1) 5 #[.int .u8 0]:=by rw [hV]; simpa using Own.new (W.alloc (.cells #[.int .i64 l] 3)) 5 #[.int .u8 0]
 have c5:=o5.cell (i:=0) rfl
 have q17:=Le.below hB _ _ q17
 have q16:=Le.below hB _ _ q16
 have k0:=Le.below hB _ _ k0
 have hbuf:Hid (∀ U,Below V.heap.size V U→Calls Tryz.prog 206 #[.pointer (some ⟨b,0,none⟩),.int .i64 t,.int .i64 l] U (fun e U'=>e=.returned (.int .i64 ((plB sp t l:Nat):Int))∧Below U.heap.size U U')):=fun U hU=>buffer_any sp U b (Le.below hU _ _ q16) t l ht3 hl
 generalize plB sp t l=k at hk hki k0 hbuf
 have Hcs:=Lib.hid hcs
 clear hrows hcs
 go_upto_region 1 with (fail)
 rw [← hV]
 clear hV
 go_region_held3 (fun V=>V.cell? ⟨b,17,none⟩=some (.slice (some ⟨bp,op,none⟩) s.bufs.length c)∧V.cell? ⟨bp,op+k,none⟩=some (.slice A1 xs.length c1)∧V.cell? ⟨b,16,none⟩=some (.bool sp)∧V.cell? ⟨W.heap.size,0,none⟩=some (.int .i64 l))
  (first
   | exact⟨q17,k0,q16,c5⟩
   | exact⟨Le.below hb5 _ _ q17,Le.below hb5 _ _ k0,Le.below hb5 _ _ q16,Le.below hb5 _ _ c5⟩
   | exact⟨Le.alloc _ _ _ _ (Le.below hb5 _ _ q17),Le.alloc _ _ _ _ (Le.below hb5 _ _ k0),Le.alloc _ _ _ _ (Le.below hb5 _ _ q16),Le.alloc _ _ _ _ (Le.below hb5 _ _ c5)⟩)
  (first
   | (go_at_call 206; ((with_reducible refine (hbuf.out _ (Below.refl _ _).drew).mono ?_); rintro e5 w5 ⟨rfl,hb5⟩))
   | (go_at_call 211; ((with_reducible refine (callsIn_wide.1 (back_in Fence.wide 9 (by first | trivial | simp [Fence.wide]) rfl _ _ _ _)).mono ?_); rintro e6 w6 ⟨rfl,rfl⟩)))
 have hBV:=(Below.refl V.heap.size V).drew
 have hB5:=hB.trans ((hBV.trans (hb5.mono hBV.size)).mono hB.size)
 have hB6:=hB5.alloc hB5.size (.cells #[.slice A1 xs.length c1] 22)
 have r5:=((o5.drew.under hb5).alloc (.cells #[.slice A1 xs.length c1] 22)).cell (i:=0) rfl
 have r6:=((o6.drew.under hb5).alloc (.cells #[.slice A1 xs.length c1] 22))
 have r6c:=r6.cell (i:=0) rfl
 have r6f:=r6.frozen 0
 have hsz5:=hB5.size
 have hVs:=hb5.size
 have rB:=(Own.new w5 22 #[.slice A1 xs.length c1]).cell (i:=0) rfl
 have Hcs6:∀ j (hj:j<xs.length),∃ b off,A1=some ⟨b,off,none⟩∧b<w5.heap.size+1∧(w5.alloc (.cells #[.slice A1 xs.length c1] 22)).cell? ⟨b,off+j,none⟩=some (.int .u8 (encZ xs[j].1)):=fun j hj=>by
  obtain⟨b1,o1,e,hb1,h⟩:=Hcs.out j hj
  exact⟨b1,o1,e,by omega,Le.below hB6 _ _ h⟩
 go_wp2_with fail
 refine (wpIn_wide (n:=9)).1 ?_
 refine wpIn_rangeFunc_ownG hro (by omega) (gf:=213) (lb:=#[.pointer (some ⟨w5.heap.size,0,none⟩)]) rfl (by first | trivial | simp [Fence.wide]) (enters_of Tryz.func213 (by kernel_rfl) rfl)
  (back_stops Fence.wide (9-1) (by first | trivial | simp [Fence.wide]) rfl (by omega) w5.heap.size (w5.heap.size+1) c1 A1 xs (by omega) _ (by simp) (by simp) (by omega) rB Hcs6) belowK_t (belowK_b (by simp)) (Below.refl _ _) (fun _=>rfl)
  (fun pre W'=>((∀ q∈pre,q.2.1.1≠(l:Int))∧W'.cell? ⟨W.heap.size,0,none⟩=some (.int .i64 l)∧(W'.cell? ⟨W.heap.size+1,0,none⟩=some (.int .u8 0)∧W'.frozen? ⟨W.heap.size+1,0,none⟩=false))∧Below W.heap.size W W')
  (fun c pre W'=>(c=.ret∧∃ ini last,pre=ini++[last]∧(∀ q∈ini,q.2.1.1≠(l:Int))∧last.2.1.1=(l:Int)∧W'.cell? ⟨W.heap.size+1,0,none⟩=some (.int .u8 last.2.1.2))∧Below W.heap.size W W')
  (OwnFrom.and (Own.from (fun s A B row hs hg hr=>⟨hs.1,cell_kept hs.2.1 hg hr,cell_kept hs.2.2.1 hg hr,(frozen_kept hs.2.2.1 hg hr).trans hs.2.2.2⟩) _) (ownFrom_below (Nat.le_refl _) (by simp; omega)))
  (fun c=>OwnFrom.and (Own.from (fun s A B row hs hg hr=>by obtain⟨hc,ini,last,e1,e2,e3,e4⟩:=hs; exact⟨hc,ini,last,e1,e2,e3,cell_kept e4 hg hr⟩) _) (ownFrom_below (Nat.le_refl _) (by simp; omega)))
  ⟨⟨by simp,r5,r6c,r6f⟩,hB6⟩
  (fun x=>{ tmps:=#[.pointer (some ⟨b,0,none⟩),.int .i64 t,.int .i64 l,undef,undef,.pointer (some ⟨W.heap.size,0,none⟩),.pointer (some ⟨W.heap.size+1,0,none⟩),undef,.int .u8 (encZ x.2.1),.pointer (some ⟨b,0,none⟩),.pointer (some ⟨b,0,none⟩),.pointer (some ⟨b,17,none⟩),.slice (some ⟨bp,op,none⟩) s.bufs.length c,.pointer (some ⟨b,0,none⟩),.int .i64 t,.int .i64 l,.int .i64 k,.pointer (some ⟨bp,op+k,none⟩),.slice A1 xs.length c1,.func (.func 213) #[] #[.pointer (some ⟨w5.heap.size,0,none⟩)],.int .i64 (x.1:Int),.int .u8 (encZ x.2.1),undef,undef,undef,undef,undef,undef,undef,undef,undef,undef,undef,undef,undef,undef],defers:=[] }) ?assign ?body ?done ?stop
 case assign=>
  intro l x W K hK
  gi_wp2
  exact hK
 case body=>
  rintro l' pre x W' ⟨⟨hp1,hc5',hc6',hf6'⟩,hB'⟩ _
  obtain⟨e0,e35,eq1,eq2⟩:=encZ_lt x.2.2
  have hxl:=x.2.2
  generalize encZ x.2.1=e at e0 e35 eq1 eq2
  gi_wp2
  ·have hx:(x.2.1.1 == (l:Int))=true:=by assumption
   exact⟨(KeepsOthers.setCell _ _ _).from _,⟨rfl,pre,x,rfl,hp1,by simpa using hx,World.cell?_setCell_same' _ _ _ (by rw [hc6']; rfl)⟩,hB'.setCell (p:=⟨W.heap.size+1,0,none⟩) (Nat.le_succ _) _⟩
  ·have hx:(x.2.1.1 == (l:Int))=false:=by assumption
   exact⟨KeepsFrom.refl _ _,Below.refl _ _,⟨fun q hq'=>(List.mem_append.1 hq').elim (hp1 q) (fun e=>by rw [List.mem_singleton.1 e]; simpa using hx),hc5',hc6',hf6'⟩,hB'⟩
 case done=>
  rintro D ys W' hD rfl ⟨⟨hne,hc5',hc6',hf6'⟩,hB'⟩ hK
  gi_wp2
  have hmw:=Le.below hB' _ _ hm0
  have hli:(l:Int)<3:=by omega
  have hseen:seenB (xs.map Subtype.val) (l:Int) (meF s.s l)=meF s.s l:=seen_none fun w hw=>by
   obtain⟨q,hq,rfl⟩:∃ q∈seqK xs,q.2.1=w:=by
    have h:w∈(seqK xs).map (fun q=>q.2.1):=by rw [seqK_rev]; exact List.mem_reverse.2 hw
    obtain⟨q,h1,h2⟩:=List.mem_map.1 h
    exact⟨q,h1,h2⟩
   exact hne q hq
  have Hseen:=Lib.hid hseen
  clear hseen
  generalize hmv:meF s.s l=mv at hmw Hseen
  have Hmv:=Lib.hid hmv
  clear hmv
  go_wp2_with fail
  go_still_tail 7,(by kernel_rfl)
  go_wp2_with fail
  have hK':(W'.setCell ⟨W.heap.size+1,0,none⟩ (.int .u8 mv)).drew.heap[D]?=some (.deferred (some [])):=(KeepsOthers.setCell W' ⟨W.heap.size+1,0,none⟩ (.int .u8 mv)).same D _ hK rfl
  refine⟨by simp,.inl ⟨_,_,rfl,run_takeDeferred hK',?_⟩⟩
  have hcr0:(W'.setCell ⟨W.heap.size+1,0,none⟩ (.int .u8 mv)).drew.cell? ⟨W.heap.size+1,0,none⟩=some (.int .u8 mv):=World.cell?_setCell_same' W' _ _ (by rw [hc6']; rfl)
  have hcr:=cell_kept hcr0 (grownBy_putObj' _ D (.deferred none)) (fun r e=>by cases e; exact⟨_,hK',rfl⟩)
  refine⟨.int .u8 mv,?_,by rw [Hmv.out,Hseen.out],(hB'.setCell (p:=⟨W.heap.size+1,0,none⟩) (Nat.le_succ _) _).drew.trans (belowK_b (w:=W) (Nat.le_refl _) _ D _ _ (by simp at hD; omega) hK' rfl rfl)⟩
  simp [results,Tryz.f205,go_sem,hcr]
 case stop=>
  rintro D c pre W' hD hpre ⟨⟨rfl,ini,last,e1,e2,e3,hc6'⟩,hB'⟩ hK
  gi_wp2
  have hseen:seenB (xs.map Subtype.val) (l:Int) (meF s.s l)=last.2.1.2:=seen_some (ini:=ini.map fun q=>q.2.1) (w:=last.2.1) (by
   rw [← seqK_rev,show (ini.map fun q=>q.2.1)++[last.2.1]=(ini++[last]).map (fun q:Nat×WK=>q.2.1) by simp,← e1]
   exact hpre.map _) (fun u hu=>by
    obtain⟨q,hq,rfl⟩:=List.mem_map.1 hu
    exact e2 q hq) e3
  refine⟨by simp,.inl ⟨_,_,rfl,run_takeDeferred hK,?_⟩⟩
  have hcr:=cell_kept hc6' (grownBy_putObj' _ D (.deferred none)) (fun r e=>by cases e; exact⟨_,hK,rfl⟩)
  refine⟨.int .u8 last.2.1.2,?_,by rw [hseen],hB'.trans (belowK_b (w:=W) (Nat.le_refl _) W' D _ _ (by simp at hD; omega) hK rfl rfl)⟩
  simp [results,Tryz.f205,go_sem,hcr]
end Go.Proofs.YtojmofnamppbdaaGreat
namespace Go.Proofs.YtojmofnamppbdaaGreat
open Go.RowKit
set_option linter.unusedVariables false
set_option maxRecDepth 100000
def RowZ (w:World) (base:Nat) (v:Value) (xs:List Int):Prop:=
 ∃ g cap,v=.slice (some ⟨g,0,none⟩) xs.length cap∧base≤g∧g<w.heap.size∧xs.length≤cap∧cap≤maxLen∧(∀ i,i<cap→(w.cell? ⟨g,i,none⟩).isSome=true∧w.frozen? ⟨g,i,none⟩=false)∧∀ i (h:i<xs.length),w.cell? ⟨g,i,none⟩=some (.int .u8 xs[i])
section
variable {w w':World} {base:Nat} {v:Value} {xs:List Int}
theorem RowZ.below (h:RowZ w base v xs) (hb:Below w.heap.size w w'):RowZ w' base v xs:=by
 obtain⟨g,cap,hv,hg,hl,hn,hm,hc,hx⟩:=h
 have hbk:=hb.block g hl
 exact⟨g,cap,hv,hg,Nat.lt_of_lt_of_le hl hb.size,hn,hm,fun i hi=>by
  rw [World.cell?_of_block (w:=w) hbk,World.frozen?_of_block (w:=w) hbk]
  exact hc i hi,fun i hi=>by rw [World.cell?_of_block (w:=w) hbk]; exact hx i hi⟩
theorem RowZ.slice (h:RowZ w base v xs):∃ A c,v=.slice A xs.length c:=by
 obtain⟨g,cap,hv,_⟩:=h
 exact⟨_,_,hv⟩
end
theorem below_setCells (B g:Nat) (hg:B≤g):∀ (vs:List Value) (o:Nat) (w:World),Below B w (w.setCells g o vs)
 | [],_,w=>Below.refl _ _
 | v::r,o,w=>((Below.refl B w).setCell (p:=⟨g,o,none⟩) hg v).trans (below_setCells B g hg r (o+1) _)
theorem run_append_Z {P:Program} (w:World) (t ty e:TypeId) (i:TypeInfo) (ht:P.underlying t=some (.slice e)) (hi:P.info? e=some i) (hz:i.zero=some (.int .u8 0)) (hsize:i.size=1) (hby:i.bytes=1)
  (base:Nat) (v:Value) (xs:List Int) (h:RowZ w base v xs) (A:Option Addr) (c:Nat) (ys:List Int) (hy:SlR 1 (fun _=>QB) w (.slice A ys.length c) ys) (h63:xs.length+ys.length≤1000000) (hbase:base≤w.heap.size):
  ∃ v' w',(Builtin.append_ #[t,t] ty #[v,.slice A ys.length c]).run P w=.ok v' w'∧RowZ w' base v' (xs++ys)∧Below base w w':=by
 obtain⟨g,cap,rfl,hg,hl,hn,hm,hc,hx⟩:=h
 rcases Nat.eq_zero_or_pos ys.length with h0 | hpos
 ·obtain rfl:ys=[]:=List.length_eq_zero_iff.1 h0
  exact⟨_,_,run_append_empty w t ty e i ht hi g 0 xs.length cap hn A c,by rw [List.append_nil]; exact⟨g,cap,rfl,hg,hl,hn,hm,hc,hx⟩,Below.refl _ _⟩
 ·obtain⟨b,o,rfl,news,hnl,hnw,hnr⟩:=SlR.news hy (by omega) hpos
  have hnl':news.length=ys.length:=by rw [hnl,Nat.mul_one]
  have hnv:∀ j (hj:j<ys.length),news[j]?=some (.int .u8 ys[j]):=fun j hj=>by
   obtain⟨cs,h1,h2⟩:=hnr j hj
   have h2:cs 0=.int .u8 ys[j]:=h2
   have h3:=h1 0 (by omega)
   rw [h2,Nat.mul_one,Nat.add_zero,List.getD_eq_getElem?_getD,List.getElem?_eq_getElem (by omega)] at h3
   rw [List.getElem?_eq_getElem (by omega)]
   simp only [Option.getD_some] at h3
   rw [h3]
  have h1:∀ u∈news,u.oneCell'=true:=fun u hu=>by
   obtain⟨j,hj,rfl⟩:=List.getElem_of_mem hu
   have:=hnv j (by omega)
   rw [List.getElem?_eq_getElem hj] at this
   injection this with this
   rw [this]; rfl
  by_cases hroom:xs.length+ys.length≤cap
  ·have hr:=run_append_room_cells (P:=P) w t ty e i ht hi g 0 xs.length cap ⟨b,o,none⟩ ys.length c news (by rw [hnl,hsize]) hnw h1 hroom (fun j hj=>by have:=(hc (xs.length+j) (by omega)).1; simpa [hsize] using this) (fun j hj=>by have:=(hc (xs.length+j) (by omega)).2; simpa [hsize] using this)
   rw [hsize] at hr
   simp only [Nat.mul_one,Nat.zero_add] at hr
   refine⟨_,_,hr,⟨g,cap,by rw [List.length_append],hg,Nat.lt_of_lt_of_le hl (below_setCells 0 g (Nat.zero_le _) _ _ _).size,by rw [List.length_append]; exact hroom,hm,fun k hk=>⟨?_,by rw [World.frozen?_setCells]; exact (hc k hk).2⟩,fun k hk=>?_⟩,below_setCells base g hg _ _ _⟩
   ·by_cases hin:xs.length≤k∧k<xs.length+news.length
    ·have:=World.cell?_setCells_in g news xs.length w (fun j hj=>(hc _ (by omega)).1) (k-xs.length) (by omega)
     rw [show xs.length+(k-xs.length)=k by omega] at this
     rw [this]; rfl
    ·rw [World.cell?_setCells_out g news xs.length w _ (fun _ _=>by show k<_∨_≤k; omega)]
     exact (hc k hk).1
   ·rw [List.length_append] at hk
    by_cases hin:k<xs.length
    ·rw [World.cell?_setCells_out g news xs.length w _ (fun _ _=>Or.inl hin),List.getElem_append_left hin]
     exact hx k hin
    ·have:=World.cell?_setCells_in g news xs.length w (fun j hj=>(hc _ (by omega)).1) (k-xs.length) (by omega)
     rw [show xs.length+(k-xs.length)=k by omega] at this
     rw [this,List.getElem_append_right (by omega)]
     have h4:=hnv (k-xs.length) (by omega)
     rw [List.getElem?_eq_getElem (by omega)] at h4
     exact h4
  ·have hadd:∀ j,(⟨g,0,none⟩:Addr).add j=⟨g,j,none⟩:=fun j=>by unfold Addr.add; split <;> simp_all
   have hr:=run_append_grow (P:=P) w t ty e i (.int .u8 0) ht hi hz ⟨g,0,none⟩ xs.length cap (xs.map (Value.int .u8)) (by rw [List.length_map,hsize,Nat.mul_one]) (fun j u hu=>by
    rw [List.getElem?_map] at hu
    rcases Nat.lt_or_ge j xs.length with hj | hj
    ·rw [List.getElem?_eq_getElem hj] at hu
     rw [hadd,hx j hj]
     exact hu
    ·rw [List.getElem?_eq_none hj] at hu; cases hu) ⟨b,o,none⟩ ys.length c news (by rw [hnl,hsize]) hnw (by omega) (by omega) (growslice_fits (by omega) (by rw [hby]; omega))
   have hge:=grownCap_ge w (xs.length+ys.length) cap e
   have hcm:=grownCap_le_maxLen w (xs.length+ys.length) cap e (by unfold maxLen; omega)
   generalize grownCap w (xs.length+ys.length) cap e=cp at hr hge hcm
   obtain⟨cells,hcells⟩:∃ cells,cells=(xs.map (Value.int .u8)).toArray++news.toArray++Builtin.zeroCells (Value.int .u8 0).cells (cp-(xs.length+ys.length)):=⟨_,rfl⟩
   rw [← hcells] at hr
   have hcz:cells.size=cp:=by
    rw [hcells]
    simp only [Array.size_append,List.size_toArray,List.length_map,size_zeroCells]
    rw [hnl',show (Value.int .u8 0).cells.size=1 from rfl,Nat.mul_one]
    omega
   have hown:Own (w.drew.alloc (.cells cells e)) w.heap.size e cells:=Own.new w.drew e cells
   have hcl:∀ k (hk:k<cells.size),(w.drew.alloc (.cells cells e)).cell? ⟨w.heap.size,k,none⟩=some cells[k]:=fun k hk=>Own.cell hown (by rw [Array.getElem?_eq_getElem hk])
   refine⟨_,_,hr,⟨w.heap.size,cp,by rw [List.length_append],hbase,hown.lt,by rw [List.length_append]; exact hge,hcm,fun k hk=>⟨by rw [hcl k (by omega)]; rfl,Own.frozen hown k⟩,fun k hk=>?_⟩,((Below.refl _ _).drew).alloc hbase _⟩
   rw [List.length_append] at hk
   rw [hcl k (by omega)]
   congr 1
   simp only [hcells]
   by_cases hin:k<xs.length
   ·rw [Array.getElem_append_left (by simp [hnl']; omega),Array.getElem_append_left (by simpa using hin),List.getElem_append_left hin]
    simp
   ·rw [Array.getElem_append_left (by simp [hnl']; omega),Array.getElem_append_right (by simp; omega),List.getElem_append_right (by omega)]
    have h4:=hnv (k-xs.length) (by omega)
    rw [List.getElem?_eq_getElem (by omega)] at h4
    injection h4 with h4
    simpa using h4
theorem wpList_append_Z {P:Program} {w:World} {ops:Array Oper} {rest:List Oper} {o:Oper} {a:Act} {QQ:Exit→Act→World→Prop} (hgd:o.guard=none) (s x:Operand) (t:TypeId) (ho:o.op=.call { callee:=.builtin .append,args:=#[s,x],argTypes:=#[t,t] })
  (e:TypeId) (i:TypeInfo) (ht:P.underlying t=some (.slice e)) (hi:P.info? e=some i) (hz:i.zero=some (.int .u8 0)) (hsize:i.size=1) (hby:i.bytes=1)
  (base:Nat) (v:Value) (xs:List Int) (hs:a.eval s=v) (hown:RowZ w base v xs) (A:Option Addr) (c:Nat) (ys:List Int) (hx:a.eval x=.slice A ys.length c) (hy:SlR 1 (fun _=>QB) w (.slice A ys.length c) ys) (h63:xs.length+ys.length≤1000000) (hbase:base≤w.heap.size)
  (h:∀ A' c' w',RowZ w' base (.slice A' (xs++ys).length c') (xs++ys)→Below base w w'→wpList P ops QQ rest (a.put o.dst (.slice A' (xs++ys).length c')) w'):wpList P ops QQ (o::rest) a w:=
 wpList_plain hgd fun _ hK=>by
  obtain⟨v',w',hr,h2,h3⟩:=run_append_Z (P:=P) w t o.type e i ht hi hz hsize hby base v xs hown A c ys hy h63 hbase
  obtain⟨A',c',rfl⟩:=h2.slice
  unfold Oper.wp execOp
  simp only [ho,resolve,invoke,builtin,Sem.run_bind,Sem.run_pure,Result.andThen_ok,List.map_toArray,List.map_cons,List.map_nil,hs,hx,hr]
  exact hK _ _ (h A' c' w' h2 h3)
theorem strOf_get {xs:List Int} (h:∀ v∈xs,0≤v∧v<256) {j:Nat} (hj:j<xs.length):(((strOfNums xs).data.toList.getD j 0).toNat:Int)=xs[j]:=by
 rw [strOfNums_data,List.getD_eq_getElem?_getD,List.getElem?_map,List.getElem?_eq_getElem hj]
 obtain⟨h0,h1⟩:=h _ (List.getElem_mem hj)
 simp only [Option.map_some,Option.getD_some,UInt8.toNat_ofNat']
 omega
theorem conv_Z (w:World) (xs:List Int) (hx:∀ v∈xs,0≤v∧v<256) (hl:xs.length≤1000000):∃ c w',(convert 9 22 (.string (strOfNums xs))).run Tryz.prog w=.ok (.slice (some ⟨w.heap.size,0,none⟩) xs.length c) w'∧RowZ w' w.heap.size (.slice (some ⟨w.heap.size,0,none⟩) xs.length c) xs∧Below w.heap.size w w':=by
 have h:=Go.Lib.run_convert_string_bytes (P:=Tryz.prog) (u:=.string) w 9 22 5 (strOfNums xs) (by kernel_rfl) Tryz.underlying22 (by kernel_rfl)
 rw [strOfNums_size] at h
 have hge:=grownCap_ge w xs.length 0 5
 have hcm:=grownCap_le_maxLen w xs.length 0 5 (by unfold maxLen; omega)
 have hnew:=Go.Lib.bytesWorld_at_new w 5 (strOfNums xs)
 have hsz:(Go.Lib.bytesCells w 5 (strOfNums xs)).size=grownCap w xs.length 0 5:=by
  unfold Go.Lib.bytesCells
  rw [strOfNums_size,Array.size_append,Array.size_map,Array.size_replicate]
  have:(strOfNums xs).data.size=xs.length:=strOfNums_size xs
  omega
 refine⟨_,_,h,⟨w.heap.size,_,rfl,Nat.le_refl _,by rw [Go.Lib.bytesWorld_size]; omega,hge,hcm,fun i hi=>⟨?_,?_⟩,fun i hi=>?_⟩,⟨rfl,rfl,rfl,by rw [Go.Lib.bytesWorld_size]; omega,fun k hk=>Go.Lib.bytesWorld_at_old _ _ _ k hk⟩⟩
 ·have hi':i<(Go.Lib.bytesCells w 5 (strOfNums xs)).size:=by rw [hsz]; exact hi
  simp [World.cell?,hnew,hi']
 ·simp only [World.frozen?,hnew,hsz,Bool.and_eq_false_iff,decide_eq_false_iff_not]
  left
  omega
 ·rw [Go.Lib.bytesWorld_cell w _ _ i (by rw [strOfNums_size]; exact hi),strOf_get hx hi]
theorem backZ {w:World} {base:Nat} {v:Value} {xs:List Int} (h:RowZ w base v xs) (w':World) (hw:w=w'):(convert 22 9 v).run Tryz.prog w'=.ok (.string (strOfNums xs)) w':=by
 subst hw
 obtain⟨g,cap,rfl,hg,hl,hn,hm,hc,hx⟩:=h
 refine run_convert_bytes_arg w 22 5 (by kernel_rfl) (by kernel_rfl) g 0 xs.length cap xs rfl (fun i hi=>?_) _ (by kernel_rfl)
 rw [Nat.zero_add,hx i hi,List.getD_eq_getElem?_getD,List.getElem?_eq_getElem hi]
 rfl
end Go.Proofs.YtojmofnamppbdaaGreat
namespace Go.Proofs.YtojmofnamppbdaaGreat
open Go.RowKit
set_option linter.unusedVariables false
set_option maxRecDepth 100000
def entL (bf:List (Int×Int)):List Int:=((bf.length:Nat):Int)::bf.map encZ
def byL (s:BSt) (i:Nat):List Int:=kAll s.s++(s.bufs.take i).flatMap entL
theorem byL_key (s:BSt):strOfNums (byL s s.bufs.length)=keyBI s:=by
 have h1:(kAll s.s).map Int.toNat=kI s.s:=by simp [kAll,kR,kP,kI,rgF,meF,List.range_succ]
 have h2:(s.bufs.flatMap entL).map Int.toNat=s.bufs.flatMap fun bf=>bf.length::bf.map encW:=by
  rw [List.map_flatMap]
  congr 1
  funext bf
  unfold entL
  rw [List.map_cons,List.map_map]
  rfl
 have h:(byL s s.bufs.length).map Int.toNat=kBI s:=by
  unfold byL kBI
  rw [List.take_length,List.map_append,h1,h2]
 unfold strOfNums keyBI byt
 rw [← h,List.map_map]
 rfl
theorem byL_next (s:BSt) {i:Nat} (h:i<s.bufs.length):byL s (i+1)=byL s i++[((bufB s i).length:Int)]++(bufB s i).map encZ:=by
 unfold byL
 rw [List.take_succ_eq_append_getElem h,List.flatMap_append,List.append_assoc,List.append_assoc]
 congr 2
 have:bufB s i=s.bufs[i]:=by
  unfold bufB
  rw [List.getD_eq_getElem?_getD,List.getElem?_eq_getElem h]
  rfl
 rw [this]
 simp [entL]
theorem kAll_len (s:St):(kAll s).length=15:=by simp [kAll,kR,kP]
theorem kAll_by {p:Prg} (hp:PrgOk p) {s:St} (hs:StOk p s):∀ v∈kAll s,0≤v∧v<256:=by
 have h1:∀ t,0≤((pcS s t:Nat):Int)∧((pcS s t:Nat):Int)<256:=fun t=>by
  have:=hs.pcb t
  have:=(thr_ok hp t).1
  omega
 have h2:∀ i,0≤rgF s i∧rgF s i<256:=fun i=>by have:=getD_03 hs.regb i; unfold rgF; unfold In03 at this; omega
 have h3:∀ i,0≤meF s i∧meF s i<256:=fun i=>by have:=getD_03 hs.memb i; unfold meF; unfold In03 at this; omega
 intro v hv
 simp only [kAll,kR,kP,List.mem_append,List.mem_cons,List.not_mem_nil,or_false,List.mem_map,List.mem_range] at hv
 rcases hv with ((rfl | rfl | rfl) | ⟨i,_,rfl⟩) | (rfl | rfl | rfl)
 ·exact h1 _
 ·exact h1 _
 ·exact h1 _
 ·exact h2 _
 ·exact h3 _
 ·exact h3 _
 ·exact h3 _
theorem byL_len {p:Prg} {sp:Bool} (hp:PrgOk p) {s:BSt} (hs:BOk p sp s) (i:Nat) (hi:i≤s.bufs.length):(byL s i).length≤15+8*i:=by
 induction i with
 | zero=>simp [byL,kAll_len]
 | succ i ih=>
  have h1:=ih (by omega)
  have h2:=hs.short7 hp i
  rw [byL_next s (by omega)]
  simp only [List.length_append,List.length_map,List.length_singleton]
  omega
set_option maxHeartbeats 1500000 in
theorem keyB_any (p:Prg) (hp:PrgOk p) (sp:Bool) (s:BSt) (hs:BOk p sp s) (W:World) (b:Nat) (Ap:Option Addr) (cp:Nat) (ho:BufL W b Ap cp p sp s):
  Calls Tryz.prog 202 #[.pointer (some ⟨b,0,none⟩)] W (fun e W'=>e=.returned (.string (keyBI s))∧Below W.heap.size W W'):=by
 obtain⟨i0,hi0,hz0,hz1,hz2⟩:=info_parts Tryz.infoByte
 have htx:=text_any p hp s.s hs.ok W b Ap cp ho.vals
 rw [← kAll_key] at htx
 have Hby:=Lib.hid (kAll_by hp hs.ok)
 have Hbl:=Lib.hid (kAll_len s.s)
 have Hbl2:Hid (∀ i,i≤s.bufs.length→(byL s i).length≤15+8*i):=fun i hi=>byL_len hp hs i hi
 have Hk:=Lib.hid (byL_key s)
 have H7:Hid (∀ k,(bufB s k).length≤7):=fun k=>hs.short7 hp k
 have hn9:s.bufs.length≤9:=by rw [hs.len]; exact nBf_le hp sp
 have H0:Hid (byL s 0=kAll s.s):=by show _=_; simp [byL]
 have hbl:=ho.lt
 generalize kAll s.s=ks at htx Hby Hbl H0
 go_enter Tryz.func202,Tryz.ntmps202
 go_wp2_with fail
 refine htx.mono ?_
 rintro e9 w9 ⟨rfl,hb9⟩
 obtain⟨c10,w10,hr10,hrow10,hb10⟩:=conv_Z w9 ks Hby.out (by rw [Hbl.out]; omega)
 have hs9:=hb9.size
 have hB10:=hb9.trans (hb10.mono hs9)
 obtain⟨A,c,q17,_,hrows⟩:=ho.rows
 have q17:=Le.below hB10 _ _ q17
 have HR0:Hid (RowZ w10 W.heap.size (.slice (some ⟨w9.heap.size,0,none⟩) ks.length c10) (byL s 0)):=by
  rw [H0.out]
  obtain⟨g,cap,h1,h2,h3⟩:=hrow10
  exact⟨g,cap,h1,by omega,h3⟩
 have Hrows:=Lib.hid hrows
 clear htx hrow10 hrows
 go_wp2_with fail
 go_loopg [3,16] s.bufs.length (fun g s3 s16 wr=>∃ (i:Nat) (v:Value),i≤s.bufs.length∧g=s.bufs.length-i∧v=s3∧s16=.int .i64 i∧Hid (RowZ wr W.heap.size v (byL s i))∧Below W.heap.size W wr)
 case atStart=>exact⟨0,_,Nat.zero_le _,rfl,rfl,rfl,HR0.out,hB10⟩
 case round=>
  obtain⟨i,v,hi,rfl,rfl,rfl,hrow,hb⟩:=hrel
  have hs2:=hb.size
  by_cases hlt:i<s.bufs.length
  ·obtain⟨bp,op,A1,c1,rfl,hbp,k0,hby,_⟩:=Hrows.out i hlt
   have k0:=Le.below hb _ _ k0
   have hbyW:=hby
   have Hn:=Lib.hid (byL_next s hlt)
   have h7:=H7.out i
   have hll:=Hbl2.out i (by omega)
   have hyl:((bufB s i).map encZ).length=(bufB s i).length:=List.length_map _
   rw [← hyl] at Hn k0 hbyW h7
   clear hby
   generalize (bufB s i).map encZ=ys at Hn k0 hbyW h7
   generalize byL s i=L at Hn hrow hll
   have hn256:(ys.length:Int) % 256=(ys.length:Int):=by omega
   have hili:(i:Int)<(s.bufs.length:Int):=by omega
   have HZ:=Lib.hid (hrow.out.below ((Below.refl _ _).alloc (Nat.le_refl _) (.cells #[.int .u8 (ys.length:Int)] 5)))
   have oT:=Own.new wr 5 #[.int .u8 (ys.length:Int)]
   have H1:Hid (SlR 1 (fun _=>QB) (wr.alloc (.cells #[.int .u8 (ys.length:Int)] 5)) (.slice (some ⟨wr.heap.size,0,none⟩) [((ys.length:Nat):Int)].length 1) [((ys.length:Nat):Int)]):=⟨_,_,rfl,by simp,fun j hj=>⟨wr.heap.size,0,rfl,fun _=>.int .u8 (ys.length:Int),fun k hk=>by
    obtain rfl:k=0:=by omega
    obtain rfl:j=0:=by simpa using hj
    exact oT.cell (i:=0) rfl,by
    obtain rfl:j=0:=by simpa using hj
    rfl⟩⟩
   have Hby:Hid (∀ X,Below W.heap.size W X→SlR 1 (fun _=>QB) X (.slice A1 ys.length c1) ys):=fun X hX=>SlR.le (R:=fun _=>QB) (fun _ _ _ h=>h) hbyW (Le.below hX)
   have hBA:=hb.alloc hs2 (.cells #[.int .u8 (ys.length:Int)] 5)
   have hA1:L.length+[((ys.length:Nat):Int)].length≤1000000:=by
    show L.length+1≤_
    omega
   clear hyl hrow oT hbyW Hrows q17
   go_wp2_with (at_builtin; first
    | (refine wpList_append_Z (o:=⟨some 25,_,_,_,_,_⟩) (by rfl) _ _ _ (by rfl) 5 i0 Tryz.underlying22 hi0 hz0 hz1 hz2 W.heap.size v L (by rfl) HZ.out (some ⟨wr.heap.size,0,none⟩) 1 [((ys.length:Nat):Int)] (by rfl) H1.out hA1 hBA.size ?_; intro A8 c8 w8 hrow8 hb8; have hB8:=hBA.trans hb8; obtain⟨L8,hL8⟩:∃ L8,L8=L++[((ys.length:Nat):Int)]:=⟨_,rfl⟩; rw [← hL8] at hrow8 ⊢; have hll8:L8.length≤L.length+1:=(by simp [hL8]); have HL8:=Lib.hid hL8; clear hL8)
    | (refine wpList_append_Z (o:=⟨some 27,_,_,_,_,_⟩) (by rfl) _ _ _ (by rfl) 5 i0 Tryz.underlying22 hi0 hz0 hz1 hz2 W.heap.size (.slice A8 L8.length c8) L8 (by rfl) hrow8 A1 c1 ys (by rfl) (Hby.out w8 hB8) (by omega) (by have:=hB8.size; omega) ?_; intro A9 c9 w9' hrow9 hb9'; have hB9:=hB8.trans hb9'))
   go_wp2_with fail
   go_roundg (s.bufs.length-(i+1))
   case measure=>omega
   case rel=>exact⟨i+1,_,by omega,rfl,rfl,by go_num,by rw [Hn.out,← HL8.out,← List.length_append]; exact hrow9,hB9⟩
  ·obtain rfl:i=s.bufs.length:=by omega
   have hcv:=backZ hrow.out wr rfl
   rw [Hk.out] at hcv
   clear hrow
   go_wp2_with fail
   go_ret
   exact⟨rfl,hb⟩
end Go.Proofs.YtojmofnamppbdaaGreat
namespace Go.Proofs.YtojmofnamppbdaaGreat
open Go.RowKit
set_option linter.unusedVariables false
set_option maxRecDepth 100000
theorem fnE_any (A:Option Addr) (n c:Nat) (W:World):Calls Tryz.prog 209 #[.slice A n c] W (fun e W'=>e=.returned (.bool (decide (0<n)))∧W'=W):=by
 go_enter Tryz.func209,Tryz.ntmps209
 go_wp2_with fail
 go_ret
 exact⟨rfl,rfl⟩
def RetIx (W:World) (anyB:Bool) (e:Ending) (W':World):Prop:=∃ r:Int,e=.returned (.int .i64 r)∧decide (0≤r)=anyB∧Below W.heap.size W W'
set_option maxHeartbeats 1000000 in
theorem ixF_any (n c:Nat) (A:Option Addr) (len:Nat→Nat) (hn:n≤1000) (W:World) (hc:∀ k,k<n→∃ bp op A1 c1,A=some ⟨bp,op,none⟩∧W.cell? ⟨bp,op+k,none⟩=some (.slice A1 (len k) c1)):
  Calls Tryz.prog 212 #[.slice A n c,.func (.func 209) #[] #[]] W (RetIx W ((List.range n).any fun k=>decide (0<len k))):=by
 have Hc:=Lib.hid hc
 have HT:Hid (∀ k,k<n→0<len k→((List.range n).any fun k=>decide (0<len k))=true):=fun k hk h=>List.any_eq_true.2 ⟨k,List.mem_range.2 hk,decide_eq_true h⟩
 have HF:Hid ((∀ k,k<n→¬ 0<len k)→((List.range n).any fun k=>decide (0<len k))=false):=fun h=>List.any_eq_false.2 fun k hk=>by
  rw [decide_eq_true_iff]
  exact h k (List.mem_range.1 hk)
 clear hc
 go_enter Tryz.func212,Tryz.ntmps212
 go_wp2_with fail
 go_loopg [8] n (fun g s8 wr=>∃ i:Nat,i≤n∧g=n-i∧s8=.int .i64 i∧Hid (∀ k,k<i→¬ 0<len k)∧Below W.heap.size W wr)
 case atStart=>exact⟨0,Nat.zero_le _,rfl,rfl,fun j h=>absurd h (Nat.not_lt_zero _),Below.refl _ _⟩
 case round=>
  obtain⟨i,hi,rfl,rfl,hall,hb⟩:=hrel
  by_cases hlt:i<n
  ·obtain⟨bp,op,A1,c1,rfl,k0⟩:=Hc.out i hlt
   have k0:=Le.below hb _ _ k0
   have hili:(i:Int)<(n:Int):=by omega
   have HTi:=Lib.hid (HT.out i hlt)
   have hfn:=fnE_any A1 (len i) c1 wr
   have Hnext:Hid (¬ 0<len i→∀ k,k<i+1→¬ 0<len k):=fun h k hk=>by
    rcases Nat.lt_succ_iff_lt_or_eq.1 hk with h' | h'
    ·exact hall.out k h'
    ·rw [h']; exact h
   generalize len i=m at k0 HTi hfn Hnext
   clear hall Hc
   go_wp2_with fail
   refine hfn.mono ?_
   rintro e5 w5 ⟨rfl,rfl⟩
   clear hfn
   by_cases hm:0<m
   ·rw [decide_eq_true hm]
    have Hr:=Lib.hid (HTi.out hm)
    go_wp2_with fail
    go_ret
    exact⟨i,rfl,by rw [Hr.out,decide_eq_true (by omega)],hb⟩
   ·rw [decide_eq_false hm]
    have Hr:=Lib.hid (Hnext.out hm)
    go_wp2_with fail
    go_roundg (n-(i+1))
    case measure=>omega
    case rel=>exact⟨i+1,by omega,rfl,by go_num,Hr.out,hb⟩
  ·obtain rfl:i=n:=by omega
   have Hr:=Lib.hid (HF.out hall.out)
   go_wp2_with fail
   go_ret
   exact⟨-1,rfl,by rw [Hr.out]; rfl,hb⟩
set_option maxHeartbeats 1000000 in
theorem conF_any (n c:Nat) (A:Option Addr) (len:Nat→Nat) (hn:n≤1000) (W:World) (hc:∀ k,k<n→∃ bp op A1 c1,A=some ⟨bp,op,none⟩∧W.cell? ⟨bp,op+k,none⟩=some (.slice A1 (len k) c1)):
  Calls Tryz.prog 208 #[.slice A n c,.func (.func 209) #[] #[]] W (RetB W ((List.range n).any fun k=>decide (0<len k))):=by
 have hix:=ixF_any n c A len hn W hc
 go_enter Tryz.func208,Tryz.ntmps208
 go_wp2_with fail
 refine hix.mono ?_
 rintro e5 w5 ⟨r,rfl,hr,hb5⟩
 have Hr:=Lib.hid hr
 clear hix hr
 go_wp2_with fail
 go_ret
 exact⟨by rw [← Hr.out]; rfl,hb5⟩
theorem any_empty {p:Prg} {s:BSt}:((List.range s.bufs.length).any fun k=>decide (0<(bufB s k).length))=!s.bufs.all List.isEmpty:=by
 cases h:s.bufs.all List.isEmpty with
 | true=>
  rw [List.all_eq_true] at h
  refine List.any_eq_false.2 fun k hk=>?_
  have hk:=List.mem_range.1 hk
  have:=h _ (List.getElem_mem hk)
  rw [List.isEmpty_iff] at this
  unfold bufB
  rw [List.getD_eq_getElem?_getD,List.getElem?_eq_getElem hk,Option.getD_some,this]
  simp
 | false=>
  rw [List.all_eq_false] at h
  obtain⟨bf,hbf,he⟩:=h
  obtain⟨k,hk,rfl⟩:=List.getElem_of_mem hbf
  refine List.any_eq_true.2 ⟨k,List.mem_range.2 hk,?_⟩
  unfold bufB
  rw [List.getD_eq_getElem?_getD,List.getElem?_eq_getElem hk,Option.getD_some,decide_eq_true_iff]
  exact List.length_pos_iff.2 fun e=>he (List.isEmpty_iff.2 e)
set_option maxHeartbeats 1000000 in
theorem doneB_any (p:Prg) (hp:PrgOk p) (sp:Bool) (s:BSt) (hs:BOk p sp s) (W:World) (b:Nat) (Ap:Option Addr) (cp:Nat) (ho:BufL W b Ap cp p sp s) (hpr:PrgS W (.slice Ap p.length cp) p):
  Calls Tryz.prog 201 #[.pointer (some ⟨b,0,none⟩)] W (RetB W (doneB p s)):=by
 have hc:=allDone_any p hp s.s hs.ok W b Ap cp ho.vals hpr
 have hn9:s.bufs.length≤9:=by rw [hs.len]; exact nBf_le hp sp
 have hbl:=ho.lt
 have HD:Hid (doneB p s=(doneS p s.s && !((List.range s.bufs.length).any fun k=>decide (0<(bufB s k).length)))):=by
  show _=_
  unfold doneB
  rw [any_empty (p:=p),Bool.not_not]
 go_enter Tryz.func201,Tryz.ntmps201
 go_wp2_with fail
 refine hc.mono ?_
 rintro e5 w5 ⟨rfl,hb5⟩
 obtain⟨A,c,q17,_,hrows⟩:=(ho.under hb5).rows
 have hcf:=conF_any s.bufs.length c A (fun k=>(bufB s k).length) (by omega) w5 fun k hk=>by
  obtain⟨bp,op,A1,c1,h1,_,h2,_⟩:=hrows k hk
  exact⟨bp,op,A1,c1,h1,h2⟩
 clear hc hrows
 cases hd:doneS p s.s
 ·have Hd:Hid (doneB p s=false):=by show _=_; rw [HD.out,hd]; rfl
  clear hd HD hcf q17
  go_wp2_with fail
  go_ret
  exact⟨by rw [Hd.out]; rfl,hb5⟩
 ·have Hd:Hid (doneB p s=!((List.range s.bufs.length).any fun k=>decide (0<(bufB s k).length))):=by show _=_; rw [HD.out,hd]; rfl
  generalize ((List.range s.bufs.length).any fun k=>decide (0<(bufB s k).length))=an at hcf Hd
  clear hd HD
  go_wp2_with fail
  refine hcf.mono ?_
  rintro e6 w6 ⟨rfl,hb6⟩
  have hB6:=hb5.trans (hb6.mono hb5.size)
  clear hcf
  go_wp2_with fail
  go_ret
  exact⟨by rw [Hd.out]; rfl,hB6⟩
def mvBI (p:Prg) (sp:Bool) (s:BSt) (i:Nat):List Int:=((List.range i).filter (canB p sp s)).map fun k=>((k:Nat):Int)
theorem mvBI_off {p:Prg} {sp:Bool} {s:BSt} {i:Nat} (h:canB p sp s i=false):mvBI p sp s (i+1)=mvBI p sp s i:=by
 unfold mvBI
 rw [List.range_succ,List.filter_append]
 simp [h]
theorem mvBI_on {p:Prg} {sp:Bool} {s:BSt} {i:Nat} (h:canB p sp s i=true):mvBI p sp s (i+1)=mvBI p sp s i++[(i:Int)]:=by
 unfold mvBI
 rw [List.range_succ,List.filter_append]
 simp [h]
theorem mvBI_le (p:Prg) (sp:Bool) (s:BSt) (i:Nat):(mvBI p sp s i).length≤i:=by
 unfold mvBI
 rw [List.length_map]
 exact Nat.le_trans (List.length_filter_le _ _) (by simp)
theorem can_off {p:Prg} {sp:Bool} {s:BSt} {t:Nat} (ht:t<p.length) (h:onS p s.s t=false):canB p sp s t=false:=by
 unfold canB
 rw [if_pos ht,h]
 rfl
theorem can_on {p:Prg} {sp:Bool} {s:BSt} {t:Nat} (ht:t<p.length) (h:onS p s.s t=true):canB p sp s t=(!blkI (insS p s.s t) || empB sp s t):=by
 unfold canB
 rw [if_pos ht,h]
 rfl
theorem can_buf {p:Prg} {sp:Bool} {s:BSt} {k:Nat}:canB p sp s (p.length+k)=decide (0<(bufB s k).length):=by
 unfold canB
 rw [if_neg (by omega),Nat.add_sub_cancel_left]
 cases bufB s k <;> simp
set_option maxHeartbeats 2000000 in
theorem movesB_any (p:Prg) (hp:PrgOk p) (sp:Bool) (s:BSt) (hs:BOk p sp s) (W:World) (b:Nat) (Ap:Option Addr) (cp:Nat) (ho:BufL W b Ap cp p sp s) (hpr:PrgS W (.slice Ap p.length cp) p):
  Calls Tryz.prog 203 #[.pointer (some ⟨b,0,none⟩)] W (RetRowI W (mvBI p sp s (p.length+s.bufs.length))):=by
 obtain⟨i0,hi0,hz0,hz1,hz2⟩:=info_parts Tryz.infoInt
 have q0:=ho.vals.prg
 have h3:=hp.1.1
 have hn9:s.bufs.length≤9:=by rw [hs.len]; exact nBf_le hp sp
 have hbl:=ho.lt
 obtain⟨A,c,q17,_,hrows⟩:=ho.rows
 have Hrows:Hid (∀ k,k<s.bufs.length→∃ bp op A1 c1,A=some ⟨bp,op,none⟩∧W.cell? ⟨bp,op+k,none⟩=some (.slice A1 (bufB s k).length c1)):=fun k hk=>by
  obtain⟨bp,op,A1,c1,h1,_,h2,_⟩:=hrows k hk
  exact⟨bp,op,A1,c1,h1,h2⟩
 clear hrows
 go_enter Tryz.func203,Tryz.ntmps203
 go_wp2_with fail
 go_loopg [3,15] p.length (fun g s3 s15 wr=>∃ (i:Nat) (v:Value),i≤p.length∧g=p.length-i∧v=s3∧s15=.int .i64 i∧Hid (RowI wr W.heap.size v (mvBI p sp s i))∧Below W.heap.size W wr)
 case atStart=>exact⟨0,_,Nat.zero_le _,rfl,rfl,rfl,RowOf.nil _ _ _ _ _,Below.refl _ _⟩
 case round=>
  obtain⟨i,v,hi,rfl,rfl,rfl,hrow,hb⟩:=hrel
  have hsr:=hb.size
  by_cases hlt:i<p.length
  ·have hO:=ho.under hb
   have hP:=PrgS.le hpr (Le.below hb)
   cases hon:onS p s.s i
   ·have hc:=next_off hp hs.ok hlt hO.vals hP hon
    have Hm:=Lib.hid (mvBI_off (can_off (sp:=sp) hlt hon))
    clear hon hO hP q0 q17
    go_wp2_with fail
    refine hc.mono ?_
    rintro e5 w5 ⟨rfl,hb5⟩
    have hB5:=hb.trans (hb5.mono hb.size)
    have Hrow5:=Lib.hid (RowOf.below (RowOf.below hrow.out hb5) ((Below.refl _ _).alloc (Nat.le_refl _) (.cells #[.int .i64 0,.int .i64 0,.int .i64 0,.int .i64 0] 50)))
    clear hc hrow
    go_wp2_with fail
    go_roundg (p.length-(i+1))
    case measure=>omega
    case rel=>exact⟨i+1,_,by omega,rfl,rfl,by go_num,by rw [Hm.out]; exact Hrow5.out,hB5.alloc hB5.size _⟩
   ·have hc:=next_on hp hs.ok hlt hO.vals hP hon
    have Hcan:=Lib.hid (can_on (sp:=sp) hlt hon)
    have Hm1:Hid (canB p sp s i=true→mvBI p sp s (i+1)=mvBI p sp s i++[(i:Int)]):=mvBI_on
    have Hm0:Hid (canB p sp s i=false→mvBI p sp s (i+1)=mvBI p sp s i):=mvBI_off
    have hml:=mvBI_le p sp s i
    have Hem:Hid (∀ U,Below W.heap.size W U→Calls Tryz.prog 210 #[.pointer (some ⟨b,0,none⟩),.int .i64 i] U (RetB U (empB sp s i))):=fun U hU=>isEmpty_any p hp sp s hs i hlt U b Ap cp (ho.under hU)
    clear hon hO hP q0 q17
    generalize insS p s.s i=x at hc Hcan
    generalize mvBI p sp s i=ms at hrow Hm1 Hm0 hml
    generalize canB p sp s i=cb at Hcan Hm1 Hm0
    generalize empB sp s i=eb at Hem Hcan
    have Hx:Hid (x.op≠4→x.op≠5→blkI x=false):=fun h4 h5=>by unfold blkI; rw [decide_eq_false h4,decide_eq_false h5]; rfl
    have Hx4:Hid (x.op=4→blkI x=true):=fun h4=>by unfold blkI; rw [decide_eq_true h4]; rfl
    have Hx5:Hid (x.op=5→blkI x=true):=fun h5=>by unfold blkI; rw [decide_eq_true h5,Bool.or_true]
    go_wp2_with fail
    refine hc.mono ?_
    rintro e5 w5 ⟨rfl,hb5⟩
    have hB5:=hb.trans (hb5.mono hb.size)
    obtain⟨V6,hV6⟩:∃ V6,V6=w5.alloc (.cells #[.int .i64 x.op,.int .i64 x.loc,.int .i64 x.reg,.int .i64 x.val] 50):=⟨_,rfl⟩
    have hB6:Below W.heap.size W V6:=by rw [hV6]; exact hB5.alloc hB5.size _
    have oI:Own V6 w5.heap.size 50 #[.int .i64 x.op,.int .i64 x.loc,.int .i64 x.reg,.int .i64 x.val]:=by rw [hV6]; exact Own.new _ _ _
    have i0':=oI.cell (i:=0) rfl
    have hrow6:RowI V6 W.heap.size v ms:=by rw [hV6]; exact RowOf.below (RowOf.below hrow.out hb5) ((Below.refl _ _).alloc (Nat.le_refl _) _)
    have Hrow6:=Lib.hid hrow6
    have hs6:=hB6.size
    have hbl6:b<V6.heap.size:=by omega
    clear hc hrow hrow6
    go_upto_region 6 with (fail)
    rw [← hV6]
    clear hV6
    by_cases hblk:x.op≠4∧x.op≠5
    ·have e4:((x.op:Int) != 4)=true:=by simpa using hblk.1
     have e5:((x.op:Int) != 5)=true:=by simpa using hblk.2
     have Hcb:Hid (cb=true):=by show _=_; rw [Hcan.out,Hx.out hblk.1 hblk.2]; rfl
     have Hm:=Lib.hid (Hm1.out Hcb.out)
     obtain⟨cs,hown,hqq⟩:=Hrow6.out
     have Hown:=Lib.hid hown
     have Hqq:=Lib.hid hqq
     clear hblk Hcan Hm1 Hm0 Hx Hx4 Hx5 hown hqq
     go_wp2_with (at_builtin; refine wpList_append_lies _ (by rfl) _ _ _ (by rfl) W.heap.size 3 i0 _ 1 8 Tryz.underlying31 hi0 hz0 hz1 hz2 rfl (by omega) v ms.length cs (by rfl) (owns_alloc Hown.out _) ⟨V6.heap.size,0,none⟩ 1 1 [.int .i64 i] (by rfl) (by rfl) (World.news_of_block (cs:=#[.int .i64 i]) (t:=3) (fr:=(0,0)) (heap_alloc_new V6 _)) (by simp [Value.oneCell']) (by omega) (by simp [maxLen]; omega) (by omega) (by simp; omega) (V6.heap.size+1) (by simp) ?_; intro gg cap w8 hown8 hgrow8 hat8 hlt8)
     have hB8:Below W.heap.size W w8:=below_of_grown (hB6.alloc hs6 _) hgrow8 (by simp; omega) (fun g hg=>owns_base' Hown.out hg)
     have hr8:=Lib.hid (RowOf.snoc (news:=[.int .i64 (i:Int)]) (x:=(i:Int)) qint_congr Hown.out Hqq.out rfl rfl hown8)
     clear hown8 hgrow8 hat8
     go_wp2_with fail
     go_roundg (p.length-(i+1))
     case measure=>omega
     case rel=>exact⟨i+1,_,by omega,rfl,rfl,by go_num,by rw [Hm.out]; exact hr8.out,hB8⟩
    ·have Hcb:Hid (cb=eb):=by
      show _=_
      rw [Hcan.out]
      by_cases h4:x.op=4
      ·rw [Hx4.out h4]; rfl
      ·rw [Hx5.out (by omega)]; rfl
     have hem:=Hem.out V6 hB6
     have h45:((x.op:Int) != 4)=false∨(((x.op:Int) != 4)=true∧((x.op:Int) != 5)=false):=by
      by_cases h4:x.op=4
      ·left; simp [h4]
      ·right
       have h5:x.op=5:=by omega
       constructor
       ·simpa using h4
       ·simp [h5]
     clear hblk Hx Hx4 Hx5 Hcan
     rcases h45 with e4 | ⟨e4,e5⟩
     all_goals
      go_wp2_with fail
      refine hem.mono ?_
      rintro e7 w7 ⟨rfl,hb7⟩
      have hB7:=hB6.trans (hb7.mono hB6.size)
      have Hrow7:=Lib.hid (RowOf.below Hrow6.out hb7)
      have hs7:=hB7.size
      clear hem
      cases eb
      ·have Hm:=Lib.hid (Hm0.out Hcb.out)
       clear Hcb Hm0 Hm1
       go_wp2_with fail
       go_roundg (p.length-(i+1))
       case measure=>omega
       case rel=>exact⟨i+1,_,by omega,rfl,rfl,by go_num,by rw [Hm.out]; exact Hrow7.out,hB7⟩
      ·have Hm:=Lib.hid (Hm1.out Hcb.out)
       obtain⟨cs,hown,hqq⟩:=Hrow7.out
       have Hown:=Lib.hid hown
       have Hqq:=Lib.hid hqq
       clear hown hqq Hcb Hm0 Hm1
       go_wp2_with (at_builtin; refine wpList_append_lies _ (by rfl) _ _ _ (by rfl) W.heap.size 3 i0 _ 1 8 Tryz.underlying31 hi0 hz0 hz1 hz2 rfl (by omega) v ms.length cs (by rfl) (owns_alloc Hown.out _) ⟨w7.heap.size,0,none⟩ 1 1 [.int .i64 i] (by rfl) (by rfl) (World.news_of_block (cs:=#[.int .i64 i]) (t:=3) (fr:=(0,0)) (heap_alloc_new w7 _)) (by simp [Value.oneCell']) (by omega) (by simp [maxLen]; omega) (by omega) (by simp; omega) (w7.heap.size+1) (by simp) ?_; intro gg cap w8 hown8 hgrow8 hat8 hlt8)
       have hB8:Below W.heap.size W w8:=below_of_grown (hB7.alloc hs7 _) hgrow8 (by simp; omega) (fun g hg=>owns_base' Hown.out hg)
       have hr8:=Lib.hid (RowOf.snoc (news:=[.int .i64 (i:Int)]) (x:=(i:Int)) qint_congr Hown.out Hqq.out rfl rfl hown8)
       clear hown8 hgrow8 hat8
       go_wp2_with fail
       go_roundg (p.length-(i+1))
       case measure=>omega
       case rel=>exact⟨i+1,_,by omega,rfl,rfl,by go_num,by rw [Hm.out]; exact hr8.out,hB8⟩
  ·obtain rfl:i=p.length:=by omega
   have q17':=Le.below hb _ _ q17
   have q0':=Le.below hb _ _ q0
   clear q0 q17
   go_wp2_with fail
   go_loopg [3,52] s.bufs.length (fun g s3 s52 wr=>∃ (k:Nat) (v:Value),k≤s.bufs.length∧g=s.bufs.length-k∧v=s3∧s52=.int .i64 k∧Hid (RowI wr W.heap.size v (mvBI p sp s (p.length+k)))∧Below W.heap.size W wr)
   case atStart=>exact⟨0,_,Nat.zero_le _,rfl,rfl,rfl,hrow,hb⟩
   case round=>
    obtain⟨k,v,hk,rfl,rfl,rfl,hrow,hb⟩:=hrel
    have hsr:=hb.size
    have p0:=Le.below hb _ _ ho.vals.prg
    by_cases hkt:k<s.bufs.length
    ·obtain⟨bp,op,A1,c1,rfl,k0⟩:=Hrows.out k hkt
     have k0:=Le.below hb _ _ k0
     have hkl:(k:Int)<(s.bufs.length:Int):=by omega
     have Hcan:Hid (canB p sp s (p.length+k)=decide (0<(bufB s k).length)):=can_buf
     have Hm1:Hid (canB p sp s (p.length+k)=true→mvBI p sp s (p.length+k+1)=mvBI p sp s (p.length+k)++[((p.length+k:Nat):Int)]):=mvBI_on
     have Hm0:Hid (canB p sp s (p.length+k)=false→mvBI p sp s (p.length+k+1)=mvBI p sp s (p.length+k)):=mvBI_off
     have hml:=mvBI_le p sp s (p.length+k)
     have hbw:b<wr.heap.size:=by omega
     generalize (bufB s k).length=n at k0 Hcan
     generalize mvBI p sp s (p.length+k)=ms at hrow Hm1 Hm0 hml
     clear Hrows q17' q0'
     by_cases hn:0<n
     ·have hni:(0:Int)<(n:Int):=by omega
      have Hm:=Lib.hid (Hm1.out (by rw [Hcan.out]; exact decide_eq_true hn))
      obtain⟨cs,hown,hqq⟩:=hrow.out
      have Hown:=Lib.hid hown
      have Hqq:=Lib.hid hqq
      clear hown hqq hrow Hm0 Hm1 Hcan
      go_wp2_with (at_builtin; refine wpList_append_lies (o:=⟨some 70,_,_,_,_,_⟩) _ (by rfl) _ _ _ (by rfl) W.heap.size 3 i0 _ 1 8 Tryz.underlying31 hi0 hz0 hz1 hz2 rfl (by omega) v ms.length cs (by rfl) (owns_alloc Hown.out _) ⟨wr.heap.size,0,none⟩ 1 1 [.int .i64 ((p.length:Int)+k)] (by rfl) (by rfl) (World.news_of_block (cs:=#[.int .i64 ((p.length:Int)+k)]) (t:=3) (fr:=(0,0)) (heap_alloc_new wr _)) (by simp [Value.oneCell']) (by omega) (by simp [maxLen]; omega) (by omega) (by simp; omega) (wr.heap.size+1) (by simp) ?_; intro gg cap w8 hown8 hgrow8 hat8 hlt8)
      have hB8:Below W.heap.size W w8:=below_of_grown (hb.alloc hsr _) hgrow8 (by simp; omega) (fun g hg=>owns_base' Hown.out hg)
      have hr8:=Lib.hid (RowOf.snoc (news:=[.int .i64 ((p.length:Int)+k)]) (x:=((p.length:Int)+k)) qint_congr Hown.out Hqq.out rfl rfl hown8)
      clear hown8 hgrow8 hat8
      go_wp2_with fail
      go_roundg (s.bufs.length-(k+1))
      case measure=>omega
      case rel=>exact⟨k+1,_,by omega,rfl,rfl,by go_num,by
       show RowI _ _ _ (mvBI p sp s (p.length+k+1))
       rw [Hm.out,show ((p.length+k:Nat):Int)=(p.length:Int)+k by omega]
       exact hr8.out,hB8⟩
     ·have hni:¬ (0:Int)<(n:Int):=by omega
      have Hm:=Lib.hid (Hm0.out (by rw [Hcan.out]; exact decide_eq_false hn))
      clear Hm0 Hm1 Hcan
      go_wp2_with fail
      go_roundg (s.bufs.length-(k+1))
      case measure=>omega
      case rel=>exact⟨k+1,_,by omega,rfl,rfl,by go_num,by
       show RowI _ _ _ (mvBI p sp s (p.length+k+1))
       rw [Hm.out]
       exact hrow.out,hb⟩
    ·obtain rfl:k=s.bufs.length:=by omega
     go_wp2_with fail
     go_ret
     exact RetRowI.mk hrow.out hb
end Go.Proofs.YtojmofnamppbdaaGreat
namespace Go.Proofs.YtojmofnamppbdaaGreat
open Go.RowKit
set_option linter.unusedVariables false
set_option maxRecDepth 100000
theorem bt0_len (p:Prg) (sp:Bool):(bt0 p sp).bufs.length=nBf p sp:=by simp [bt0]
theorem bytB_bt0 (p:Prg) (sp:Bool):bytB (bt0 p sp)=List.replicate (nBf p sp) []:=by simp [bytB,bt0]
theorem madeB_rep (z:Value) (n:Nat):(madeCells #[z] n).toList=List.replicate n z:=by
 unfold madeCells
 refine List.ext_getElem (by simp) fun i h1 h2=>?_
 simp only [Array.toList_map,List.getElem_map,List.getElem_replicate]
 have:(Array.range n).toList[i]'(by simpa using h1) % 1=0:=Nat.mod_one _
 simp [Nat.mod_one]
theorem made_rows {w:World} {g n:Nat} (ho:Own w g 22 (madeCells #[.slice none 0 0] n)) (hn:n≤1000):SlR 1 RBy w (.slice (some ⟨g,0,none⟩) n n) (List.replicate n []):=by
 refine⟨some ⟨g,0,none⟩,n,by rw [List.length_replicate],by rw [List.length_replicate]; omega,fun i hi=>⟨g,0,rfl,fun _=>.slice none 0 0,fun j hj=>?_,?_⟩⟩
 ·obtain rfl:j=0:=by omega
  rw [List.length_replicate] at hi
  refine Own.cell ho ?_
  rw [← Array.getElem?_toList,madeB_rep,List.getElem?_replicate,if_pos (by omega)]
 ·rw [List.getElem_replicate]
  exact⟨none,0,rfl,Nat.le_refl _,_,_,rfl,by simp,fun i hi=>absurd hi (Nat.not_lt_zero _)⟩
def bufC (Ap:Option Addr) (cp:Nat) (p:Prg) (s:St) (sp:Bool) (v:Value):Array Value:=
 #[.slice Ap p.length cp,pcV s 0,pcV s 1,pcV s 2,rgV s 0,rgV s 1,rgV s 2,rgV s 3,rgV s 4,rgV s 5,rgV s 6,rgV s 7,rgV s 8,meV s 0,meV s 1,meV s 2,.bool sp,v]
theorem bufC_get {Ap:Option Addr} {cp:Nat} {p:Prg} {s:St} {sp:Bool} {v u:Value} {i:Nat} (h:(seqC Ap cp p s)[i]?=some u):(bufC Ap cp p s sp v)[i]?=some u:=by
 have hi:i<(seqC Ap cp p s).size:=(Array.getElem?_eq_some_iff.1 h).elim fun h _=>h
 have hi:i<16:=hi
 match i,hi with
 | 0,_=>exact h
 | 1,_=>exact h
 | 2,_=>exact h
 | 3,_=>exact h
 | 4,_=>exact h
 | 5,_=>exact h
 | 6,_=>exact h
 | 7,_=>exact h
 | 8,_=>exact h
 | 9,_=>exact h
 | 10,_=>exact h
 | 11,_=>exact h
 | 12,_=>exact h
 | 13,_=>exact h
 | 14,_=>exact h
 | 15,_=>exact h
theorem bufL_of {W:World} {b:Nat} {Ap:Option Addr} {cp:Nat} {p:Prg} {sp:Bool} {s:BSt} {A:Option Addr} {c:Nat} (ho:Own W b 160 (bufC Ap cp p s.s sp (.slice A s.bufs.length c))) (hr:SlR 1 RBy W (.slice A s.bufs.length c) (bytB s)):BufL W b Ap cp p sp s:=
 ⟨fun i v hv=>Own.cell ho (bufC_get hv),Own.cell ho rfl,⟨A,c,Own.cell ho rfl,hr⟩⟩
theorem bufC_st0 {p:Prg} (Ap:Option Addr) (cp:Nat) (sp:Bool) (v:Value):bufC Ap cp p (st0 p) sp v=#[.slice Ap p.length cp,.int .u8 0,.int .u8 0,.int .u8 0,.int .u8 0,.int .u8 0,.int .u8 0,.int .u8 0,.int .u8 0,.int .u8 0,.int .u8 0,.int .u8 0,.int .u8 0,.int .u8 0,.int .u8 0,.int .u8 0,.bool sp,v]:=by
 have h1:∀ t,pcS (st0 p) t=0:=fun t=>by
  unfold pcS st0
  rw [List.getD_eq_getElem?_getD,List.getElem?_replicate]
  split <;> rfl
 have h2:∀ t,rgF (st0 p) t=0:=fun t=>by
  unfold rgF st0
  rw [List.getD_eq_getElem?_getD,List.getElem?_replicate]
  split <;> rfl
 unfold bufC pcV rgV meV
 simp only [h1,h2]
 rfl
theorem Tryz.infoRwB:(Tryz.prog.info? 22).map (fun i=>(i.zero,i.size,i.bytes))=some (some (.slice none 0 0),1,24):=by kernel_rfl
set_option maxHeartbeats 1000000 in
theorem newBuffers_any (p:Prg) (hp:p.length≤100) (sp:Bool) (W:World) (vp:Value) (hpr:PrgS W vp p):
  Calls Tryz.prog 89 #[vp,.bool sp] W (fun e W'=>∃ Ap cp b,vp=.slice Ap p.length cp∧e=.returned (.iface 157 (.pointer (some ⟨b,0,none⟩)))∧BufL W' b Ap cp p sp (bt0 p sp)∧PrgS W' (.slice Ap p.length cp) p∧Below W.heap.size W W'):=by
 obtain⟨Ap,cp,rfl,hpl⟩:=SlR.slice hpr
 have hmk1:=run_make_any (P:=Tryz.prog) 158 22 _ 1 24 Tryz.underlying158 Tryz.infoRwB p.length (by omega) (by omega)
 have hmk2:=run_make_any (P:=Tryz.prog) 158 22 _ 1 24 Tryz.underlying158 Tryz.infoRwB (3*p.length) (by omega) (by omega)
 have HF:Hid (p.length=nBf p false):=by show _=_; unfold nBf; rw [if_neg (by decide)]
 have HT:Hid (3*p.length=nBf p true):=by show _=_; unfold nBf; rw [if_pos rfl]
 obtain⟨n,hn⟩:∃ n,n=p.length:=⟨_,rfl⟩
 have HN:=Lib.hid hn
 rw [← hn] at hp hpl hmk1 hmk2 HF HT hpr ⊢
 have HR:=Lib.hid hpr
 simp only [Nat.mul_one] at hmk1 hmk2
 rw [show ((3*n:Nat):Int)=3*(n:Int) by omega] at hmk2
 clear hpr hn
 go_enter Tryz.func89,Tryz.ntmps89
 have Hst:Hid (∀ (X:World) (g:Nat) (m:Nat) (sp:Bool),m=nBf p sp→m≤1000→Own X (W.heap.size+1) 160 #[.slice Ap n cp,.int .u8 0,.int .u8 0,.int .u8 0,.int .u8 0,.int .u8 0,.int .u8 0,.int .u8 0,.int .u8 0,.int .u8 0,.int .u8 0,.int .u8 0,.int .u8 0,.int .u8 0,.int .u8 0,.int .u8 0,.bool sp,.slice (some ⟨g,0,none⟩) m m]→Own X g 22 (madeCells #[.slice none 0 0] m)→BufL X (W.heap.size+1) Ap cp p sp (bt0 p sp)):=fun X g m sp hm hm1 ho hr=>by
  have hl:(bt0 p sp).bufs.length=m:=by rw [bt0_len,hm]
  refine bufL_of (A:=some ⟨g,0,none⟩) (c:=m) ?_ ?_
  ·rw [hl]
   show Own X _ _ (bufC Ap cp p (st0 p) sp _)
   rw [bufC_st0,← HN.out]
   exact ho
  ·rw [hl,bytB_bt0,← hm]
   exact made_rows hr hm1
 cases sp
 ·go_wp2_with fail
  go_ret
  refine⟨Ap,cp,W.heap.size+1,rfl,rfl,Hst.out _ W.heap.size n false HF.out (by omega) ?_ ((Own.new _ _ _).alloc _),HR.out.le ((Le.alloc _ _).trans (Le.alloc _ _)),((Below.refl _ _).alloc (Nat.le_refl _) _).alloc (by simp) _⟩
  simpa using Own.new (W.alloc (.cells (madeCells #[.slice none 0 0] n) 22)) 160 _
 ·go_wp2_with fail
  go_ret
  refine⟨Ap,cp,W.heap.size+1,rfl,rfl,Hst.out _ (W.heap.size+1+1) (3*n) true HT.out (by omega) (Own.alloc ?_ _) ?_,HR.out.le (((Le.alloc _ _).trans (Le.alloc _ _)).trans (Le.alloc _ _)),(((Below.refl _ _).alloc (Nat.le_refl _) _).alloc (by simp) _).alloc (by simp; omega) _⟩
  ·simpa using Own.new (W.alloc (.cells (madeCells #[.slice none 0 0] n) 22)) 160 _
  ·simpa using Own.new ((W.alloc (.cells (madeCells #[.slice none 0 0] n) 22)).alloc (.cells #[.slice Ap n cp,.int .u8 0,.int .u8 0,.int .u8 0,.int .u8 0,.int .u8 0,.int .u8 0,.int .u8 0,.int .u8 0,.int .u8 0,.int .u8 0,.int .u8 0,.int .u8 0,.int .u8 0,.int .u8 0,.int .u8 0,.bool true,.slice (some ⟨W.heap.size+1+1,0,none⟩) (3*n) (3*n)] 160)) 22 (madeCells #[.slice none 0 0] (3*n))
theorem nil_of_none {α:Type} {R:World→(Nat→Value)→α→Prop} {w:World} {n c:Nat} {xs:List α} (h:SlR 1 R w (.slice none n c) xs):xs=[]:=by
 cases xs with
 | nil=>rfl
 | cons x xs=>
  obtain⟨b,o,cs,e,_⟩:=SlR.get1 h (i:=0) (by simp)
  cases e
set_option maxHeartbeats 1000000 in
theorem clnB_any (A:Option Addr) (c:Nat) (bs:List Int) (hl:bs.length≤1000) (W:World) (hr:SlR 1 (fun _=>QB) W (.slice A bs.length c) bs):
  Calls Tryz.prog 207 #[.slice A bs.length c] W (fun e W'=>∃ v,e=.returned v∧RowB W' W.heap.size v bs∧Below W.heap.size W W'):=by
 obtain⟨i0,hi0,hz0,hz1,hz2⟩:=info_parts Tryz.infoByte
 have qnil:∀ (w:World) (a:Option Addr) (n c n' c':Nat),(binOp .eql 22 (.slice a n c) (.slice none n' c')).run Tryz.prog w=.ok (.bool a.isNone) w:=fun w a n c n' c'=>Go.Lib.run_eql_slice_nil w _ _ a n c n' c' Tryz.underlying22
 cases A with
 | none=>
  obtain rfl:=nil_of_none hr
  go_enter Tryz.func207,Tryz.ntmps207
  go_wp2_with fail
  go_ret
  exact⟨_,rfl,RowOf.nil _ _ _ _ _,Below.refl _ _⟩
 | some a=>
  have hB:Below W.heap.size W (W.alloc (.cells #[] 5)):=(Below.refl _ _).alloc (Nat.le_refl _) _
  have hrow0:Hid (RowB (W.alloc (.cells #[] 5)) W.heap.size (.slice (some ⟨W.heap.size,0,none⟩) 0 0) []):=RowOf.made _ (Own.new W _ _) (Nat.le_refl _)
  have Hr:Hid (SlR 1 (fun _=>QB) (W.alloc (.cells #[] 5)) (.slice (some a) bs.length c) bs):=SlR.le (R:=fun _=>QB) (fun _ _ _ h=>h) hr (Le.alloc _ _)
  clear hr
  go_enter Tryz.func207,Tryz.ntmps207
  go_wp2_with (at_builtin; refine wpList_append_list (o:=⟨some 7,_,_,_,_,_⟩) (by rfl) _ _ _ (by rfl) qb_congr (R:=fun _=>QB) W.heap.size 5 i0 _ 1 Tryz.underlying22 hi0 hz0 hz1 hz2 rfl (by omega) (.slice (some ⟨W.heap.size,0,none⟩) 0 0) [] (by rfl) hrow0.out (some a) c bs (by rfl) Hr.out (fun cs y h=>h) qb_one (by simp [maxLen]; omega) (by simp; omega) (by simp) (W.heap.size+1) (by simp) ?_; intro A5 c5 w5 hrow5 hgrow5 hat5; rw [List.nil_append] at hrow5 ⊢)
  have hB5:Below W.heap.size W w5:=below_of_grown hB hgrow5 (by simp) (fun g hg=>by simp only [Value.ownBlock,Option.some.injEq] at hg; omega)
  have Hrow5:=Lib.hid hrow5
  clear hrow5 hgrow5 hat5
  go_wp2_with fail
  go_ret
  exact⟨_,rfl,Hrow5.out,hB5⟩
abbrev VO:={v:Value // v.oneCell'=true}
def QV (cs:Nat→Value) (x:VO):Prop:=cs 0=x.1
theorem qv_congr:∀ (f g:Nat→Value) (x:VO),(∀ j,j<1→f j=g j)→QV f x→QV g x:=fun f g x h hq=>(h 0 (by omega)).symm.trans hq
theorem qv_one:∀ (cs:Nat→Value) (y:VO),QV cs y→∀ j,j<1→(cs j).oneCell'=true:=fun cs y h j hj=>by
 obtain rfl:j=0:=by omega
 have h':cs 0=y.1:=h
 rw [h']; exact y.2
set_option maxHeartbeats 1000000 in
theorem clnV_any (a:Addr) (c:Nat) (vs:List VO) (hl:vs.length≤1000) (W:World) (hr:SlR 1 (fun _=>QV) W (.slice (some a) vs.length c) vs):
  Calls Tryz.prog 204 #[.slice (some a) vs.length c] W (fun e W'=>∃ v,e=.returned v∧RowOf 1 QV W' W.heap.size 22 v vs∧Below W.heap.size W W'):=by
 obtain⟨i0,hi0,hz0,hz1,hz2⟩:=info_parts Tryz.infoRwB
 have qnil:∀ (w:World) (a:Option Addr) (n c n' c':Nat),(binOp .eql 158 (.slice a n c) (.slice none n' c')).run Tryz.prog w=.ok (.bool a.isNone) w:=fun w a n c n' c'=>Go.Lib.run_eql_slice_nil w _ _ a n c n' c' Tryz.underlying158
 have hB:Below W.heap.size W (W.alloc (.cells #[] 22)):=(Below.refl _ _).alloc (Nat.le_refl _) _
 have hrow0:Hid (RowOf 1 QV (W.alloc (.cells #[] 22)) W.heap.size 22 (.slice (some ⟨W.heap.size,0,none⟩) 0 0) []):=RowOf.made _ (Own.new W _ _) (Nat.le_refl _)
 have Hr:Hid (SlR 1 (fun _=>QV) (W.alloc (.cells #[] 22)) (.slice (some a) vs.length c) vs):=SlR.le (R:=fun _=>QV) (fun _ _ _ h=>h) hr (Le.alloc _ _)
 clear hr
 go_enter Tryz.func204,Tryz.ntmps204
 go_wp2_with (at_builtin; refine wpList_append_list (o:=⟨some 7,_,_,_,_,_⟩) (by rfl) _ _ _ (by rfl) qv_congr (R:=fun _=>QV) W.heap.size 22 i0 _ 24 Tryz.underlying158 hi0 hz0 hz1 hz2 rfl (by omega) (.slice (some ⟨W.heap.size,0,none⟩) 0 0) [] (by rfl) hrow0.out (some a) c vs (by rfl) Hr.out (fun cs y h=>h) qv_one (by simp [maxLen]; omega) (by simp; omega) (by simp) (W.heap.size+1) (by simp) ?_; intro A5 c5 w5 hrow5 hgrow5 hat5; rw [List.nil_append] at hrow5 ⊢)
 have hB5:Below W.heap.size W w5:=below_of_grown hB hgrow5 (by simp) (fun g hg=>by simp only [Value.ownBlock,Option.some.injEq] at hg; omega)
 have Hrow5:=Lib.hid hrow5
 clear hrow5 hgrow5 hat5
 go_wp2_with fail
 go_ret
 exact⟨_,rfl,Hrow5.out,hB5⟩
end Go.Proofs.YtojmofnamppbdaaGreat
