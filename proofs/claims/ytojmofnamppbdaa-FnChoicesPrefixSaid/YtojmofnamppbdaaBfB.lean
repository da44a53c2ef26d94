/-
  A state with store buffers in the program's memory; the walks of what reads it. slices.Backward over bytes: what it hands back. The walk of impl.read: what a thread sees of a location. Bytes in a block of one's own, whatever its mark (a block that came out of a string bears one); appending to them. The walks of the machine with store buffers: its key. The walks of the machine with store buffers: done, moves, newBuffers. The walks of the machine with store buffers: newBuffers; slices.Clone of rows of bytes.
-/
import Derived.Test.YtojmofnamppbdaaSeqC
import Derived.Test.YtojmofnamppbdaaBufA
import Derived.Test.YtojmofnamppbdaaLib
import Derived.RangeFuncNested
import Derived.RangeFuncBound
import Derived.RangeFuncCalls
import Derived.RangeFuncLeaves
import Derived.RangeFuncBox
import Derived.Shelf.Abstract
import Derived.Shelf.RegionOpen
import Derived.WalkKit
import Derived.OwnWalkIn
import Derived.TacticsInMore
import Derived.LoopNIn
import Derived.LoopIn
import Derived.Lib.ConvBytes
import Derived.Laws.IdiomCopy
import Derived.Lib.SliceRun
namespace Go.Proofs.Ytojmofnamppbdaa
open Go.RowKit
set_option linter.unusedVariables false
set_option maxRecDepth 100000
end Go.Proofs.Ytojmofnamppbdaa
namespace Go.Proofs.Ytojmofnamppbdaa
open Go.RowKit Go.Shelf
set_option linter.unusedVariables false
attribute [local go_sem] Oper.semAt_some
end Go.Proofs.Ytojmofnamppbdaa
namespace Go.Proofs.Ytojmofnamppbdaa
open Go.RowKit Go.Shelf
set_option linter.unusedVariables false
attribute [local go_sem] Oper.semAt_some
end Go.Proofs.Ytojmofnamppbdaa
namespace Go.Proofs.Ytojmofnamppbdaa
open Go.RowKit
set_option linter.unusedVariables false
set_option maxRecDepth 100000
def RowZ (w:World) (base:Nat) (v:Value) (xs:List Int):Prop:=
 ∃ g cap,v=.slice (some ⟨g,0,none⟩) xs.length cap∧base≤g∧g<w.heap.size∧xs.length≤cap∧cap≤maxLen∧(∀ i,i<cap→(w.cell? ⟨g,i,none⟩).isSome=true∧w.frozen? ⟨g,i,none⟩=false)∧∀ i (h:i<xs.length),w.cell? ⟨g,i,none⟩=some (.int .u8 xs[i])
section
variable {w w':World} {base:Nat} {v:Value} {xs:List Int}
theorem RowZ.below (h:RowZ w base v xs) (hb:Below w.heap.size w w'):RowZ w' base v xs:=by
 obtain⟨g,cap,hv,hg,hl,hn,hm,hc,hx⟩:=h
 have hbk:=hb.block g hl
 exact⟨g,cap,hv,hg,Nat.lt_of_lt_of_le hl hb.size,hn,hm,fun i hi=>by
  rw [World.cell?_of_block (w:=w) hbk,World.frozen?_of_block (w:=w) hbk]
  exact hc i hi,fun i hi=>by rw [World.cell?_of_block (w:=w) hbk]; exact hx i hi⟩
theorem RowZ.slice (h:RowZ w base v xs):∃ A c,v=.slice A xs.length c:=by
 obtain⟨g,cap,hv,_⟩:=h
 exact⟨_,_,hv⟩
end
theorem below_setCells (B g:Nat) (hg:B≤g):∀ (vs:List Value) (o:Nat) (w:World),Below B w (w.setCells g o vs)
 | [],_,w=>Below.refl _ _
 | v::r,o,w=>((Below.refl B w).setCell (p:=⟨g,o,none⟩) hg v).trans (below_setCells B g hg r (o+1) _)
theorem run_append_Z {P:Program} (w:World) (t ty e:TypeId) (i:TypeInfo) (ht:P.underlying t=some (.slice e)) (hi:P.info? e=some i) (hz:i.zero=some (.int .u8 0)) (hsize:i.size=1) (hby:i.bytes=1)
  (base:Nat) (v:Value) (xs:List Int) (h:RowZ w base v xs) (A:Option Addr) (c:Nat) (ys:List Int) (hy:SlR 1 (fun _=>QB) w (.slice A ys.length c) ys) (h63:xs.length+ys.length≤1000000) (hbase:base≤w.heap.size):
  ∃ v' w',(Builtin.append_ #[t,t] ty #[v,.slice A ys.length c]).run P w=.ok v' w'∧RowZ w' base v' (xs++ys)∧Below base w w':=by
 obtain⟨g,cap,rfl,hg,hl,hn,hm,hc,hx⟩:=h
 rcases Nat.eq_zero_or_pos ys.length with h0 | hpos
 ·obtain rfl:ys=[]:=List.length_eq_zero_iff.1 h0
  exact⟨_,_,run_append_empty w t ty e i ht hi g 0 xs.length cap hn A c,by rw [List.append_nil]; exact⟨g,cap,rfl,hg,hl,hn,hm,hc,hx⟩,Below.refl _ _⟩
 ·obtain⟨b,o,rfl,news,hnl,hnw,hnr⟩:=SlR.news hy (by omega) hpos
  have hnl':news.length=ys.length:=by rw [hnl,Nat.mul_one]
  have hnv:∀ j (hj:j<ys.length),news[j]?=some (.int .u8 ys[j]):=fun j hj=>by
   obtain⟨cs,h1,h2⟩:=hnr j hj
   have h2:cs 0=.int .u8 ys[j]:=h2
   have h3:=h1 0 (by omega)
   rw [h2,Nat.mul_one,Nat.add_zero,List.getD_eq_getElem?_getD,List.getElem?_eq_getElem (by omega)] at h3
   rw [List.getElem?_eq_getElem (by omega)]
   simp only [Option.getD_some] at h3
   rw [h3]
  have h1:∀ u∈news,u.oneCell'=true:=fun u hu=>by
   obtain⟨j,hj,rfl⟩:=List.getElem_of_mem hu
   have:=hnv j (by omega)
   rw [List.getElem?_eq_getElem hj] at this
   injection this with this
   rw [this]; rfl
  by_cases hroom:xs.length+ys.length≤cap
  ·have hr:=run_append_room_cells (P:=P) w t ty e i ht hi g 0 xs.length cap ⟨b,o,none⟩ ys.length c news (by rw [hnl,hsize]) hnw h1 hroom (fun j hj=>by have:=(hc (xs.length+j) (by omega)).1; simpa [hsize] using this) (fun j hj=>by have:=(hc (xs.length+j) (by omega)).2; simpa [hsize] using this)
   rw [hsize] at hr
   simp only [Nat.mul_one,Nat.zero_add] at hr
   refine⟨_,_,hr,⟨g,cap,by rw [List.length_append],hg,Nat.lt_of_lt_of_le hl (below_setCells 0 g (Nat.zero_le _) _ _ _).size,by rw [List.length_append]; exact hroom,hm,fun k hk=>⟨?_,by rw [World.frozen?_setCells]; exact (hc k hk).2⟩,fun k hk=>?_⟩,below_setCells base g hg _ _ _⟩
   ·by_cases hin:xs.length≤k∧k<xs.length+news.length
    ·have:=World.cell?_setCells_in g news xs.length w (fun j hj=>(hc _ (by omega)).1) (k-xs.length) (by omega)
     rw [show xs.length+(k-xs.length)=k by omega] at this
     rw [this]; rfl
    ·rw [World.cell?_setCells_out g news xs.length w _ (fun _ _=>by show k<_∨_≤k; omega)]
     exact (hc k hk).1
   ·rw [List.length_append] at hk
    by_cases hin:k<xs.length
    ·rw [World.cell?_setCells_out g news xs.length w _ (fun _ _=>Or.inl hin),List.getElem_append_left hin]
     exact hx k hin
    ·have:=World.cell?_setCells_in g news xs.length w (fun j hj=>(hc _ (by omega)).1) (k-xs.length) (by omega)
     rw [show xs.length+(k-xs.length)=k by omega] at this
     rw [this,List.getElem_append_right (by omega)]
     have h4:=hnv (k-xs.length) (by omega)
     rw [List.getElem?_eq_getElem (by omega)] at h4
     exact h4
  ·have hadd:∀ j,(⟨g,0,none⟩:Addr).add j=⟨g,j,none⟩:=fun j=>by unfold Addr.add; split <;> simp_all
   have hr:=run_append_grow (P:=P) w t ty e i (.int .u8 0) ht hi hz ⟨g,0,none⟩ xs.length cap (xs.map (Value.int .u8)) (by rw [List.length_map,hsize,Nat.mul_one]) (fun j u hu=>by
    rw [List.getElem?_map] at hu
    rcases Nat.lt_or_ge j xs.length with hj | hj
    ·rw [List.getElem?_eq_getElem hj] at hu
     rw [hadd,hx j hj]
     exact hu
    ·rw [List.getElem?_eq_none hj] at hu; cases hu) ⟨b,o,none⟩ ys.length c news (by rw [hnl,hsize]) hnw (by omega) (by omega) (growslice_fits (by omega) (by rw [hby]; omega))
   have hge:=grownCap_ge w (xs.length+ys.length) cap e
   have hcm:=grownCap_le_maxLen w (xs.length+ys.length) cap e (by unfold maxLen; omega)
   generalize grownCap w (xs.length+ys.length) cap e=cp at hr hge hcm
   obtain⟨cells,hcells⟩:∃ cells,cells=(xs.map (Value.int .u8)).toArray++news.toArray++Builtin.zeroCells (Value.int .u8 0).cells (cp-(xs.length+ys.length)):=⟨_,rfl⟩
   rw [← hcells] at hr
   have hcz:cells.size=cp:=by
    rw [hcells]
    simp only [Array.size_append,List.size_toArray,List.length_map,size_zeroCells]
    rw [hnl',show (Value.int .u8 0).cells.size=1 from rfl,Nat.mul_one]
    omega
   have hown:Own (w.drew.alloc (.cells cells e)) w.heap.size e cells:=Own.new w.drew e cells
   have hcl:∀ k (hk:k<cells.size),(w.drew.alloc (.cells cells e)).cell? ⟨w.heap.size,k,none⟩=some cells[k]:=fun k hk=>Own.cell hown (by rw [Array.getElem?_eq_getElem hk])
   refine⟨_,_,hr,⟨w.heap.size,cp,by rw [List.length_append],hbase,hown.lt,by rw [List.length_append]; exact hge,hcm,fun k hk=>⟨by rw [hcl k (by omega)]; rfl,Own.frozen hown k⟩,fun k hk=>?_⟩,((Below.refl _ _).drew).alloc hbase _⟩
   rw [List.length_append] at hk
   rw [hcl k (by omega)]
   congr 1
   simp only [hcells]
   by_cases hin:k<xs.length
   ·rw [Array.getElem_append_left (by simp [hnl']; omega),Array.getElem_append_left (by simpa using hin),List.getElem_append_left hin]
    simp
   ·rw [Array.getElem_append_left (by simp [hnl']; omega),Array.getElem_append_right (by simp; omega),List.getElem_append_right (by omega)]
    have h4:=hnv (k-xs.length) (by omega)
    rw [List.getElem?_eq_getElem (by omega)] at h4
    injection h4 with h4
    simpa using h4
theorem wpList_append_Z {P:Program} {w:World} {ops:Array Oper} {rest:List Oper} {o:Oper} {a:Act} {QQ:Exit→Act→World→Prop} (hgd:o.guard=none) (s x:Operand) (t:TypeId) (ho:o.op=.call { callee:=.builtin .append,args:=#[s,x],argTypes:=#[t,t] })
  (e:TypeId) (i:TypeInfo) (ht:P.underlying t=some (.slice e)) (hi:P.info? e=some i) (hz:i.zero=some (.int .u8 0)) (hsize:i.size=1) (hby:i.bytes=1)
  (base:Nat) (v:Value) (xs:List Int) (hs:a.eval s=v) (hown:RowZ w base v xs) (A:Option Addr) (c:Nat) (ys:List Int) (hx:a.eval x=.slice A ys.length c) (hy:SlR 1 (fun _=>QB) w (.slice A ys.length c) ys) (h63:xs.length+ys.length≤1000000) (hbase:base≤w.heap.size)
  (h:∀ A' c' w',RowZ w' base (.slice A' (xs++ys).length c') (xs++ys)→Below base w w'→wpList P ops QQ rest (a.put o.dst (.slice A' (xs++ys).length c')) w'):wpList P ops QQ (o::rest) a w:=
 wpList_plain hgd fun _ hK=>by
  obtain⟨v',w',hr,h2,h3⟩:=run_append_Z (P:=P) w t o.type e i ht hi hz hsize hby base v xs hown A c ys hy h63 hbase
  obtain⟨A',c',rfl⟩:=h2.slice
  unfold Oper.wp execOp
  simp only [ho,resolve,invoke,builtin,Sem.run_bind,Sem.run_pure,Result.andThen_ok,List.map_toArray,List.map_cons,List.map_nil,hs,hx,hr]
  exact hK _ _ (h A' c' w' h2 h3)
theorem strOf_get {xs:List Int} (h:∀ v∈xs,0≤v∧v<256) {j:Nat} (hj:j<xs.length):(((strOfNums xs).data.toList.getD j 0).toNat:Int)=xs[j]:=by
 rw [strOfNums_data,List.getD_eq_getElem?_getD,List.getElem?_map,List.getElem?_eq_getElem hj]
 obtain⟨h0,h1⟩:=h _ (List.getElem_mem hj)
 simp only [Option.map_some,Option.getD_some,UInt8.toNat_ofNat']
 omega
theorem conv_Z (w:World) (xs:List Int) (hx:∀ v∈xs,0≤v∧v<256) (hl:xs.length≤1000000):∃ c w',(convert 9 35 (.string (strOfNums xs))).run Try.prog w=.ok (.slice (some ⟨w.heap.size,0,none⟩) xs.length c) w'∧RowZ w' w.heap.size (.slice (some ⟨w.heap.size,0,none⟩) xs.length c) xs∧Below w.heap.size w w':=by
 have h:=Go.Lib.run_convert_string_bytes (P:=Try.prog) (u:=.string) w 9 35 5 (strOfNums xs) (by kernel_rfl) Try.underlying35 (by kernel_rfl)
 rw [strOfNums_size] at h
 have hge:=grownCap_ge w xs.length 0 5
 have hcm:=grownCap_le_maxLen w xs.length 0 5 (by unfold maxLen; omega)
 have hnew:=Go.Lib.bytesWorld_at_new w 5 (strOfNums xs)
 have hsz:(Go.Lib.bytesCells w 5 (strOfNums xs)).size=grownCap w xs.length 0 5:=by
  unfold Go.Lib.bytesCells
  rw [strOfNums_size,Array.size_append,Array.size_map,Array.size_replicate]
  have:(strOfNums xs).data.size=xs.length:=strOfNums_size xs
  omega
 refine⟨_,_,h,⟨w.heap.size,_,rfl,Nat.le_refl _,by rw [Go.Lib.bytesWorld_size]; omega,hge,hcm,fun i hi=>⟨?_,?_⟩,fun i hi=>?_⟩,⟨rfl,rfl,rfl,by rw [Go.Lib.bytesWorld_size]; omega,fun k hk=>Go.Lib.bytesWorld_at_old _ _ _ k hk⟩⟩
 ·have hi':i<(Go.Lib.bytesCells w 5 (strOfNums xs)).size:=by rw [hsz]; exact hi
  simp [World.cell?,hnew,hi']
 ·simp only [World.frozen?,hnew,hsz,Bool.and_eq_false_iff,decide_eq_false_iff_not]
  left
  omega
 ·rw [Go.Lib.bytesWorld_cell w _ _ i (by rw [strOfNums_size]; exact hi),strOf_get hx hi]
theorem backZ {w:World} {base:Nat} {v:Value} {xs:List Int} (h:RowZ w base v xs) (w':World) (hw:w=w'):(convert 35 9 v).run Try.prog w'=.ok (.string (strOfNums xs)) w':=by
 subst hw
 obtain⟨g,cap,rfl,hg,hl,hn,hm,hc,hx⟩:=h
 refine run_convert_bytes_arg w 35 5 (by kernel_rfl) (by kernel_rfl) g 0 xs.length cap xs rfl (fun i hi=>?_) _ (by kernel_rfl)
 rw [Nat.zero_add,hx i hi,List.getD_eq_getElem?_getD,List.getElem?_eq_getElem hi]
 rfl
end Go.Proofs.Ytojmofnamppbdaa
namespace Go.Proofs.Ytojmofnamppbdaa
open Go.RowKit
set_option linter.unusedVariables false
set_option maxRecDepth 100000
theorem kAll_len (s:St):(kAll s).length=15:=by simp [kAll,kR,kP]
theorem kAll_by {p:Prg} (hp:PrgOk p) {s:St} (hs:StOk p s):∀ v∈kAll s,0≤v∧v<256:=by
 have h1:∀ t,0≤((pcS s t:Nat):Int)∧((pcS s t:Nat):Int)<256:=fun t=>by
  have:=hs.pcb t
  have:=(thr_ok hp t).1
  omega
 have h2:∀ i,0≤rgF s i∧rgF s i<256:=fun i=>by have:=getD_03 hs.regb i; unfold rgF; unfold In03 at this; omega
 have h3:∀ i,0≤meF s i∧meF s i<256:=fun i=>by have:=getD_03 hs.memb i; unfold meF; unfold In03 at this; omega
 intro v hv
 simp only [kAll,kR,kP,List.mem_append,List.mem_cons,List.not_mem_nil,or_false,List.mem_map,List.mem_range] at hv
 rcases hv with ((rfl | rfl | rfl) | ⟨i,_,rfl⟩) | (rfl | rfl | rfl)
 ·exact h1 _
 ·exact h1 _
 ·exact h1 _
 ·exact h2 _
 ·exact h3 _
 ·exact h3 _
 ·exact h3 _
end Go.Proofs.Ytojmofnamppbdaa
namespace Go.Proofs.Ytojmofnamppbdaa
open Go.RowKit
set_option linter.unusedVariables false
set_option maxRecDepth 100000
end Go.Proofs.Ytojmofnamppbdaa
namespace Go.Proofs.Ytojmofnamppbdaa
open Go.RowKit
set_option linter.unusedVariables false
set_option maxRecDepth 100000
end Go.Proofs.Ytojmofnamppbdaa
