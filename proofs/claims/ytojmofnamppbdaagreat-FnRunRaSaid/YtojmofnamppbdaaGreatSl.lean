/-
  The library's slices of ints as the walks speak of them: Contains, Index, Clone, Sort (by the shelf's contracts).
-/
import Derived.Test.YtojmofnamppbdaaGreatSlA
import Derived.Test.YtojmofnamppbdaaGreatShelf
namespace Go.Proofs.YtojmofnamppbdaaGreat
open Go.RowKit
set_option linter.unusedVariables false
set_option maxRecDepth 100000
theorem take_mapIdx_put (d:Array Int) (cur:Array Value) (h:d.size≤cur.size):(Go.Sort.putCells (Value.int .i64) 0 d cur).toList.take d.size=d.toList.map (Value.int .i64):=by
 apply List.ext_getElem?
 intro i
 rw [List.getElem?_take]
 by_cases hi:i<d.size
 ·rw [if_pos hi]
  simp only [Go.Sort.putCells,Array.getElem?_toList,Array.getElem?_mapIdx,List.getElem?_map]
  have h1:cur[i]?=some cur[i]:=by simp [show i<cur.size by omega]
  rw [h1]
  simp [hi]
 ·rw [if_neg hi]
  exact (List.getElem?_eq_none (by simp; omega)).symm
theorem sortI_any (xs:List Int) (w:World) (base:Nat) (v:Value) (h:RowI w base v xs) (hl:xs.length≤4000000):
  Calls Tryz.prog 75 #[v] w (fun e w'=>e=.returned (.tuple #[])∧RowI w' base v (srt xs)∧w.grownBy w' v.ownBlock):=by
 have hm:=row_to_map h
 rcases hm.2 with ⟨rfl,h0⟩ | ⟨g,cap,cur,rfl,hb,hg,hn,hcm,hc,ht⟩
 ·obtain rfl:xs=[]:=List.length_eq_zero_iff.1 h0
  exact (Tryz.slices_Sort_int_none none 0 w).mono fun e w' ⟨h1,h2⟩=>by rw [h2]; exact⟨h1,by simpa [srt] using h,⟨rfl,rfl,rfl,Nat.le_refl _,fun _ _ _=>rfl⟩⟩
 ·have hgl:g<w.heap.size:=(Array.getElem?_eq_some_iff.1 hg).elim fun h _=>h
  have hcs:∀ j,j<xs.length→cur[j]?=some (.int .i64 (xs.getD j 0)):=fun j hj=>by
   have h1:(xs.map (Value.int .i64))[j]?=cur.toList[j]?:=by rw [← ht,List.getElem?_take,if_pos (by omega)]
   rw [← Array.getElem?_toList,← h1]
   simp [hj]
  have hH:Go.Sort.Holds (Value.int .i64) w g 0 xs.toArray:=fun j hj=>by
   have hj':j<xs.length:=by simpa using hj
   refine⟨?_,by simp [World.frozen?,hg]⟩
   rw [Nat.zero_add,cell_of_row w g j cur 3 (0,0) hg,hcs j hj']
   simp [hj']
  refine (Tryz.slices_Sort_int g 0 cap xs w hH hgl (by omega)).mono fun e w' ⟨h1,n,os,h2⟩=>⟨h1,?_,?_⟩
  ·have hmap:w'.heap[g]?=some (.cells (Go.Sort.putCells (Value.int .i64) 0 (srt xs).toArray cur) 3 (0,0)):=by
    rw [h2,Go.Sort.heap_grow_old _ _ (by simpa [Go.Sort.ahead] using hgl)]
    simp [Go.Sort.putRow,Go.Sort.mapBlock,Array.getElem?_modify,Go.Sort.ahead,hg,Go.Sort.onCells,srt]
   have:=row_of_map (w:=w') (base:=base) (v:=.slice (some ⟨g,0,none⟩) xs.length cap) (xs:=srt xs) ⟨by simp [srt_length],.inr ⟨g,cap,_,by rw [srt_length],hb,hmap,by rw [srt_length]; exact hn,hcm,by simpa [Go.Sort.putCells] using hc,by
    have:=take_mapIdx_put (srt xs).toArray cur (by simp [srt_length]; omega)
    simpa [srt_length] using this⟩⟩
   exact this
  ·rw [h2]
   refine⟨rfl,rfl,rfl,by simp [Go.Sort.grow,Go.Sort.ahead,Go.Sort.putRow,Go.Sort.mapBlock],fun i hi hne=>?_⟩
   rw [Go.Sort.heap_grow_old _ _ (by simpa [Go.Sort.ahead] using hi)]
   simp only [Go.Sort.putRow,Go.Sort.mapBlock,Array.getElem?_modify,Go.Sort.ahead]
   rw [if_neg (fun e=>hne (by simp [Value.ownBlock,e]))]
end Go.Proofs.YtojmofnamppbdaaGreat
