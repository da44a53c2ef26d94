/-
  The library's slices of ints as the walks speak of them: Contains, Index, Clone, Sort (by the shelf's contracts).
-/
import Derived.Test.YtahegjofooahkaaSlA
import Derived.Test.YtahegjofooahkaaShelf
namespace Go.Proofs.Ytahegjofooahkaa
open Go.RowKit
set_option linter.unusedVariables false
set_option maxRecDepth 100000

theorem take_mapIdx_put (d : Array Int) (cur : Array Value) (h : d.size ≤ cur.size) : (Go.Sort.putCells (Value.int .i64) 0 d cur).toList.take d.size = d.toList.map (Value.int .i64) := by
  apply List.ext_getElem?
  intro i
  rw [List.getElem?_take]
  by_cases hi : i < d.size
  · rw [if_pos hi]
    simp only [Go.Sort.putCells, Array.getElem?_toList, Array.getElem?_mapIdx, List.getElem?_map]
    have h1 : cur[i]? = some cur[i] := by simp [show i < cur.size by omega]
    rw [h1]
    simp [hi]
  · rw [if_neg hi]
    exact (List.getElem?_eq_none (by simp; omega)).symm
end Go.Proofs.Ytahegjofooahkaa
