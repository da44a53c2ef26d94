/-
  The library's slices of ints as the walks speak of them: Contains, Index, Clone, Sort (by the shelf's contracts).
-/
import Derived.Test.YtcckflijaolnkaaGreatSlA
import Derived.Test.YtcckflijaolnkaaGreatShelf
namespace Go.Proofs.YtcckflijaolnkaaGreat
open Go.RowKit
set_option linter.unusedVariables false
set_option maxRecDepth 100000

theorem contI_any (xs : List Int) (n : Int) (w : World) (A : Option Addr) (c : Nat) (h : Ints w A c xs) : Calls Tryz.prog 62 #[.slice A xs.length c, .int .i64 n] w (RetQ w (decide (n ∈ xs))) := by
  rcases Nat.eq_zero_or_pos xs.length with h0 | h0
  · obtain rfl : xs = [] := List.length_eq_zero_iff.1 h0
    exact (Tryz.slices_Contains_int_empty A c n w).mono fun e w' h => ⟨by rw [h.1]; simp, h.2.symm⟩
  · obtain ⟨b, o, rfl, hc⟩ := ints_cells h h0
    refine (Tryz.slices_Contains_int b o xs.length c xs n w (Nat.le_refl _) h.len hc).mono fun e w' h => ⟨by rw [h.1, List.take_length]; congr 2; simp, h.2.symm⟩
theorem idxI_any (xs : List Int) (n : Int) (w : World) (A : Option Addr) (c : Nat) (h : Ints w A c xs) : Calls Tryz.prog 71 #[.slice A xs.length c, .int .i64 n] w (fun e w' => e = .returned (.int .i64 (Lib.idxOf xs n)) ∧ w = w') := by
  rcases Nat.eq_zero_or_pos xs.length with h0 | h0
  · obtain rfl : xs = [] := List.length_eq_zero_iff.1 h0
    exact (Tryz.slices_Index_int_empty A c n w).mono fun e w' h => ⟨h.1, h.2.symm⟩
  · obtain ⟨b, o, rfl, hc⟩ := ints_cells h h0
    exact (Tryz.slices_Index_int b o xs.length c xs n w (Nat.le_refl _) h.len hc).mono fun e w' h => ⟨by rw [h.1, List.take_length], h.2.symm⟩

theorem take_mapIdx_put (d : Array Int) (cur : Array Value) (h : d.size ≤ cur.size) : (Go.Sort.putCells (Value.int .i64) 0 d cur).toList.take d.size = d.toList.map (Value.int .i64) := by
  apply List.ext_getElem?
  intro i
  rw [List.getElem?_take]
  by_cases hi : i < d.size
  · rw [if_pos hi]
    simp only [Go.Sort.putCells, Array.getElem?_toList, Array.getElem?_mapIdx, List.getElem?_map]
    have h1 : cur[i]? = some cur[i] := by simp [show i < cur.size by omega]
    rw [h1]
    simp [hi]
  · rw [if_neg hi]
    exact (List.getElem?_eq_none (by simp; omega)).symm
end Go.Proofs.YtcckflijaolnkaaGreat
