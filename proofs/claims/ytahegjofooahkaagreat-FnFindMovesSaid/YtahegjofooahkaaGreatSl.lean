/-
  The library's slices of ints as the walks speak of them: Contains, Index, Clone, Sort (by the shelf's contracts).
-/
import Derived.Test.YtahegjofooahkaaGreatSlA
import Derived.Test.YtahegjofooahkaaGreatShelf
namespace Go.Proofs.YtahegjofooahkaaGreat
open Go.RowKit
set_option linter.unusedVariables false
set_option maxRecDepth 100000

theorem contI_any (xs : List Int) (n : Int) (w : World) (A : Option Addr) (c : Nat) (h : Ints w A c xs) : Calls Tryz.prog 106 #[.slice A xs.length c, .int .i64 n] w (RetQ w (decide (n ∈ xs))) := by
  rcases Nat.eq_zero_or_pos xs.length with h0 | h0
  · obtain rfl : xs = [] := List.length_eq_zero_iff.1 h0
    exact (Tryz.slices_Contains_int_empty A c n w).mono fun e w' h => ⟨by rw [h.1]; simp, h.2.symm⟩
  · obtain ⟨b, o, rfl, hc⟩ := ints_cells h h0
    refine (Tryz.slices_Contains_int b o xs.length c xs n w (Nat.le_refl _) h.len hc).mono fun e w' h => ⟨by rw [h.1, List.take_length]; congr 2; simp, h.2.symm⟩
end Go.Proofs.YtahegjofooahkaaGreat
