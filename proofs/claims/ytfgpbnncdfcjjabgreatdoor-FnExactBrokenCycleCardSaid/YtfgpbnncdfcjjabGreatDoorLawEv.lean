/-
  The walk of FnExactEventsOf: it answers true.
-/
import Derived.Test.YtfgpbnncdfcjjabGreatDoorImEv
namespace Go.Proofs.YtfgpbnncdfcjjabGreatDoor
open Go.RowKit
set_option linter.unusedVariables false
set_option maxRecDepth 100000

theorem OwPr.prgS0 {w : World} {v : Value} {p : Prg} {F : List Nat} (h : OwPr w v p F) : PrgS w v p := PrgS.le (h.prgS (B := 0) (fun _ _ => Nat.zero_le _)) (Le.above _ _)
theorem wtIs_small : ∀ (p : Prg), wSum wtIs p = 4 * wSum List.length p
  | [] => rfl
  | t :: p => by
    have := wtIs_small p
    simp only [wSum, wtIs] at *
    omega
theorem evO_small (p : Prg) : (evO p).length ≤ 15 := by
  unfold evO
  by_cases h : prgB p = true
  · rw [if_pos h, evs_length]
    have := (prgB_iff.1 h).1.2.2
    omega
  · rw [if_neg h]; simp

end Go.Proofs.YtfgpbnncdfcjjabGreatDoor
