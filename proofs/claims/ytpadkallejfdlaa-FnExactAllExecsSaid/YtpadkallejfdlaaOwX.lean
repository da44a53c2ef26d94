/-
  A candidate of one's own. No walk.
-/
import Derived.Test.YtpadkallejfdlaaRwX
import Derived.Test.YtpadkallejfdlaaImEv
namespace Go.Proofs.Ytpadkallejfdlaa
open Go.RowKit
set_option linter.unusedVariables false
set_option maxRecDepth 100000

/-- Ints of one's own; slices of them. -/
abbrev OwI1 (w : World) (v : Value) (xs : List Int) (F : List Nat) : Prop := OwRow 1 3 (flat QInt) w v xs F
def PI1 : OwP (List Int) := sub 1 3 (flat QInt)
theorem pi1_loc : OwLoc 1 PI1 := sub_loc (flat_loc qint_congr)
abbrev OwI2 (w : World) (v : Value) (xs : List (List Int)) (F : List Nat) : Prop := OwRow 1 44 PI1 w v xs F
def PX : OwP Ex := fun w cs x F => ∃ F1 F2, OwI1 w (cs 0) x.from_ F1 ∧ OwI2 w (cs 1) x.order F2 ∧ F = F1 ++ F2
theorem px_loc : OwLoc 2 PX :=
  ⟨fun {w w' cs x F} ⟨F1, F2, h1, h2, e⟩ hb => ⟨F1, F2, h1.move (flat_loc qint_congr) fun b hm => hb b (by rw [e]; exact List.mem_append_left _ hm), h2.move pi1_loc fun b hm => hb b (by rw [e]; exact List.mem_append_right _ hm), e⟩,
   fun {w cs x F} ⟨F1, F2, h1, h2, e⟩ b hb => by
    rw [e] at hb
    rcases List.mem_append.1 hb with hb | hb
    · exact h1.lt (flat_loc qint_congr) b hb
    · exact h2.lt pi1_loc b hb,
   fun {w cs cs' x F} hc ⟨F1, F2, h1, h2, e⟩ => ⟨F1, F2, by rw [← hc 0 (by omega)]; exact h1, by rw [← hc 1 (by omega)]; exact h2, e⟩⟩
theorem OwI1.ints {w : World} {B : Nat} {v : Value} {xs : List Int} {F : List Nat} (h : OwI1 w v xs F) (hF : ∀ b ∈ F, B ≤ b) : SlR 1 RInt (above B w) v xs := h.slR (fun cs x F' _ h => h.1) hF
theorem OwI2.intss {w : World} {B : Nat} {v : Value} {xs : List (List Int)} {F : List Nat} (h : OwI2 w v xs F) (hF : ∀ b ∈ F, B ≤ b) : SlR 1 RInts (above B w) v xs :=
  h.slR (fun cs x F' hF' h => by
    have h' := OwI1.ints h hF'
    obtain ⟨A, c, e, _⟩ := h'.slice
    exact ⟨A, c, e, by unfold Ints; rw [← e]; exact h'⟩) hF
theorem PX.rx {w : World} {B : Nat} {cs : Nat → Value} {x : Ex} {F : List Nat} (h : PX w cs x F) (hF : ∀ b ∈ F, B ≤ b) : RX (above B w) cs x := by
  obtain ⟨F1, F2, h1, h2, rfl⟩ := h
  have k1 := OwI1.ints h1 fun b hb => hF b (List.mem_append_left _ hb)
  have k2 := OwI2.intss h2 fun b hb => hF b (List.mem_append_right _ hb)
  obtain ⟨A, c, e1, _⟩ := k1.slice
  obtain ⟨A', c', e2, _⟩ := k2.slice
  exact ⟨A, c, A', c', e1, e2, by unfold Ints; rw [← e1]; exact k1, by unfold Intss; rw [← e2]; exact k2⟩
/-- Candidates of one's own. -/
abbrev OwXs (w : World) (v : Value) (xs : List Ex) (F : List Nat) : Prop := OwRow 2 50 PX w v xs F
theorem OwXs.exS {w : World} {B : Nat} {v : Value} {xs : List Ex} {F : List Nat} (h : OwXs w v xs F) (hF : ∀ b ∈ F, B ≤ b) : ExS (above B w) v xs := h.slR (fun cs x F' hF' h => h.rx hF') hF
theorem OwXs.exS0 {w : World} {v : Value} {xs : List Ex} {F : List Nat} (h : OwXs w v xs F) : ExS w v xs := (h.exS (B := 0) fun _ _ => Nat.zero_le _).le (Le.above _ _)

end Go.Proofs.Ytpadkallejfdlaa
