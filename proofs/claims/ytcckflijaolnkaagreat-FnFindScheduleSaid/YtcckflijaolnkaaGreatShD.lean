/-
  The draw of a schedule: l3Schedule.
-/
import Derived.Test.YtcckflijaolnkaaGreatPlM
import Derived.Test.YtcckflijaolnkaaGreatDpCP
import Derived.Test.YtcckflijaolnkaaGreatSlA
import Derived.Deep.Cut
namespace Go.Proofs.YtcckflijaolnkaaGreat
open Go.RowKit
set_option linter.unusedVariables false
set_option maxRecDepth 100000

def natI (cs : List Nat) : List Int := cs.map fun n => ((n : Nat) : Int)
def sumN (cs : List Nat) : Nat := cs.foldr (· + ·) 0
theorem natI_getD (cs : List Nat) (i : Nat) : (natI cs).getD i 0 = ((cs.getD i 0 : Nat) : Int) := by
  unfold natI
  simp only [List.getD_eq_getElem?_getD, List.getElem?_map]
  cases cs[i]? <;> rfl
theorem natI_set (cs : List Nat) (i v : Nat) : natI (cs.set i v) = (natI cs).set i (v : Int) := by
  unfold natI
  rw [List.map_set]
theorem natI_len (cs : List Nat) : (natI cs).length = cs.length := by unfold natI; rw [List.length_map]
theorem sumN_take {p : Prg} {i : Nat} (h : i < p.length) : natI ((p.take (i + 1)).map List.length) = natI ((p.take i).map List.length) ++ [(p[i].length : Int)] := by
  unfold natI
  rw [List.take_succ_eq_append_getElem h, List.map_append, List.map_append]
  rfl
theorem sumN_map : ∀ p : Prg, sumN (p.map List.length) = wSum List.length p
  | [] => rfl
  | t :: p => by
    have := sumN_map p
    simp only [List.map_cons, sumN, List.foldr_cons, wSum] at this ⊢
    omega
theorem sum_zero : ∀ cs : List Nat, (∀ i, i < cs.length → cs.getD i 0 = 0) → sumN cs = 0
  | [], _ => rfl
  | c :: cs, h => by
    have h0 := h 0 (by simp)
    have ih := sum_zero cs fun i hi => by have := h (i + 1) (by simpa using hi); simpa using this
    simp only [List.getD_cons_zero] at h0
    simp only [sumN, List.foldr_cons] at ih ⊢
    omega
/-- Round about from t0 everything has been met. -/
theorem all_round {n t0 : Nat} (hn : 0 < n) (ht : t0 < n) (k : Nat) (hk : k < n) : ∃ i, i < n ∧ (t0 + i) % n = k := by
  rcases Nat.lt_or_ge k t0 with h | h
  · refine ⟨n + k - t0, by omega, ?_⟩
    rw [show t0 + (n + k - t0) = k + n by omega, Nat.add_mod_right, Nat.mod_eq_of_lt hk]
  · refine ⟨k - t0, by omega, ?_⟩
    rw [show t0 + (k - t0) = k by omega, Nat.mod_eq_of_lt hk]
theorem RowI.mvR {a b : World} {R base : Nat} {v : Value} {xs : List Int} (h : RowI a base v xs) (m : Mv R a b) (hR : R < base) : RowI b base v xs := h.of_block fun g hg _ hl => m.block hl (by omega)
theorem Rd.of_blocks {w w' : World} {R p : Nat} (h : Rd w R p) (hb : ∀ b, b ≤ R → w'.heap[b]? = w.heap[b]?) : Rd w' R p := by
  obtain ⟨A, n, c, h, hn, hc⟩ := h
  refine ⟨A, n, c, h.of_block (hb R (Nat.le_refl _)), hn, fun i hi => ?_⟩
  obtain ⟨b, o, v, h1, h2, h3, h4⟩ := hc i hi
  refine ⟨b, o, v, h1, h2, ?_, h4⟩
  rw [World.cell?_of_block (w := w) (hb b (by omega))]
  exact h3
def RetSh (w : World) (R q : Nat) (e : Ending) (w' : World) : Prop := ∃ (A : Option Addr) (c : Nat) (ms : List Int) (q' : Nat), e = .returned (.slice A ms.length c) ∧ Ints (above w.heap.size w') A c ms ∧ ms.length ≤ 30 ∧ Mv R w w' ∧ Rd w' R q' ∧ q' ≤ q + 1000

end Go.Proofs.YtcckflijaolnkaaGreat
