/-
  The laws' helper that looks whether outcomes ascend; whether a list has an outcome.
-/
import Derived.Test.YtahegjofooahkaaGreatWm
import Derived.Test.YtahegjofooahkaaGreatPlM
namespace Go.Proofs.YtahegjofooahkaaGreat
open Go.RowKit
set_option linter.unusedVariables false
set_option maxRecDepth 100000

/-- Whether a list has an outcome. -/
noncomputable def inL (L : List (List Int)) (o : List Int) : Bool := L.any fun x => eqB x o
theorem inL_iff {L : List (List Int)} {o : List Int} : inL L o = true ↔ o ∈ L := by
  unfold inL
  rw [List.any_eq_true]
  constructor
  · rintro ⟨x, h1, h2⟩
    rw [← eqB_iff.1 h2]
    exact h1
  · intro h
    exact ⟨o, h, eqB_self o⟩
theorem inL_false {L : List (List Int)} {o : List Int} : inL L o = false ↔ o ∉ L := by rw [← Bool.not_eq_true, inL_iff]

set_option maxHeartbeats 1000000 in
theorem wmOut_any (L : List (List Int)) (o : List Int) (W : World) (A B : Option Addr) (c d : Nat) (hI : Intss W A c L) (hO : Ints W B d o) : Calls Tryz.prog 21 #[.slice A L.length c, .slice B o.length d] W (RetB W (inL L o)) := by
  have hm := hI.len
  have HI := Lib.hid hI
  have HO := Lib.hid hO
  clear hI hO
  go_enter Tryz.func21, Tryz.ntmps21
  go_wp2_with fail
  go_loopg [5] L.length (fun g s5 wr => ∃ i : Nat, i ≤ L.length ∧ g = L.length - i ∧ s5 = .int .i64 i ∧ Hid (∀ j (h : j < L.length), j < i → L[j] ≠ o) ∧ Below W.heap.size W wr)
  case atStart => exact ⟨0, Nat.zero_le _, rfl, rfl, fun j h hj => absurd hj (Nat.not_lt_zero _), Below.refl _ _⟩
  case round =>
    obtain ⟨i, hi, rfl, rfl, hall, hb⟩ := hrel
    by_cases hlt : i < L.length
    · obtain ⟨b, o', A1, c1, rfl, hb1, k0, h0⟩ := (HI.out.le (Le.below hb)).get hlt
      have hwm := wmInts_any L[i] o wr A1 B c1 d h0 (HO.out.le (Le.below hb))
      have Hyes : Hid (eqB L[i] o = true → inL L o = true) := fun h => inL_iff.2 (by rw [← eqB_iff.1 h]; exact List.getElem_mem hlt)
      have Hno : Hid (eqB L[i] o = false → ∀ j (h : j < L.length), j < i + 1 → L[j] ≠ o) := fun h j hj hji => by
        rcases Nat.lt_succ_iff_lt_or_eq.1 hji with h' | h'
        · exact hall.out j hj h'
        · subst h'; exact eqB_false.1 h
      generalize L[i] = x at k0 h0 hwm Hyes Hno
      clear hall h0
      go_wp2_with fail
      refine hwm.mono ?_
      rintro e5 w5 ⟨rfl, hb5⟩
      have hB5 := hb.trans (hb5.mono hb.size)
      clear hwm k0
      cases hx : eqB x o
      · have Hn := Lib.hid (Hno.out hx)
        clear hx Hyes Hno
        go_wp2_with fail
        go_roundg (L.length - (i + 1))
        case measure => omega
        case rel => exact ⟨i + 1, by omega, rfl, by go_num, Hn.out, hB5⟩
      · have Hy := Lib.hid (Hyes.out hx)
        clear hx Hyes Hno
        go_wp2_with fail
        go_ret
        exact ⟨ret_bool Hy.out.symm, hB5⟩
    · obtain rfl : i = L.length := by omega
      have Hn : Hid (inL L o = false) := inL_false.2 fun h => by
        obtain ⟨j, hj, e⟩ := List.getElem_of_mem h
        exact hall.out j hj hj e
      clear hall
      go_wp2_with fail
      go_ret
      exact ⟨ret_bool Hn.out.symm, hb⟩

end Go.Proofs.YtahegjofooahkaaGreat
