/-
  Rows of ints that a make has laid, element by element; they become rows of one's own. The walk of impl.related.
-/
import Derived.Test.YtfgpbnncdfcjjaaGreatDoorRel1
import Derived.Test.YtfgpbnncdfcjjaaGreatDoorSl
namespace Go.Proofs.YtfgpbnncdfcjjaaGreatDoor
open Go.RowKit
set_option linter.unusedVariables false
set_option maxRecDepth 100000

/-- Block B holds the ints xs, n of them. -/
def BitR (w : World) (B n : Nat) (xs : List Int) : Prop := xs.length = n ∧ w.rowIs B 3 n (fun t => .int .i64 (xs.getD t 0))
namespace BitR
variable {w w' : World} {B n : Nat} {xs : List Int}
theorem made (w : World) (n : Nat) : BitR (w.alloc (.cells (madeCells #[.int .i64 0] n) 3)) w.heap.size n (List.replicate n 0) :=
  ⟨by simp, (World.rowIs_made w (.int .i64 0) n 3).congr fun i hi => by simp [List.getD_eq_getElem?_getD, hi]⟩
theorem cell (h : BitR w B n xs) {i : Nat} (hi : i < n) : w.cell? ⟨B, i, none⟩ = some (.int .i64 (xs.getD i 0)) := h.2.cell hi
theorem frozen (h : BitR w B n xs) (i : Nat) : w.frozen? ⟨B, i, none⟩ = false := h.2.frozen i
theorem lt (h : BitR w B n xs) : B < w.heap.size := h.2.lt
theorem of_block (h : BitR w B n xs) (e : w'.heap[B]? = w.heap[B]?) : BitR w' B n xs := ⟨h.1, h.2.of_block e⟩
theorem under (h : BitR w B n xs) (hb : Below w.heap.size w w') : BitR w' B n xs := h.of_block (hb.block B h.lt)
theorem set (h : BitR w B n xs) (i : Nat) (v : Int) : BitR (w.setCell ⟨B, i, none⟩ (.int .i64 v)) B n (xs.set i v) := by
  refine ⟨by simpa using h.1, (h.2.set i (.int .i64 v)).congr fun j hj => ?_⟩
  have hj' : j < xs.length := by rw [h.1]; exact hj
  by_cases e : j = i
  · subst e
    rw [if_pos rfl]
    simp [List.getD_eq_getElem?_getD, hj']
  · rw [if_neg e]
    simp [List.getD_eq_getElem?_getD, show ¬ i = j from fun h => e h.symm]
theorem row (h : BitR w B n xs) {base : Nat} (hb : base ≤ B) (hn : n ≤ 1000) : RowI w base (.slice (some ⟨B, 0, none⟩) xs.length n) xs := by
  obtain ⟨hl, c, hc, hs, he⟩ := h
  refine row_of_map ⟨by simp, .inr ⟨B, n, c, rfl, hb, hc, by omega, by simp [maxLen]; omega, by rw [hs, Nat.mul_one], ?_⟩⟩
  apply List.ext_getElem?
  intro i
  rw [List.getElem?_take]
  by_cases hi : i < n
  · have hi' : i < xs.length := by omega
    rw [if_pos (by omega), Array.getElem?_toList, he i hi]
    simp [hi']
  · rw [if_neg (by omega)]
    exact (List.getElem?_eq_none (by simp; omega)).symm
theorem ret {W : World} (h : BitR w B n xs) (hB : W.heap.size ≤ B) (hn : n ≤ 1000) (hb : Below W.heap.size W w) : RetRowI W xs (.returned (.slice (some ⟨B, 0, none⟩) n n)) w := by
  have := h.row hB hn
  rw [h.1] at this
  exact ⟨_, n, by rw [h.1], by rw [h.1]; exact this, hb⟩
end BitR

theorem relN_ints {w : World} {A : Option Addr} {c n : Nat} {R : Rel} (h : Ints w A c (relN R n)) {i : Nat} (hi : i < n) : ∃ b o, A = some ⟨b, o, none⟩ ∧ b < w.heap.size ∧ w.cell? ⟨b, o + i, none⟩ = some (.int .i64 ((bitN (R i) n : Nat) : Int)) := by
  obtain ⟨b, o, h1, h2, h3⟩ := h.get (i := i) (by rw [relN_length]; exact hi)
  rw [relN_get] at h3
  exact ⟨b, o, h1, h2, h3⟩

theorem related_any (R : Rel) (n i k : Nat) (hn : n ≤ 16) (hi : i < n) (hk : k < n) (w : World) (A : Option Addr) (c : Nat) (h : Ints w A c (relN R n)) :
    Calls Tryz.prog 75 #[.slice A n c, .int .i64 i, .int .i64 k] w (RetQ w (R i k)) := by
  obtain ⟨b, o, rfl, hb, h0⟩ := relN_ints h hi
  have hv := test_bitN (R i) hn hk
  have Hv := Lib.hid hv
  clear hv
  go_enter Tryz.func75, Tryz.ntmps75
  go_wp2_with fail
  go_ret
  exact ⟨ret_bool Hv.out, rfl⟩

end Go.Proofs.YtfgpbnncdfcjjaaGreatDoor
