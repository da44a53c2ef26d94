/-
  Rows of ints that a make has laid, element by element; they become rows of one's own. The walk of impl.related. The walks of the reference's operations on relations. The walks of the reference's composition, inverse, closure, of its tests for cycles and of its count. The walks of the program's operations on relations. The walks of the program's composition, inverse and closure, and of its tests for cycles.
-/
import Derived.Test.YtfgpbnncdfcjjabGreatDoorRel1
import Derived.Test.YtfgpbnncdfcjjabGreatDoorSl

/-! Rows of ints that a make has laid, element by element; they become rows of one's own. The walk of impl.related. The walks of the reference's operations on relations. The walks of the reference's composition, inverse, closure, of its tests for cycles and of its count. -/
/-! Rows of ints that a make has laid, element by element; they become rows of one's own. The walk of impl.related. -/
namespace Go.Proofs.YtfgpbnncdfcjjabGreatDoor
open Go.RowKit
set_option linter.unusedVariables false
set_option maxRecDepth 100000

/-- Block B holds the ints xs, n of them. -/
def BitR (w : World) (B n : Nat) (xs : List Int) : Prop := xs.length = n ∧ w.rowIs B 3 n (fun t => .int .i64 (xs.getD t 0))
namespace BitR
variable {w w' : World} {B n : Nat} {xs : List Int}
theorem made (w : World) (n : Nat) : BitR (w.alloc (.cells (madeCells #[.int .i64 0] n) 3)) w.heap.size n (List.replicate n 0) :=
  ⟨by simp, (World.rowIs_made w (.int .i64 0) n 3).congr fun i hi => by simp [List.getD_eq_getElem?_getD, hi]⟩
theorem cell (h : BitR w B n xs) {i : Nat} (hi : i < n) : w.cell? ⟨B, i, none⟩ = some (.int .i64 (xs.getD i 0)) := h.2.cell hi
theorem frozen (h : BitR w B n xs) (i : Nat) : w.frozen? ⟨B, i, none⟩ = false := h.2.frozen i
theorem lt (h : BitR w B n xs) : B < w.heap.size := h.2.lt
theorem of_block (h : BitR w B n xs) (e : w'.heap[B]? = w.heap[B]?) : BitR w' B n xs := ⟨h.1, h.2.of_block e⟩
theorem under (h : BitR w B n xs) (hb : Below w.heap.size w w') : BitR w' B n xs := h.of_block (hb.block B h.lt)
theorem set (h : BitR w B n xs) (i : Nat) (v : Int) : BitR (w.setCell ⟨B, i, none⟩ (.int .i64 v)) B n (xs.set i v) := by
  refine ⟨by simpa using h.1, (h.2.set i (.int .i64 v)).congr fun j hj => ?_⟩
  have hj' : j < xs.length := by rw [h.1]; exact hj
  by_cases e : j = i
  · subst e
    rw [if_pos rfl]
    simp [List.getD_eq_getElem?_getD, hj']
  · rw [if_neg e]
    simp [List.getD_eq_getElem?_getD, show ¬ i = j from fun h => e h.symm]
theorem row (h : BitR w B n xs) {base : Nat} (hb : base ≤ B) (hn : n ≤ 1000) : RowI w base (.slice (some ⟨B, 0, none⟩) xs.length n) xs := by
  obtain ⟨hl, c, hc, hs, he⟩ := h
  refine row_of_map ⟨by simp, .inr ⟨B, n, c, rfl, hb, hc, by omega, by simp [maxLen]; omega, by rw [hs, Nat.mul_one], ?_⟩⟩
  apply List.ext_getElem?
  intro i
  rw [List.getElem?_take]
  by_cases hi : i < n
  · have hi' : i < xs.length := by omega
    rw [if_pos (by omega), Array.getElem?_toList, he i hi]
    simp [hi']
  · rw [if_neg (by omega)]
    exact (List.getElem?_eq_none (by simp; omega)).symm
theorem ret {W : World} (h : BitR w B n xs) (hB : W.heap.size ≤ B) (hn : n ≤ 1000) (hb : Below W.heap.size W w) : RetRowI W xs (.returned (.slice (some ⟨B, 0, none⟩) n n)) w := by
  have := h.row hB hn
  rw [h.1] at this
  exact ⟨_, n, by rw [h.1], by rw [h.1]; exact this, hb⟩
end BitR

theorem relN_ints {w : World} {A : Option Addr} {c n : Nat} {R : Rel} (h : Ints w A c (relN R n)) {i : Nat} (hi : i < n) : ∃ b o, A = some ⟨b, o, none⟩ ∧ b < w.heap.size ∧ w.cell? ⟨b, o + i, none⟩ = some (.int .i64 ((bitN (R i) n : Nat) : Int)) := by
  obtain ⟨b, o, h1, h2, h3⟩ := h.get (i := i) (by rw [relN_length]; exact hi)
  rw [relN_get] at h3
  exact ⟨b, o, h1, h2, h3⟩

theorem related_any (R : Rel) (n i k : Nat) (hn : n ≤ 16) (hi : i < n) (hk : k < n) (w : World) (A : Option Addr) (c : Nat) (h : Ints w A c (relN R n)) :
    Calls Tryz.prog 122 #[.slice A n c, .int .i64 i, .int .i64 k] w (RetQ w (R i k)) := by
  obtain ⟨b, o, rfl, hb, h0⟩ := relN_ints h hi
  have hv := test_bitN (R i) hn hk
  have Hv := Lib.hid hv
  clear hv
  go_enter Tryz.func122, Tryz.ntmps122
  go_wp2_with fail
  go_ret
  exact ⟨ret_bool Hv.out, rfl⟩

end Go.Proofs.YtfgpbnncdfcjjabGreatDoor

/-! The walks of the reference's operations on relations. -/
namespace Go.Proofs.YtfgpbnncdfcjjabGreatDoor
open Go.RowKit
set_option linter.unusedVariables false
set_option maxRecDepth 100000

/-- A relation handed back. -/
def RetRel (w : World) (R : Rel) (n : Nat) (e : Ending) (w' : World) : Prop := ∃ A c, e = .returned (.slice A n c) ∧ RowI w' w.heap.size (.slice A n c) (relN R n) ∧ Below w.heap.size w w'
theorem RetRel.of {w w' : World} {R : Rel} {n : Nat} {e : Ending} (h : RetRowI w (relN R n) e w') : RetRel w R n e w' := by
  obtain ⟨A, c, he, hr, hb⟩ := h
  rw [relN_length] at he hr
  exact ⟨A, c, he, hr, hb⟩
theorem RetRel.mk {w w' : World} {R : Rel} {n : Nat} {v : Value} (h : RowI w' w.heap.size v (relN R n)) (hb : Below w.heap.size w w') : RetRel w R n (.returned v) w' := .of (RetRowI.mk h hb)
theorem row_rel {w : World} {base n : Nat} {R : Rel} {A : Option Addr} {c : Nat} (h : RowI w base (.slice A n c) (relN R n)) : Ints w A c (relN R n) := by
  obtain ⟨A', c', e, h⟩ := RowI.ints h
  injection e with e1 e2 e3
  subst e1 e3
  exact h.le (Le.above _ _)

theorem l2Has_any (R : Rel) (n i k : Nat) (hn : n ≤ 16) (hi : i < n) (hk : k < n) (w : World) (A : Option Addr) (c : Nat) (h : Ints w A c (relN R n)) :
    Calls Tryz.prog 124 #[.slice A n c, .int .i64 i, .int .i64 k] w (RetQ w (R i k)) := by
  obtain ⟨b, o, rfl, hb, h0⟩ := relN_ints h hi
  have hv := test_bitN (R i) hn hk
  have Hv := Lib.hid hv
  clear hv
  go_enter Tryz.func124, Tryz.ntmps124
  go_wp2_with fail
  go_ret
  exact ⟨ret_bool Hv.out, rfl⟩
theorem take_rel (R : Rel) {n i : Nat} (h : i < n) : (relN R n).take (i + 1) = (relN R n).take i ++ [((bitN (R i) n : Nat) : Int)] := by
  rw [List.take_succ_eq_append_getElem (by rw [relN_length]; exact h), relN_get]
theorem take_rel_length (R : Rel) {n i : Nat} (h : i ≤ n) : ((relN R n).take i).length = i := by rw [List.length_take, relN_length]; omega

set_option maxHeartbeats 1000000 in
theorem l2Union_any (a b : Rel) (n : Nat) (hn : n ≤ 16) (w : World) (A B : Option Addr) (c d : Nat) (ha : Ints w A c (relN a n)) (hb : Ints w B d (relN b n)) :
    Calls Tryz.prog 79 #[.slice A n c, .slice B n d] w (RetRel w (unR a b) n) := by
  obtain ⟨i0, hi0, hz0, hz1, hz2⟩ := info_parts Tryz.infoInt
  have hrow0 : RowI (w.alloc (.cells #[] 3)) w.heap.size (.slice (some ⟨w.heap.size, 0, none⟩) 0 0) ((relN (unR a b) n).take 0) := RowOf.made _ (Own.new _ _ _) (Nat.le_refl _)
  have Hrow0 := Lib.hid hrow0
  clear hrow0
  go_enter Tryz.func79, Tryz.ntmps79
  go_wp2_with fail
  go_loopg [5, 6] n (fun g s5 s6 wr => ∃ (i : Nat) (v : Value), i ≤ n ∧ g = n - i ∧ v = s5 ∧ s6 = .int .i64 i ∧ Hid (RowI wr w.heap.size v ((relN (unR a b) n).take i)) ∧ Below w.heap.size w wr)
  case atStart => exact ⟨0, _, Nat.zero_le _, rfl, rfl, rfl, Hrow0.out, (Below.refl _ _).alloc (Nat.le_refl _) _⟩
  case round =>
    obtain ⟨i, v, hin, rfl, rfl, rfl, hrow, hbw⟩ := hrel
    by_cases hlt : i < n
    · obtain ⟨ba, oa, rfl, hba, ka⟩ := relN_ints (ha.le (Le.below hbw)) hlt
      obtain ⟨bb, ob, rfl, hbb, kb⟩ := relN_ints (hb.le (Le.below hbw)) hlt
      have Hx : Hid (bits .or .i64 ((bitN (a i) n : Nat) : Int) ((bitN (b i) n : Nat) : Int) = ((bitN (unR a b i) n : Nat) : Int)) := or_bitN (a i) (b i) hn
      have Hxl := Lib.hid (take_rel_length (unR a b) hin)
      have Hn := Lib.hid (take_rel (unR a b) hlt)
      obtain ⟨cs, hown, hqq⟩ := hrow.out
      rw [take_rel_length (unR a b) hin] at hown
      have Hown : Hid (wr.drew.ownsRow w.heap.size 3 1 v i cs) := hown
      have Hq := Lib.hid hqq
      have hsq := hbw.size
      generalize ((bitN (a i) n : Nat) : Int) = xa at ka Hx
      generalize ((bitN (b i) n : Nat) : Int) = xb at kb Hx
      clear hown hqq hrow ha hb
      go_wp2_with fail
      go_region_law (first | (refine step_append_lies _ (by rfl) _ _ _ (by rfl) w.heap.size 3 i0 _ 1 8 Tryz.underlying23 hi0 hz0 hz1 hz2 rfl (by omega) v i cs (by rfl) (owns_alloc Hown.out _) ⟨wr.heap.size, 0, none⟩ 1 1 [.int .i64 (bits .or .i64 xa xb)] (by rfl) (by rfl) (World.news_of_block (cs := #[.int .i64 (bits .or .i64 xa xb)]) (t := 3) (fr := (0, 0)) (heap_alloc_new _ _)) (by simp [Value.oneCell']) (by omega) (by simp [maxLen]; omega) (by omega) (by simp; omega) (wr.heap.size + 1) (by simp) ?_; intro gg cap w5 hown1 hgrow hat1 hlt1))
      all_goals
       go_wp2_with fail
       go_roundg (n - (i + 1))
       case measure => omega
       case rel => exact ⟨i + 1, _, by omega, rfl, rfl, by go_num, by rw [Hn.out, ← Hx.out]; exact RowOf.snoc (news := [.int .i64 (bits .or .i64 xa xb)]) qint_congr (by rw [Hxl.out]; exact Hown.out) Hq.out rfl rfl (by rw [Hxl.out]; exact hown1), below_grown (hbw.drew.alloc hsq _) hgrow (Nat.le_refl _) (fun g hg => owns_base' Hown.out hg)⟩
    · obtain rfl : i = n := by omega
      rw [List.take_of_length_le (by rw [relN_length]; omega)] at hrow
      go_wp2_with fail
      go_ret
      exact RetRel.mk hrow.out hbw

set_option maxHeartbeats 1000000 in
theorem l2Meet_any (a b : Rel) (n : Nat) (hn : n ≤ 16) (w : World) (A B : Option Addr) (c d : Nat) (ha : Ints w A c (relN a n)) (hb : Ints w B d (relN b n)) :
    Calls Tryz.prog 80 #[.slice A n c, .slice B n d] w (RetRel w (meR a b) n) := by
  obtain ⟨i0, hi0, hz0, hz1, hz2⟩ := info_parts Tryz.infoInt
  have hrow0 : RowI (w.alloc (.cells #[] 3)) w.heap.size (.slice (some ⟨w.heap.size, 0, none⟩) 0 0) ((relN (meR a b) n).take 0) := RowOf.made _ (Own.new _ _ _) (Nat.le_refl _)
  have Hrow0 := Lib.hid hrow0
  clear hrow0
  go_enter Tryz.func80, Tryz.ntmps80
  go_wp2_with fail
  go_loopg [5, 6] n (fun g s5 s6 wr => ∃ (i : Nat) (v : Value), i ≤ n ∧ g = n - i ∧ v = s5 ∧ s6 = .int .i64 i ∧ Hid (RowI wr w.heap.size v ((relN (meR a b) n).take i)) ∧ Below w.heap.size w wr)
  case atStart => exact ⟨0, _, Nat.zero_le _, rfl, rfl, rfl, Hrow0.out, (Below.refl _ _).alloc (Nat.le_refl _) _⟩
  case round =>
    obtain ⟨i, v, hin, rfl, rfl, rfl, hrow, hbw⟩ := hrel
    by_cases hlt : i < n
    · obtain ⟨ba, oa, rfl, hba, ka⟩ := relN_ints (ha.le (Le.below hbw)) hlt
      obtain ⟨bb, ob, rfl, hbb, kb⟩ := relN_ints (hb.le (Le.below hbw)) hlt
      have Hx : Hid (bits .and .i64 ((bitN (a i) n : Nat) : Int) ((bitN (b i) n : Nat) : Int) = ((bitN (meR a b i) n : Nat) : Int)) := and_bitN (a i) (b i) hn
      have Hxl := Lib.hid (take_rel_length (meR a b) hin)
      have Hn := Lib.hid (take_rel (meR a b) hlt)
      obtain ⟨cs, hown, hqq⟩ := hrow.out
      rw [take_rel_length (meR a b) hin] at hown
      have Hown : Hid (wr.drew.ownsRow w.heap.size 3 1 v i cs) := hown
      have Hq := Lib.hid hqq
      have hsq := hbw.size
      generalize ((bitN (a i) n : Nat) : Int) = xa at ka Hx
      generalize ((bitN (b i) n : Nat) : Int) = xb at kb Hx
      clear hown hqq hrow ha hb
      go_wp2_with fail
      go_region_law (first | (refine step_append_lies _ (by rfl) _ _ _ (by rfl) w.heap.size 3 i0 _ 1 8 Tryz.underlying23 hi0 hz0 hz1 hz2 rfl (by omega) v i cs (by rfl) (owns_alloc Hown.out _) ⟨wr.heap.size, 0, none⟩ 1 1 [.int .i64 (bits .and .i64 xa xb)] (by rfl) (by rfl) (World.news_of_block (cs := #[.int .i64 (bits .and .i64 xa xb)]) (t := 3) (fr := (0, 0)) (heap_alloc_new _ _)) (by simp [Value.oneCell']) (by omega) (by simp [maxLen]; omega) (by omega) (by simp; omega) (wr.heap.size + 1) (by simp) ?_; intro gg cap w5 hown1 hgrow hat1 hlt1))
      all_goals
       go_wp2_with fail
       go_roundg (n - (i + 1))
       case measure => omega
       case rel => exact ⟨i + 1, _, by omega, rfl, rfl, by go_num, by rw [Hn.out, ← Hx.out]; exact RowOf.snoc (news := [.int .i64 (bits .and .i64 xa xb)]) qint_congr (by rw [Hxl.out]; exact Hown.out) Hq.out rfl rfl (by rw [Hxl.out]; exact hown1), below_grown (hbw.drew.alloc hsq _) hgrow (Nat.le_refl _) (fun g hg => owns_base' Hown.out hg)⟩
    · obtain rfl : i = n := by omega
      rw [List.take_of_length_le (by rw [relN_length]; omega)] at hrow
      go_wp2_with fail
      go_ret
      exact RetRel.mk hrow.out hbw

set_option maxHeartbeats 1000000 in
theorem l2Minus_any (a b : Rel) (n : Nat) (hn : n ≤ 16) (w : World) (A B : Option Addr) (c d : Nat) (ha : Ints w A c (relN a n)) (hb : Ints w B d (relN b n)) :
    Calls Tryz.prog 81 #[.slice A n c, .slice B n d] w (RetRel w (miR a b) n) := by
  obtain ⟨i0, hi0, hz0, hz1, hz2⟩ := info_parts Tryz.infoInt
  have hrow0 : RowI (w.alloc (.cells #[] 3)) w.heap.size (.slice (some ⟨w.heap.size, 0, none⟩) 0 0) ((relN (miR a b) n).take 0) := RowOf.made _ (Own.new _ _ _) (Nat.le_refl _)
  have Hrow0 := Lib.hid hrow0
  clear hrow0
  go_enter Tryz.func81, Tryz.ntmps81
  go_wp2_with fail
  go_loopg [5, 6] n (fun g s5 s6 wr => ∃ (i : Nat) (v : Value), i ≤ n ∧ g = n - i ∧ v = s5 ∧ s6 = .int .i64 i ∧ Hid (RowI wr w.heap.size v ((relN (miR a b) n).take i)) ∧ Below w.heap.size w wr)
  case atStart => exact ⟨0, _, Nat.zero_le _, rfl, rfl, rfl, Hrow0.out, (Below.refl _ _).alloc (Nat.le_refl _) _⟩
  case round =>
    obtain ⟨i, v, hin, rfl, rfl, rfl, hrow, hbw⟩ := hrel
    by_cases hlt : i < n
    · obtain ⟨ba, oa, rfl, hba, ka⟩ := relN_ints (ha.le (Le.below hbw)) hlt
      obtain ⟨bb, ob, rfl, hbb, kb⟩ := relN_ints (hb.le (Le.below hbw)) hlt
      have Hx : Hid (bits .andNot .i64 ((bitN (a i) n : Nat) : Int) ((bitN (b i) n : Nat) : Int) = ((bitN (miR a b i) n : Nat) : Int)) := andNot_bitN (a i) (b i) hn
      have Hxl := Lib.hid (take_rel_length (miR a b) hin)
      have Hn := Lib.hid (take_rel (miR a b) hlt)
      obtain ⟨cs, hown, hqq⟩ := hrow.out
      rw [take_rel_length (miR a b) hin] at hown
      have Hown : Hid (wr.drew.ownsRow w.heap.size 3 1 v i cs) := hown
      have Hq := Lib.hid hqq
      have hsq := hbw.size
      generalize ((bitN (a i) n : Nat) : Int) = xa at ka Hx
      generalize ((bitN (b i) n : Nat) : Int) = xb at kb Hx
      clear hown hqq hrow ha hb
      go_wp2_with fail
      go_region_law (first | (refine step_append_lies _ (by rfl) _ _ _ (by rfl) w.heap.size 3 i0 _ 1 8 Tryz.underlying23 hi0 hz0 hz1 hz2 rfl (by omega) v i cs (by rfl) (owns_alloc Hown.out _) ⟨wr.heap.size, 0, none⟩ 1 1 [.int .i64 (bits .andNot .i64 xa xb)] (by rfl) (by rfl) (World.news_of_block (cs := #[.int .i64 (bits .andNot .i64 xa xb)]) (t := 3) (fr := (0, 0)) (heap_alloc_new _ _)) (by simp [Value.oneCell']) (by omega) (by simp [maxLen]; omega) (by omega) (by simp; omega) (wr.heap.size + 1) (by simp) ?_; intro gg cap w5 hown1 hgrow hat1 hlt1))
      all_goals
       go_wp2_with fail
       go_roundg (n - (i + 1))
       case measure => omega
       case rel => exact ⟨i + 1, _, by omega, rfl, rfl, by go_num, by rw [Hn.out, ← Hx.out]; exact RowOf.snoc (news := [.int .i64 (bits .andNot .i64 xa xb)]) qint_congr (by rw [Hxl.out]; exact Hown.out) Hq.out rfl rfl (by rw [Hxl.out]; exact hown1), below_grown (hbw.drew.alloc hsq _) hgrow (Nat.le_refl _) (fun g hg => owns_base' Hown.out hg)⟩
    · obtain rfl : i = n := by omega
      rw [List.take_of_length_le (by rw [relN_length]; omega)] at hrow
      go_wp2_with fail
      go_ret
      exact RetRel.mk hrow.out hbw

end Go.Proofs.YtfgpbnncdfcjjabGreatDoor

/-! The walks of the reference's composition, inverse, closure, of its tests for cycles and of its count. -/
namespace Go.Proofs.YtfgpbnncdfcjjabGreatDoor
open Go.RowKit
set_option linter.unusedVariables false
set_option maxRecDepth 100000

/-! ### Compositions, row by row -/
def coP (a b : Rel) (m i : Nat) : Nat → Bool := fun k => (List.range m).any fun t => a i t && b t k
theorem coP_all (n : Nat) (a b : Rel) (i : Nat) : coP a b n i = coR n a b i := rfl
theorem coP_zero (a b : Rel) (i n : Nat) : bitN (coP a b 0 i) n = 0 := by
  induction n with
  | zero => rfl
  | succ n ih => rw [bitN, ih, show coP a b 0 i n = false from rfl]; simp
theorem coP_more {a b : Rel} {m i n : Nat} (hn : n ≤ 16) (h : a i m = true) : bits .or .i64 ((bitN (coP a b m i) n : Nat) : Int) ((bitN (b m) n : Nat) : Int) = ((bitN (coP a b (m + 1) i) n : Nat) : Int) := by
  rw [or_bitN _ _ hn]
  congr 2
  funext k
  show (coP a b m i k || b m k) = coP a b (m + 1) i k
  unfold coP
  rw [any_range_succ]
  simp [h]
theorem coP_same {a b : Rel} {m i : Nat} (h : a i m = false) : coP a b (m + 1) i = coP a b m i := by
  funext k
  unfold coP
  rw [any_range_succ]
  simp [h]

/-! ### Relations that are written row by row -/
theorem relN_set {f g : Rel} {n i : Nat} (h : ∀ r k, r < n → k < n → r ≠ i → f r k = g r k) : (relN f n).set i ((bitN (g i) n : Nat) : Int) = relN g n := by
  apply List.ext_getElem
  · simp [relN_length]
  · intro r h1 h2
    have hr : r < n := by rw [relN_length] at h2; exact h2
    rw [relN_get]
    by_cases e : i = r
    · subst e; rw [List.getElem_set_self]
    · rw [List.getElem_set_ne e, relN_get, bitN_congr fun k hk => h r k hr hk (fun e' => e e'.symm)]
theorem relN_getD (f : Rel) {n i : Nat} (h : i < n) : (relN f n).getD i 0 = ((bitN (f i) n : Nat) : Int) := by
  have h1 : i < (relN f n).length := by rw [relN_length]; exact h
  rw [List.getD_eq_getElem?_getD, List.getElem?_eq_getElem h1]
  exact relN_get f n i h1
theorem relN_none {f : Rel} {n : Nat} (h : ∀ i k, i < n → k < n → f i k = false) : relN f n = List.replicate n 0 := by
  apply List.ext_getElem
  · simp [relN_length]
  · intro r h1 h2
    have hr : r < n := by rw [relN_length] at h1; exact h1
    rw [relN_get, List.getElem_replicate]
    have : bitN (f r) n = 0 := by
      rw [bitN_congr (g := fun _ => false) fun k hk => h r k hr hk]
      exact Nat.eq_of_testBit_eq fun k => by rw [bitN_bit]; simp
    rw [this]
    rfl
/-- The inverse, the rows below i and the pairs below k of row i being done. -/
def invP (a : Rel) (i k : Nat) : Rel := fun t s => a s t && (decide (s < i) || (decide (s = i) && decide (t < k)))
theorem invP_zero (a : Rel) (n : Nat) : relN (invP a 0 0) n = List.replicate n 0 := relN_none fun i k _ _ => by unfold invP; simp
theorem invP_all (a : Rel) (n : Nat) : relN (invP a n 0) n = relN (inR a) n := relN_congr fun i k _ hk => by
  show (a k i && (decide (k < n) || _)) = a k i
  simp [hk]
theorem invP_next (a : Rel) (n i : Nat) : relN (invP a i n) n = relN (invP a (i + 1) 0) n := relN_congr fun t s ht _ => by
  unfold invP
  by_cases e : s = i
  · subst e; simp [ht]
  · have : decide (s < i + 1) = decide (s < i) := decide_eq_decide.2 (by omega)
    simp [this, e]
theorem invP_same {a : Rel} {n i k : Nat} (h : a i k = false) : relN (invP a i (k + 1)) n = relN (invP a i k) n := relN_congr fun t s _ _ => by
  unfold invP
  by_cases e : t = k ∧ s = i
  · obtain ⟨rfl, rfl⟩ := e
    simp [h]
  · by_cases e2 : s = i
    · have : decide (t < k + 1) = decide (t < k) := decide_eq_decide.2 (by omega)
      simp [this]
    · simp [e2]
theorem invP_more {a : Rel} {n i k : Nat} (hn : n ≤ 16) (hi : i < n) (h : a i k = true) : bits .or .i64 ((bitN (invP a i k k) n : Nat) : Int) (IntKind.i64.wrap ((2 : Int) ^ i)) = ((bitN (invP a i (k + 1) k) n : Nat) : Int) := by
  rw [set_bitN _ hn hi]
  congr 2
  funext s
  unfold invP
  by_cases e : s = i
  · subst e; simp [h]
  · simp [e]
theorem invP_set {a : Rel} {n i k : Nat} : (relN (invP a i k) n).set k ((bitN (invP a i (k + 1) k) n : Nat) : Int) = relN (invP a i (k + 1)) n := relN_set fun r s _ _ hr => by
  unfold invP
  have : decide (r < k + 1) = decide (r < k) := decide_eq_decide.2 (by omega)
  rw [this]
/-- The closure, m middles being done and of the next one the rows below i. -/
def clM (a : Rel) (m i : Nat) : Rel := fun r k => if r < i then clR (m + 1) a r k else clR m a r k
theorem clM_zero (a : Rel) (m : Nat) : clM a m 0 = clR m a := rfl
theorem clM_all (a : Rel) (m n : Nat) : relN (clM a m n) n = relN (clM a (m + 1) 0) n := relN_congr fun r k hr _ => by
  show (if r < n then clR (m + 1) a r k else clR m a r k) = clR (m + 1) a r k
  rw [if_pos hr]
theorem clM_row (a : Rel) (m i : Nat) : clM a m i i = clR m a i := by
  funext k
  show (if i < i then _ else _) = _
  rw [if_neg (Nat.lt_irrefl _)]
theorem clM_mid (a : Rel) (m i : Nat) : clM a m i m = clR m a m := by
  funext k
  show (if m < i then (clR m a m k || (clR m a m m && clR m a m k)) else clR m a m k) = clR m a m k
  split
  · cases clR m a m k <;> simp
  · rfl
theorem clM_same {a : Rel} {m i n : Nat} (h : clR m a i m = false) : relN (clM a m (i + 1)) n = relN (clM a m i) n := relN_congr fun r k _ _ => by
  show (if r < i + 1 then clR (m + 1) a r k else clR m a r k) = (if r < i then clR (m + 1) a r k else clR m a r k)
  by_cases e : r = i
  · subst e
    rw [if_pos (by omega), if_neg (by omega)]
    show (clR m a r k || (clR m a r m && clR m a m k)) = clR m a r k
    rw [h]
    simp
  · by_cases h2 : r < i
    · rw [if_pos h2, if_pos (by omega)]
    · rw [if_neg h2, if_neg (by omega)]
theorem clM_more {a : Rel} {m i n : Nat} (hn : n ≤ 16) (h : clR m a i m = true) : bits .or .i64 ((bitN (clR m a i) n : Nat) : Int) ((bitN (clR m a m) n : Nat) : Int) = ((bitN (clM a m (i + 1) i) n : Nat) : Int) := by
  rw [or_bitN _ _ hn]
  congr 2
  funext k
  show _ = (if i < i + 1 then (clR m a i k || (clR m a i m && clR m a m k)) else _)
  rw [if_pos (by omega), h]
  simp
theorem clM_set {a : Rel} {m i n : Nat} : (relN (clM a m i) n).set i ((bitN (clM a m (i + 1) i) n : Nat) : Int) = relN (clM a m (i + 1)) n := relN_set fun r k _ _ hr => by
  show (if r < i then _ else _) = (if r < i + 1 then _ else _)
  by_cases h2 : r < i
  · rw [if_pos h2, if_pos (by omega)]
  · rw [if_neg h2, if_neg (by omega)]

set_option maxHeartbeats 2000000 in
theorem l2Compose_any (a b : Rel) (n : Nat) (hn : n ≤ 16) (w : World) (A B : Option Addr) (c d : Nat) (ha : Ints w A c (relN a n)) (hb : Ints w B d (relN b n)) :
    Calls Tryz.prog 82 #[.slice A n c, .slice B n d] w (RetRel w (coR n a b) n) := by
  obtain ⟨i0, hi0, hz0, hz1, hz2⟩ := info_parts Tryz.infoInt
  have hrow0 : RowI (w.alloc (.cells #[] 3)) w.heap.size (.slice (some ⟨w.heap.size, 0, none⟩) 0 0) ((relN (coR n a b) n).take 0) := RowOf.made _ (Own.new _ _ _) (Nat.le_refl _)
  have Hrow0 := Lib.hid hrow0
  clear hrow0
  go_enter Tryz.func82, Tryz.ntmps82
  go_wp2_with fail
  go_loopg [5, 6, 7, 8] n (fun g s5 s6 s7 s8 wr => ∃ (i : Nat) (v : Value), i ≤ n ∧ g = n - i ∧ v = s5 ∧ s6 = .int .i64 i ∧ Hid (RowI wr w.heap.size v ((relN (coR n a b) n).take i)) ∧ Below w.heap.size w wr)
  case atStart => exact ⟨0, _, Nat.zero_le _, rfl, rfl, rfl, Hrow0.out, (Below.refl _ _).alloc (Nat.le_refl _) _⟩
  case round =>
    obtain ⟨i, v, hin, rfl, rfl, rfl, hrow, hbw⟩ := hrel
    by_cases hlt : i < n
    · have har := ha.le (Le.below hbw)
      have hbr := hb.le (Le.below hbw)
      have Hz : Hid (((bitN (coP a b 0 i) n : Nat) : Int) = 0) := by show _ = _; rw [coP_zero]; rfl
      go_wp2_with fail
      go_loopg [7, 8] n (fun g s7 s8 wq => ∃ k : Nat, k ≤ n ∧ g = n - k ∧ s7 = .int .i64 ((bitN (coP a b k i) n : Nat) : Int) ∧ s8 = .int .i64 k ∧ wr = wq)
      case atStart => exact ⟨0, Nat.zero_le _, rfl, by rw [Hz.out], rfl, rfl⟩
      case round =>
        obtain ⟨k, hkn, rfl, rfl, rfl, rfl⟩ := hrel
        by_cases hltk : k < n
        · have hc := l2Has_any a n i k hn hlt hltk wr A c har
          cases hR : a i k
          · rw [hR] at hc
            have Hn := Lib.hid (coP_same (a := a) (b := b) hR)
            clear hR
            go_wp2_with fail
            refine hc.mono ?_
            rintro e5 w5 ⟨rfl, rfl⟩
            clear hc
            go_wp2_with fail
            go_roundg (n - (k + 1))
            case measure => omega
            case rel => exact ⟨k + 1, by omega, rfl, by rw [Hn.out], by go_num, rfl⟩
          · rw [hR] at hc
            have Hn := Lib.hid (coP_more (a := a) (b := b) hn hR)
            obtain ⟨bb, ob, rfl, hbb, kb⟩ := relN_ints hbr hltk
            clear hR
            generalize ((bitN (b k) n : Nat) : Int) = xb at kb Hn
            go_wp2_with fail
            refine hc.mono ?_
            rintro e5 w5 ⟨rfl, rfl⟩
            clear hc
            go_wp2_with fail
            go_roundg (n - (k + 1))
            case measure => omega
            case rel => exact ⟨k + 1, by omega, rfl, by rw [Hn.out], by go_num, rfl⟩
        · obtain rfl : k = n := by omega
          have Hxl := Lib.hid (take_rel_length (coR k a b) hin)
          have Hn : Hid ((relN (coR k a b) k).take (i + 1) = (relN (coR k a b) k).take i ++ [((bitN (coP a b k i) k : Nat) : Int)]) := take_rel (coR k a b) hlt
          obtain ⟨cs, hown, hqq⟩ := hrow.out
          rw [take_rel_length (coR k a b) hin] at hown
          have Hown := Lib.hid hown
          have Hq := Lib.hid hqq
          have hsq := hbw.size
          generalize ((bitN (coP a b k i) k : Nat) : Int) = xa at Hn ⊢
          clear hown hqq hrow har hbr
          go_wp2_with (at_builtin; refine wpList_append_lies _ (by rfl) _ _ _ (by rfl) w.heap.size 3 i0 _ 1 8 Tryz.underlying23 hi0 hz0 hz1 hz2 rfl (by omega) v i cs (by rfl) (owns_alloc Hown.out _) ⟨wr.heap.size, 0, none⟩ 1 1 [.int .i64 xa] (by rfl) (by rfl) (World.news_of_block (cs := #[.int .i64 xa]) (t := 3) (fr := (0, 0)) (heap_alloc_new _ _)) (by simp [Value.oneCell']) (by omega) (by simp [maxLen]; omega) (by omega) (by simp; omega) (wr.heap.size + 1) (by simp) ?_; intro gg cap w5 hown1 hgrow hat1 hlt1)
          go_roundg (k - (i + 1))
          case measure => omega
          case rel => exact ⟨i + 1, _, by omega, rfl, rfl, by go_num, by rw [Hn.out]; exact RowOf.snoc (news := [.int .i64 xa]) qint_congr (by rw [Hxl.out]; exact Hown.out) Hq.out rfl rfl (by rw [Hxl.out]; exact hown1), below_grown (hbw.alloc hsq _) hgrow (Nat.le_refl _) (fun g hg => owns_base' Hown.out hg)⟩
    · obtain rfl : i = n := by omega
      rw [List.take_of_length_le (by rw [relN_length]; omega)] at hrow
      go_wp2_with fail
      go_ret
      exact RetRel.mk hrow.out hbw

set_option maxHeartbeats 2000000 in
theorem l2Inverse_any (a : Rel) (n : Nat) (hn : n ≤ 16) (w : World) (A : Option Addr) (c : Nat) (ha : Ints w A c (relN a n)) :
    Calls Tryz.prog 77 #[.slice A n c] w (RetRel w (inR a) n) := by
  have hmk := run_make_any (P := Tryz.prog) 23 3 _ 1 8 Tryz.underlying23 Tryz.infoInt n (by omega) (by omega)
  go_enter Tryz.func77, Tryz.ntmps77
  go_wp2_with fail
  clear hmk
  go_loopg [4, 5] n (fun g s4 s5 wr => ∃ i : Nat, i ≤ n ∧ g = n - i ∧ s4 = .int .i64 i ∧ BitR wr w.heap.size n (relN (invP a i 0) n) ∧ Below w.heap.size w wr)
  case atStart => exact ⟨0, Nat.zero_le _, rfl, rfl, by rw [invP_zero]; simpa using BitR.made w n, (Below.refl _ _).alloc (Nat.le_refl _) _⟩
  case round =>
    obtain ⟨i, hin, rfl, rfl, hrow, hb⟩ := hrel
    by_cases hlt : i < n
    · go_wp2_with fail
      go_loopg [5] n (fun g s5 wq => ∃ k : Nat, k ≤ n ∧ g = n - k ∧ s5 = .int .i64 k ∧ BitR wq w.heap.size n (relN (invP a i k) n) ∧ Below w.heap.size w wq)
      case atStart => exact ⟨0, Nat.zero_le _, rfl, rfl, hrow, hb⟩
      case round =>
        obtain ⟨k, hkn, rfl, rfl, hrow2, hbq⟩ := hrel
        by_cases hltk : k < n
        · have hc := l2Has_any a n i k hn hlt hltk wr A c (ha.le (Le.below hbq))
          cases hR : a i k
          · rw [hR] at hc
            have Hn := Lib.hid (invP_same (n := n) hR)
            clear hR
            go_wp2_with fail
            refine hc.mono ?_
            rintro e5 w5 ⟨rfl, rfl⟩
            clear hc
            go_wp2_with fail
            go_roundg (n - (k + 1))
            case measure => omega
            case rel => exact ⟨k + 1, by omega, rfl, by go_num, by rw [Hn.out]; exact hrow2, hbq⟩
          · rw [hR] at hc
            have Hs := Lib.hid (invP_set (a := a) (n := n) (i := i) (k := k))
            have Hn := Lib.hid (invP_more hn hlt hR)
            clear hR
            go_wp2_with fail
            refine hc.mono ?_
            rintro e5 w5 ⟨rfl, rfl⟩
            have q0 := hrow2.cell hltk
            rw [relN_getD _ hltk] at q0
            have hfz := hrow2.frozen k
            clear hc
            go_wp2_with fail
            go_region_with (fail)
            all_goals (go_wp2_with fail)
            go_roundg (n - (k + 1))
            case measure => omega
            case rel => exact ⟨k + 1, by omega, rfl, by go_num, by rw [← IntWalk.i64_left, Hn.out, ← Hs.out]; exact (hrow2.set k _).of_block rfl, (hbq.setCell (p := ⟨w.heap.size, k, none⟩) (Nat.le_refl _) _).drew⟩
        · obtain rfl : k = n := by omega
          go_wp2_with fail
          go_roundg (k - (i + 1))
          case measure => omega
          case rel => exact ⟨i + 1, by omega, rfl, by go_num, by rw [← invP_next]; exact hrow2, hbq⟩
    · obtain rfl : i = n := by omega
      rw [invP_all] at hrow
      go_wp2_with fail
      go_ret
      exact .of (hrow.ret (Nat.le_refl _) (by omega) hb)

theorem l2Loose_any (a : Rel) (n : Nat) (hn : n ≤ 16) (w : World) (A : Option Addr) (c : Nat) (ha : Ints w A c (relN a n)) :
    Calls Tryz.prog 149 #[.slice A n c] w (RetQ w (irB a n)) := by
  go_enter Tryz.func149, Tryz.ntmps149
  go_wp2_with fail
  go_loopg [3] n (fun g s3 wr => ∃ i : Nat, i ≤ n ∧ g = n - i ∧ s3 = .int .i64 i ∧ Hid (irB a i = true) ∧ w = wr)
  case atStart => exact ⟨0, Nat.zero_le _, rfl, rfl, (by show _ = _; rfl), rfl⟩
  case round =>
    obtain ⟨i, hin, rfl, rfl, hpre, rfl⟩ := hrel
    by_cases hlt : i < n
    · have hc := l2Has_any a n i i hn hlt hlt w A c ha
      cases hR : a i i
      · rw [hR] at hc
        have Hn : Hid (irB a (i + 1) = true) := by
          show _ = _
          have := hpre.out
          unfold irB at this ⊢
          rw [any_range_succ, hR, Bool.or_false]
          exact this
        clear hR
        go_wp2_with fail
        refine hc.mono ?_
        rintro e5 w5 ⟨rfl, rfl⟩
        clear hc
        go_wp2_with fail
        go_roundg (n - (i + 1))
        case measure => omega
        case rel => exact ⟨i + 1, by omega, rfl, by go_num, Hn.out, rfl⟩
      · rw [hR] at hc
        have Hn : Hid (irB a n = false) := by
          show _ = _
          unfold irB
          rw [Bool.not_eq_false', List.any_eq_true]
          exact ⟨i, List.mem_range.2 hlt, hR⟩
        clear hR
        go_wp2_with fail
        refine hc.mono ?_
        rintro e5 w5 ⟨rfl, rfl⟩
        clear hc
        go_wp2_with fail
        go_ret
        exact ⟨ret_bool Hn.out.symm, rfl⟩
    · obtain rfl : i = n := by omega
      go_wp2_with fail
      go_ret
      exact ⟨ret_bool hpre.out.symm, rfl⟩

set_option maxHeartbeats 1000000 in
theorem l2Count_any (a : Rel) (n : Nat) (hn : n ≤ 16) (w : World) (A : Option Addr) (c : Nat) (ha : Ints w A c (relN a n)) :
    Calls Tryz.prog 150 #[.slice A n c] w (RetQI w (cntR a n n : Nat)) := by
  go_enter Tryz.func150, Tryz.ntmps150
  go_wp2_with fail
  go_loopg [3, 4, 5] n (fun g s3 s4 s5 wr => ∃ i : Nat, i ≤ n ∧ g = n - i ∧ s3 = .int .i64 ((cntR a n i : Nat) : Int) ∧ s4 = .int .i64 i ∧ w = wr)
  case atStart => exact ⟨0, Nat.zero_le _, rfl, rfl, rfl, rfl⟩
  case round =>
    obtain ⟨i, hin, rfl, rfl, rfl, rfl⟩ := hrel
    by_cases hlt : i < n
    · have hci : cntR a n i ≤ 256 := by
        have h1 := cntR_le a n i
        have h2 : i * n ≤ 16 * 16 := Nat.mul_le_mul (by omega) hn
        omega
      have Hci : Hid (cntR a n (i + 1) = cntR a n i + cntN (a i) n) := rfl
      generalize cntR a n i = ci at hci Hci
      go_wp2_with fail
      go_loopg [3, 5] n (fun g s3 s5 wq => ∃ k : Nat, k ≤ n ∧ g = n - k ∧ s3 = .int .i64 ((ci + cntN (a i) k : Nat) : Int) ∧ s5 = .int .i64 k ∧ w = wq)
      case atStart => exact ⟨0, Nat.zero_le _, rfl, rfl, rfl, rfl⟩
      case round =>
        obtain ⟨k, hkn, rfl, rfl, rfl, rfl⟩ := hrel
        by_cases hltk : k < n
        · have hc := l2Has_any a n i k hn hlt hltk w A c ha
          have hk16 := cntN_le (a i) k
          cases hR : a i k
          · rw [hR] at hc
            have Hn : Hid (cntN (a i) (k + 1) = cntN (a i) k) := by show _ = _; rw [cntN, hR]; rfl
            clear hR
            go_wp2_with fail
            refine hc.mono ?_
            rintro e5 w5 ⟨rfl, rfl⟩
            clear hc
            go_wp2_with fail
            go_roundg (n - (k + 1))
            case measure => omega
            case rel => exact ⟨k + 1, by omega, rfl, by rw [Hn.out, Int.natCast_add], by go_num, rfl⟩
          · rw [hR] at hc
            have Hn : Hid (cntN (a i) (k + 1) = cntN (a i) k + 1) := by show _ = _; rw [cntN, hR]; rfl
            clear hR
            go_wp2_with fail
            refine hc.mono ?_
            rintro e5 w5 ⟨rfl, rfl⟩
            clear hc
            go_wp2_with fail
            go_roundg (n - (k + 1))
            case measure => omega
            case rel => exact ⟨k + 1, by omega, rfl, by rw [Hn.out]; go_num, by go_num, rfl⟩
        · obtain rfl : k = n := by omega
          go_wp2_with fail
          go_roundg (k - (i + 1))
          case measure => omega
          case rel => exact ⟨i + 1, by omega, rfl, by rw [Hci.out], by go_num, rfl⟩
    · obtain rfl : i = n := by omega
      go_wp2_with fail
      go_ret
      exact ⟨rfl, rfl⟩

set_option maxHeartbeats 2000000 in
theorem l2Closure_any (a : Rel) (n : Nat) (hn : n ≤ 16) (w : World) (A : Option Addr) (c : Nat) (ha : Ints w A c (relN a n)) :
    Calls Tryz.prog 78 #[.slice A n c] w (RetRel w (clR n a) n) := by
  obtain ⟨i0, hi0, hz0, hz1, hz2⟩ := info_parts Tryz.infoInt
  have hlr := relN_length a n
  have Ha : Hid (Ints (w.alloc (.cells #[] 3)) A c (relN a n)) := ha.le (Le.alloc _ _)
  have HE := Lib.hid (Own.new w 3 #[])
  have hres : Hid (relN a n = relN (clM a 0 0) n) := rfl
  obtain ⟨xs, hxs⟩ : ∃ xs, xs = relN a n := ⟨_, rfl⟩
  rw [← hxs] at Ha hlr hres
  have hlx : xs.length = n := hlr
  clear hxs ha hlr
  subst hlx
  go_enter Tryz.func78, Tryz.ntmps78
  go_wp2_with (at_builtin; refine wpList_append_list (by rfl) _ _ _ (by rfl) qint_congr (R := RInt) w.heap.size 3 i0 _ 8 Tryz.underlying23 hi0 hz0 hz1 hz2 rfl (by omega) (.slice (some ⟨w.heap.size, 0, none⟩) 0 0) [] (by rfl) (RowOf.made _ HE.out (Nat.le_refl _)) A c xs (by rfl) Ha.out (fun cs y h => h) qint_one (by simp [maxLen]; omega) (by simp; omega) (by simp) (w.heap.size + 1) (by simp) ?_; intro A5 c5 w5 hrow5 hgrow5 hat5; rw [List.nil_append] at hrow5 hat5; have hs5 := World.grownBy.size hgrow5; simp only [World.size_alloc] at hs5)
  have hrow5' : RowI w5 w.heap.size (.slice A5 xs.length c5) xs := hrow5
  have hB5 : Below w.heap.size w w5 := below_grown ((Below.refl w.heap.size w).alloc (Nat.le_refl _) _) hgrow5 (Nat.le_refl _) (fun g hg => by simp only [Value.ownBlock, Option.some.injEq] at hg; omega)
  have Hrow5 : Hid (RowI w5 w.heap.size (.slice A5 xs.length c5) (relN (clM a 0 0) xs.length)) := by show RowI _ _ _ _; rw [← hres.out]; exact hrow5'
  clear hrow5 hrow5' hgrow5 hat5 HE Ha hres
  go_wp2_with fail
  go_loopg [4, 5] xs.length (fun g s4 s5 wr => ∃ m : Nat, m ≤ xs.length ∧ g = xs.length - m ∧ s4 = .int .i64 m ∧ Hid (RowI wr w.heap.size (.slice A5 xs.length c5) (relN (clM a m 0) xs.length)) ∧ Below w.heap.size w wr)
  case atStart => exact ⟨0, Nat.zero_le _, rfl, rfl, Hrow5.out, hB5⟩
  case round =>
    obtain ⟨m, hmn, rfl, rfl, hrow, hb⟩ := hrel
    by_cases hltm : m < xs.length
    · go_wp2_with fail
      go_loopg [5] xs.length (fun g s5 wq => ∃ i : Nat, i ≤ xs.length ∧ g = xs.length - i ∧ s5 = .int .i64 i ∧ Hid (RowI wq w.heap.size (.slice A5 xs.length c5) (relN (clM a m i) xs.length)) ∧ Below w.heap.size w wq)
      case atStart => exact ⟨0, Nat.zero_le _, rfl, rfl, hrow.out, hb⟩
      case round =>
        obtain ⟨i, hin, rfl, rfl, hrow2, hbq⟩ := hrel
        by_cases hlt : i < xs.length
        · have hI := row_rel hrow2.out
          obtain ⟨g, rfl, hg1, hg2, hfz, hcell⟩ := RowI.at hrow2.out (i := i) (by rw [relN_length]; exact hlt)
          have hc := l2Has_any (clM a m i) xs.length i m hn hlt hltm wr _ c5 hI
          rw [clM_row] at hc
          have q0 := hcell i (by rw [relN_length]; exact hlt)
          have q1 := hcell m (by rw [relN_length]; exact hltm)
          rw [relN_getD _ hlt, clM_row] at q0
          rw [relN_getD _ hltm, clM_mid] at q1
          have f0 := hfz i
          cases hR : clR m a i m
          · rw [hR] at hc
            have Hn := Lib.hid (clM_same (n := xs.length) hR)
            clear hR
            go_wp2_with fail
            refine hc.mono ?_
            rintro e5 w6 ⟨rfl, rfl⟩
            clear hc
            go_wp2_with fail
            go_roundg (xs.length - (i + 1))
            case measure => omega
            case rel => exact ⟨i + 1, by omega, rfl, by go_num, by rw [Hn.out]; exact hrow2.out, hbq⟩
          · rw [hR] at hc
            have Hn := Lib.hid (clM_more hn hR)
            have Hs := Lib.hid (clM_set (a := a) (m := m) (i := i) (n := xs.length))
            clear hR hI
            generalize ((bitN (clR m a i) xs.length : Nat) : Int) = x1 at q0 Hn
            generalize ((bitN (clR m a m) xs.length : Nat) : Int) = x2 at q1 Hn
            go_wp2_with fail
            refine hc.mono ?_
            rintro e5 w6 ⟨rfl, rfl⟩
            clear hc
            go_wp2_with fail
            go_region_with (fail)
            all_goals
             go_wp2_with fail
             go_roundg (xs.length - (i + 1))
             case measure => omega
             case rel => exact ⟨i + 1, by omega, rfl, by go_num, by rw [← Hs.out, ← Hn.out]; exact RowI.set hrow2.out (by rw [relN_length]; exact hlt) _, (hbq.setCell (p := ⟨g, i, none⟩) hg1 _).drew⟩
        · obtain rfl : i = xs.length := by omega
          go_wp2_with fail
          go_roundg (xs.length - (m + 1))
          case measure => omega
          case rel => exact ⟨m + 1, by omega, rfl, by go_num, by rw [← clM_all]; exact hrow2.out, hbq⟩
    · obtain rfl : m = xs.length := by omega
      rw [clM_zero] at hrow
      go_wp2_with fail
      go_ret
      exact ⟨A5, c5, rfl, hrow.out, hb⟩
theorem l2Acyclic_any (a : Rel) (n : Nat) (hn : n ≤ 16) (w : World) (A : Option Addr) (c : Nat) (ha : Ints w A c (relN a n)) :
    Calls Tryz.prog 148 #[.slice A n c] w (RetB w (acB a n)) := by
  have hc := l2Closure_any a n hn w A c ha
  go_enter Tryz.func148, Tryz.ntmps148
  go_wp2_with fail
  refine hc.mono ?_
  rintro e1 w1 ⟨A1, c1, rfl, hrow1, hb1⟩
  have hl := l2Loose_any (clR n a) n hn w1 A1 c1 (row_rel hrow1)
  go_wp2_with fail
  refine hl.mono ?_
  rintro e2 w2 ⟨rfl, rfl⟩
  go_wp2_with fail
  go_ret
  exact ⟨rfl, hb1⟩

end Go.Proofs.YtfgpbnncdfcjjabGreatDoor

/-! The walks of the program's operations on relations. The walks of the program's composition, inverse and closure, and of its tests for cycles. -/
/-! The walks of the program's operations on relations. -/
namespace Go.Proofs.YtfgpbnncdfcjjabGreatDoor
open Go.RowKit
set_option linter.unusedVariables false
set_option maxRecDepth 100000

theorem bitN_shr (f : Nat → Bool) (n : Nat) : ((bitN f n : Nat) : Int) / 2 ^ n = 0 := by
  have h := bitN_lt f n
  have h1 : ((2 : Int) ^ n) = ((2 ^ n : Nat) : Int) := by simp
  rw [h1, ← Int.natCast_ediv, Nat.div_eq_of_lt h]
  rfl
theorem relV1_any (f : Nat → Bool) (n : Nat) (hn : n ≤ 16) (w : World) (bR : Nat) (A : Option Addr) (c : Nat) (hr : w.cell? ⟨bR, 0, none⟩ = some (.slice A n c)) :
    Calls Tryz.prog 121 #[.int .i64 ((bitN f n : Nat) : Int), .pointer (some ⟨bR, 0, none⟩)] w (RetQ w false) := by
  have h0 : decide (((bitN f n : Nat) : Int) < 0) = false := by rw [decide_eq_false_iff_not]; omega
  have hz := bitN_shr f n
  generalize ((bitN f n : Nat) : Int) = x at h0 hz
  go_enter Tryz.func121, Tryz.ntmps121
  go_wp2_with fail
  go_ret
  exact ⟨rfl, rfl⟩
set_option maxHeartbeats 1000000 in
theorem idxV_any (R : Rel) (n : Nat) (hn : n ≤ 16) (w : World) (bR : Nat) (A : Option Addr) (c : Nat) (h : Ints w A c (relN R n)) (hr : w.cell? ⟨bR, 0, none⟩ = some (.slice A n c)) :
    Calls Tryz.prog 174 #[.slice A n c, .func (.func 121) #[] #[.pointer (some ⟨bR, 0, none⟩)]] w (RetQI w (-1)) := by
  go_enter Tryz.func174, Tryz.ntmps174
  go_wp2_with fail
  go_loopg [5, 8] n (fun g s5 s8 wr => ∃ k : Nat, k ≤ n ∧ g = n - k ∧ s8 = .int .i64 k ∧ w = wr)
  case atStart => exact ⟨0, Nat.zero_le _, rfl, rfl, rfl⟩
  case round =>
    obtain ⟨k, hk, rfl, rfl, rfl⟩ := hrel
    by_cases hlt : k < n
    · have hcall := relV1_any (R k) n hn w bR A c hr
      obtain ⟨bb, o, rfl, hbb, c0⟩ := relN_ints h hlt
      generalize ((bitN (R k) n : Nat) : Int) = x at c0 hcall
      go_wp2_with fail
      refine hcall.mono ?_
      rintro e' w' ⟨rfl, rfl⟩
      go_wp2_with fail
      go_roundg (n - (k + 1))
      case measure => omega
      case rel => exact ⟨k + 1, by omega, rfl, by go_num, rfl⟩
    · obtain rfl : k = n := by omega
      go_wp2_with fail
      go_ret
      exact ⟨rfl, rfl⟩
theorem conV_any (R : Rel) (n : Nat) (hn : n ≤ 16) (w : World) (bR : Nat) (A : Option Addr) (c : Nat) (h : Ints w A c (relN R n)) (hr : w.cell? ⟨bR, 0, none⟩ = some (.slice A n c)) :
    Calls Tryz.prog 120 #[.slice A n c, .func (.func 121) #[] #[.pointer (some ⟨bR, 0, none⟩)]] w (RetQ w false) := by
  go_enter Tryz.func120, Tryz.ntmps120
  go_wp2_with fail
  refine (idxV_any R n hn w bR A c h hr).mono ?_
  rintro e' w' ⟨rfl, rfl⟩
  go_wp2_with fail
  go_ret
  exact ⟨rfl, rfl⟩
theorem relValid_any (R : Rel) (n : Nat) (hn : n ≤ 16) (w : World) (A : Option Addr) (c : Nat) (h : Ints w A c (relN R n)) :
    Calls Tryz.prog 72 #[.slice A n c] w (RetB w true) := by
  obtain ⟨w0, hw0⟩ : ∃ w0, w0 = w.alloc (.cells #[.slice A n c] 23) := ⟨_, rfl⟩
  have o0 : Own w0 w.heap.size 23 #[.slice A n c] := by rw [hw0]; exact Own.new _ _ _
  have hB : Below w.heap.size w w0 := by rw [hw0]; exact (Below.refl _ _).alloc (Nat.le_refl _) _
  have hI := h.le (Le.below hB)
  have q0 := o0.cell (i := 0) (v := .slice A n c) rfl
  have hc := conV_any R n hn w0 w.heap.size A c hI q0
  clear h hI o0
  go_enter Tryz.func72, Tryz.ntmps72
  go_wp2_with fail
  rw [← hw0]
  clear hw0
  go_wp2_with fail
  refine hc.mono ?_
  rintro e' w' ⟨rfl, rfl⟩
  go_wp2_with fail
  go_ret
  exact ⟨rfl, hB⟩
theorem areRels_any (a b : Rel) (n : Nat) (hn : n ≤ 16) (w : World) (A B : Option Addr) (c d : Nat) (ha : Ints w A c (relN a n)) (hb : Ints w B d (relN b n)) :
    Calls Tryz.prog 173 #[.slice A n c, .slice B n d] w (RetB w true) := by
  go_enter Tryz.func173, Tryz.ntmps173
  go_wp2_with fail
  refine (relValid_any a n hn w A c ha).mono ?_
  rintro e1 w1 ⟨rfl, hb1⟩
  go_wp2_with fail
  refine (relValid_any b n hn w1 B d (hb.le (Le.below hb1))).mono ?_
  rintro e2 w2 ⟨rfl, hb2⟩
  go_wp2_with fail
  go_ret
  exact ⟨rfl, hb1.trans (hb2.mono hb1.size)⟩
/-- The rows below i are done. -/
def upR (R : Rel) (i : Nat) : Rel := fun r k => decide (r < i) && R r k
theorem upR_zero (R : Rel) (n : Nat) : relN (upR R 0) n = List.replicate n 0 := relN_none fun i k _ _ => by unfold upR; simp
theorem upR_all (R : Rel) (n : Nat) : relN (upR R n) n = relN R n := relN_congr fun i k hi _ => by unfold upR; simp [hi]
theorem upR_set (R : Rel) (n i : Nat) : (relN (upR R i) n).set i ((bitN (R i) n : Nat) : Int) = relN (upR R (i + 1)) n := by
  have h := relN_set (f := upR R i) (g := upR R (i + 1)) (n := n) (i := i) fun r k _ _ hr => by
    unfold upR
    have : decide (r < i + 1) = decide (r < i) := decide_eq_decide.2 (by omega)
    rw [this]
  have h2 : upR R (i + 1) i = R i := by funext k; unfold upR; simp
  rw [h2] at h
  exact h

theorem byUnion_any (x y : Int) (w : World) : Calls Tryz.prog 170 #[.int .i64 x, .int .i64 y] w (RetQI w (bits .or .i64 x y)) := by
  go_enter Tryz.func170, Tryz.ntmps170
  go_wp2_with fail
  go_ret
  exact ⟨rfl, rfl⟩
set_option maxHeartbeats 2000000 in
theorem comUnion_any (a b : Rel) (n : Nat) (hn : n ≤ 16) (w : World) (A B : Option Addr) (c d : Nat) (ha : Ints w A c (relN a n)) (hb : Ints w B d (relN b n)) :
    Calls Tryz.prog 169 #[.slice A n c, .slice B n d, .func (.func 170) #[] #[]] w (RetRel w (unR a b) n) := by
  have hmk := fun W => run_make_any (P := Tryz.prog) 23 3 _ 1 8 Tryz.underlying23 Tryz.infoInt n (by omega) (by omega) W
  go_enter Tryz.func169, Tryz.ntmps169
  go_wp2_with fail
  refine (areRels_any a b n hn w A B c d ha hb).mono ?_
  rintro e1 w1 ⟨rfl, hb1⟩
  have ha1 := ha.le (Le.below hb1)
  have hb1' := hb.le (Le.below hb1)
  clear ha hb
  have hs1 := hb1.size
  go_wp2_with fail
  clear hmk
  go_loopg [8, 18] n (fun g s8 s18 wr => ∃ i : Nat, i ≤ n ∧ g = n - i ∧ s18 = .int .i64 i ∧ BitR wr w1.heap.size n (relN (upR (unR a b) i) n) ∧ Below w1.heap.size w1 wr)
  case atStart => exact ⟨0, Nat.zero_le _, rfl, rfl, by rw [upR_zero]; simpa using BitR.made w1 n, (Below.refl _ _).alloc (Nat.le_refl _) _⟩
  case round =>
    obtain ⟨i, hin, rfl, rfl, hrow, hbw⟩ := hrel
    by_cases hlt : i < n
    · obtain ⟨ba, oa, rfl, hba, ka⟩ := relN_ints (ha1.le (Le.below hbw)) hlt
      obtain ⟨bb, ob, rfl, hbb, kb⟩ := relN_ints (hb1'.le (Le.below hbw)) hlt
      have Hx : Hid (bits .or .i64 ((bitN (a i) n : Nat) : Int) ((bitN (b i) n : Nat) : Int) = ((bitN (unR a b i) n : Nat) : Int)) := or_bitN (a i) (b i) hn
      have Hs := Lib.hid (upR_set (unR a b) n i)
      have q0 := hrow.cell hlt
      have hfz := hrow.frozen i
      have hBl := hrow.lt
      generalize ((bitN (a i) n : Nat) : Int) = xa at ka Hx
      generalize ((bitN (b i) n : Nat) : Int) = xb at kb Hx
      go_wp2_with fail
      go_region_law (first | (go_simp; go_at_call 170; ((with_reducible refine (byUnion_any _ _ _).mono ?_); rintro e2 w2 ⟨rfl, rfl⟩); go_wp2_with fail))
      all_goals
       go_wp2_with fail
       go_roundg (n - (i + 1))
       case measure => omega
       case rel => exact ⟨i + 1, by omega, rfl, by go_num, by rw [← Hs.out, ← Hx.out]; exact (hrow.set i _).of_block rfl, (hbw.setCell (p := ⟨w1.heap.size, i, none⟩) (Nat.le_refl _) _).drew⟩
    · obtain rfl : i = n := by omega
      rw [upR_all] at hrow
      go_wp2_with fail
      go_ret
      exact .of ((hrow.ret (W := w) hs1 (by omega) (hb1.trans (hbw.mono hs1))))
theorem imUnion_any (a b : Rel) (n : Nat) (hn : n ≤ 16) (w : World) (A B : Option Addr) (c d : Nat) (ha : Ints w A c (relN a n)) (hb : Ints w B d (relN b n)) :
    Calls Tryz.prog 116 #[.slice A n c, .slice B n d] w (RetRel w (unR a b) n) := by
  go_enter Tryz.func116, Tryz.ntmps116
  go_wp2_with fail
  refine (comUnion_any a b n hn w A B c d ha hb).mono ?_
  rintro e1 w1 ⟨A1, c1, rfl, hr1, hb1⟩
  go_wp2_with fail
  go_ret
  exact ⟨A1, c1, rfl, hr1, hb1⟩

theorem byMeet_any (x y : Int) (w : World) : Calls Tryz.prog 171 #[.int .i64 x, .int .i64 y] w (RetQI w (bits .and .i64 x y)) := by
  go_enter Tryz.func171, Tryz.ntmps171
  go_wp2_with fail
  go_ret
  exact ⟨rfl, rfl⟩
set_option maxHeartbeats 2000000 in
theorem comMeet_any (a b : Rel) (n : Nat) (hn : n ≤ 16) (w : World) (A B : Option Addr) (c d : Nat) (ha : Ints w A c (relN a n)) (hb : Ints w B d (relN b n)) :
    Calls Tryz.prog 169 #[.slice A n c, .slice B n d, .func (.func 171) #[] #[]] w (RetRel w (meR a b) n) := by
  have hmk := fun W => run_make_any (P := Tryz.prog) 23 3 _ 1 8 Tryz.underlying23 Tryz.infoInt n (by omega) (by omega) W
  go_enter Tryz.func169, Tryz.ntmps169
  go_wp2_with fail
  refine (areRels_any a b n hn w A B c d ha hb).mono ?_
  rintro e1 w1 ⟨rfl, hb1⟩
  have ha1 := ha.le (Le.below hb1)
  have hb1' := hb.le (Le.below hb1)
  clear ha hb
  have hs1 := hb1.size
  go_wp2_with fail
  clear hmk
  go_loopg [8, 18] n (fun g s8 s18 wr => ∃ i : Nat, i ≤ n ∧ g = n - i ∧ s18 = .int .i64 i ∧ BitR wr w1.heap.size n (relN (upR (meR a b) i) n) ∧ Below w1.heap.size w1 wr)
  case atStart => exact ⟨0, Nat.zero_le _, rfl, rfl, by rw [upR_zero]; simpa using BitR.made w1 n, (Below.refl _ _).alloc (Nat.le_refl _) _⟩
  case round =>
    obtain ⟨i, hin, rfl, rfl, hrow, hbw⟩ := hrel
    by_cases hlt : i < n
    · obtain ⟨ba, oa, rfl, hba, ka⟩ := relN_ints (ha1.le (Le.below hbw)) hlt
      obtain ⟨bb, ob, rfl, hbb, kb⟩ := relN_ints (hb1'.le (Le.below hbw)) hlt
      have Hx : Hid (bits .and .i64 ((bitN (a i) n : Nat) : Int) ((bitN (b i) n : Nat) : Int) = ((bitN (meR a b i) n : Nat) : Int)) := and_bitN (a i) (b i) hn
      have Hs := Lib.hid (upR_set (meR a b) n i)
      have q0 := hrow.cell hlt
      have hfz := hrow.frozen i
      have hBl := hrow.lt
      generalize ((bitN (a i) n : Nat) : Int) = xa at ka Hx
      generalize ((bitN (b i) n : Nat) : Int) = xb at kb Hx
      go_wp2_with fail
      go_region_law (first | (go_simp; go_at_call 171; ((with_reducible refine (byMeet_any _ _ _).mono ?_); rintro e2 w2 ⟨rfl, rfl⟩); go_wp2_with fail))
      all_goals
       go_wp2_with fail
       go_roundg (n - (i + 1))
       case measure => omega
       case rel => exact ⟨i + 1, by omega, rfl, by go_num, by rw [← Hs.out, ← Hx.out]; exact (hrow.set i _).of_block rfl, (hbw.setCell (p := ⟨w1.heap.size, i, none⟩) (Nat.le_refl _) _).drew⟩
    · obtain rfl : i = n := by omega
      rw [upR_all] at hrow
      go_wp2_with fail
      go_ret
      exact .of ((hrow.ret (W := w) hs1 (by omega) (hb1.trans (hbw.mono hs1))))
theorem imMeet_any (a b : Rel) (n : Nat) (hn : n ≤ 16) (w : World) (A B : Option Addr) (c d : Nat) (ha : Ints w A c (relN a n)) (hb : Ints w B d (relN b n)) :
    Calls Tryz.prog 117 #[.slice A n c, .slice B n d] w (RetRel w (meR a b) n) := by
  go_enter Tryz.func117, Tryz.ntmps117
  go_wp2_with fail
  refine (comMeet_any a b n hn w A B c d ha hb).mono ?_
  rintro e1 w1 ⟨A1, c1, rfl, hr1, hb1⟩
  go_wp2_with fail
  go_ret
  exact ⟨A1, c1, rfl, hr1, hb1⟩

theorem byMinus_any (x y : Int) (w : World) : Calls Tryz.prog 172 #[.int .i64 x, .int .i64 y] w (RetQI w (bits .andNot .i64 x y)) := by
  go_enter Tryz.func172, Tryz.ntmps172
  go_wp2_with fail
  go_ret
  exact ⟨rfl, rfl⟩
set_option maxHeartbeats 2000000 in
theorem comMinus_any (a b : Rel) (n : Nat) (hn : n ≤ 16) (w : World) (A B : Option Addr) (c d : Nat) (ha : Ints w A c (relN a n)) (hb : Ints w B d (relN b n)) :
    Calls Tryz.prog 169 #[.slice A n c, .slice B n d, .func (.func 172) #[] #[]] w (RetRel w (miR a b) n) := by
  have hmk := fun W => run_make_any (P := Tryz.prog) 23 3 _ 1 8 Tryz.underlying23 Tryz.infoInt n (by omega) (by omega) W
  go_enter Tryz.func169, Tryz.ntmps169
  go_wp2_with fail
  refine (areRels_any a b n hn w A B c d ha hb).mono ?_
  rintro e1 w1 ⟨rfl, hb1⟩
  have ha1 := ha.le (Le.below hb1)
  have hb1' := hb.le (Le.below hb1)
  clear ha hb
  have hs1 := hb1.size
  go_wp2_with fail
  clear hmk
  go_loopg [8, 18] n (fun g s8 s18 wr => ∃ i : Nat, i ≤ n ∧ g = n - i ∧ s18 = .int .i64 i ∧ BitR wr w1.heap.size n (relN (upR (miR a b) i) n) ∧ Below w1.heap.size w1 wr)
  case atStart => exact ⟨0, Nat.zero_le _, rfl, rfl, by rw [upR_zero]; simpa using BitR.made w1 n, (Below.refl _ _).alloc (Nat.le_refl _) _⟩
  case round =>
    obtain ⟨i, hin, rfl, rfl, hrow, hbw⟩ := hrel
    by_cases hlt : i < n
    · obtain ⟨ba, oa, rfl, hba, ka⟩ := relN_ints (ha1.le (Le.below hbw)) hlt
      obtain ⟨bb, ob, rfl, hbb, kb⟩ := relN_ints (hb1'.le (Le.below hbw)) hlt
      have Hx : Hid (bits .andNot .i64 ((bitN (a i) n : Nat) : Int) ((bitN (b i) n : Nat) : Int) = ((bitN (miR a b i) n : Nat) : Int)) := andNot_bitN (a i) (b i) hn
      have Hs := Lib.hid (upR_set (miR a b) n i)
      have q0 := hrow.cell hlt
      have hfz := hrow.frozen i
      have hBl := hrow.lt
      generalize ((bitN (a i) n : Nat) : Int) = xa at ka Hx
      generalize ((bitN (b i) n : Nat) : Int) = xb at kb Hx
      go_wp2_with fail
      go_region_law (first | (go_simp; go_at_call 172; ((with_reducible refine (byMinus_any _ _ _).mono ?_); rintro e2 w2 ⟨rfl, rfl⟩); go_wp2_with fail))
      all_goals
       go_wp2_with fail
       go_roundg (n - (i + 1))
       case measure => omega
       case rel => exact ⟨i + 1, by omega, rfl, by go_num, by rw [← Hs.out, ← Hx.out]; exact (hrow.set i _).of_block rfl, (hbw.setCell (p := ⟨w1.heap.size, i, none⟩) (Nat.le_refl _) _).drew⟩
    · obtain rfl : i = n := by omega
      rw [upR_all] at hrow
      go_wp2_with fail
      go_ret
      exact .of ((hrow.ret (W := w) hs1 (by omega) (hb1.trans (hbw.mono hs1))))
theorem imMinus_any (a b : Rel) (n : Nat) (hn : n ≤ 16) (w : World) (A B : Option Addr) (c d : Nat) (ha : Ints w A c (relN a n)) (hb : Ints w B d (relN b n)) :
    Calls Tryz.prog 118 #[.slice A n c, .slice B n d] w (RetRel w (miR a b) n) := by
  go_enter Tryz.func118, Tryz.ntmps118
  go_wp2_with fail
  refine (comMinus_any a b n hn w A B c d ha hb).mono ?_
  rintro e1 w1 ⟨A1, c1, rfl, hr1, hb1⟩
  go_wp2_with fail
  go_ret
  exact ⟨A1, c1, rfl, hr1, hb1⟩

end Go.Proofs.YtfgpbnncdfcjjabGreatDoor

/-! The walks of the program's composition, inverse and closure, and of its tests for cycles. -/
namespace Go.Proofs.YtfgpbnncdfcjjabGreatDoor
open Go.RowKit
set_option linter.unusedVariables false
set_option maxRecDepth 100000

/-- The composition, the rows below i being done and of row i the middles below m. -/
def coM (a b : Rel) (n i m : Nat) : Rel := fun r k => if r < i then coP a b n r k else if r = i then coP a b m i k else false
theorem coP_none (a b : Rel) (i k : Nat) : coP a b 0 i k = false := rfl
theorem coM_zero (a b : Rel) (n : Nat) : relN (coM a b n 0 0) n = List.replicate n 0 := relN_none fun i k _ _ => by
  unfold coM
  rw [if_neg (Nat.not_lt_zero _)]
  split
  · rfl
  · rfl
theorem coM_next (a b : Rel) (n i : Nat) : relN (coM a b n i n) n = relN (coM a b n (i + 1) 0) n := relN_congr fun r k _ _ => by
  unfold coM
  by_cases h1 : r < i
  · rw [if_pos h1, if_pos (by omega)]
  · rw [if_neg h1]
    by_cases h2 : r = i
    · subst h2
      rw [if_pos rfl, if_pos (by omega)]
    · rw [if_neg h2, if_neg (by omega)]
      split <;> rfl
theorem coM_all (a b : Rel) (n : Nat) : relN (coM a b n n 0) n = relN (coR n a b) n := relN_congr fun r k hr _ => by
  show (if r < n then coP a b n r k else _) = coP a b n r k
  rw [if_pos hr]
theorem coM_row (a b : Rel) (n i m : Nat) : coM a b n i m i = coP a b m i := by
  funext k
  unfold coM
  rw [if_neg (Nat.lt_irrefl _), if_pos rfl]
theorem coM_same {a b : Rel} {n i m : Nat} (h : a i m = false) : relN (coM a b n i (m + 1)) n = relN (coM a b n i m) n := relN_congr fun r k _ _ => by
  unfold coM
  rw [coP_same h]
theorem coM_set (a b : Rel) (n i m : Nat) : (relN (coM a b n i m) n).set i ((bitN (coP a b (m + 1) i) n : Nat) : Int) = relN (coM a b n i (m + 1)) n := by
  have h := relN_set (f := coM a b n i m) (g := coM a b n i (m + 1)) (n := n) (i := i) fun r k _ _ hr => by
    unfold coM
    rw [if_neg hr, if_neg hr]
  rw [coM_row] at h
  exact h

set_option maxHeartbeats 2000000 in
theorem imCompose_any (a b : Rel) (n : Nat) (hn : n ≤ 16) (w : World) (A B : Option Addr) (c d : Nat) (ha : Ints w A c (relN a n)) (hb : Ints w B d (relN b n)) :
    Calls Tryz.prog 119 #[.slice A n c, .slice B n d] w (RetRel w (coR n a b) n) := by
  have hmk := fun W => run_make_any (P := Tryz.prog) 23 3 _ 1 8 Tryz.underlying23 Tryz.infoInt n (by omega) (by omega) W
  go_enter Tryz.func119, Tryz.ntmps119
  go_wp2_with fail
  refine (areRels_any a b n hn w A B c d ha hb).mono ?_
  rintro e1 w1 ⟨rfl, hb1⟩
  have ha1 := ha.le (Le.below hb1)
  have hb1' := hb.le (Le.below hb1)
  clear ha hb
  have hs1 := hb1.size
  go_wp2_with fail
  clear hmk
  go_loopg [6, 7, 17, 22] n (fun g s6 s7 s17 s22 wr => ∃ i : Nat, i ≤ n ∧ g = n - i ∧ s17 = .int .i64 i ∧ BitR wr w1.heap.size n (relN (coM a b n i 0) n) ∧ Below w1.heap.size w1 wr)
  case atStart => exact ⟨0, Nat.zero_le _, rfl, rfl, by rw [coM_zero]; simpa using BitR.made w1 n, (Below.refl _ _).alloc (Nat.le_refl _) _⟩
  case round =>
    obtain ⟨i, hin, rfl, rfl, hrow, hbw⟩ := hrel
    by_cases hlt : i < n
    · go_wp2_with fail
      go_loopg [7, 22] n (fun g s7 s22 wq => ∃ m : Nat, m ≤ n ∧ g = n - m ∧ s22 = .int .i64 m ∧ BitR wq w1.heap.size n (relN (coM a b n i m) n) ∧ Below w1.heap.size w1 wq)
      case atStart => exact ⟨0, Nat.zero_le _, rfl, rfl, hrow, hbw⟩
      case round =>
        obtain ⟨m, hmn, rfl, rfl, hrow2, hbq⟩ := hrel
        by_cases hltm : m < n
        · have hc := related_any a n i m hn hlt hltm wr A c (ha1.le (Le.below hbq))
          cases hR : a i m
          · rw [hR] at hc
            have Hn := Lib.hid (coM_same (a := a) (b := b) (n := n) hR)
            clear hR
            go_wp2_with fail
            refine hc.mono ?_
            rintro e5 w5 ⟨rfl, rfl⟩
            clear hc
            go_wp2_with fail
            go_roundg (n - (m + 1))
            case measure => omega
            case rel => exact ⟨m + 1, by omega, rfl, by go_num, by rw [Hn.out]; exact hrow2, hbq⟩
          · rw [hR] at hc
            have Hs := Lib.hid (coM_set a b n i m)
            have Hn := Lib.hid (coP_more (a := a) (b := b) hn hR)
            obtain ⟨bb, ob, rfl, hbb, kb⟩ := relN_ints (hb1'.le (Le.below hbq)) hltm
            have q0 := hrow2.cell hlt
            rw [relN_getD _ hlt, coM_row] at q0
            have hfz := hrow2.frozen i
            have hBl := hrow2.lt
            clear hR
            generalize ((bitN (b m) n : Nat) : Int) = xb at kb Hn
            generalize ((bitN (coP a b m i) n : Nat) : Int) = xa at q0 Hn
            go_wp2_with fail
            refine hc.mono ?_
            rintro e5 w5 ⟨rfl, rfl⟩
            clear hc
            go_wp2_with fail
            go_region_with (fail)
            all_goals
             go_wp2_with fail
             go_roundg (n - (m + 1))
             case measure => omega
             case rel => exact ⟨m + 1, by omega, rfl, by go_num, by rw [← Hs.out, ← Hn.out]; exact (hrow2.set i _).of_block rfl, (hbq.setCell (p := ⟨w1.heap.size, i, none⟩) (Nat.le_refl _) _).drew⟩
        · obtain rfl : m = n := by omega
          go_wp2_with fail
          go_roundg (m - (i + 1))
          case measure => omega
          case rel => exact ⟨i + 1, by omega, rfl, by go_num, by rw [← coM_next]; exact hrow2, hbq⟩
    · obtain rfl : i = n := by omega
      rw [coM_all] at hrow
      go_wp2_with fail
      go_ret
      exact .of (hrow.ret (W := w) hs1 (by omega) (hb1.trans (hbw.mono hs1)))

theorem inv1_any (R : Rel) (n i k : Nat) (hn : n ≤ 16) (hi : i < n) (hk : k < n) (w : World) (bR : Nat) (A : Option Addr) (c : Nat) (h : Ints w A c (relN R n)) (hr : w.cell? ⟨bR, 0, none⟩ = some (.slice A n c)) :
    Calls Tryz.prog 168 #[.int .i64 i, .int .i64 k, .pointer (some ⟨bR, 0, none⟩)] w (RetQ w (inR R i k)) := by
  go_enter Tryz.func168, Tryz.ntmps168
  go_wp2_with fail
  refine (related_any R n k i hn hk hi w A c h).mono ?_
  rintro e5 w5 ⟨rfl, rfl⟩
  go_wp2_with fail
  go_ret
  exact ⟨rfl, rfl⟩
set_option maxHeartbeats 4000000 in
theorem pairsInv_any (R : Rel) (n : Nat) (hn : n ≤ 16) (w : World) (bR : Nat)
    (hcall : ∀ i k : Nat, i < n → k < n → ∀ W, Below w.heap.size w W → Calls Tryz.prog 168 #[.int .i64 i, .int .i64 k, .pointer (some ⟨bR, 0, none⟩)] W (RetQ W (R i k))) :
    Calls Tryz.prog 165 #[.int .i64 n, .func (.func 168) #[] #[.pointer (some ⟨bR, 0, none⟩)]] w (RetRowI w (relN R n)) := by
  have hmk := run_make_any (P := Tryz.prog) 23 3 _ 1 8 Tryz.underlying23 Tryz.infoInt n (by omega) (by omega)
  have Hcall := Lib.hid hcall
  clear hcall
  go_enter Tryz.func165, Tryz.ntmps165
  go_wp2_with fail
  clear hmk
  go_loopg [6, 7, 11, 15] n (fun g s6 s7 s11 s15 wr => ∃ i : Nat, i ≤ n ∧ g = n - i ∧ s11 = .int .i64 i ∧ BitR wr w.heap.size n (midR R n i 0) ∧ Below w.heap.size w wr)
  case atStart => exact ⟨0, Nat.zero_le _, rfl, rfl, by rw [midR_zero]; simpa using BitR.made w n, (Below.refl _ _).alloc (Nat.le_refl _) _⟩
  case round =>
    obtain ⟨i, hin, rfl, rfl, hrow, hb⟩ := hrel
    by_cases hlt : i < n
    · go_wp2_with fail
      go_loopg [7, 15] n (fun g s7 s15 wq => ∃ k : Nat, k ≤ n ∧ g = n - k ∧ s15 = .int .i64 k ∧ BitR wq w.heap.size n (midR R n i k) ∧ Below w.heap.size w wq)
      case atStart => exact ⟨0, Nat.zero_le _, rfl, rfl, hrow, hb⟩
      case round =>
        obtain ⟨k, hkn, rfl, rfl, hrow2, hbq⟩ := hrel
        by_cases hltk : k < n
        · have hc := Hcall.out i k hlt hltk _ hbq
          cases hR : R i k
          · rw [hR] at hc
            have Hn := Lib.hid (midR_same R n i k hR)
            clear hR
            go_wp2_with fail
            refine hc.mono ?_
            rintro e5 w5 ⟨rfl, rfl⟩
            clear hc
            go_wp2_with fail
            go_roundg (n - (k + 1))
            case measure => omega
            case rel => exact ⟨k + 1, by omega, rfl, by go_num, by rw [Hn.out]; exact hrow2, hbq⟩
          · rw [hR] at hc
            have Hs := Lib.hid (midR_set R n i k)
            have Hn := Lib.hid (bitN_step (R i) k (by omega) hR)
            clear hR
            go_wp2_with fail
            refine hc.mono ?_
            rintro e5 w5 ⟨rfl, rfl⟩
            have q0 := hrow2.cell hlt
            have hg : (midR R n i k).getD i 0 = ((bitN (R i) k : Nat) : Int) := by
              have h1 : i < (midR R n i k).length := by rw [midR_length]; exact hlt
              rw [List.getD_eq_getElem?_getD, List.getElem?_eq_getElem h1]
              exact midR_get R n i k h1
            rw [hg] at q0
            have hfz := hrow2.frozen i
            clear hc hg
            go_wp2_with fail
            go_region_with (fail)
            all_goals (go_wp2_with fail)
            go_roundg (n - (k + 1))
            case measure => omega
            case rel => exact ⟨k + 1, by omega, rfl, by go_num, by rw [← IntWalk.i64_left, Hn.out, ← Hs.out]; exact (hrow2.set i _).of_block rfl, (hbq.setCell (p := ⟨w.heap.size, i, none⟩) (Nat.le_refl _) _).drew⟩
        · obtain rfl : k = n := by omega
          go_wp2_with fail
          go_roundg (k - (i + 1))
          case measure => omega
          case rel => exact ⟨i + 1, by omega, rfl, by go_num, by rw [← midR_next]; exact hrow2, hbq⟩
    · obtain rfl : i = n := by omega
      rw [midR_all] at hrow
      go_wp2_with fail
      go_ret
      exact hrow.ret (Nat.le_refl _) (by omega) hb
theorem imInverse_any (R : Rel) (n : Nat) (hn : n ≤ 16) (w : World) (A : Option Addr) (c : Nat) (h : Ints w A c (relN R n)) :
    Calls Tryz.prog 114 #[.slice A n c] w (RetRel w (inR R) n) := by
  obtain ⟨w0, hw0⟩ : ∃ w0, w0 = w.alloc (.cells #[.slice A n c] 23) := ⟨_, rfl⟩
  have o0 : Own w0 w.heap.size 23 #[.slice A n c] := by rw [hw0]; exact Own.new _ _ _
  have hB : Below w.heap.size w w0 := by rw [hw0]; exact (Below.refl _ _).alloc (Nat.le_refl _) _
  have hI := h.le (Le.below hB)
  have q0 := o0.cell (i := 0) (v := .slice A n c) rfl
  go_enter Tryz.func114, Tryz.ntmps114
  go_wp2_with fail
  rw [← hw0]
  clear hw0
  go_wp2_with fail
  refine (relValid_any R n hn w0 A c hI).mono ?_
  rintro e1 w1 ⟨rfl, hb1⟩
  have hB1 := hB.trans (hb1.mono hB.size)
  have q1 := Le.below hb1 _ _ q0
  have hI1 := hI.le (Le.below hb1)
  clear q0 h hI o0
  go_wp2_with fail
  refine (pairsInv_any (inR R) n hn w1 w.heap.size fun i k hi hk W hW => inv1_any R n i k hn hi hk W w.heap.size A c (hI1.le (Le.below hW)) (Le.below hW _ _ q1)).mono ?_
  rintro e2 w2 ⟨A2, c2, rfl, hr2, hb2⟩
  rw [relN_length] at hr2 ⊢
  go_wp2_with fail
  go_ret
  exact ⟨A2, c2, rfl, hr2.rebase fun g hg => Nat.le_trans hB1.size (hr2.blk hg).1, hB1.trans (hb2.mono hB1.size)⟩

set_option maxHeartbeats 2000000 in
theorem imClosure_any (a : Rel) (n : Nat) (hn : n ≤ 16) (w : World) (A : Option Addr) (c : Nat) (ha : Ints w A c (relN a n)) :
    Calls Tryz.prog 115 #[.slice A n c] w (RetRel w (clR n a) n) := by
  have hcl := fun W (hI : Ints W A c (relN a n)) => cloneI_any (relN a n) W A c hI (by rw [relN_length]; omega)
  simp only [relN_length] at hcl
  go_enter Tryz.func115, Tryz.ntmps115
  go_wp2_with fail
  refine (relValid_any a n hn w A c ha).mono ?_
  rintro e1 w1 ⟨rfl, hb1⟩
  have hs1 := hb1.size
  have hc1 := hcl w1 (ha.le (Le.below hb1))
  clear hcl
  go_wp2_with fail
  refine hc1.mono ?_
  rintro e5 w5 ⟨A5, c5, rfl, hrow5, hb5⟩
  rw [relN_length] at hrow5 ⊢
  have hrow5' : Hid (RowI w5 w1.heap.size (.slice A5 n c5) (relN (clM a 0 0) n)) := hrow5
  have hB5 := hb5
  clear hrow5 hc1
  go_wp2_with fail
  go_loopg [4, 5, 13, 18] n (fun g s4 s5 s13 s18 wr => ∃ m : Nat, m ≤ n ∧ g = n - m ∧ s13 = .int .i64 m ∧ Hid (RowI wr w1.heap.size (.slice A5 n c5) (relN (clM a m 0) n)) ∧ Below w1.heap.size w1 wr)
  case atStart => exact ⟨0, Nat.zero_le _, rfl, rfl, hrow5'.out, hB5⟩
  case round =>
    obtain ⟨m, hmn, rfl, rfl, hrow, hb⟩ := hrel
    by_cases hltm : m < n
    · go_wp2_with fail
      go_loopg [5, 18] n (fun g s5 s18 wq => ∃ i : Nat, i ≤ n ∧ g = n - i ∧ s18 = .int .i64 i ∧ Hid (RowI wq w1.heap.size (.slice A5 n c5) (relN (clM a m i) n)) ∧ Below w1.heap.size w1 wq)
      case atStart => exact ⟨0, Nat.zero_le _, rfl, rfl, hrow.out, hb⟩
      case round =>
        obtain ⟨i, hin, rfl, rfl, hrow2, hbq⟩ := hrel
        by_cases hlt : i < n
        · have hI := row_rel hrow2.out
          obtain ⟨g, rfl, hg1, hg2, hfz, hcell⟩ := RowI.at hrow2.out (i := i) (by rw [relN_length]; exact hlt)
          have hc := related_any (clM a m i) n i m hn hlt hltm wr _ c5 hI
          rw [clM_row] at hc
          have q0 := hcell i (by rw [relN_length]; exact hlt)
          have q1 := hcell m (by rw [relN_length]; exact hltm)
          rw [relN_getD _ hlt, clM_row] at q0
          rw [relN_getD _ hltm, clM_mid] at q1
          have f0 := hfz i
          cases hR : clR m a i m
          · rw [hR] at hc
            have Hn := Lib.hid (clM_same (n := n) hR)
            clear hR
            go_wp2_with fail
            refine hc.mono ?_
            rintro e5 w6 ⟨rfl, rfl⟩
            clear hc
            go_wp2_with fail
            go_roundg (n - (i + 1))
            case measure => omega
            case rel => exact ⟨i + 1, by omega, rfl, by go_num, by rw [Hn.out]; exact hrow2.out, hbq⟩
          · rw [hR] at hc
            have Hn := Lib.hid (clM_more hn hR)
            have Hs := Lib.hid (clM_set (a := a) (m := m) (i := i) (n := n))
            clear hR hI
            generalize ((bitN (clR m a i) n : Nat) : Int) = x1 at q0 Hn
            generalize ((bitN (clR m a m) n : Nat) : Int) = x2 at q1 Hn
            go_wp2_with fail
            refine hc.mono ?_
            rintro e5 w6 ⟨rfl, rfl⟩
            clear hc
            go_wp2_with fail
            go_region_with (fail)
            all_goals
             go_wp2_with fail
             go_roundg (n - (i + 1))
             case measure => omega
             case rel => exact ⟨i + 1, by omega, rfl, by go_num, by rw [← Hs.out, ← Hn.out]; exact RowI.set hrow2.out (by rw [relN_length]; exact hlt) _, (hbq.setCell (p := ⟨g, i, none⟩) hg1 _).drew⟩
        · obtain rfl : i = n := by omega
          go_wp2_with fail
          go_roundg (i - (m + 1))
          case measure => omega
          case rel => exact ⟨m + 1, by omega, rfl, by go_num, by rw [← clM_all]; exact hrow2.out, hbq⟩
    · obtain rfl : m = n := by omega
      rw [clM_zero] at hrow
      go_wp2_with fail
      go_ret
      exact ⟨A5, c5, rfl, hrow.out.rebase fun g hg => Nat.le_trans hs1 (hrow.out.blk hg).1, hb1.trans (hb.mono hs1)⟩

theorem imLoose_any (a : Rel) (n : Nat) (hn : n ≤ 16) (w : World) (A : Option Addr) (c : Nat) (ha : Ints w A c (relN a n)) :
    Calls Tryz.prog 140 #[.slice A n c] w (RetQ w (irB a n)) := by
  go_enter Tryz.func140, Tryz.ntmps140
  go_wp2_with fail
  go_loopg [3, 6] n (fun g s3 s6 wr => ∃ i : Nat, i ≤ n ∧ g = n - i ∧ s6 = .int .i64 i ∧ Hid (irB a i = true) ∧ w = wr)
  case atStart => exact ⟨0, Nat.zero_le _, rfl, rfl, (by show _ = _; rfl), rfl⟩
  case round =>
    obtain ⟨i, hin, rfl, rfl, hpre, rfl⟩ := hrel
    by_cases hlt : i < n
    · have hc := related_any a n i i hn hlt hlt w A c ha
      cases hR : a i i
      · rw [hR] at hc
        have Hn : Hid (irB a (i + 1) = true) := by
          show _ = _
          have := hpre.out
          unfold irB at this ⊢
          rw [any_range_succ, hR, Bool.or_false]
          exact this
        clear hR
        go_wp2_with fail
        refine hc.mono ?_
        rintro e5 w5 ⟨rfl, rfl⟩
        clear hc
        go_wp2_with fail
        go_roundg (n - (i + 1))
        case measure => omega
        case rel => exact ⟨i + 1, by omega, rfl, by go_num, Hn.out, rfl⟩
      · rw [hR] at hc
        have Hn : Hid (irB a n = false) := by
          show _ = _
          unfold irB
          rw [Bool.not_eq_false', List.any_eq_true]
          exact ⟨i, List.mem_range.2 hlt, hR⟩
        clear hR
        go_wp2_with fail
        refine hc.mono ?_
        rintro e5 w5 ⟨rfl, rfl⟩
        clear hc
        go_wp2_with fail
        go_ret
        exact ⟨ret_bool Hn.out.symm, rfl⟩
    · obtain rfl : i = n := by omega
      go_wp2_with fail
      go_ret
      exact ⟨ret_bool hpre.out.symm, rfl⟩
theorem imAcyclic_any (a : Rel) (n : Nat) (hn : n ≤ 16) (w : World) (A : Option Addr) (c : Nat) (ha : Ints w A c (relN a n)) :
    Calls Tryz.prog 139 #[.slice A n c] w (RetB w (acB a n)) := by
  go_enter Tryz.func139, Tryz.ntmps139
  go_wp2_with fail
  refine (relValid_any a n hn w A c ha).mono ?_
  rintro e0 w0 ⟨rfl, hb0⟩
  have hc := imClosure_any a n hn w0 A c (ha.le (Le.below hb0))
  go_wp2_with fail
  refine hc.mono ?_
  rintro e1 w1 ⟨A1, c1, rfl, hrow1, hb1⟩
  have hl := imLoose_any (clR n a) n hn w1 A1 c1 (row_rel hrow1)
  go_wp2_with fail
  refine hl.mono ?_
  rintro e2 w2 ⟨rfl, rfl⟩
  go_wp2_with fail
  go_ret
  exact ⟨rfl, hb0.trans (hb1.mono hb0.size)⟩

/-! ### Lists of numbers that are compared -/
set_option maxHeartbeats 400000 in
theorem equalI_any (xs ys : List Int) (w : World) (A A' : Option Addr) (c c' : Nat) (hr : Ints w A c xs) (hr' : Ints w A' c' ys) :
    Calls Tryz.prog 66 #[.slice A xs.length c, .slice A' ys.length c'] w (RetB w (eqB xs ys)) := by
  have hm := hr.len
  have hm' := hr'.len
  go_enter Tryz.func66, Tryz.ntmps66
  by_cases hlen : xs.length = ys.length
  · have hne : ((xs.length : Int) != (ys.length : Int)) = false := by simp [hlen]
    have Hlen := Lib.hid hlen
    clear hlen
    go_wp2_with fail
    go_loopg [5, 13] xs.length (fun g s5 s13 wr => ∃ k : Nat, k ≤ xs.length ∧ g = xs.length - k ∧ s13 = .int .i64 k ∧ Hid (xs.take k = ys.take k) ∧ Below w.heap.size w wr)
    case atStart => exact ⟨0, Nat.zero_le _, rfl, rfl, rfl, Below.refl _ _⟩
    case round =>
      obtain ⟨k, hk, rfl, rfl, hpre, hb⟩ := hrel
      by_cases hlt : k < xs.length
      · have hlt' : k < ys.length := by have := Hlen.out; omega
        obtain ⟨b, o, rfl, hbl, k0⟩ := (hr.le (Le.below hb)).get hlt
        obtain ⟨b', o', rfl, hbl', d0⟩ := (hr'.le (Le.below hb)).get hlt'
        clear hr hr'
        by_cases he : xs[k] = ys[k]
        · have heb : (xs[k] != ys[k]) = false := by simp [he]
          have He := Lib.hid he
          clear he
          go_wp2_with fail
          go_quiet (fail)
          go_wp2_with fail
          go_roundg (xs.length - (k + 1))
          case measure => omega
          case rel => exact ⟨k + 1, by omega, rfl, by go_num, take_eq_of' hlt hlt' hpre.out He.out, below_drewN hb _⟩
        · have heb : (xs[k] != ys[k]) = true := by simp [he]
          go_wp2_with fail
          go_quiet (fail)
          go_wp2_with fail
          go_ret
          refine ⟨ret_bool ?_, below_drewN hb _⟩
          rw [eq_comm, eqB_false]
          intro e
          exact he (by simp only [e])
      · go_wp2_with fail
        go_ret
        refine ⟨ret_bool ?_, hb⟩
        obtain rfl : k = xs.length := by omega
        rw [eq_comm, eqB_iff]
        exact eq_of_take Hlen.out hpre.out
  · have hne : ((xs.length : Int) != (ys.length : Int)) = true := by simp; omega
    go_wp2_with fail
    go_ret
    exact ⟨ret_bool (eqB_ne_length hlen).symm, Below.refl _ _⟩
set_option maxHeartbeats 400000 in
theorem wmInts_any (xs ys : List Int) (w : World) (A A' : Option Addr) (c c' : Nat) (hr : Ints w A c xs) (hr' : Ints w A' c' ys) :
    Calls Tryz.prog 30 #[.slice A xs.length c, .slice A' ys.length c'] w (RetB w (eqB xs ys)) := by
  have hm := hr.len
  have hm' := hr'.len
  go_enter Tryz.func30, Tryz.ntmps30
  by_cases hlen : xs.length = ys.length
  · have hne : ((xs.length : Int) != (ys.length : Int)) = false := by simp [hlen]
    have Hlen := Lib.hid hlen
    clear hlen
    go_wp2_with fail
    go_loopg [5] xs.length (fun g s5 wr => ∃ k : Nat, k ≤ xs.length ∧ g = xs.length - k ∧ s5 = .int .i64 k ∧ Hid (xs.take k = ys.take k) ∧ Below w.heap.size w wr)
    case atStart => exact ⟨0, Nat.zero_le _, rfl, rfl, rfl, Below.refl _ _⟩
    case round =>
      obtain ⟨k, hk, rfl, rfl, hpre, hb⟩ := hrel
      by_cases hlt : k < xs.length
      · have hlt' : k < ys.length := by have := Hlen.out; omega
        obtain ⟨b, o, rfl, hbl, k0⟩ := (hr.le (Le.below hb)).get hlt
        obtain ⟨b', o', rfl, hbl', d0⟩ := (hr'.le (Le.below hb)).get hlt'
        clear hr hr'
        by_cases he : xs[k] = ys[k]
        · have heb : (xs[k] != ys[k]) = false := by simp [he]
          have He := Lib.hid he
          clear he
          go_wp2_with fail
          go_quiet (fail)
          go_wp2_with fail
          go_roundg (xs.length - (k + 1))
          case measure => omega
          case rel => exact ⟨k + 1, by omega, rfl, by go_num, take_eq_of' hlt hlt' hpre.out He.out, below_drewN hb _⟩
        · have heb : (xs[k] != ys[k]) = true := by simp [he]
          go_wp2_with fail
          go_quiet (fail)
          go_wp2_with fail
          go_ret
          refine ⟨ret_bool ?_, below_drewN hb _⟩
          rw [eq_comm, eqB_false]
          intro e
          exact he (by simp only [e])
      · go_wp2_with fail
        go_ret
        refine ⟨ret_bool ?_, hb⟩
        obtain rfl : k = xs.length := by omega
        rw [eq_comm, eqB_iff]
        exact eq_of_take Hlen.out hpre.out
  · have hne : ((xs.length : Int) != (ys.length : Int)) = true := by simp; omega
    go_wp2_with fail
    go_ret
    exact ⟨ret_bool (eqB_ne_length hlen).symm, Below.refl _ _⟩
theorem relN_inj {a b : Rel} {n : Nat} (h : relN a n = relN b n) : EqR n a b := fun i k hi hk => by
  have h1 : (relN a n).getD i 0 = (relN b n).getD i 0 := by rw [h]
  rw [relN_getD _ hi, relN_getD _ hi] at h1
  have h2 : bitN (a i) n = bitN (b i) n := by omega
  have h3 : (bitN (a i) n).testBit k = (bitN (b i) n).testBit k := by rw [h2]
  rw [bitN_bit, bitN_bit, decide_eq_true hk, Bool.true_and, Bool.true_and] at h3
  exact h3
end Go.Proofs.YtfgpbnncdfcjjabGreatDoor
