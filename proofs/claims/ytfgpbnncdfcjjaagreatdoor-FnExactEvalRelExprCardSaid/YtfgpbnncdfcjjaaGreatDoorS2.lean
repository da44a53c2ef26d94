/-
  The walks of the reference's operations on relations.
-/
import Derived.Test.YtfgpbnncdfcjjaaGreatDoorBitR
namespace Go.Proofs.YtfgpbnncdfcjjaaGreatDoor
open Go.RowKit
set_option linter.unusedVariables false
set_option maxRecDepth 100000

/-- A relation handed back. -/
def RetRel (w : World) (R : Rel) (n : Nat) (e : Ending) (w' : World) : Prop := ∃ A c, e = .returned (.slice A n c) ∧ RowI w' w.heap.size (.slice A n c) (relN R n) ∧ Below w.heap.size w w'
theorem RetRel.of {w w' : World} {R : Rel} {n : Nat} {e : Ending} (h : RetRowI w (relN R n) e w') : RetRel w R n e w' := by
  obtain ⟨A, c, he, hr, hb⟩ := h
  rw [relN_length] at he hr
  exact ⟨A, c, he, hr, hb⟩
theorem RetRel.mk {w w' : World} {R : Rel} {n : Nat} {v : Value} (h : RowI w' w.heap.size v (relN R n)) (hb : Below w.heap.size w w') : RetRel w R n (.returned v) w' := .of (RetRowI.mk h hb)
theorem row_rel {w : World} {base n : Nat} {R : Rel} {A : Option Addr} {c : Nat} (h : RowI w base (.slice A n c) (relN R n)) : Ints w A c (relN R n) := by
  obtain ⟨A', c', e, h⟩ := RowI.ints h
  injection e with e1 e2 e3
  subst e1 e3
  exact h.le (Le.above _ _)

theorem l2Has_any (R : Rel) (n i k : Nat) (hn : n ≤ 16) (hi : i < n) (hk : k < n) (w : World) (A : Option Addr) (c : Nat) (h : Ints w A c (relN R n)) :
    Calls Tryz.prog 200 #[.slice A n c, .int .i64 i, .int .i64 k] w (RetQ w (R i k)) := by
  obtain ⟨b, o, rfl, hb, h0⟩ := relN_ints h hi
  have hv := test_bitN (R i) hn hk
  have Hv := Lib.hid hv
  clear hv
  go_enter Tryz.func200, Tryz.ntmps200
  go_wp2_with fail
  go_ret
  exact ⟨ret_bool Hv.out, rfl⟩
theorem take_rel (R : Rel) {n i : Nat} (h : i < n) : (relN R n).take (i + 1) = (relN R n).take i ++ [((bitN (R i) n : Nat) : Int)] := by
  rw [List.take_succ_eq_append_getElem (by rw [relN_length]; exact h), relN_get]
theorem take_rel_length (R : Rel) {n i : Nat} (h : i ≤ n) : ((relN R n).take i).length = i := by rw [List.length_take, relN_length]; omega

set_option maxHeartbeats 1000000 in
theorem l2Union_any (a b : Rel) (n : Nat) (hn : n ≤ 16) (w : World) (A B : Option Addr) (c d : Nat) (ha : Ints w A c (relN a n)) (hb : Ints w B d (relN b n)) :
    Calls Tryz.prog 144 #[.slice A n c, .slice B n d] w (RetRel w (unR a b) n) := by
  obtain ⟨i0, hi0, hz0, hz1, hz2⟩ := info_parts Tryz.infoInt
  have hrow0 : RowI (w.alloc (.cells #[] 3)) w.heap.size (.slice (some ⟨w.heap.size, 0, none⟩) 0 0) ((relN (unR a b) n).take 0) := RowOf.made _ (Own.new _ _ _) (Nat.le_refl _)
  have Hrow0 := Lib.hid hrow0
  clear hrow0
  go_enter Tryz.func144, Tryz.ntmps144
  go_wp2_with fail
  go_loopg [5, 6] n (fun g s5 s6 wr => ∃ (i : Nat) (v : Value), i ≤ n ∧ g = n - i ∧ v = s5 ∧ s6 = .int .i64 i ∧ Hid (RowI wr w.heap.size v ((relN (unR a b) n).take i)) ∧ Below w.heap.size w wr)
  case atStart => exact ⟨0, _, Nat.zero_le _, rfl, rfl, rfl, Hrow0.out, (Below.refl _ _).alloc (Nat.le_refl _) _⟩
  case round =>
    obtain ⟨i, v, hin, rfl, rfl, rfl, hrow, hbw⟩ := hrel
    by_cases hlt : i < n
    · obtain ⟨ba, oa, rfl, hba, ka⟩ := relN_ints (ha.le (Le.below hbw)) hlt
      obtain ⟨bb, ob, rfl, hbb, kb⟩ := relN_ints (hb.le (Le.below hbw)) hlt
      have Hx : Hid (bits .or .i64 ((bitN (a i) n : Nat) : Int) ((bitN (b i) n : Nat) : Int) = ((bitN (unR a b i) n : Nat) : Int)) := or_bitN (a i) (b i) hn
      have Hxl := Lib.hid (take_rel_length (unR a b) hin)
      have Hn := Lib.hid (take_rel (unR a b) hlt)
      obtain ⟨cs, hown, hqq⟩ := hrow.out
      rw [take_rel_length (unR a b) hin] at hown
      have Hown : Hid (wr.drew.ownsRow w.heap.size 3 1 v i cs) := hown
      have Hq := Lib.hid hqq
      have hsq := hbw.size
      generalize ((bitN (a i) n : Nat) : Int) = xa at ka Hx
      generalize ((bitN (b i) n : Nat) : Int) = xb at kb Hx
      clear hown hqq hrow ha hb
      go_wp2_with fail
      go_region_law (first | (refine step_append_lies _ (by rfl) _ _ _ (by rfl) w.heap.size 3 i0 _ 1 8 Tryz.underlying24 hi0 hz0 hz1 hz2 rfl (by omega) v i cs (by rfl) (owns_alloc Hown.out _) ⟨wr.heap.size, 0, none⟩ 1 1 [.int .i64 (bits .or .i64 xa xb)] (by rfl) (by rfl) (World.news_of_block (cs := #[.int .i64 (bits .or .i64 xa xb)]) (t := 3) (fr := (0, 0)) (heap_alloc_new _ _)) (by simp [Value.oneCell']) (by omega) (by simp [maxLen]; omega) (by omega) (by simp; omega) (wr.heap.size + 1) (by simp) ?_; intro gg cap w5 hown1 hgrow hat1 hlt1))
      all_goals
       go_wp2_with fail
       go_roundg (n - (i + 1))
       case measure => omega
       case rel => exact ⟨i + 1, _, by omega, rfl, rfl, by go_num, by rw [Hn.out, ← Hx.out]; exact RowOf.snoc (news := [.int .i64 (bits .or .i64 xa xb)]) qint_congr (by rw [Hxl.out]; exact Hown.out) Hq.out rfl rfl (by rw [Hxl.out]; exact hown1), below_grown (hbw.drew.alloc hsq _) hgrow (Nat.le_refl _) (fun g hg => owns_base' Hown.out hg)⟩
    · obtain rfl : i = n := by omega
      rw [List.take_of_length_le (by rw [relN_length]; omega)] at hrow
      go_wp2_with fail
      go_ret
      exact RetRel.mk hrow.out hbw

set_option maxHeartbeats 1000000 in
theorem l2Meet_any (a b : Rel) (n : Nat) (hn : n ≤ 16) (w : World) (A B : Option Addr) (c d : Nat) (ha : Ints w A c (relN a n)) (hb : Ints w B d (relN b n)) :
    Calls Tryz.prog 145 #[.slice A n c, .slice B n d] w (RetRel w (meR a b) n) := by
  obtain ⟨i0, hi0, hz0, hz1, hz2⟩ := info_parts Tryz.infoInt
  have hrow0 : RowI (w.alloc (.cells #[] 3)) w.heap.size (.slice (some ⟨w.heap.size, 0, none⟩) 0 0) ((relN (meR a b) n).take 0) := RowOf.made _ (Own.new _ _ _) (Nat.le_refl _)
  have Hrow0 := Lib.hid hrow0
  clear hrow0
  go_enter Tryz.func145, Tryz.ntmps145
  go_wp2_with fail
  go_loopg [5, 6] n (fun g s5 s6 wr => ∃ (i : Nat) (v : Value), i ≤ n ∧ g = n - i ∧ v = s5 ∧ s6 = .int .i64 i ∧ Hid (RowI wr w.heap.size v ((relN (meR a b) n).take i)) ∧ Below w.heap.size w wr)
  case atStart => exact ⟨0, _, Nat.zero_le _, rfl, rfl, rfl, Hrow0.out, (Below.refl _ _).alloc (Nat.le_refl _) _⟩
  case round =>
    obtain ⟨i, v, hin, rfl, rfl, rfl, hrow, hbw⟩ := hrel
    by_cases hlt : i < n
    · obtain ⟨ba, oa, rfl, hba, ka⟩ := relN_ints (ha.le (Le.below hbw)) hlt
      obtain ⟨bb, ob, rfl, hbb, kb⟩ := relN_ints (hb.le (Le.below hbw)) hlt
      have Hx : Hid (bits .and .i64 ((bitN (a i) n : Nat) : Int) ((bitN (b i) n : Nat) : Int) = ((bitN (meR a b i) n : Nat) : Int)) := and_bitN (a i) (b i) hn
      have Hxl := Lib.hid (take_rel_length (meR a b) hin)
      have Hn := Lib.hid (take_rel (meR a b) hlt)
      obtain ⟨cs, hown, hqq⟩ := hrow.out
      rw [take_rel_length (meR a b) hin] at hown
      have Hown : Hid (wr.drew.ownsRow w.heap.size 3 1 v i cs) := hown
      have Hq := Lib.hid hqq
      have hsq := hbw.size
      generalize ((bitN (a i) n : Nat) : Int) = xa at ka Hx
      generalize ((bitN (b i) n : Nat) : Int) = xb at kb Hx
      clear hown hqq hrow ha hb
      go_wp2_with fail
      go_region_law (first | (refine step_append_lies _ (by rfl) _ _ _ (by rfl) w.heap.size 3 i0 _ 1 8 Tryz.underlying24 hi0 hz0 hz1 hz2 rfl (by omega) v i cs (by rfl) (owns_alloc Hown.out _) ⟨wr.heap.size, 0, none⟩ 1 1 [.int .i64 (bits .and .i64 xa xb)] (by rfl) (by rfl) (World.news_of_block (cs := #[.int .i64 (bits .and .i64 xa xb)]) (t := 3) (fr := (0, 0)) (heap_alloc_new _ _)) (by simp [Value.oneCell']) (by omega) (by simp [maxLen]; omega) (by omega) (by simp; omega) (wr.heap.size + 1) (by simp) ?_; intro gg cap w5 hown1 hgrow hat1 hlt1))
      all_goals
       go_wp2_with fail
       go_roundg (n - (i + 1))
       case measure => omega
       case rel => exact ⟨i + 1, _, by omega, rfl, rfl, by go_num, by rw [Hn.out, ← Hx.out]; exact RowOf.snoc (news := [.int .i64 (bits .and .i64 xa xb)]) qint_congr (by rw [Hxl.out]; exact Hown.out) Hq.out rfl rfl (by rw [Hxl.out]; exact hown1), below_grown (hbw.drew.alloc hsq _) hgrow (Nat.le_refl _) (fun g hg => owns_base' Hown.out hg)⟩
    · obtain rfl : i = n := by omega
      rw [List.take_of_length_le (by rw [relN_length]; omega)] at hrow
      go_wp2_with fail
      go_ret
      exact RetRel.mk hrow.out hbw

set_option maxHeartbeats 1000000 in
theorem l2Minus_any (a b : Rel) (n : Nat) (hn : n ≤ 16) (w : World) (A B : Option Addr) (c d : Nat) (ha : Ints w A c (relN a n)) (hb : Ints w B d (relN b n)) :
    Calls Tryz.prog 146 #[.slice A n c, .slice B n d] w (RetRel w (miR a b) n) := by
  obtain ⟨i0, hi0, hz0, hz1, hz2⟩ := info_parts Tryz.infoInt
  have hrow0 : RowI (w.alloc (.cells #[] 3)) w.heap.size (.slice (some ⟨w.heap.size, 0, none⟩) 0 0) ((relN (miR a b) n).take 0) := RowOf.made _ (Own.new _ _ _) (Nat.le_refl _)
  have Hrow0 := Lib.hid hrow0
  clear hrow0
  go_enter Tryz.func146, Tryz.ntmps146
  go_wp2_with fail
  go_loopg [5, 6] n (fun g s5 s6 wr => ∃ (i : Nat) (v : Value), i ≤ n ∧ g = n - i ∧ v = s5 ∧ s6 = .int .i64 i ∧ Hid (RowI wr w.heap.size v ((relN (miR a b) n).take i)) ∧ Below w.heap.size w wr)
  case atStart => exact ⟨0, _, Nat.zero_le _, rfl, rfl, rfl, Hrow0.out, (Below.refl _ _).alloc (Nat.le_refl _) _⟩
  case round =>
    obtain ⟨i, v, hin, rfl, rfl, rfl, hrow, hbw⟩ := hrel
    by_cases hlt : i < n
    · obtain ⟨ba, oa, rfl, hba, ka⟩ := relN_ints (ha.le (Le.below hbw)) hlt
      obtain ⟨bb, ob, rfl, hbb, kb⟩ := relN_ints (hb.le (Le.below hbw)) hlt
      have Hx : Hid (bits .andNot .i64 ((bitN (a i) n : Nat) : Int) ((bitN (b i) n : Nat) : Int) = ((bitN (miR a b i) n : Nat) : Int)) := andNot_bitN (a i) (b i) hn
      have Hxl := Lib.hid (take_rel_length (miR a b) hin)
      have Hn := Lib.hid (take_rel (miR a b) hlt)
      obtain ⟨cs, hown, hqq⟩ := hrow.out
      rw [take_rel_length (miR a b) hin] at hown
      have Hown : Hid (wr.drew.ownsRow w.heap.size 3 1 v i cs) := hown
      have Hq := Lib.hid hqq
      have hsq := hbw.size
      generalize ((bitN (a i) n : Nat) : Int) = xa at ka Hx
      generalize ((bitN (b i) n : Nat) : Int) = xb at kb Hx
      clear hown hqq hrow ha hb
      go_wp2_with fail
      go_region_law (first | (refine step_append_lies _ (by rfl) _ _ _ (by rfl) w.heap.size 3 i0 _ 1 8 Tryz.underlying24 hi0 hz0 hz1 hz2 rfl (by omega) v i cs (by rfl) (owns_alloc Hown.out _) ⟨wr.heap.size, 0, none⟩ 1 1 [.int .i64 (bits .andNot .i64 xa xb)] (by rfl) (by rfl) (World.news_of_block (cs := #[.int .i64 (bits .andNot .i64 xa xb)]) (t := 3) (fr := (0, 0)) (heap_alloc_new _ _)) (by simp [Value.oneCell']) (by omega) (by simp [maxLen]; omega) (by omega) (by simp; omega) (wr.heap.size + 1) (by simp) ?_; intro gg cap w5 hown1 hgrow hat1 hlt1))
      all_goals
       go_wp2_with fail
       go_roundg (n - (i + 1))
       case measure => omega
       case rel => exact ⟨i + 1, _, by omega, rfl, rfl, by go_num, by rw [Hn.out, ← Hx.out]; exact RowOf.snoc (news := [.int .i64 (bits .andNot .i64 xa xb)]) qint_congr (by rw [Hxl.out]; exact Hown.out) Hq.out rfl rfl (by rw [Hxl.out]; exact hown1), below_grown (hbw.drew.alloc hsq _) hgrow (Nat.le_refl _) (fun g hg => owns_base' Hown.out hg)⟩
    · obtain rfl : i = n := by omega
      rw [List.take_of_length_le (by rw [relN_length]; omega)] at hrow
      go_wp2_with fail
      go_ret
      exact RetRel.mk hrow.out hbw

end Go.Proofs.YtfgpbnncdfcjjaaGreatDoor
