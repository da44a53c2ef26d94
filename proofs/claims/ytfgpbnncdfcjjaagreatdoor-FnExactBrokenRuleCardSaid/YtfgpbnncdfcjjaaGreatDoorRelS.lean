/-
  Rows of ints that a make has laid, element by element; they become rows of one's own. The walk of impl.related. The walks of the reference's operations on relations. The walks of the reference's composition, inverse, closure, of its tests for cycles and of its count.
-/
import Derived.Test.YtfgpbnncdfcjjaaGreatDoorRel1
import Derived.Test.YtfgpbnncdfcjjaaGreatDoorSl

/-! Rows of ints that a make has laid, element by element; they become rows of one's own. The walk of impl.related. -/
namespace Go.Proofs.YtfgpbnncdfcjjaaGreatDoor
open Go.RowKit
set_option linter.unusedVariables false
set_option maxRecDepth 100000

/-- Block B holds the ints xs, n of them. -/
def BitR (w : World) (B n : Nat) (xs : List Int) : Prop := xs.length = n ∧ w.rowIs B 3 n (fun t => .int .i64 (xs.getD t 0))
namespace BitR
variable {w w' : World} {B n : Nat} {xs : List Int}
theorem made (w : World) (n : Nat) : BitR (w.alloc (.cells (madeCells #[.int .i64 0] n) 3)) w.heap.size n (List.replicate n 0) :=
  ⟨by simp, (World.rowIs_made w (.int .i64 0) n 3).congr fun i hi => by simp [List.getD_eq_getElem?_getD, hi]⟩
theorem cell (h : BitR w B n xs) {i : Nat} (hi : i < n) : w.cell? ⟨B, i, none⟩ = some (.int .i64 (xs.getD i 0)) := h.2.cell hi
theorem frozen (h : BitR w B n xs) (i : Nat) : w.frozen? ⟨B, i, none⟩ = false := h.2.frozen i
theorem lt (h : BitR w B n xs) : B < w.heap.size := h.2.lt
theorem of_block (h : BitR w B n xs) (e : w'.heap[B]? = w.heap[B]?) : BitR w' B n xs := ⟨h.1, h.2.of_block e⟩
theorem under (h : BitR w B n xs) (hb : Below w.heap.size w w') : BitR w' B n xs := h.of_block (hb.block B h.lt)
theorem set (h : BitR w B n xs) (i : Nat) (v : Int) : BitR (w.setCell ⟨B, i, none⟩ (.int .i64 v)) B n (xs.set i v) := by
  refine ⟨by simpa using h.1, (h.2.set i (.int .i64 v)).congr fun j hj => ?_⟩
  have hj' : j < xs.length := by rw [h.1]; exact hj
  by_cases e : j = i
  · subst e
    rw [if_pos rfl]
    simp [List.getD_eq_getElem?_getD, hj']
  · rw [if_neg e]
    simp [List.getD_eq_getElem?_getD, show ¬ i = j from fun h => e h.symm]
theorem row (h : BitR w B n xs) {base : Nat} (hb : base ≤ B) (hn : n ≤ 1000) : RowI w base (.slice (some ⟨B, 0, none⟩) xs.length n) xs := by
  obtain ⟨hl, c, hc, hs, he⟩ := h
  refine row_of_map ⟨by simp, .inr ⟨B, n, c, rfl, hb, hc, by omega, by simp [maxLen]; omega, by rw [hs, Nat.mul_one], ?_⟩⟩
  apply List.ext_getElem?
  intro i
  rw [List.getElem?_take]
  by_cases hi : i < n
  · have hi' : i < xs.length := by omega
    rw [if_pos (by omega), Array.getElem?_toList, he i hi]
    simp [hi']
  · rw [if_neg (by omega)]
    exact (List.getElem?_eq_none (by simp; omega)).symm
theorem ret {W : World} (h : BitR w B n xs) (hB : W.heap.size ≤ B) (hn : n ≤ 1000) (hb : Below W.heap.size W w) : RetRowI W xs (.returned (.slice (some ⟨B, 0, none⟩) n n)) w := by
  have := h.row hB hn
  rw [h.1] at this
  exact ⟨_, n, by rw [h.1], by rw [h.1]; exact this, hb⟩
end BitR

theorem relN_ints {w : World} {A : Option Addr} {c n : Nat} {R : Rel} (h : Ints w A c (relN R n)) {i : Nat} (hi : i < n) : ∃ b o, A = some ⟨b, o, none⟩ ∧ b < w.heap.size ∧ w.cell? ⟨b, o + i, none⟩ = some (.int .i64 ((bitN (R i) n : Nat) : Int)) := by
  obtain ⟨b, o, h1, h2, h3⟩ := h.get (i := i) (by rw [relN_length]; exact hi)
  rw [relN_get] at h3
  exact ⟨b, o, h1, h2, h3⟩

theorem related_any (R : Rel) (n i k : Nat) (hn : n ≤ 16) (hi : i < n) (hk : k < n) (w : World) (A : Option Addr) (c : Nat) (h : Ints w A c (relN R n)) :
    Calls Tryz.prog 75 #[.slice A n c, .int .i64 i, .int .i64 k] w (RetQ w (R i k)) := by
  obtain ⟨b, o, rfl, hb, h0⟩ := relN_ints h hi
  have hv := test_bitN (R i) hn hk
  have Hv := Lib.hid hv
  clear hv
  go_enter Tryz.func75, Tryz.ntmps75
  go_wp2_with fail
  go_ret
  exact ⟨ret_bool Hv.out, rfl⟩

end Go.Proofs.YtfgpbnncdfcjjaaGreatDoor

/-! The walks of the reference's operations on relations. -/
namespace Go.Proofs.YtfgpbnncdfcjjaaGreatDoor
open Go.RowKit
set_option linter.unusedVariables false
set_option maxRecDepth 100000

/-- A relation handed back. -/
def RetRel (w : World) (R : Rel) (n : Nat) (e : Ending) (w' : World) : Prop := ∃ A c, e = .returned (.slice A n c) ∧ RowI w' w.heap.size (.slice A n c) (relN R n) ∧ Below w.heap.size w w'
theorem RetRel.of {w w' : World} {R : Rel} {n : Nat} {e : Ending} (h : RetRowI w (relN R n) e w') : RetRel w R n e w' := by
  obtain ⟨A, c, he, hr, hb⟩ := h
  rw [relN_length] at he hr
  exact ⟨A, c, he, hr, hb⟩
theorem RetRel.mk {w w' : World} {R : Rel} {n : Nat} {v : Value} (h : RowI w' w.heap.size v (relN R n)) (hb : Below w.heap.size w w') : RetRel w R n (.returned v) w' := .of (RetRowI.mk h hb)
theorem row_rel {w : World} {base n : Nat} {R : Rel} {A : Option Addr} {c : Nat} (h : RowI w base (.slice A n c) (relN R n)) : Ints w A c (relN R n) := by
  obtain ⟨A', c', e, h⟩ := RowI.ints h
  injection e with e1 e2 e3
  subst e1 e3
  exact h.le (Le.above _ _)

theorem l2Has_any (R : Rel) (n i k : Nat) (hn : n ≤ 16) (hi : i < n) (hk : k < n) (w : World) (A : Option Addr) (c : Nat) (h : Ints w A c (relN R n)) :
    Calls Tryz.prog 200 #[.slice A n c, .int .i64 i, .int .i64 k] w (RetQ w (R i k)) := by
  obtain ⟨b, o, rfl, hb, h0⟩ := relN_ints h hi
  have hv := test_bitN (R i) hn hk
  have Hv := Lib.hid hv
  clear hv
  go_enter Tryz.func200, Tryz.ntmps200
  go_wp2_with fail
  go_ret
  exact ⟨ret_bool Hv.out, rfl⟩
theorem take_rel (R : Rel) {n i : Nat} (h : i < n) : (relN R n).take (i + 1) = (relN R n).take i ++ [((bitN (R i) n : Nat) : Int)] := by
  rw [List.take_succ_eq_append_getElem (by rw [relN_length]; exact h), relN_get]
theorem take_rel_length (R : Rel) {n i : Nat} (h : i ≤ n) : ((relN R n).take i).length = i := by rw [List.length_take, relN_length]; omega

set_option maxHeartbeats 1000000 in
theorem l2Union_any (a b : Rel) (n : Nat) (hn : n ≤ 16) (w : World) (A B : Option Addr) (c d : Nat) (ha : Ints w A c (relN a n)) (hb : Ints w B d (relN b n)) :
    Calls Tryz.prog 144 #[.slice A n c, .slice B n d] w (RetRel w (unR a b) n) := by
  obtain ⟨i0, hi0, hz0, hz1, hz2⟩ := info_parts Tryz.infoInt
  have hrow0 : RowI (w.alloc (.cells #[] 3)) w.heap.size (.slice (some ⟨w.heap.size, 0, none⟩) 0 0) ((relN (unR a b) n).take 0) := RowOf.made _ (Own.new _ _ _) (Nat.le_refl _)
  have Hrow0 := Lib.hid hrow0
  clear hrow0
  go_enter Tryz.func144, Tryz.ntmps144
  go_wp2_with fail
  go_loopg [5, 6] n (fun g s5 s6 wr => ∃ (i : Nat) (v : Value), i ≤ n ∧ g = n - i ∧ v = s5 ∧ s6 = .int .i64 i ∧ Hid (RowI wr w.heap.size v ((relN (unR a b) n).take i)) ∧ Below w.heap.size w wr)
  case atStart => exact ⟨0, _, Nat.zero_le _, rfl, rfl, rfl, Hrow0.out, (Below.refl _ _).alloc (Nat.le_refl _) _⟩
  case round =>
    obtain ⟨i, v, hin, rfl, rfl, rfl, hrow, hbw⟩ := hrel
    by_cases hlt : i < n
    · obtain ⟨ba, oa, rfl, hba, ka⟩ := relN_ints (ha.le (Le.below hbw)) hlt
      obtain ⟨bb, ob, rfl, hbb, kb⟩ := relN_ints (hb.le (Le.below hbw)) hlt
      have Hx : Hid (bits .or .i64 ((bitN (a i) n : Nat) : Int) ((bitN (b i) n : Nat) : Int) = ((bitN (unR a b i) n : Nat) : Int)) := or_bitN (a i) (b i) hn
      have Hxl := Lib.hid (take_rel_length (unR a b) hin)
      have Hn := Lib.hid (take_rel (unR a b) hlt)
      obtain ⟨cs, hown, hqq⟩ := hrow.out
      rw [take_rel_length (unR a b) hin] at hown
      have Hown : Hid (wr.drew.ownsRow w.heap.size 3 1 v i cs) := hown
      have Hq := Lib.hid hqq
      have hsq := hbw.size
      generalize ((bitN (a i) n : Nat) : Int) = xa at ka Hx
      generalize ((bitN (b i) n : Nat) : Int) = xb at kb Hx
      clear hown hqq hrow ha hb
      go_wp2_with fail
      go_region_law (first | (refine step_append_lies _ (by rfl) _ _ _ (by rfl) w.heap.size 3 i0 _ 1 8 Tryz.underlying24 hi0 hz0 hz1 hz2 rfl (by omega) v i cs (by rfl) (owns_alloc Hown.out _) ⟨wr.heap.size, 0, none⟩ 1 1 [.int .i64 (bits .or .i64 xa xb)] (by rfl) (by rfl) (World.news_of_block (cs := #[.int .i64 (bits .or .i64 xa xb)]) (t := 3) (fr := (0, 0)) (heap_alloc_new _ _)) (by simp [Value.oneCell']) (by omega) (by simp [maxLen]; omega) (by omega) (by simp; omega) (wr.heap.size + 1) (by simp) ?_; intro gg cap w5 hown1 hgrow hat1 hlt1))
      all_goals
       go_wp2_with fail
       go_roundg (n - (i + 1))
       case measure => omega
       case rel => exact ⟨i + 1, _, by omega, rfl, rfl, by go_num, by rw [Hn.out, ← Hx.out]; exact RowOf.snoc (news := [.int .i64 (bits .or .i64 xa xb)]) qint_congr (by rw [Hxl.out]; exact Hown.out) Hq.out rfl rfl (by rw [Hxl.out]; exact hown1), below_grown (hbw.drew.alloc hsq _) hgrow (Nat.le_refl _) (fun g hg => owns_base' Hown.out hg)⟩
    · obtain rfl : i = n := by omega
      rw [List.take_of_length_le (by rw [relN_length]; omega)] at hrow
      go_wp2_with fail
      go_ret
      exact RetRel.mk hrow.out hbw

set_option maxHeartbeats 1000000 in
theorem l2Meet_any (a b : Rel) (n : Nat) (hn : n ≤ 16) (w : World) (A B : Option Addr) (c d : Nat) (ha : Ints w A c (relN a n)) (hb : Ints w B d (relN b n)) :
    Calls Tryz.prog 145 #[.slice A n c, .slice B n d] w (RetRel w (meR a b) n) := by
  obtain ⟨i0, hi0, hz0, hz1, hz2⟩ := info_parts Tryz.infoInt
  have hrow0 : RowI (w.alloc (.cells #[] 3)) w.heap.size (.slice (some ⟨w.heap.size, 0, none⟩) 0 0) ((relN (meR a b) n).take 0) := RowOf.made _ (Own.new _ _ _) (Nat.le_refl _)
  have Hrow0 := Lib.hid hrow0
  clear hrow0
  go_enter Tryz.func145, Tryz.ntmps145
  go_wp2_with fail
  go_loopg [5, 6] n (fun g s5 s6 wr => ∃ (i : Nat) (v : Value), i ≤ n ∧ g = n - i ∧ v = s5 ∧ s6 = .int .i64 i ∧ Hid (RowI wr w.heap.size v ((relN (meR a b) n).take i)) ∧ Below w.heap.size w wr)
  case atStart => exact ⟨0, _, Nat.zero_le _, rfl, rfl, rfl, Hrow0.out, (Below.refl _ _).alloc (Nat.le_refl _) _⟩
  case round =>
    obtain ⟨i, v, hin, rfl, rfl, rfl, hrow, hbw⟩ := hrel
    by_cases hlt : i < n
    · obtain ⟨ba, oa, rfl, hba, ka⟩ := relN_ints (ha.le (Le.below hbw)) hlt
      obtain ⟨bb, ob, rfl, hbb, kb⟩ := relN_ints (hb.le (Le.below hbw)) hlt
      have Hx : Hid (bits .and .i64 ((bitN (a i) n : Nat) : Int) ((bitN (b i) n : Nat) : Int) = ((bitN (meR a b i) n : Nat) : Int)) := and_bitN (a i) (b i) hn
      have Hxl := Lib.hid (take_rel_length (meR a b) hin)
      have Hn := Lib.hid (take_rel (meR a b) hlt)
      obtain ⟨cs, hown, hqq⟩ := hrow.out
      rw [take_rel_length (meR a b) hin] at hown
      have Hown : Hid (wr.drew.ownsRow w.heap.size 3 1 v i cs) := hown
      have Hq := Lib.hid hqq
      have hsq := hbw.size
      generalize ((bitN (a i) n : Nat) : Int) = xa at ka Hx
      generalize ((bitN (b i) n : Nat) : Int) = xb at kb Hx
      clear hown hqq hrow ha hb
      go_wp2_with fail
      go_region_law (first | (refine step_append_lies _ (by rfl) _ _ _ (by rfl) w.heap.size 3 i0 _ 1 8 Tryz.underlying24 hi0 hz0 hz1 hz2 rfl (by omega) v i cs (by rfl) (owns_alloc Hown.out _) ⟨wr.heap.size, 0, none⟩ 1 1 [.int .i64 (bits .and .i64 xa xb)] (by rfl) (by rfl) (World.news_of_block (cs := #[.int .i64 (bits .and .i64 xa xb)]) (t := 3) (fr := (0, 0)) (heap_alloc_new _ _)) (by simp [Value.oneCell']) (by omega) (by simp [maxLen]; omega) (by omega) (by simp; omega) (wr.heap.size + 1) (by simp) ?_; intro gg cap w5 hown1 hgrow hat1 hlt1))
      all_goals
       go_wp2_with fail
       go_roundg (n - (i + 1))
       case measure => omega
       case rel => exact ⟨i + 1, _, by omega, rfl, rfl, by go_num, by rw [Hn.out, ← Hx.out]; exact RowOf.snoc (news := [.int .i64 (bits .and .i64 xa xb)]) qint_congr (by rw [Hxl.out]; exact Hown.out) Hq.out rfl rfl (by rw [Hxl.out]; exact hown1), below_grown (hbw.drew.alloc hsq _) hgrow (Nat.le_refl _) (fun g hg => owns_base' Hown.out hg)⟩
    · obtain rfl : i = n := by omega
      rw [List.take_of_length_le (by rw [relN_length]; omega)] at hrow
      go_wp2_with fail
      go_ret
      exact RetRel.mk hrow.out hbw

set_option maxHeartbeats 1000000 in
theorem l2Minus_any (a b : Rel) (n : Nat) (hn : n ≤ 16) (w : World) (A B : Option Addr) (c d : Nat) (ha : Ints w A c (relN a n)) (hb : Ints w B d (relN b n)) :
    Calls Tryz.prog 146 #[.slice A n c, .slice B n d] w (RetRel w (miR a b) n) := by
  obtain ⟨i0, hi0, hz0, hz1, hz2⟩ := info_parts Tryz.infoInt
  have hrow0 : RowI (w.alloc (.cells #[] 3)) w.heap.size (.slice (some ⟨w.heap.size, 0, none⟩) 0 0) ((relN (miR a b) n).take 0) := RowOf.made _ (Own.new _ _ _) (Nat.le_refl _)
  have Hrow0 := Lib.hid hrow0
  clear hrow0
  go_enter Tryz.func146, Tryz.ntmps146
  go_wp2_with fail
  go_loopg [5, 6] n (fun g s5 s6 wr => ∃ (i : Nat) (v : Value), i ≤ n ∧ g = n - i ∧ v = s5 ∧ s6 = .int .i64 i ∧ Hid (RowI wr w.heap.size v ((relN (miR a b) n).take i)) ∧ Below w.heap.size w wr)
  case atStart => exact ⟨0, _, Nat.zero_le _, rfl, rfl, rfl, Hrow0.out, (Below.refl _ _).alloc (Nat.le_refl _) _⟩
  case round =>
    obtain ⟨i, v, hin, rfl, rfl, rfl, hrow, hbw⟩ := hrel
    by_cases hlt : i < n
    · obtain ⟨ba, oa, rfl, hba, ka⟩ := relN_ints (ha.le (Le.below hbw)) hlt
      obtain ⟨bb, ob, rfl, hbb, kb⟩ := relN_ints (hb.le (Le.below hbw)) hlt
      have Hx : Hid (bits .andNot .i64 ((bitN (a i) n : Nat) : Int) ((bitN (b i) n : Nat) : Int) = ((bitN (miR a b i) n : Nat) : Int)) := andNot_bitN (a i) (b i) hn
      have Hxl := Lib.hid (take_rel_length (miR a b) hin)
      have Hn := Lib.hid (take_rel (miR a b) hlt)
      obtain ⟨cs, hown, hqq⟩ := hrow.out
      rw [take_rel_length (miR a b) hin] at hown
      have Hown : Hid (wr.drew.ownsRow w.heap.size 3 1 v i cs) := hown
      have Hq := Lib.hid hqq
      have hsq := hbw.size
      generalize ((bitN (a i) n : Nat) : Int) = xa at ka Hx
      generalize ((bitN (b i) n : Nat) : Int) = xb at kb Hx
      clear hown hqq hrow ha hb
      go_wp2_with fail
      go_region_law (first | (refine step_append_lies _ (by rfl) _ _ _ (by rfl) w.heap.size 3 i0 _ 1 8 Tryz.underlying24 hi0 hz0 hz1 hz2 rfl (by omega) v i cs (by rfl) (owns_alloc Hown.out _) ⟨wr.heap.size, 0, none⟩ 1 1 [.int .i64 (bits .andNot .i64 xa xb)] (by rfl) (by rfl) (World.news_of_block (cs := #[.int .i64 (bits .andNot .i64 xa xb)]) (t := 3) (fr := (0, 0)) (heap_alloc_new _ _)) (by simp [Value.oneCell']) (by omega) (by simp [maxLen]; omega) (by omega) (by simp; omega) (wr.heap.size + 1) (by simp) ?_; intro gg cap w5 hown1 hgrow hat1 hlt1))
      all_goals
       go_wp2_with fail
       go_roundg (n - (i + 1))
       case measure => omega
       case rel => exact ⟨i + 1, _, by omega, rfl, rfl, by go_num, by rw [Hn.out, ← Hx.out]; exact RowOf.snoc (news := [.int .i64 (bits .andNot .i64 xa xb)]) qint_congr (by rw [Hxl.out]; exact Hown.out) Hq.out rfl rfl (by rw [Hxl.out]; exact hown1), below_grown (hbw.drew.alloc hsq _) hgrow (Nat.le_refl _) (fun g hg => owns_base' Hown.out hg)⟩
    · obtain rfl : i = n := by omega
      rw [List.take_of_length_le (by rw [relN_length]; omega)] at hrow
      go_wp2_with fail
      go_ret
      exact RetRel.mk hrow.out hbw

end Go.Proofs.YtfgpbnncdfcjjaaGreatDoor

/-! The walks of the reference's composition, inverse, closure, of its tests for cycles and of its count. -/
namespace Go.Proofs.YtfgpbnncdfcjjaaGreatDoor
open Go.RowKit
set_option linter.unusedVariables false
set_option maxRecDepth 100000

/-! ### Compositions, row by row -/
def coP (a b : Rel) (m i : Nat) : Nat → Bool := fun k => (List.range m).any fun t => a i t && b t k
theorem coP_all (n : Nat) (a b : Rel) (i : Nat) : coP a b n i = coR n a b i := rfl
theorem coP_zero (a b : Rel) (i n : Nat) : bitN (coP a b 0 i) n = 0 := by
  induction n with
  | zero => rfl
  | succ n ih => rw [bitN, ih, show coP a b 0 i n = false from rfl]; simp
theorem coP_more {a b : Rel} {m i n : Nat} (hn : n ≤ 16) (h : a i m = true) : bits .or .i64 ((bitN (coP a b m i) n : Nat) : Int) ((bitN (b m) n : Nat) : Int) = ((bitN (coP a b (m + 1) i) n : Nat) : Int) := by
  rw [or_bitN _ _ hn]
  congr 2
  funext k
  show (coP a b m i k || b m k) = coP a b (m + 1) i k
  unfold coP
  rw [any_range_succ]
  simp [h]
theorem coP_same {a b : Rel} {m i : Nat} (h : a i m = false) : coP a b (m + 1) i = coP a b m i := by
  funext k
  unfold coP
  rw [any_range_succ]
  simp [h]

/-! ### Relations that are written row by row -/
theorem relN_set {f g : Rel} {n i : Nat} (h : ∀ r k, r < n → k < n → r ≠ i → f r k = g r k) : (relN f n).set i ((bitN (g i) n : Nat) : Int) = relN g n := by
  apply List.ext_getElem
  · simp [relN_length]
  · intro r h1 h2
    have hr : r < n := by rw [relN_length] at h2; exact h2
    rw [relN_get]
    by_cases e : i = r
    · subst e; rw [List.getElem_set_self]
    · rw [List.getElem_set_ne e, relN_get, bitN_congr fun k hk => h r k hr hk (fun e' => e e'.symm)]
theorem relN_getD (f : Rel) {n i : Nat} (h : i < n) : (relN f n).getD i 0 = ((bitN (f i) n : Nat) : Int) := by
  have h1 : i < (relN f n).length := by rw [relN_length]; exact h
  rw [List.getD_eq_getElem?_getD, List.getElem?_eq_getElem h1]
  exact relN_get f n i h1
theorem relN_none {f : Rel} {n : Nat} (h : ∀ i k, i < n → k < n → f i k = false) : relN f n = List.replicate n 0 := by
  apply List.ext_getElem
  · simp [relN_length]
  · intro r h1 h2
    have hr : r < n := by rw [relN_length] at h1; exact h1
    rw [relN_get, List.getElem_replicate]
    have : bitN (f r) n = 0 := by
      rw [bitN_congr (g := fun _ => false) fun k hk => h r k hr hk]
      exact Nat.eq_of_testBit_eq fun k => by rw [bitN_bit]; simp
    rw [this]
    rfl
/-- The inverse, the rows below i and the pairs below k of row i being done. -/
def invP (a : Rel) (i k : Nat) : Rel := fun t s => a s t && (decide (s < i) || (decide (s = i) && decide (t < k)))
theorem invP_zero (a : Rel) (n : Nat) : relN (invP a 0 0) n = List.replicate n 0 := relN_none fun i k _ _ => by unfold invP; simp
theorem invP_all (a : Rel) (n : Nat) : relN (invP a n 0) n = relN (inR a) n := relN_congr fun i k _ hk => by
  show (a k i && (decide (k < n) || _)) = a k i
  simp [hk]
theorem invP_next (a : Rel) (n i : Nat) : relN (invP a i n) n = relN (invP a (i + 1) 0) n := relN_congr fun t s ht _ => by
  unfold invP
  by_cases e : s = i
  · subst e; simp [ht]
  · have : decide (s < i + 1) = decide (s < i) := decide_eq_decide.2 (by omega)
    simp [this, e]
theorem invP_same {a : Rel} {n i k : Nat} (h : a i k = false) : relN (invP a i (k + 1)) n = relN (invP a i k) n := relN_congr fun t s _ _ => by
  unfold invP
  by_cases e : t = k ∧ s = i
  · obtain ⟨rfl, rfl⟩ := e
    simp [h]
  · by_cases e2 : s = i
    · have : decide (t < k + 1) = decide (t < k) := decide_eq_decide.2 (by omega)
      simp [this]
    · simp [e2]
theorem invP_more {a : Rel} {n i k : Nat} (hn : n ≤ 16) (hi : i < n) (h : a i k = true) : bits .or .i64 ((bitN (invP a i k k) n : Nat) : Int) (IntKind.i64.wrap ((2 : Int) ^ i)) = ((bitN (invP a i (k + 1) k) n : Nat) : Int) := by
  rw [set_bitN _ hn hi]
  congr 2
  funext s
  unfold invP
  by_cases e : s = i
  · subst e; simp [h]
  · simp [e]
theorem invP_set {a : Rel} {n i k : Nat} : (relN (invP a i k) n).set k ((bitN (invP a i (k + 1) k) n : Nat) : Int) = relN (invP a i (k + 1)) n := relN_set fun r s _ _ hr => by
  unfold invP
  have : decide (r < k + 1) = decide (r < k) := decide_eq_decide.2 (by omega)
  rw [this]
/-- The closure, m middles being done and of the next one the rows below i. -/
def clM (a : Rel) (m i : Nat) : Rel := fun r k => if r < i then clR (m + 1) a r k else clR m a r k
theorem clM_zero (a : Rel) (m : Nat) : clM a m 0 = clR m a := rfl
theorem clM_all (a : Rel) (m n : Nat) : relN (clM a m n) n = relN (clM a (m + 1) 0) n := relN_congr fun r k hr _ => by
  show (if r < n then clR (m + 1) a r k else clR m a r k) = clR (m + 1) a r k
  rw [if_pos hr]
theorem clM_row (a : Rel) (m i : Nat) : clM a m i i = clR m a i := by
  funext k
  show (if i < i then _ else _) = _
  rw [if_neg (Nat.lt_irrefl _)]
theorem clM_mid (a : Rel) (m i : Nat) : clM a m i m = clR m a m := by
  funext k
  show (if m < i then (clR m a m k || (clR m a m m && clR m a m k)) else clR m a m k) = clR m a m k
  split
  · cases clR m a m k <;> simp
  · rfl
theorem clM_same {a : Rel} {m i n : Nat} (h : clR m a i m = false) : relN (clM a m (i + 1)) n = relN (clM a m i) n := relN_congr fun r k _ _ => by
  show (if r < i + 1 then clR (m + 1) a r k else clR m a r k) = (if r < i then clR (m + 1) a r k else clR m a r k)
  by_cases e : r = i
  · subst e
    rw [if_pos (by omega), if_neg (by omega)]
    show (clR m a r k || (clR m a r m && clR m a m k)) = clR m a r k
    rw [h]
    simp
  · by_cases h2 : r < i
    · rw [if_pos h2, if_pos (by omega)]
    · rw [if_neg h2, if_neg (by omega)]
theorem clM_more {a : Rel} {m i n : Nat} (hn : n ≤ 16) (h : clR m a i m = true) : bits .or .i64 ((bitN (clR m a i) n : Nat) : Int) ((bitN (clR m a m) n : Nat) : Int) = ((bitN (clM a m (i + 1) i) n : Nat) : Int) := by
  rw [or_bitN _ _ hn]
  congr 2
  funext k
  show _ = (if i < i + 1 then (clR m a i k || (clR m a i m && clR m a m k)) else _)
  rw [if_pos (by omega), h]
  simp
theorem clM_set {a : Rel} {m i n : Nat} : (relN (clM a m i) n).set i ((bitN (clM a m (i + 1) i) n : Nat) : Int) = relN (clM a m (i + 1)) n := relN_set fun r k _ _ hr => by
  show (if r < i then _ else _) = (if r < i + 1 then _ else _)
  by_cases h2 : r < i
  · rw [if_pos h2, if_pos (by omega)]
  · rw [if_neg h2, if_neg (by omega)]

set_option maxHeartbeats 2000000 in
theorem l2Compose_any (a b : Rel) (n : Nat) (hn : n ≤ 16) (w : World) (A B : Option Addr) (c d : Nat) (ha : Ints w A c (relN a n)) (hb : Ints w B d (relN b n)) :
    Calls Tryz.prog 147 #[.slice A n c, .slice B n d] w (RetRel w (coR n a b) n) := by
  obtain ⟨i0, hi0, hz0, hz1, hz2⟩ := info_parts Tryz.infoInt
  have hrow0 : RowI (w.alloc (.cells #[] 3)) w.heap.size (.slice (some ⟨w.heap.size, 0, none⟩) 0 0) ((relN (coR n a b) n).take 0) := RowOf.made _ (Own.new _ _ _) (Nat.le_refl _)
  have Hrow0 := Lib.hid hrow0
  clear hrow0
  go_enter Tryz.func147, Tryz.ntmps147
  go_wp2_with fail
  go_loopg [5, 6, 7, 8] n (fun g s5 s6 s7 s8 wr => ∃ (i : Nat) (v : Value), i ≤ n ∧ g = n - i ∧ v = s5 ∧ s6 = .int .i64 i ∧ Hid (RowI wr w.heap.size v ((relN (coR n a b) n).take i)) ∧ Below w.heap.size w wr)
  case atStart => exact ⟨0, _, Nat.zero_le _, rfl, rfl, rfl, Hrow0.out, (Below.refl _ _).alloc (Nat.le_refl _) _⟩
  case round =>
    obtain ⟨i, v, hin, rfl, rfl, rfl, hrow, hbw⟩ := hrel
    by_cases hlt : i < n
    · have har := ha.le (Le.below hbw)
      have hbr := hb.le (Le.below hbw)
      have Hz : Hid (((bitN (coP a b 0 i) n : Nat) : Int) = 0) := by show _ = _; rw [coP_zero]; rfl
      go_wp2_with fail
      go_loopg [7, 8] n (fun g s7 s8 wq => ∃ k : Nat, k ≤ n ∧ g = n - k ∧ s7 = .int .i64 ((bitN (coP a b k i) n : Nat) : Int) ∧ s8 = .int .i64 k ∧ wr = wq)
      case atStart => exact ⟨0, Nat.zero_le _, rfl, by rw [Hz.out], rfl, rfl⟩
      case round =>
        obtain ⟨k, hkn, rfl, rfl, rfl, rfl⟩ := hrel
        by_cases hltk : k < n
        · have hc := l2Has_any a n i k hn hlt hltk wr A c har
          cases hR : a i k
          · rw [hR] at hc
            have Hn := Lib.hid (coP_same (a := a) (b := b) hR)
            clear hR
            go_wp2_with fail
            refine hc.mono ?_
            rintro e5 w5 ⟨rfl, rfl⟩
            clear hc
            go_wp2_with fail
            go_roundg (n - (k + 1))
            case measure => omega
            case rel => exact ⟨k + 1, by omega, rfl, by rw [Hn.out], by go_num, rfl⟩
          · rw [hR] at hc
            have Hn := Lib.hid (coP_more (a := a) (b := b) hn hR)
            obtain ⟨bb, ob, rfl, hbb, kb⟩ := relN_ints hbr hltk
            clear hR
            generalize ((bitN (b k) n : Nat) : Int) = xb at kb Hn
            go_wp2_with fail
            refine hc.mono ?_
            rintro e5 w5 ⟨rfl, rfl⟩
            clear hc
            go_wp2_with fail
            go_roundg (n - (k + 1))
            case measure => omega
            case rel => exact ⟨k + 1, by omega, rfl, by rw [Hn.out], by go_num, rfl⟩
        · obtain rfl : k = n := by omega
          have Hxl := Lib.hid (take_rel_length (coR k a b) hin)
          have Hn : Hid ((relN (coR k a b) k).take (i + 1) = (relN (coR k a b) k).take i ++ [((bitN (coP a b k i) k : Nat) : Int)]) := take_rel (coR k a b) hlt
          obtain ⟨cs, hown, hqq⟩ := hrow.out
          rw [take_rel_length (coR k a b) hin] at hown
          have Hown := Lib.hid hown
          have Hq := Lib.hid hqq
          have hsq := hbw.size
          generalize ((bitN (coP a b k i) k : Nat) : Int) = xa at Hn ⊢
          clear hown hqq hrow har hbr
          go_wp2_with (at_builtin; refine wpList_append_lies _ (by rfl) _ _ _ (by rfl) w.heap.size 3 i0 _ 1 8 Tryz.underlying24 hi0 hz0 hz1 hz2 rfl (by omega) v i cs (by rfl) (owns_alloc Hown.out _) ⟨wr.heap.size, 0, none⟩ 1 1 [.int .i64 xa] (by rfl) (by rfl) (World.news_of_block (cs := #[.int .i64 xa]) (t := 3) (fr := (0, 0)) (heap_alloc_new _ _)) (by simp [Value.oneCell']) (by omega) (by simp [maxLen]; omega) (by omega) (by simp; omega) (wr.heap.size + 1) (by simp) ?_; intro gg cap w5 hown1 hgrow hat1 hlt1)
          go_roundg (k - (i + 1))
          case measure => omega
          case rel => exact ⟨i + 1, _, by omega, rfl, rfl, by go_num, by rw [Hn.out]; exact RowOf.snoc (news := [.int .i64 xa]) qint_congr (by rw [Hxl.out]; exact Hown.out) Hq.out rfl rfl (by rw [Hxl.out]; exact hown1), below_grown (hbw.alloc hsq _) hgrow (Nat.le_refl _) (fun g hg => owns_base' Hown.out hg)⟩
    · obtain rfl : i = n := by omega
      rw [List.take_of_length_le (by rw [relN_length]; omega)] at hrow
      go_wp2_with fail
      go_ret
      exact RetRel.mk hrow.out hbw

set_option maxHeartbeats 2000000 in
theorem l2Inverse_any (a : Rel) (n : Nat) (hn : n ≤ 16) (w : World) (A : Option Addr) (c : Nat) (ha : Ints w A c (relN a n)) :
    Calls Tryz.prog 142 #[.slice A n c] w (RetRel w (inR a) n) := by
  have hmk := run_make_any (P := Tryz.prog) 24 3 _ 1 8 Tryz.underlying24 Tryz.infoInt n (by omega) (by omega)
  go_enter Tryz.func142, Tryz.ntmps142
  go_wp2_with fail
  clear hmk
  go_loopg [4, 5] n (fun g s4 s5 wr => ∃ i : Nat, i ≤ n ∧ g = n - i ∧ s4 = .int .i64 i ∧ BitR wr w.heap.size n (relN (invP a i 0) n) ∧ Below w.heap.size w wr)
  case atStart => exact ⟨0, Nat.zero_le _, rfl, rfl, by rw [invP_zero]; simpa using BitR.made w n, (Below.refl _ _).alloc (Nat.le_refl _) _⟩
  case round =>
    obtain ⟨i, hin, rfl, rfl, hrow, hb⟩ := hrel
    by_cases hlt : i < n
    · go_wp2_with fail
      go_loopg [5] n (fun g s5 wq => ∃ k : Nat, k ≤ n ∧ g = n - k ∧ s5 = .int .i64 k ∧ BitR wq w.heap.size n (relN (invP a i k) n) ∧ Below w.heap.size w wq)
      case atStart => exact ⟨0, Nat.zero_le _, rfl, rfl, hrow, hb⟩
      case round =>
        obtain ⟨k, hkn, rfl, rfl, hrow2, hbq⟩ := hrel
        by_cases hltk : k < n
        · have hc := l2Has_any a n i k hn hlt hltk wr A c (ha.le (Le.below hbq))
          cases hR : a i k
          · rw [hR] at hc
            have Hn := Lib.hid (invP_same (n := n) hR)
            clear hR
            go_wp2_with fail
            refine hc.mono ?_
            rintro e5 w5 ⟨rfl, rfl⟩
            clear hc
            go_wp2_with fail
            go_roundg (n - (k + 1))
            case measure => omega
            case rel => exact ⟨k + 1, by omega, rfl, by go_num, by rw [Hn.out]; exact hrow2, hbq⟩
          · rw [hR] at hc
            have Hs := Lib.hid (invP_set (a := a) (n := n) (i := i) (k := k))
            have Hn := Lib.hid (invP_more hn hlt hR)
            clear hR
            go_wp2_with fail
            refine hc.mono ?_
            rintro e5 w5 ⟨rfl, rfl⟩
            have q0 := hrow2.cell hltk
            rw [relN_getD _ hltk] at q0
            have hfz := hrow2.frozen k
            clear hc
            go_wp2_with fail
            go_region_with (fail)
            all_goals (go_wp2_with fail)
            go_roundg (n - (k + 1))
            case measure => omega
            case rel => exact ⟨k + 1, by omega, rfl, by go_num, by rw [← IntWalk.i64_left, Hn.out, ← Hs.out]; exact (hrow2.set k _).of_block rfl, (hbq.setCell (p := ⟨w.heap.size, k, none⟩) (Nat.le_refl _) _).drew⟩
        · obtain rfl : k = n := by omega
          go_wp2_with fail
          go_roundg (k - (i + 1))
          case measure => omega
          case rel => exact ⟨i + 1, by omega, rfl, by go_num, by rw [← invP_next]; exact hrow2, hbq⟩
    · obtain rfl : i = n := by omega
      rw [invP_all] at hrow
      go_wp2_with fail
      go_ret
      exact .of (hrow.ret (Nat.le_refl _) (by omega) hb)

theorem l2Loose_any (a : Rel) (n : Nat) (hn : n ≤ 16) (w : World) (A : Option Addr) (c : Nat) (ha : Ints w A c (relN a n)) :
    Calls Tryz.prog 210 #[.slice A n c] w (RetQ w (irB a n)) := by
  go_enter Tryz.func210, Tryz.ntmps210
  go_wp2_with fail
  go_loopg [3] n (fun g s3 wr => ∃ i : Nat, i ≤ n ∧ g = n - i ∧ s3 = .int .i64 i ∧ Hid (irB a i = true) ∧ w = wr)
  case atStart => exact ⟨0, Nat.zero_le _, rfl, rfl, (by show _ = _; rfl), rfl⟩
  case round =>
    obtain ⟨i, hin, rfl, rfl, hpre, rfl⟩ := hrel
    by_cases hlt : i < n
    · have hc := l2Has_any a n i i hn hlt hlt w A c ha
      cases hR : a i i
      · rw [hR] at hc
        have Hn : Hid (irB a (i + 1) = true) := by
          show _ = _
          have := hpre.out
          unfold irB at this ⊢
          rw [any_range_succ, hR, Bool.or_false]
          exact this
        clear hR
        go_wp2_with fail
        refine hc.mono ?_
        rintro e5 w5 ⟨rfl, rfl⟩
        clear hc
        go_wp2_with fail
        go_roundg (n - (i + 1))
        case measure => omega
        case rel => exact ⟨i + 1, by omega, rfl, by go_num, Hn.out, rfl⟩
      · rw [hR] at hc
        have Hn : Hid (irB a n = false) := by
          show _ = _
          unfold irB
          rw [Bool.not_eq_false', List.any_eq_true]
          exact ⟨i, List.mem_range.2 hlt, hR⟩
        clear hR
        go_wp2_with fail
        refine hc.mono ?_
        rintro e5 w5 ⟨rfl, rfl⟩
        clear hc
        go_wp2_with fail
        go_ret
        exact ⟨ret_bool Hn.out.symm, rfl⟩
    · obtain rfl : i = n := by omega
      go_wp2_with fail
      go_ret
      exact ⟨ret_bool hpre.out.symm, rfl⟩

set_option maxHeartbeats 1000000 in
theorem l2Count_any (a : Rel) (n : Nat) (hn : n ≤ 16) (w : World) (A : Option Addr) (c : Nat) (ha : Ints w A c (relN a n)) :
    Calls Tryz.prog 211 #[.slice A n c] w (RetQI w (cntR a n n : Nat)) := by
  go_enter Tryz.func211, Tryz.ntmps211
  go_wp2_with fail
  go_loopg [3, 4, 5] n (fun g s3 s4 s5 wr => ∃ i : Nat, i ≤ n ∧ g = n - i ∧ s3 = .int .i64 ((cntR a n i : Nat) : Int) ∧ s4 = .int .i64 i ∧ w = wr)
  case atStart => exact ⟨0, Nat.zero_le _, rfl, rfl, rfl, rfl⟩
  case round =>
    obtain ⟨i, hin, rfl, rfl, rfl, rfl⟩ := hrel
    by_cases hlt : i < n
    · have hci : cntR a n i ≤ 256 := by
        have h1 := cntR_le a n i
        have h2 : i * n ≤ 16 * 16 := Nat.mul_le_mul (by omega) hn
        omega
      have Hci : Hid (cntR a n (i + 1) = cntR a n i + cntN (a i) n) := rfl
      generalize cntR a n i = ci at hci Hci
      go_wp2_with fail
      go_loopg [3, 5] n (fun g s3 s5 wq => ∃ k : Nat, k ≤ n ∧ g = n - k ∧ s3 = .int .i64 ((ci + cntN (a i) k : Nat) : Int) ∧ s5 = .int .i64 k ∧ w = wq)
      case atStart => exact ⟨0, Nat.zero_le _, rfl, rfl, rfl, rfl⟩
      case round =>
        obtain ⟨k, hkn, rfl, rfl, rfl, rfl⟩ := hrel
        by_cases hltk : k < n
        · have hc := l2Has_any a n i k hn hlt hltk w A c ha
          have hk16 := cntN_le (a i) k
          cases hR : a i k
          · rw [hR] at hc
            have Hn : Hid (cntN (a i) (k + 1) = cntN (a i) k) := by show _ = _; rw [cntN, hR]; rfl
            clear hR
            go_wp2_with fail
            refine hc.mono ?_
            rintro e5 w5 ⟨rfl, rfl⟩
            clear hc
            go_wp2_with fail
            go_roundg (n - (k + 1))
            case measure => omega
            case rel => exact ⟨k + 1, by omega, rfl, by rw [Hn.out, Int.natCast_add], by go_num, rfl⟩
          · rw [hR] at hc
            have Hn : Hid (cntN (a i) (k + 1) = cntN (a i) k + 1) := by show _ = _; rw [cntN, hR]; rfl
            clear hR
            go_wp2_with fail
            refine hc.mono ?_
            rintro e5 w5 ⟨rfl, rfl⟩
            clear hc
            go_wp2_with fail
            go_roundg (n - (k + 1))
            case measure => omega
            case rel => exact ⟨k + 1, by omega, rfl, by rw [Hn.out]; go_num, by go_num, rfl⟩
        · obtain rfl : k = n := by omega
          go_wp2_with fail
          go_roundg (k - (i + 1))
          case measure => omega
          case rel => exact ⟨i + 1, by omega, rfl, by rw [Hci.out], by go_num, rfl⟩
    · obtain rfl : i = n := by omega
      go_wp2_with fail
      go_ret
      exact ⟨rfl, rfl⟩

set_option maxHeartbeats 2000000 in
theorem l2Closure_any (a : Rel) (n : Nat) (hn : n ≤ 16) (w : World) (A : Option Addr) (c : Nat) (ha : Ints w A c (relN a n)) :
    Calls Tryz.prog 143 #[.slice A n c] w (RetRel w (clR n a) n) := by
  obtain ⟨i0, hi0, hz0, hz1, hz2⟩ := info_parts Tryz.infoInt
  have hlr := relN_length a n
  have Ha : Hid (Ints (w.alloc (.cells #[] 3)) A c (relN a n)) := ha.le (Le.alloc _ _)
  have HE := Lib.hid (Own.new w 3 #[])
  have hres : Hid (relN a n = relN (clM a 0 0) n) := rfl
  obtain ⟨xs, hxs⟩ : ∃ xs, xs = relN a n := ⟨_, rfl⟩
  rw [← hxs] at Ha hlr hres
  have hlx : xs.length = n := hlr
  clear hxs ha hlr
  subst hlx
  go_enter Tryz.func143, Tryz.ntmps143
  go_wp2_with (at_builtin; refine wpList_append_list (by rfl) _ _ _ (by rfl) qint_congr (R := RInt) w.heap.size 3 i0 _ 8 Tryz.underlying24 hi0 hz0 hz1 hz2 rfl (by omega) (.slice (some ⟨w.heap.size, 0, none⟩) 0 0) [] (by rfl) (RowOf.made _ HE.out (Nat.le_refl _)) A c xs (by rfl) Ha.out (fun cs y h => h) qint_one (by simp [maxLen]; omega) (by simp; omega) (by simp) (w.heap.size + 1) (by simp) ?_; intro A5 c5 w5 hrow5 hgrow5 hat5; rw [List.nil_append] at hrow5 hat5; have hs5 := World.grownBy.size hgrow5; simp only [World.size_alloc] at hs5)
  have hrow5' : RowI w5 w.heap.size (.slice A5 xs.length c5) xs := hrow5
  have hB5 : Below w.heap.size w w5 := below_grown ((Below.refl w.heap.size w).alloc (Nat.le_refl _) _) hgrow5 (Nat.le_refl _) (fun g hg => by simp only [Value.ownBlock, Option.some.injEq] at hg; omega)
  have Hrow5 : Hid (RowI w5 w.heap.size (.slice A5 xs.length c5) (relN (clM a 0 0) xs.length)) := by show RowI _ _ _ _; rw [← hres.out]; exact hrow5'
  clear hrow5 hrow5' hgrow5 hat5 HE Ha hres
  go_wp2_with fail
  go_loopg [4, 5] xs.length (fun g s4 s5 wr => ∃ m : Nat, m ≤ xs.length ∧ g = xs.length - m ∧ s4 = .int .i64 m ∧ Hid (RowI wr w.heap.size (.slice A5 xs.length c5) (relN (clM a m 0) xs.length)) ∧ Below w.heap.size w wr)
  case atStart => exact ⟨0, Nat.zero_le _, rfl, rfl, Hrow5.out, hB5⟩
  case round =>
    obtain ⟨m, hmn, rfl, rfl, hrow, hb⟩ := hrel
    by_cases hltm : m < xs.length
    · go_wp2_with fail
      go_loopg [5] xs.length (fun g s5 wq => ∃ i : Nat, i ≤ xs.length ∧ g = xs.length - i ∧ s5 = .int .i64 i ∧ Hid (RowI wq w.heap.size (.slice A5 xs.length c5) (relN (clM a m i) xs.length)) ∧ Below w.heap.size w wq)
      case atStart => exact ⟨0, Nat.zero_le _, rfl, rfl, hrow.out, hb⟩
      case round =>
        obtain ⟨i, hin, rfl, rfl, hrow2, hbq⟩ := hrel
        by_cases hlt : i < xs.length
        · have hI := row_rel hrow2.out
          obtain ⟨g, rfl, hg1, hg2, hfz, hcell⟩ := RowI.at hrow2.out (i := i) (by rw [relN_length]; exact hlt)
          have hc := l2Has_any (clM a m i) xs.length i m hn hlt hltm wr _ c5 hI
          rw [clM_row] at hc
          have q0 := hcell i (by rw [relN_length]; exact hlt)
          have q1 := hcell m (by rw [relN_length]; exact hltm)
          rw [relN_getD _ hlt, clM_row] at q0
          rw [relN_getD _ hltm, clM_mid] at q1
          have f0 := hfz i
          cases hR : clR m a i m
          · rw [hR] at hc
            have Hn := Lib.hid (clM_same (n := xs.length) hR)
            clear hR
            go_wp2_with fail
            refine hc.mono ?_
            rintro e5 w6 ⟨rfl, rfl⟩
            clear hc
            go_wp2_with fail
            go_roundg (xs.length - (i + 1))
            case measure => omega
            case rel => exact ⟨i + 1, by omega, rfl, by go_num, by rw [Hn.out]; exact hrow2.out, hbq⟩
          · rw [hR] at hc
            have Hn := Lib.hid (clM_more hn hR)
            have Hs := Lib.hid (clM_set (a := a) (m := m) (i := i) (n := xs.length))
            clear hR hI
            generalize ((bitN (clR m a i) xs.length : Nat) : Int) = x1 at q0 Hn
            generalize ((bitN (clR m a m) xs.length : Nat) : Int) = x2 at q1 Hn
            go_wp2_with fail
            refine hc.mono ?_
            rintro e5 w6 ⟨rfl, rfl⟩
            clear hc
            go_wp2_with fail
            go_region_with (fail)
            all_goals
             go_wp2_with fail
             go_roundg (xs.length - (i + 1))
             case measure => omega
             case rel => exact ⟨i + 1, by omega, rfl, by go_num, by rw [← Hs.out, ← Hn.out]; exact RowI.set hrow2.out (by rw [relN_length]; exact hlt) _, (hbq.setCell (p := ⟨g, i, none⟩) hg1 _).drew⟩
        · obtain rfl : i = xs.length := by omega
          go_wp2_with fail
          go_roundg (xs.length - (m + 1))
          case measure => omega
          case rel => exact ⟨m + 1, by omega, rfl, by go_num, by rw [← clM_all]; exact hrow2.out, hbq⟩
    · obtain rfl : m = xs.length := by omega
      rw [clM_zero] at hrow
      go_wp2_with fail
      go_ret
      exact ⟨A5, c5, rfl, hrow.out, hb⟩
theorem l2Acyclic_any (a : Rel) (n : Nat) (hn : n ≤ 16) (w : World) (A : Option Addr) (c : Nat) (ha : Ints w A c (relN a n)) :
    Calls Tryz.prog 209 #[.slice A n c] w (RetB w (acB a n)) := by
  have hc := l2Closure_any a n hn w A c ha
  go_enter Tryz.func209, Tryz.ntmps209
  go_wp2_with fail
  refine hc.mono ?_
  rintro e1 w1 ⟨A1, c1, rfl, hrow1, hb1⟩
  have hl := l2Loose_any (clR n a) n hn w1 A1 c1 (row_rel hrow1)
  go_wp2_with fail
  refine hl.mono ?_
  rintro e2 w2 ⟨rfl, rfl⟩
  go_wp2_with fail
  go_ret
  exact ⟨rfl, hb1⟩

end Go.Proofs.YtfgpbnncdfcjjaaGreatDoor
