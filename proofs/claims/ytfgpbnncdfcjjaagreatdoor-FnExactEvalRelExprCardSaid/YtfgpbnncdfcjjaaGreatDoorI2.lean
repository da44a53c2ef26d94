/-
  The walks of the program's operations on relations.
-/
import Derived.Test.YtfgpbnncdfcjjaaGreatDoorS3
namespace Go.Proofs.YtfgpbnncdfcjjaaGreatDoor
open Go.RowKit
set_option linter.unusedVariables false
set_option maxRecDepth 100000

theorem bitN_shr (f : Nat → Bool) (n : Nat) : ((bitN f n : Nat) : Int) / 2 ^ n = 0 := by
  have h := bitN_lt f n
  have h1 : ((2 : Int) ^ n) = ((2 ^ n : Nat) : Int) := by simp
  rw [h1, ← Int.natCast_ediv, Nat.div_eq_of_lt h]
  rfl
theorem relV1_any (f : Nat → Bool) (n : Nat) (hn : n ≤ 16) (w : World) (bR : Nat) (A : Option Addr) (c : Nat) (hr : w.cell? ⟨bR, 0, none⟩ = some (.slice A n c)) :
    Calls Tryz.prog 139 #[.int .i64 ((bitN f n : Nat) : Int), .pointer (some ⟨bR, 0, none⟩)] w (RetQ w false) := by
  have h0 : decide (((bitN f n : Nat) : Int) < 0) = false := by rw [decide_eq_false_iff_not]; omega
  have hz := bitN_shr f n
  generalize ((bitN f n : Nat) : Int) = x at h0 hz
  go_enter Tryz.func139, Tryz.ntmps139
  go_wp2_with fail
  go_ret
  exact ⟨rfl, rfl⟩
set_option maxHeartbeats 1000000 in
theorem idxV_any (R : Rel) (n : Nat) (hn : n ≤ 16) (w : World) (bR : Nat) (A : Option Addr) (c : Nat) (h : Ints w A c (relN R n)) (hr : w.cell? ⟨bR, 0, none⟩ = some (.slice A n c)) :
    Calls Tryz.prog 198 #[.slice A n c, .func (.func 139) #[] #[.pointer (some ⟨bR, 0, none⟩)]] w (RetQI w (-1)) := by
  go_enter Tryz.func198, Tryz.ntmps198
  go_wp2_with fail
  go_loopg [5, 8] n (fun g s5 s8 wr => ∃ k : Nat, k ≤ n ∧ g = n - k ∧ s8 = .int .i64 k ∧ w = wr)
  case atStart => exact ⟨0, Nat.zero_le _, rfl, rfl, rfl⟩
  case round =>
    obtain ⟨k, hk, rfl, rfl, rfl⟩ := hrel
    by_cases hlt : k < n
    · have hcall := relV1_any (R k) n hn w bR A c hr
      obtain ⟨bb, o, rfl, hbb, c0⟩ := relN_ints h hlt
      generalize ((bitN (R k) n : Nat) : Int) = x at c0 hcall
      go_wp2_with fail
      refine hcall.mono ?_
      rintro e' w' ⟨rfl, rfl⟩
      go_wp2_with fail
      go_roundg (n - (k + 1))
      case measure => omega
      case rel => exact ⟨k + 1, by omega, rfl, by go_num, rfl⟩
    · obtain rfl : k = n := by omega
      go_wp2_with fail
      go_ret
      exact ⟨rfl, rfl⟩
theorem conV_any (R : Rel) (n : Nat) (hn : n ≤ 16) (w : World) (bR : Nat) (A : Option Addr) (c : Nat) (h : Ints w A c (relN R n)) (hr : w.cell? ⟨bR, 0, none⟩ = some (.slice A n c)) :
    Calls Tryz.prog 138 #[.slice A n c, .func (.func 139) #[] #[.pointer (some ⟨bR, 0, none⟩)]] w (RetQ w false) := by
  go_enter Tryz.func138, Tryz.ntmps138
  go_wp2_with fail
  refine (idxV_any R n hn w bR A c h hr).mono ?_
  rintro e' w' ⟨rfl, rfl⟩
  go_wp2_with fail
  go_ret
  exact ⟨rfl, rfl⟩
theorem relValid_any (R : Rel) (n : Nat) (hn : n ≤ 16) (w : World) (A : Option Addr) (c : Nat) (h : Ints w A c (relN R n)) :
    Calls Tryz.prog 76 #[.slice A n c] w (RetB w true) := by
  obtain ⟨w0, hw0⟩ : ∃ w0, w0 = w.alloc (.cells #[.slice A n c] 24) := ⟨_, rfl⟩
  have o0 : Own w0 w.heap.size 24 #[.slice A n c] := by rw [hw0]; exact Own.new _ _ _
  have hB : Below w.heap.size w w0 := by rw [hw0]; exact (Below.refl _ _).alloc (Nat.le_refl _) _
  have hI := h.le (Le.below hB)
  have q0 := o0.cell (i := 0) (v := .slice A n c) rfl
  have hc := conV_any R n hn w0 w.heap.size A c hI q0
  clear h hI o0
  go_enter Tryz.func76, Tryz.ntmps76
  go_wp2_with fail
  rw [← hw0]
  clear hw0
  go_wp2_with fail
  refine hc.mono ?_
  rintro e' w' ⟨rfl, rfl⟩
  go_wp2_with fail
  go_ret
  exact ⟨rfl, hB⟩
theorem areRels_any (a b : Rel) (n : Nat) (hn : n ≤ 16) (w : World) (A B : Option Addr) (c d : Nat) (ha : Ints w A c (relN a n)) (hb : Ints w B d (relN b n)) :
    Calls Tryz.prog 74 #[.slice A n c, .slice B n d] w (RetB w true) := by
  go_enter Tryz.func74, Tryz.ntmps74
  go_wp2_with fail
  refine (relValid_any a n hn w A c ha).mono ?_
  rintro e1 w1 ⟨rfl, hb1⟩
  go_wp2_with fail
  refine (relValid_any b n hn w1 B d (hb.le (Le.below hb1))).mono ?_
  rintro e2 w2 ⟨rfl, hb2⟩
  go_wp2_with fail
  go_ret
  exact ⟨rfl, hb1.trans (hb2.mono hb1.size)⟩
/-- The rows below i are done. -/
def upR (R : Rel) (i : Nat) : Rel := fun r k => decide (r < i) && R r k
theorem upR_zero (R : Rel) (n : Nat) : relN (upR R 0) n = List.replicate n 0 := relN_none fun i k _ _ => by unfold upR; simp
theorem upR_all (R : Rel) (n : Nat) : relN (upR R n) n = relN R n := relN_congr fun i k hi _ => by unfold upR; simp [hi]
theorem upR_set (R : Rel) (n i : Nat) : (relN (upR R i) n).set i ((bitN (R i) n : Nat) : Int) = relN (upR R (i + 1)) n := by
  have h := relN_set (f := upR R i) (g := upR R (i + 1)) (n := n) (i := i) fun r k _ _ hr => by
    unfold upR
    have : decide (r < i + 1) = decide (r < i) := decide_eq_decide.2 (by omega)
    rw [this]
  have h2 : upR R (i + 1) i = R i := by funext k; unfold upR; simp
  rw [h2] at h
  exact h

theorem byUnion_any (x y : Int) (w : World) : Calls Tryz.prog 80 #[.int .i64 x, .int .i64 y] w (RetQI w (bits .or .i64 x y)) := by
  go_enter Tryz.func80, Tryz.ntmps80
  go_wp2_with fail
  go_ret
  exact ⟨rfl, rfl⟩
set_option maxHeartbeats 2000000 in
theorem comUnion_any (a b : Rel) (n : Nat) (hn : n ≤ 16) (w : World) (A B : Option Addr) (c d : Nat) (ha : Ints w A c (relN a n)) (hb : Ints w B d (relN b n)) :
    Calls Tryz.prog 72 #[.slice A n c, .slice B n d, .func (.func 80) #[] #[]] w (RetRel w (unR a b) n) := by
  have hmk := fun W => run_make_any (P := Tryz.prog) 24 3 _ 1 8 Tryz.underlying24 Tryz.infoInt n (by omega) (by omega) W
  go_enter Tryz.func72, Tryz.ntmps72
  go_wp2_with fail
  refine (areRels_any a b n hn w A B c d ha hb).mono ?_
  rintro e1 w1 ⟨rfl, hb1⟩
  have ha1 := ha.le (Le.below hb1)
  have hb1' := hb.le (Le.below hb1)
  clear ha hb
  have hs1 := hb1.size
  go_wp2_with fail
  clear hmk
  go_loopg [8, 18] n (fun g s8 s18 wr => ∃ i : Nat, i ≤ n ∧ g = n - i ∧ s18 = .int .i64 i ∧ BitR wr w1.heap.size n (relN (upR (unR a b) i) n) ∧ Below w1.heap.size w1 wr)
  case atStart => exact ⟨0, Nat.zero_le _, rfl, rfl, by rw [upR_zero]; simpa using BitR.made w1 n, (Below.refl _ _).alloc (Nat.le_refl _) _⟩
  case round =>
    obtain ⟨i, hin, rfl, rfl, hrow, hbw⟩ := hrel
    by_cases hlt : i < n
    · obtain ⟨ba, oa, rfl, hba, ka⟩ := relN_ints (ha1.le (Le.below hbw)) hlt
      obtain ⟨bb, ob, rfl, hbb, kb⟩ := relN_ints (hb1'.le (Le.below hbw)) hlt
      have Hx : Hid (bits .or .i64 ((bitN (a i) n : Nat) : Int) ((bitN (b i) n : Nat) : Int) = ((bitN (unR a b i) n : Nat) : Int)) := or_bitN (a i) (b i) hn
      have Hs := Lib.hid (upR_set (unR a b) n i)
      have q0 := hrow.cell hlt
      have hfz := hrow.frozen i
      have hBl := hrow.lt
      generalize ((bitN (a i) n : Nat) : Int) = xa at ka Hx
      generalize ((bitN (b i) n : Nat) : Int) = xb at kb Hx
      go_wp2_with fail
      go_region_law (first | (go_simp; go_at_call 80; ((with_reducible refine (byUnion_any _ _ _).mono ?_); rintro e2 w2 ⟨rfl, rfl⟩); go_wp2_with fail))
      all_goals
       go_wp2_with fail
       go_roundg (n - (i + 1))
       case measure => omega
       case rel => exact ⟨i + 1, by omega, rfl, by go_num, by rw [← Hs.out, ← Hx.out]; exact (hrow.set i _).of_block rfl, (hbw.setCell (p := ⟨w1.heap.size, i, none⟩) (Nat.le_refl _) _).drew⟩
    · obtain rfl : i = n := by omega
      rw [upR_all] at hrow
      go_wp2_with fail
      go_ret
      exact .of ((hrow.ret (W := w) hs1 (by omega) (hb1.trans (hbw.mono hs1))))
theorem imUnion_any (a b : Rel) (n : Nat) (hn : n ≤ 16) (w : World) (A B : Option Addr) (c d : Nat) (ha : Ints w A c (relN a n)) (hb : Ints w B d (relN b n)) :
    Calls Tryz.prog 21 #[.slice A n c, .slice B n d] w (RetRel w (unR a b) n) := by
  go_enter Tryz.func21, Tryz.ntmps21
  go_wp2_with fail
  refine (comUnion_any a b n hn w A B c d ha hb).mono ?_
  rintro e1 w1 ⟨A1, c1, rfl, hr1, hb1⟩
  go_wp2_with fail
  go_ret
  exact ⟨A1, c1, rfl, hr1, hb1⟩

theorem byMeet_any (x y : Int) (w : World) : Calls Tryz.prog 101 #[.int .i64 x, .int .i64 y] w (RetQI w (bits .and .i64 x y)) := by
  go_enter Tryz.func101, Tryz.ntmps101
  go_wp2_with fail
  go_ret
  exact ⟨rfl, rfl⟩
set_option maxHeartbeats 2000000 in
theorem comMeet_any (a b : Rel) (n : Nat) (hn : n ≤ 16) (w : World) (A B : Option Addr) (c d : Nat) (ha : Ints w A c (relN a n)) (hb : Ints w B d (relN b n)) :
    Calls Tryz.prog 72 #[.slice A n c, .slice B n d, .func (.func 101) #[] #[]] w (RetRel w (meR a b) n) := by
  have hmk := fun W => run_make_any (P := Tryz.prog) 24 3 _ 1 8 Tryz.underlying24 Tryz.infoInt n (by omega) (by omega) W
  go_enter Tryz.func72, Tryz.ntmps72
  go_wp2_with fail
  refine (areRels_any a b n hn w A B c d ha hb).mono ?_
  rintro e1 w1 ⟨rfl, hb1⟩
  have ha1 := ha.le (Le.below hb1)
  have hb1' := hb.le (Le.below hb1)
  clear ha hb
  have hs1 := hb1.size
  go_wp2_with fail
  clear hmk
  go_loopg [8, 18] n (fun g s8 s18 wr => ∃ i : Nat, i ≤ n ∧ g = n - i ∧ s18 = .int .i64 i ∧ BitR wr w1.heap.size n (relN (upR (meR a b) i) n) ∧ Below w1.heap.size w1 wr)
  case atStart => exact ⟨0, Nat.zero_le _, rfl, rfl, by rw [upR_zero]; simpa using BitR.made w1 n, (Below.refl _ _).alloc (Nat.le_refl _) _⟩
  case round =>
    obtain ⟨i, hin, rfl, rfl, hrow, hbw⟩ := hrel
    by_cases hlt : i < n
    · obtain ⟨ba, oa, rfl, hba, ka⟩ := relN_ints (ha1.le (Le.below hbw)) hlt
      obtain ⟨bb, ob, rfl, hbb, kb⟩ := relN_ints (hb1'.le (Le.below hbw)) hlt
      have Hx : Hid (bits .and .i64 ((bitN (a i) n : Nat) : Int) ((bitN (b i) n : Nat) : Int) = ((bitN (meR a b i) n : Nat) : Int)) := and_bitN (a i) (b i) hn
      have Hs := Lib.hid (upR_set (meR a b) n i)
      have q0 := hrow.cell hlt
      have hfz := hrow.frozen i
      have hBl := hrow.lt
      generalize ((bitN (a i) n : Nat) : Int) = xa at ka Hx
      generalize ((bitN (b i) n : Nat) : Int) = xb at kb Hx
      go_wp2_with fail
      go_region_law (first | (go_simp; go_at_call 101; ((with_reducible refine (byMeet_any _ _ _).mono ?_); rintro e2 w2 ⟨rfl, rfl⟩); go_wp2_with fail))
      all_goals
       go_wp2_with fail
       go_roundg (n - (i + 1))
       case measure => omega
       case rel => exact ⟨i + 1, by omega, rfl, by go_num, by rw [← Hs.out, ← Hx.out]; exact (hrow.set i _).of_block rfl, (hbw.setCell (p := ⟨w1.heap.size, i, none⟩) (Nat.le_refl _) _).drew⟩
    · obtain rfl : i = n := by omega
      rw [upR_all] at hrow
      go_wp2_with fail
      go_ret
      exact .of ((hrow.ret (W := w) hs1 (by omega) (hb1.trans (hbw.mono hs1))))
theorem imMeet_any (a b : Rel) (n : Nat) (hn : n ≤ 16) (w : World) (A B : Option Addr) (c d : Nat) (ha : Ints w A c (relN a n)) (hb : Ints w B d (relN b n)) :
    Calls Tryz.prog 41 #[.slice A n c, .slice B n d] w (RetRel w (meR a b) n) := by
  go_enter Tryz.func41, Tryz.ntmps41
  go_wp2_with fail
  refine (comMeet_any a b n hn w A B c d ha hb).mono ?_
  rintro e1 w1 ⟨A1, c1, rfl, hr1, hb1⟩
  go_wp2_with fail
  go_ret
  exact ⟨A1, c1, rfl, hr1, hb1⟩

theorem byMinus_any (x y : Int) (w : World) : Calls Tryz.prog 73 #[.int .i64 x, .int .i64 y] w (RetQI w (bits .andNot .i64 x y)) := by
  go_enter Tryz.func73, Tryz.ntmps73
  go_wp2_with fail
  go_ret
  exact ⟨rfl, rfl⟩
set_option maxHeartbeats 2000000 in
theorem comMinus_any (a b : Rel) (n : Nat) (hn : n ≤ 16) (w : World) (A B : Option Addr) (c d : Nat) (ha : Ints w A c (relN a n)) (hb : Ints w B d (relN b n)) :
    Calls Tryz.prog 72 #[.slice A n c, .slice B n d, .func (.func 73) #[] #[]] w (RetRel w (miR a b) n) := by
  have hmk := fun W => run_make_any (P := Tryz.prog) 24 3 _ 1 8 Tryz.underlying24 Tryz.infoInt n (by omega) (by omega) W
  go_enter Tryz.func72, Tryz.ntmps72
  go_wp2_with fail
  refine (areRels_any a b n hn w A B c d ha hb).mono ?_
  rintro e1 w1 ⟨rfl, hb1⟩
  have ha1 := ha.le (Le.below hb1)
  have hb1' := hb.le (Le.below hb1)
  clear ha hb
  have hs1 := hb1.size
  go_wp2_with fail
  clear hmk
  go_loopg [8, 18] n (fun g s8 s18 wr => ∃ i : Nat, i ≤ n ∧ g = n - i ∧ s18 = .int .i64 i ∧ BitR wr w1.heap.size n (relN (upR (miR a b) i) n) ∧ Below w1.heap.size w1 wr)
  case atStart => exact ⟨0, Nat.zero_le _, rfl, rfl, by rw [upR_zero]; simpa using BitR.made w1 n, (Below.refl _ _).alloc (Nat.le_refl _) _⟩
  case round =>
    obtain ⟨i, hin, rfl, rfl, hrow, hbw⟩ := hrel
    by_cases hlt : i < n
    · obtain ⟨ba, oa, rfl, hba, ka⟩ := relN_ints (ha1.le (Le.below hbw)) hlt
      obtain ⟨bb, ob, rfl, hbb, kb⟩ := relN_ints (hb1'.le (Le.below hbw)) hlt
      have Hx : Hid (bits .andNot .i64 ((bitN (a i) n : Nat) : Int) ((bitN (b i) n : Nat) : Int) = ((bitN (miR a b i) n : Nat) : Int)) := andNot_bitN (a i) (b i) hn
      have Hs := Lib.hid (upR_set (miR a b) n i)
      have q0 := hrow.cell hlt
      have hfz := hrow.frozen i
      have hBl := hrow.lt
      generalize ((bitN (a i) n : Nat) : Int) = xa at ka Hx
      generalize ((bitN (b i) n : Nat) : Int) = xb at kb Hx
      go_wp2_with fail
      go_region_law (first | (go_simp; go_at_call 73; ((with_reducible refine (byMinus_any _ _ _).mono ?_); rintro e2 w2 ⟨rfl, rfl⟩); go_wp2_with fail))
      all_goals
       go_wp2_with fail
       go_roundg (n - (i + 1))
       case measure => omega
       case rel => exact ⟨i + 1, by omega, rfl, by go_num, by rw [← Hs.out, ← Hx.out]; exact (hrow.set i _).of_block rfl, (hbw.setCell (p := ⟨w1.heap.size, i, none⟩) (Nat.le_refl _) _).drew⟩
    · obtain rfl : i = n := by omega
      rw [upR_all] at hrow
      go_wp2_with fail
      go_ret
      exact .of ((hrow.ret (W := w) hs1 (by omega) (hb1.trans (hbw.mono hs1))))
theorem imMinus_any (a b : Rel) (n : Nat) (hn : n ≤ 16) (w : World) (A B : Option Addr) (c d : Nat) (ha : Ints w A c (relN a n)) (hb : Ints w B d (relN b n)) :
    Calls Tryz.prog 15 #[.slice A n c, .slice B n d] w (RetRel w (miR a b) n) := by
  go_enter Tryz.func15, Tryz.ntmps15
  go_wp2_with fail
  refine (comMinus_any a b n hn w A B c d ha hb).mono ?_
  rintro e1 w1 ⟨A1, c1, rfl, hr1, hb1⟩
  go_wp2_with fail
  go_ret
  exact ⟨A1, c1, rfl, hr1, hb1⟩

end Go.Proofs.YtfgpbnncdfcjjaaGreatDoor
