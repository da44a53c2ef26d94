/-
  The walks of the program's operations on relations. The walks of the program's composition, inverse and closure, and of its tests for cycles.
-/
import Derived.Test.YtfgpbnncdfcjjaaGreatDoorRelS

/-! The walks of the program's operations on relations. -/
namespace Go.Proofs.YtfgpbnncdfcjjaaGreatDoor
open Go.RowKit
set_option linter.unusedVariables false
set_option maxRecDepth 100000

theorem bitN_shr (f : Nat → Bool) (n : Nat) : ((bitN f n : Nat) : Int) / 2 ^ n = 0 := by
  have h := bitN_lt f n
  have h1 : ((2 : Int) ^ n) = ((2 ^ n : Nat) : Int) := by simp
  rw [h1, ← Int.natCast_ediv, Nat.div_eq_of_lt h]
  rfl
theorem relV1_any (f : Nat → Bool) (n : Nat) (hn : n ≤ 16) (w : World) (bR : Nat) (A : Option Addr) (c : Nat) (hr : w.cell? ⟨bR, 0, none⟩ = some (.slice A n c)) :
    Calls Tryz.prog 139 #[.int .i64 ((bitN f n : Nat) : Int), .pointer (some ⟨bR, 0, none⟩)] w (RetQ w false) := by
  have h0 : decide (((bitN f n : Nat) : Int) < 0) = false := by rw [decide_eq_false_iff_not]; omega
  have hz := bitN_shr f n
  generalize ((bitN f n : Nat) : Int) = x at h0 hz
  go_enter Tryz.func139, Tryz.ntmps139
  go_wp2_with fail
  go_ret
  exact ⟨rfl, rfl⟩
set_option maxHeartbeats 1000000 in
theorem idxV_any (R : Rel) (n : Nat) (hn : n ≤ 16) (w : World) (bR : Nat) (A : Option Addr) (c : Nat) (h : Ints w A c (relN R n)) (hr : w.cell? ⟨bR, 0, none⟩ = some (.slice A n c)) :
    Calls Tryz.prog 198 #[.slice A n c, .func (.func 139) #[] #[.pointer (some ⟨bR, 0, none⟩)]] w (RetQI w (-1)) := by
  go_enter Tryz.func198, Tryz.ntmps198
  go_wp2_with fail
  go_loopg [5, 8] n (fun g s5 s8 wr => ∃ k : Nat, k ≤ n ∧ g = n - k ∧ s8 = .int .i64 k ∧ w = wr)
  case atStart => exact ⟨0, Nat.zero_le _, rfl, rfl, rfl⟩
  case round =>
    obtain ⟨k, hk, rfl, rfl, rfl⟩ := hrel
    by_cases hlt : k < n
    · have hcall := relV1_any (R k) n hn w bR A c hr
      obtain ⟨bb, o, rfl, hbb, c0⟩ := relN_ints h hlt
      generalize ((bitN (R k) n : Nat) : Int) = x at c0 hcall
      go_wp2_with fail
      refine hcall.mono ?_
      rintro e' w' ⟨rfl, rfl⟩
      go_wp2_with fail
      go_roundg (n - (k + 1))
      case measure => omega
      case rel => exact ⟨k + 1, by omega, rfl, by go_num, rfl⟩
    · obtain rfl : k = n := by omega
      go_wp2_with fail
      go_ret
      exact ⟨rfl, rfl⟩
theorem conV_any (R : Rel) (n : Nat) (hn : n ≤ 16) (w : World) (bR : Nat) (A : Option Addr) (c : Nat) (h : Ints w A c (relN R n)) (hr : w.cell? ⟨bR, 0, none⟩ = some (.slice A n c)) :
    Calls Tryz.prog 138 #[.slice A n c, .func (.func 139) #[] #[.pointer (some ⟨bR, 0, none⟩)]] w (RetQ w false) := by
  go_enter Tryz.func138, Tryz.ntmps138
  go_wp2_with fail
  refine (idxV_any R n hn w bR A c h hr).mono ?_
  rintro e' w' ⟨rfl, rfl⟩
  go_wp2_with fail
  go_ret
  exact ⟨rfl, rfl⟩
theorem relValid_any (R : Rel) (n : Nat) (hn : n ≤ 16) (w : World) (A : Option Addr) (c : Nat) (h : Ints w A c (relN R n)) :
    Calls Tryz.prog 76 #[.slice A n c] w (RetB w true) := by
  obtain ⟨w0, hw0⟩ : ∃ w0, w0 = w.alloc (.cells #[.slice A n c] 24) := ⟨_, rfl⟩
  have o0 : Own w0 w.heap.size 24 #[.slice A n c] := by rw [hw0]; exact Own.new _ _ _
  have hB : Below w.heap.size w w0 := by rw [hw0]; exact (Below.refl _ _).alloc (Nat.le_refl _) _
  have hI := h.le (Le.below hB)
  have q0 := o0.cell (i := 0) (v := .slice A n c) rfl
  have hc := conV_any R n hn w0 w.heap.size A c hI q0
  clear h hI o0
  go_enter Tryz.func76, Tryz.ntmps76
  go_wp2_with fail
  rw [← hw0]
  clear hw0
  go_wp2_with fail
  refine hc.mono ?_
  rintro e' w' ⟨rfl, rfl⟩
  go_wp2_with fail
  go_ret
  exact ⟨rfl, hB⟩
theorem areRels_any (a b : Rel) (n : Nat) (hn : n ≤ 16) (w : World) (A B : Option Addr) (c d : Nat) (ha : Ints w A c (relN a n)) (hb : Ints w B d (relN b n)) :
    Calls Tryz.prog 74 #[.slice A n c, .slice B n d] w (RetB w true) := by
  go_enter Tryz.func74, Tryz.ntmps74
  go_wp2_with fail
  refine (relValid_any a n hn w A c ha).mono ?_
  rintro e1 w1 ⟨rfl, hb1⟩
  go_wp2_with fail
  refine (relValid_any b n hn w1 B d (hb.le (Le.below hb1))).mono ?_
  rintro e2 w2 ⟨rfl, hb2⟩
  go_wp2_with fail
  go_ret
  exact ⟨rfl, hb1.trans (hb2.mono hb1.size)⟩
/-- The rows below i are done. -/
def upR (R : Rel) (i : Nat) : Rel := fun r k => decide (r < i) && R r k
theorem upR_zero (R : Rel) (n : Nat) : relN (upR R 0) n = List.replicate n 0 := relN_none fun i k _ _ => by unfold upR; simp
theorem upR_all (R : Rel) (n : Nat) : relN (upR R n) n = relN R n := relN_congr fun i k hi _ => by unfold upR; simp [hi]
theorem upR_set (R : Rel) (n i : Nat) : (relN (upR R i) n).set i ((bitN (R i) n : Nat) : Int) = relN (upR R (i + 1)) n := by
  have h := relN_set (f := upR R i) (g := upR R (i + 1)) (n := n) (i := i) fun r k _ _ hr => by
    unfold upR
    have : decide (r < i + 1) = decide (r < i) := decide_eq_decide.2 (by omega)
    rw [this]
  have h2 : upR R (i + 1) i = R i := by funext k; unfold upR; simp
  rw [h2] at h
  exact h

theorem byUnion_any (x y : Int) (w : World) : Calls Tryz.prog 80 #[.int .i64 x, .int .i64 y] w (RetQI w (bits .or .i64 x y)) := by
  go_enter Tryz.func80, Tryz.ntmps80
  go_wp2_with fail
  go_ret
  exact ⟨rfl, rfl⟩
set_option maxHeartbeats 2000000 in
theorem comUnion_any (a b : Rel) (n : Nat) (hn : n ≤ 16) (w : World) (A B : Option Addr) (c d : Nat) (ha : Ints w A c (relN a n)) (hb : Ints w B d (relN b n)) :
    Calls Tryz.prog 72 #[.slice A n c, .slice B n d, .func (.func 80) #[] #[]] w (RetRel w (unR a b) n) := by
  have hmk := fun W => run_make_any (P := Tryz.prog) 24 3 _ 1 8 Tryz.underlying24 Tryz.infoInt n (by omega) (by omega) W
  go_enter Tryz.func72, Tryz.ntmps72
  go_wp2_with fail
  refine (areRels_any a b n hn w A B c d ha hb).mono ?_
  rintro e1 w1 ⟨rfl, hb1⟩
  have ha1 := ha.le (Le.below hb1)
  have hb1' := hb.le (Le.below hb1)
  clear ha hb
  have hs1 := hb1.size
  go_wp2_with fail
  clear hmk
  go_loopg [8, 18] n (fun g s8 s18 wr => ∃ i : Nat, i ≤ n ∧ g = n - i ∧ s18 = .int .i64 i ∧ BitR wr w1.heap.size n (relN (upR (unR a b) i) n) ∧ Below w1.heap.size w1 wr)
  case atStart => exact ⟨0, Nat.zero_le _, rfl, rfl, by rw [upR_zero]; simpa using BitR.made w1 n, (Below.refl _ _).alloc (Nat.le_refl _) _⟩
  case round =>
    obtain ⟨i, hin, rfl, rfl, hrow, hbw⟩ := hrel
    by_cases hlt : i < n
    · obtain ⟨ba, oa, rfl, hba, ka⟩ := relN_ints (ha1.le (Le.below hbw)) hlt
      obtain ⟨bb, ob, rfl, hbb, kb⟩ := relN_ints (hb1'.le (Le.below hbw)) hlt
      have Hx : Hid (bits .or .i64 ((bitN (a i) n : Nat) : Int) ((bitN (b i) n : Nat) : Int) = ((bitN (unR a b i) n : Nat) : Int)) := or_bitN (a i) (b i) hn
      have Hs := Lib.hid (upR_set (unR a b) n i)
      have q0 := hrow.cell hlt
      have hfz := hrow.frozen i
      have hBl := hrow.lt
      generalize ((bitN (a i) n : Nat) : Int) = xa at ka Hx
      generalize ((bitN (b i) n : Nat) : Int) = xb at kb Hx
      go_wp2_with fail
      go_region_law (first | (go_simp; go_at_call 80; ((with_reducible refine (byUnion_any _ _ _).mono ?_); rintro e2 w2 ⟨rfl, rfl⟩); go_wp2_with fail))
      all_goals
       go_wp2_with fail
       go_roundg (n - (i + 1))
       case measure => omega
       case rel => exact ⟨i + 1, by omega, rfl, by go_num, by rw [← Hs.out, ← Hx.out]; exact (hrow.set i _).of_block rfl, (hbw.setCell (p := ⟨w1.heap.size, i, none⟩) (Nat.le_refl _) _).drew⟩
    · obtain rfl : i = n := by omega
      rw [upR_all] at hrow
      go_wp2_with fail
      go_ret
      exact .of ((hrow.ret (W := w) hs1 (by omega) (hb1.trans (hbw.mono hs1))))
theorem imUnion_any (a b : Rel) (n : Nat) (hn : n ≤ 16) (w : World) (A B : Option Addr) (c d : Nat) (ha : Ints w A c (relN a n)) (hb : Ints w B d (relN b n)) :
    Calls Tryz.prog 21 #[.slice A n c, .slice B n d] w (RetRel w (unR a b) n) := by
  go_enter Tryz.func21, Tryz.ntmps21
  go_wp2_with fail
  refine (comUnion_any a b n hn w A B c d ha hb).mono ?_
  rintro e1 w1 ⟨A1, c1, rfl, hr1, hb1⟩
  go_wp2_with fail
  go_ret
  exact ⟨A1, c1, rfl, hr1, hb1⟩

theorem byMeet_any (x y : Int) (w : World) : Calls Tryz.prog 101 #[.int .i64 x, .int .i64 y] w (RetQI w (bits .and .i64 x y)) := by
  go_enter Tryz.func101, Tryz.ntmps101
  go_wp2_with fail
  go_ret
  exact ⟨rfl, rfl⟩
set_option maxHeartbeats 2000000 in
theorem comMeet_any (a b : Rel) (n : Nat) (hn : n ≤ 16) (w : World) (A B : Option Addr) (c d : Nat) (ha : Ints w A c (relN a n)) (hb : Ints w B d (relN b n)) :
    Calls Tryz.prog 72 #[.slice A n c, .slice B n d, .func (.func 101) #[] #[]] w (RetRel w (meR a b) n) := by
  have hmk := fun W => run_make_any (P := Tryz.prog) 24 3 _ 1 8 Tryz.underlying24 Tryz.infoInt n (by omega) (by omega) W
  go_enter Tryz.func72, Tryz.ntmps72
  go_wp2_with fail
  refine (areRels_any a b n hn w A B c d ha hb).mono ?_
  rintro e1 w1 ⟨rfl, hb1⟩
  have ha1 := ha.le (Le.below hb1)
  have hb1' := hb.le (Le.below hb1)
  clear ha hb
  have hs1 := hb1.size
  go_wp2_with fail
  clear hmk
  go_loopg [8, 18] n (fun g s8 s18 wr => ∃ i : Nat, i ≤ n ∧ g = n - i ∧ s18 = .int .i64 i ∧ BitR wr w1.heap.size n (relN (upR (meR a b) i) n) ∧ Below w1.heap.size w1 wr)
  case atStart => exact ⟨0, Nat.zero_le _, rfl, rfl, by rw [upR_zero]; simpa using BitR.made w1 n, (Below.refl _ _).alloc (Nat.le_refl _) _⟩
  case round =>
    obtain ⟨i, hin, rfl, rfl, hrow, hbw⟩ := hrel
    by_cases hlt : i < n
    · obtain ⟨ba, oa, rfl, hba, ka⟩ := relN_ints (ha1.le (Le.below hbw)) hlt
      obtain ⟨bb, ob, rfl, hbb, kb⟩ := relN_ints (hb1'.le (Le.below hbw)) hlt
      have Hx : Hid (bits .and .i64 ((bitN (a i) n : Nat) : Int) ((bitN (b i) n : Nat) : Int) = ((bitN (meR a b i) n : Nat) : Int)) := and_bitN (a i) (b i) hn
      have Hs := Lib.hid (upR_set (meR a b) n i)
      have q0 := hrow.cell hlt
      have hfz := hrow.frozen i
      have hBl := hrow.lt
      generalize ((bitN (a i) n : Nat) : Int) = xa at ka Hx
      generalize ((bitN (b i) n : Nat) : Int) = xb at kb Hx
      go_wp2_with fail
      go_region_law (first | (go_simp; go_at_call 101; ((with_reducible refine (byMeet_any _ _ _).mono ?_); rintro e2 w2 ⟨rfl, rfl⟩); go_wp2_with fail))
      all_goals
       go_wp2_with fail
       go_roundg (n - (i + 1))
       case measure => omega
       case rel => exact ⟨i + 1, by omega, rfl, by go_num, by rw [← Hs.out, ← Hx.out]; exact (hrow.set i _).of_block rfl, (hbw.setCell (p := ⟨w1.heap.size, i, none⟩) (Nat.le_refl _) _).drew⟩
    · obtain rfl : i = n := by omega
      rw [upR_all] at hrow
      go_wp2_with fail
      go_ret
      exact .of ((hrow.ret (W := w) hs1 (by omega) (hb1.trans (hbw.mono hs1))))
theorem imMeet_any (a b : Rel) (n : Nat) (hn : n ≤ 16) (w : World) (A B : Option Addr) (c d : Nat) (ha : Ints w A c (relN a n)) (hb : Ints w B d (relN b n)) :
    Calls Tryz.prog 41 #[.slice A n c, .slice B n d] w (RetRel w (meR a b) n) := by
  go_enter Tryz.func41, Tryz.ntmps41
  go_wp2_with fail
  refine (comMeet_any a b n hn w A B c d ha hb).mono ?_
  rintro e1 w1 ⟨A1, c1, rfl, hr1, hb1⟩
  go_wp2_with fail
  go_ret
  exact ⟨A1, c1, rfl, hr1, hb1⟩

theorem byMinus_any (x y : Int) (w : World) : Calls Tryz.prog 73 #[.int .i64 x, .int .i64 y] w (RetQI w (bits .andNot .i64 x y)) := by
  go_enter Tryz.func73, Tryz.ntmps73
  go_wp2_with fail
  go_ret
  exact ⟨rfl, rfl⟩
set_option maxHeartbeats 2000000 in
theorem comMinus_any (a b : Rel) (n : Nat) (hn : n ≤ 16) (w : World) (A B : Option Addr) (c d : Nat) (ha : Ints w A c (relN a n)) (hb : Ints w B d (relN b n)) :
    Calls Tryz.prog 72 #[.slice A n c, .slice B n d, .func (.func 73) #[] #[]] w (RetRel w (miR a b) n) := by
  have hmk := fun W => run_make_any (P := Tryz.prog) 24 3 _ 1 8 Tryz.underlying24 Tryz.infoInt n (by omega) (by omega) W
  go_enter Tryz.func72, Tryz.ntmps72
  go_wp2_with fail
  refine (areRels_any a b n hn w A B c d ha hb).mono ?_
  rintro e1 w1 ⟨rfl, hb1⟩
  have ha1 := ha.le (Le.below hb1)
  have hb1' := hb.le (Le.below hb1)
  clear ha hb
  have hs1 := hb1.size
  go_wp2_with fail
  clear hmk
  go_loopg [8, 18] n (fun g s8 s18 wr => ∃ i : Nat, i ≤ n ∧ g = n - i ∧ s18 = .int .i64 i ∧ BitR wr w1.heap.size n (relN (upR (miR a b) i) n) ∧ Below w1.heap.size w1 wr)
  case atStart => exact ⟨0, Nat.zero_le _, rfl, rfl, by rw [upR_zero]; simpa using BitR.made w1 n, (Below.refl _ _).alloc (Nat.le_refl _) _⟩
  case round =>
    obtain ⟨i, hin, rfl, rfl, hrow, hbw⟩ := hrel
    by_cases hlt : i < n
    · obtain ⟨ba, oa, rfl, hba, ka⟩ := relN_ints (ha1.le (Le.below hbw)) hlt
      obtain ⟨bb, ob, rfl, hbb, kb⟩ := relN_ints (hb1'.le (Le.below hbw)) hlt
      have Hx : Hid (bits .andNot .i64 ((bitN (a i) n : Nat) : Int) ((bitN (b i) n : Nat) : Int) = ((bitN (miR a b i) n : Nat) : Int)) := andNot_bitN (a i) (b i) hn
      have Hs := Lib.hid (upR_set (miR a b) n i)
      have q0 := hrow.cell hlt
      have hfz := hrow.frozen i
      have hBl := hrow.lt
      generalize ((bitN (a i) n : Nat) : Int) = xa at ka Hx
      generalize ((bitN (b i) n : Nat) : Int) = xb at kb Hx
      go_wp2_with fail
      go_region_law (first | (go_simp; go_at_call 73; ((with_reducible refine (byMinus_any _ _ _).mono ?_); rintro e2 w2 ⟨rfl, rfl⟩); go_wp2_with fail))
      all_goals
       go_wp2_with fail
       go_roundg (n - (i + 1))
       case measure => omega
       case rel => exact ⟨i + 1, by omega, rfl, by go_num, by rw [← Hs.out, ← Hx.out]; exact (hrow.set i _).of_block rfl, (hbw.setCell (p := ⟨w1.heap.size, i, none⟩) (Nat.le_refl _) _).drew⟩
    · obtain rfl : i = n := by omega
      rw [upR_all] at hrow
      go_wp2_with fail
      go_ret
      exact .of ((hrow.ret (W := w) hs1 (by omega) (hb1.trans (hbw.mono hs1))))
theorem imMinus_any (a b : Rel) (n : Nat) (hn : n ≤ 16) (w : World) (A B : Option Addr) (c d : Nat) (ha : Ints w A c (relN a n)) (hb : Ints w B d (relN b n)) :
    Calls Tryz.prog 15 #[.slice A n c, .slice B n d] w (RetRel w (miR a b) n) := by
  go_enter Tryz.func15, Tryz.ntmps15
  go_wp2_with fail
  refine (comMinus_any a b n hn w A B c d ha hb).mono ?_
  rintro e1 w1 ⟨A1, c1, rfl, hr1, hb1⟩
  go_wp2_with fail
  go_ret
  exact ⟨A1, c1, rfl, hr1, hb1⟩

end Go.Proofs.YtfgpbnncdfcjjaaGreatDoor

/-! The walks of the program's composition, inverse and closure, and of its tests for cycles. -/
namespace Go.Proofs.YtfgpbnncdfcjjaaGreatDoor
open Go.RowKit
set_option linter.unusedVariables false
set_option maxRecDepth 100000

/-- The composition, the rows below i being done and of row i the middles below m. -/
def coM (a b : Rel) (n i m : Nat) : Rel := fun r k => if r < i then coP a b n r k else if r = i then coP a b m i k else false
theorem coP_none (a b : Rel) (i k : Nat) : coP a b 0 i k = false := rfl
theorem coM_zero (a b : Rel) (n : Nat) : relN (coM a b n 0 0) n = List.replicate n 0 := relN_none fun i k _ _ => by
  unfold coM
  rw [if_neg (Nat.not_lt_zero _)]
  split
  · rfl
  · rfl
theorem coM_next (a b : Rel) (n i : Nat) : relN (coM a b n i n) n = relN (coM a b n (i + 1) 0) n := relN_congr fun r k _ _ => by
  unfold coM
  by_cases h1 : r < i
  · rw [if_pos h1, if_pos (by omega)]
  · rw [if_neg h1]
    by_cases h2 : r = i
    · subst h2
      rw [if_pos rfl, if_pos (by omega)]
    · rw [if_neg h2, if_neg (by omega)]
      split <;> rfl
theorem coM_all (a b : Rel) (n : Nat) : relN (coM a b n n 0) n = relN (coR n a b) n := relN_congr fun r k hr _ => by
  show (if r < n then coP a b n r k else _) = coP a b n r k
  rw [if_pos hr]
theorem coM_row (a b : Rel) (n i m : Nat) : coM a b n i m i = coP a b m i := by
  funext k
  unfold coM
  rw [if_neg (Nat.lt_irrefl _), if_pos rfl]
theorem coM_same {a b : Rel} {n i m : Nat} (h : a i m = false) : relN (coM a b n i (m + 1)) n = relN (coM a b n i m) n := relN_congr fun r k _ _ => by
  unfold coM
  rw [coP_same h]
theorem coM_set (a b : Rel) (n i m : Nat) : (relN (coM a b n i m) n).set i ((bitN (coP a b (m + 1) i) n : Nat) : Int) = relN (coM a b n i (m + 1)) n := by
  have h := relN_set (f := coM a b n i m) (g := coM a b n i (m + 1)) (n := n) (i := i) fun r k _ _ hr => by
    unfold coM
    rw [if_neg hr, if_neg hr]
  rw [coM_row] at h
  exact h

set_option maxHeartbeats 2000000 in
theorem imCompose_any (a b : Rel) (n : Nat) (hn : n ≤ 16) (w : World) (A B : Option Addr) (c d : Nat) (ha : Ints w A c (relN a n)) (hb : Ints w B d (relN b n)) :
    Calls Tryz.prog 16 #[.slice A n c, .slice B n d] w (RetRel w (coR n a b) n) := by
  have hmk := fun W => run_make_any (P := Tryz.prog) 24 3 _ 1 8 Tryz.underlying24 Tryz.infoInt n (by omega) (by omega) W
  go_enter Tryz.func16, Tryz.ntmps16
  go_wp2_with fail
  refine (areRels_any a b n hn w A B c d ha hb).mono ?_
  rintro e1 w1 ⟨rfl, hb1⟩
  have ha1 := ha.le (Le.below hb1)
  have hb1' := hb.le (Le.below hb1)
  clear ha hb
  have hs1 := hb1.size
  go_wp2_with fail
  clear hmk
  go_loopg [6, 7, 17, 22] n (fun g s6 s7 s17 s22 wr => ∃ i : Nat, i ≤ n ∧ g = n - i ∧ s17 = .int .i64 i ∧ BitR wr w1.heap.size n (relN (coM a b n i 0) n) ∧ Below w1.heap.size w1 wr)
  case atStart => exact ⟨0, Nat.zero_le _, rfl, rfl, by rw [coM_zero]; simpa using BitR.made w1 n, (Below.refl _ _).alloc (Nat.le_refl _) _⟩
  case round =>
    obtain ⟨i, hin, rfl, rfl, hrow, hbw⟩ := hrel
    by_cases hlt : i < n
    · go_wp2_with fail
      go_loopg [7, 22] n (fun g s7 s22 wq => ∃ m : Nat, m ≤ n ∧ g = n - m ∧ s22 = .int .i64 m ∧ BitR wq w1.heap.size n (relN (coM a b n i m) n) ∧ Below w1.heap.size w1 wq)
      case atStart => exact ⟨0, Nat.zero_le _, rfl, rfl, hrow, hbw⟩
      case round =>
        obtain ⟨m, hmn, rfl, rfl, hrow2, hbq⟩ := hrel
        by_cases hltm : m < n
        · have hc := related_any a n i m hn hlt hltm wr A c (ha1.le (Le.below hbq))
          cases hR : a i m
          · rw [hR] at hc
            have Hn := Lib.hid (coM_same (a := a) (b := b) (n := n) hR)
            clear hR
            go_wp2_with fail
            refine hc.mono ?_
            rintro e5 w5 ⟨rfl, rfl⟩
            clear hc
            go_wp2_with fail
            go_roundg (n - (m + 1))
            case measure => omega
            case rel => exact ⟨m + 1, by omega, rfl, by go_num, by rw [Hn.out]; exact hrow2, hbq⟩
          · rw [hR] at hc
            have Hs := Lib.hid (coM_set a b n i m)
            have Hn := Lib.hid (coP_more (a := a) (b := b) hn hR)
            obtain ⟨bb, ob, rfl, hbb, kb⟩ := relN_ints (hb1'.le (Le.below hbq)) hltm
            have q0 := hrow2.cell hlt
            rw [relN_getD _ hlt, coM_row] at q0
            have hfz := hrow2.frozen i
            have hBl := hrow2.lt
            clear hR
            generalize ((bitN (b m) n : Nat) : Int) = xb at kb Hn
            generalize ((bitN (coP a b m i) n : Nat) : Int) = xa at q0 Hn
            go_wp2_with fail
            refine hc.mono ?_
            rintro e5 w5 ⟨rfl, rfl⟩
            clear hc
            go_wp2_with fail
            go_region_with (fail)
            all_goals
             go_wp2_with fail
             go_roundg (n - (m + 1))
             case measure => omega
             case rel => exact ⟨m + 1, by omega, rfl, by go_num, by rw [← Hs.out, ← Hn.out]; exact (hrow2.set i _).of_block rfl, (hbq.setCell (p := ⟨w1.heap.size, i, none⟩) (Nat.le_refl _) _).drew⟩
        · obtain rfl : m = n := by omega
          go_wp2_with fail
          go_roundg (m - (i + 1))
          case measure => omega
          case rel => exact ⟨i + 1, by omega, rfl, by go_num, by rw [← coM_next]; exact hrow2, hbq⟩
    · obtain rfl : i = n := by omega
      rw [coM_all] at hrow
      go_wp2_with fail
      go_ret
      exact .of (hrow.ret (W := w) hs1 (by omega) (hb1.trans (hbw.mono hs1)))

theorem inv1_any (R : Rel) (n i k : Nat) (hn : n ≤ 16) (hi : i < n) (hk : k < n) (w : World) (bR : Nat) (A : Option Addr) (c : Nat) (h : Ints w A c (relN R n)) (hr : w.cell? ⟨bR, 0, none⟩ = some (.slice A n c)) :
    Calls Tryz.prog 78 #[.int .i64 i, .int .i64 k, .pointer (some ⟨bR, 0, none⟩)] w (RetQ w (inR R i k)) := by
  go_enter Tryz.func78, Tryz.ntmps78
  go_wp2_with fail
  refine (related_any R n k i hn hk hi w A c h).mono ?_
  rintro e5 w5 ⟨rfl, rfl⟩
  go_wp2_with fail
  go_ret
  exact ⟨rfl, rfl⟩
set_option maxHeartbeats 4000000 in
theorem pairsInv_any (R : Rel) (n : Nat) (hn : n ≤ 16) (w : World) (bR : Nat)
    (hcall : ∀ i k : Nat, i < n → k < n → ∀ W, Below w.heap.size w W → Calls Tryz.prog 78 #[.int .i64 i, .int .i64 k, .pointer (some ⟨bR, 0, none⟩)] W (RetQ W (R i k))) :
    Calls Tryz.prog 77 #[.int .i64 n, .func (.func 78) #[] #[.pointer (some ⟨bR, 0, none⟩)]] w (RetRowI w (relN R n)) := by
  have hmk := run_make_any (P := Tryz.prog) 24 3 _ 1 8 Tryz.underlying24 Tryz.infoInt n (by omega) (by omega)
  have Hcall := Lib.hid hcall
  clear hcall
  go_enter Tryz.func77, Tryz.ntmps77
  go_wp2_with fail
  clear hmk
  go_loopg [6, 7, 11, 15] n (fun g s6 s7 s11 s15 wr => ∃ i : Nat, i ≤ n ∧ g = n - i ∧ s11 = .int .i64 i ∧ BitR wr w.heap.size n (midR R n i 0) ∧ Below w.heap.size w wr)
  case atStart => exact ⟨0, Nat.zero_le _, rfl, rfl, by rw [midR_zero]; simpa using BitR.made w n, (Below.refl _ _).alloc (Nat.le_refl _) _⟩
  case round =>
    obtain ⟨i, hin, rfl, rfl, hrow, hb⟩ := hrel
    by_cases hlt : i < n
    · go_wp2_with fail
      go_loopg [7, 15] n (fun g s7 s15 wq => ∃ k : Nat, k ≤ n ∧ g = n - k ∧ s15 = .int .i64 k ∧ BitR wq w.heap.size n (midR R n i k) ∧ Below w.heap.size w wq)
      case atStart => exact ⟨0, Nat.zero_le _, rfl, rfl, hrow, hb⟩
      case round =>
        obtain ⟨k, hkn, rfl, rfl, hrow2, hbq⟩ := hrel
        by_cases hltk : k < n
        · have hc := Hcall.out i k hlt hltk _ hbq
          cases hR : R i k
          · rw [hR] at hc
            have Hn := Lib.hid (midR_same R n i k hR)
            clear hR
            go_wp2_with fail
            refine hc.mono ?_
            rintro e5 w5 ⟨rfl, rfl⟩
            clear hc
            go_wp2_with fail
            go_roundg (n - (k + 1))
            case measure => omega
            case rel => exact ⟨k + 1, by omega, rfl, by go_num, by rw [Hn.out]; exact hrow2, hbq⟩
          · rw [hR] at hc
            have Hs := Lib.hid (midR_set R n i k)
            have Hn := Lib.hid (bitN_step (R i) k (by omega) hR)
            clear hR
            go_wp2_with fail
            refine hc.mono ?_
            rintro e5 w5 ⟨rfl, rfl⟩
            have q0 := hrow2.cell hlt
            have hg : (midR R n i k).getD i 0 = ((bitN (R i) k : Nat) : Int) := by
              have h1 : i < (midR R n i k).length := by rw [midR_length]; exact hlt
              rw [List.getD_eq_getElem?_getD, List.getElem?_eq_getElem h1]
              exact midR_get R n i k h1
            rw [hg] at q0
            have hfz := hrow2.frozen i
            clear hc hg
            go_wp2_with fail
            go_region_with (fail)
            all_goals (go_wp2_with fail)
            go_roundg (n - (k + 1))
            case measure => omega
            case rel => exact ⟨k + 1, by omega, rfl, by go_num, by rw [← IntWalk.i64_left, Hn.out, ← Hs.out]; exact (hrow2.set i _).of_block rfl, (hbq.setCell (p := ⟨w.heap.size, i, none⟩) (Nat.le_refl _) _).drew⟩
        · obtain rfl : k = n := by omega
          go_wp2_with fail
          go_roundg (k - (i + 1))
          case measure => omega
          case rel => exact ⟨i + 1, by omega, rfl, by go_num, by rw [← midR_next]; exact hrow2, hbq⟩
    · obtain rfl : i = n := by omega
      rw [midR_all] at hrow
      go_wp2_with fail
      go_ret
      exact hrow.ret (Nat.le_refl _) (by omega) hb
theorem imInverse_any (R : Rel) (n : Nat) (hn : n ≤ 16) (w : World) (A : Option Addr) (c : Nat) (h : Ints w A c (relN R n)) :
    Calls Tryz.prog 17 #[.slice A n c] w (RetRel w (inR R) n) := by
  obtain ⟨w0, hw0⟩ : ∃ w0, w0 = w.alloc (.cells #[.slice A n c] 24) := ⟨_, rfl⟩
  have o0 : Own w0 w.heap.size 24 #[.slice A n c] := by rw [hw0]; exact Own.new _ _ _
  have hB : Below w.heap.size w w0 := by rw [hw0]; exact (Below.refl _ _).alloc (Nat.le_refl _) _
  have hI := h.le (Le.below hB)
  have q0 := o0.cell (i := 0) (v := .slice A n c) rfl
  go_enter Tryz.func17, Tryz.ntmps17
  go_wp2_with fail
  rw [← hw0]
  clear hw0
  go_wp2_with fail
  refine (relValid_any R n hn w0 A c hI).mono ?_
  rintro e1 w1 ⟨rfl, hb1⟩
  have hB1 := hB.trans (hb1.mono hB.size)
  have q1 := Le.below hb1 _ _ q0
  have hI1 := hI.le (Le.below hb1)
  clear q0 h hI o0
  go_wp2_with fail
  refine (pairsInv_any (inR R) n hn w1 w.heap.size fun i k hi hk W hW => inv1_any R n i k hn hi hk W w.heap.size A c (hI1.le (Le.below hW)) (Le.below hW _ _ q1)).mono ?_
  rintro e2 w2 ⟨A2, c2, rfl, hr2, hb2⟩
  rw [relN_length] at hr2 ⊢
  go_wp2_with fail
  go_ret
  exact ⟨A2, c2, rfl, hr2.rebase fun g hg => Nat.le_trans hB1.size (hr2.blk hg).1, hB1.trans (hb2.mono hB1.size)⟩

set_option maxHeartbeats 2000000 in
theorem imClosure_any (a : Rel) (n : Nat) (hn : n ≤ 16) (w : World) (A : Option Addr) (c : Nat) (ha : Ints w A c (relN a n)) :
    Calls Tryz.prog 19 #[.slice A n c] w (RetRel w (clR n a) n) := by
  have hcl := fun W (hI : Ints W A c (relN a n)) => cloneI_any (relN a n) W A c hI (by rw [relN_length]; omega)
  simp only [relN_length] at hcl
  go_enter Tryz.func19, Tryz.ntmps19
  go_wp2_with fail
  refine (relValid_any a n hn w A c ha).mono ?_
  rintro e1 w1 ⟨rfl, hb1⟩
  have hs1 := hb1.size
  have hc1 := hcl w1 (ha.le (Le.below hb1))
  clear hcl
  go_wp2_with fail
  refine hc1.mono ?_
  rintro e5 w5 ⟨A5, c5, rfl, hrow5, hb5⟩
  rw [relN_length] at hrow5 ⊢
  have hrow5' : Hid (RowI w5 w1.heap.size (.slice A5 n c5) (relN (clM a 0 0) n)) := hrow5
  have hB5 := hb5
  clear hrow5 hc1
  go_wp2_with fail
  go_loopg [4, 5, 13, 18] n (fun g s4 s5 s13 s18 wr => ∃ m : Nat, m ≤ n ∧ g = n - m ∧ s13 = .int .i64 m ∧ Hid (RowI wr w1.heap.size (.slice A5 n c5) (relN (clM a m 0) n)) ∧ Below w1.heap.size w1 wr)
  case atStart => exact ⟨0, Nat.zero_le _, rfl, rfl, hrow5'.out, hB5⟩
  case round =>
    obtain ⟨m, hmn, rfl, rfl, hrow, hb⟩ := hrel
    by_cases hltm : m < n
    · go_wp2_with fail
      go_loopg [5, 18] n (fun g s5 s18 wq => ∃ i : Nat, i ≤ n ∧ g = n - i ∧ s18 = .int .i64 i ∧ Hid (RowI wq w1.heap.size (.slice A5 n c5) (relN (clM a m i) n)) ∧ Below w1.heap.size w1 wq)
      case atStart => exact ⟨0, Nat.zero_le _, rfl, rfl, hrow.out, hb⟩
      case round =>
        obtain ⟨i, hin, rfl, rfl, hrow2, hbq⟩ := hrel
        by_cases hlt : i < n
        · have hI := row_rel hrow2.out
          obtain ⟨g, rfl, hg1, hg2, hfz, hcell⟩ := RowI.at hrow2.out (i := i) (by rw [relN_length]; exact hlt)
          have hc := related_any (clM a m i) n i m hn hlt hltm wr _ c5 hI
          rw [clM_row] at hc
          have q0 := hcell i (by rw [relN_length]; exact hlt)
          have q1 := hcell m (by rw [relN_length]; exact hltm)
          rw [relN_getD _ hlt, clM_row] at q0
          rw [relN_getD _ hltm, clM_mid] at q1
          have f0 := hfz i
          cases hR : clR m a i m
          · rw [hR] at hc
            have Hn := Lib.hid (clM_same (n := n) hR)
            clear hR
            go_wp2_with fail
            refine hc.mono ?_
            rintro e5 w6 ⟨rfl, rfl⟩
            clear hc
            go_wp2_with fail
            go_roundg (n - (i + 1))
            case measure => omega
            case rel => exact ⟨i + 1, by omega, rfl, by go_num, by rw [Hn.out]; exact hrow2.out, hbq⟩
          · rw [hR] at hc
            have Hn := Lib.hid (clM_more hn hR)
            have Hs := Lib.hid (clM_set (a := a) (m := m) (i := i) (n := n))
            clear hR hI
            generalize ((bitN (clR m a i) n : Nat) : Int) = x1 at q0 Hn
            generalize ((bitN (clR m a m) n : Nat) : Int) = x2 at q1 Hn
            go_wp2_with fail
            refine hc.mono ?_
            rintro e5 w6 ⟨rfl, rfl⟩
            clear hc
            go_wp2_with fail
            go_region_with (fail)
            all_goals
             go_wp2_with fail
             go_roundg (n - (i + 1))
             case measure => omega
             case rel => exact ⟨i + 1, by omega, rfl, by go_num, by rw [← Hs.out, ← Hn.out]; exact RowI.set hrow2.out (by rw [relN_length]; exact hlt) _, (hbq.setCell (p := ⟨g, i, none⟩) hg1 _).drew⟩
        · obtain rfl : i = n := by omega
          go_wp2_with fail
          go_roundg (i - (m + 1))
          case measure => omega
          case rel => exact ⟨m + 1, by omega, rfl, by go_num, by rw [← clM_all]; exact hrow2.out, hbq⟩
    · obtain rfl : m = n := by omega
      rw [clM_zero] at hrow
      go_wp2_with fail
      go_ret
      exact ⟨A5, c5, rfl, hrow.out.rebase fun g hg => Nat.le_trans hs1 (hrow.out.blk hg).1, hb1.trans (hb.mono hs1)⟩

theorem imLoose_any (a : Rel) (n : Nat) (hn : n ≤ 16) (w : World) (A : Option Addr) (c : Nat) (ha : Ints w A c (relN a n)) :
    Calls Tryz.prog 79 #[.slice A n c] w (RetQ w (irB a n)) := by
  go_enter Tryz.func79, Tryz.ntmps79
  go_wp2_with fail
  go_loopg [3, 6] n (fun g s3 s6 wr => ∃ i : Nat, i ≤ n ∧ g = n - i ∧ s6 = .int .i64 i ∧ Hid (irB a i = true) ∧ w = wr)
  case atStart => exact ⟨0, Nat.zero_le _, rfl, rfl, (by show _ = _; rfl), rfl⟩
  case round =>
    obtain ⟨i, hin, rfl, rfl, hpre, rfl⟩ := hrel
    by_cases hlt : i < n
    · have hc := related_any a n i i hn hlt hlt w A c ha
      cases hR : a i i
      · rw [hR] at hc
        have Hn : Hid (irB a (i + 1) = true) := by
          show _ = _
          have := hpre.out
          unfold irB at this ⊢
          rw [any_range_succ, hR, Bool.or_false]
          exact this
        clear hR
        go_wp2_with fail
        refine hc.mono ?_
        rintro e5 w5 ⟨rfl, rfl⟩
        clear hc
        go_wp2_with fail
        go_roundg (n - (i + 1))
        case measure => omega
        case rel => exact ⟨i + 1, by omega, rfl, by go_num, Hn.out, rfl⟩
      · rw [hR] at hc
        have Hn : Hid (irB a n = false) := by
          show _ = _
          unfold irB
          rw [Bool.not_eq_false', List.any_eq_true]
          exact ⟨i, List.mem_range.2 hlt, hR⟩
        clear hR
        go_wp2_with fail
        refine hc.mono ?_
        rintro e5 w5 ⟨rfl, rfl⟩
        clear hc
        go_wp2_with fail
        go_ret
        exact ⟨ret_bool Hn.out.symm, rfl⟩
    · obtain rfl : i = n := by omega
      go_wp2_with fail
      go_ret
      exact ⟨ret_bool hpre.out.symm, rfl⟩
theorem imAcyclic_any (a : Rel) (n : Nat) (hn : n ≤ 16) (w : World) (A : Option Addr) (c : Nat) (ha : Ints w A c (relN a n)) :
    Calls Tryz.prog 18 #[.slice A n c] w (RetB w (acB a n)) := by
  go_enter Tryz.func18, Tryz.ntmps18
  go_wp2_with fail
  refine (relValid_any a n hn w A c ha).mono ?_
  rintro e0 w0 ⟨rfl, hb0⟩
  have hc := imClosure_any a n hn w0 A c (ha.le (Le.below hb0))
  go_wp2_with fail
  refine hc.mono ?_
  rintro e1 w1 ⟨A1, c1, rfl, hrow1, hb1⟩
  have hl := imLoose_any (clR n a) n hn w1 A1 c1 (row_rel hrow1)
  go_wp2_with fail
  refine hl.mono ?_
  rintro e2 w2 ⟨rfl, rfl⟩
  go_wp2_with fail
  go_ret
  exact ⟨rfl, hb0.trans (hb1.mono hb0.size)⟩

/-! ### Lists of numbers that are compared -/
set_option maxHeartbeats 400000 in
theorem equalI_any (xs ys : List Int) (w : World) (A A' : Option Addr) (c c' : Nat) (hr : Ints w A c xs) (hr' : Ints w A' c' ys) :
    Calls Tryz.prog 71 #[.slice A xs.length c, .slice A' ys.length c'] w (RetB w (eqB xs ys)) := by
  have hm := hr.len
  have hm' := hr'.len
  go_enter Tryz.func71, Tryz.ntmps71
  by_cases hlen : xs.length = ys.length
  · have hne : ((xs.length : Int) != (ys.length : Int)) = false := by simp [hlen]
    have Hlen := Lib.hid hlen
    clear hlen
    go_wp2_with fail
    go_loopg [5, 13] xs.length (fun g s5 s13 wr => ∃ k : Nat, k ≤ xs.length ∧ g = xs.length - k ∧ s13 = .int .i64 k ∧ Hid (xs.take k = ys.take k) ∧ Below w.heap.size w wr)
    case atStart => exact ⟨0, Nat.zero_le _, rfl, rfl, rfl, Below.refl _ _⟩
    case round =>
      obtain ⟨k, hk, rfl, rfl, hpre, hb⟩ := hrel
      by_cases hlt : k < xs.length
      · have hlt' : k < ys.length := by have := Hlen.out; omega
        obtain ⟨b, o, rfl, hbl, k0⟩ := (hr.le (Le.below hb)).get hlt
        obtain ⟨b', o', rfl, hbl', d0⟩ := (hr'.le (Le.below hb)).get hlt'
        clear hr hr'
        by_cases he : xs[k] = ys[k]
        · have heb : (xs[k] != ys[k]) = false := by simp [he]
          have He := Lib.hid he
          clear he
          go_wp2_with fail
          go_quiet (fail)
          go_wp2_with fail
          go_roundg (xs.length - (k + 1))
          case measure => omega
          case rel => exact ⟨k + 1, by omega, rfl, by go_num, take_eq_of' hlt hlt' hpre.out He.out, below_drewN hb _⟩
        · have heb : (xs[k] != ys[k]) = true := by simp [he]
          go_wp2_with fail
          go_quiet (fail)
          go_wp2_with fail
          go_ret
          refine ⟨ret_bool ?_, below_drewN hb _⟩
          rw [eq_comm, eqB_false]
          intro e
          exact he (by simp only [e])
      · go_wp2_with fail
        go_ret
        refine ⟨ret_bool ?_, hb⟩
        obtain rfl : k = xs.length := by omega
        rw [eq_comm, eqB_iff]
        exact eq_of_take Hlen.out hpre.out
  · have hne : ((xs.length : Int) != (ys.length : Int)) = true := by simp; omega
    go_wp2_with fail
    go_ret
    exact ⟨ret_bool (eqB_ne_length hlen).symm, Below.refl _ _⟩
set_option maxHeartbeats 400000 in
theorem wmInts_any (xs ys : List Int) (w : World) (A A' : Option Addr) (c c' : Nat) (hr : Ints w A c xs) (hr' : Ints w A' c' ys) :
    Calls Tryz.prog 12 #[.slice A xs.length c, .slice A' ys.length c'] w (RetB w (eqB xs ys)) := by
  have hm := hr.len
  have hm' := hr'.len
  go_enter Tryz.func12, Tryz.ntmps12
  by_cases hlen : xs.length = ys.length
  · have hne : ((xs.length : Int) != (ys.length : Int)) = false := by simp [hlen]
    have Hlen := Lib.hid hlen
    clear hlen
    go_wp2_with fail
    go_loopg [5] xs.length (fun g s5 wr => ∃ k : Nat, k ≤ xs.length ∧ g = xs.length - k ∧ s5 = .int .i64 k ∧ Hid (xs.take k = ys.take k) ∧ Below w.heap.size w wr)
    case atStart => exact ⟨0, Nat.zero_le _, rfl, rfl, rfl, Below.refl _ _⟩
    case round =>
      obtain ⟨k, hk, rfl, rfl, hpre, hb⟩ := hrel
      by_cases hlt : k < xs.length
      · have hlt' : k < ys.length := by have := Hlen.out; omega
        obtain ⟨b, o, rfl, hbl, k0⟩ := (hr.le (Le.below hb)).get hlt
        obtain ⟨b', o', rfl, hbl', d0⟩ := (hr'.le (Le.below hb)).get hlt'
        clear hr hr'
        by_cases he : xs[k] = ys[k]
        · have heb : (xs[k] != ys[k]) = false := by simp [he]
          have He := Lib.hid he
          clear he
          go_wp2_with fail
          go_quiet (fail)
          go_wp2_with fail
          go_roundg (xs.length - (k + 1))
          case measure => omega
          case rel => exact ⟨k + 1, by omega, rfl, by go_num, take_eq_of' hlt hlt' hpre.out He.out, below_drewN hb _⟩
        · have heb : (xs[k] != ys[k]) = true := by simp [he]
          go_wp2_with fail
          go_quiet (fail)
          go_wp2_with fail
          go_ret
          refine ⟨ret_bool ?_, below_drewN hb _⟩
          rw [eq_comm, eqB_false]
          intro e
          exact he (by simp only [e])
      · go_wp2_with fail
        go_ret
        refine ⟨ret_bool ?_, hb⟩
        obtain rfl : k = xs.length := by omega
        rw [eq_comm, eqB_iff]
        exact eq_of_take Hlen.out hpre.out
  · have hne : ((xs.length : Int) != (ys.length : Int)) = true := by simp; omega
    go_wp2_with fail
    go_ret
    exact ⟨ret_bool (eqB_ne_length hlen).symm, Below.refl _ _⟩
theorem relN_inj {a b : Rel} {n : Nat} (h : relN a n = relN b n) : EqR n a b := fun i k hi hk => by
  have h1 : (relN a n).getD i 0 = (relN b n).getD i 0 := by rw [h]
  rw [relN_getD _ hi, relN_getD _ hi] at h1
  have h2 : bitN (a i) n = bitN (b i) n := by omega
  have h3 : (bitN (a i) n).testBit k = (bitN (b i) n).testBit k := by rw [h2]
  rw [bitN_bit, bitN_bit, decide_eq_true hk, Bool.true_and, Bool.true_and] at h3
  exact h3
theorem imWithin_any (a b : Rel) (n : Nat) (hn : n ≤ 16) (w : World) (A B : Option Addr) (c d : Nat) (ha : Ints w A c (relN a n)) (hb : Ints w B d (relN b n)) :
    Calls Tryz.prog 20 #[.slice A n c, .slice B n d] w (RetB w (eqB (relN (unR a b) n) (relN b n))) := by
  go_enter Tryz.func20, Tryz.ntmps20
  go_wp2_with fail
  refine (areRels_any a b n hn w A B c d ha hb).mono ?_
  rintro e1 w1 ⟨rfl, hb1⟩
  have ha1 := ha.le (Le.below hb1)
  have hb1' := hb.le (Le.below hb1)
  go_wp2_with fail
  refine (imUnion_any a b n hn w1 A B c d ha1 hb1').mono ?_
  rintro e2 w2 ⟨A2, c2, rfl, hr2, hb2⟩
  have heq := equalI_any (relN (unR a b) n) (relN b n) w2 A2 B c2 d (row_rel hr2) (hb1'.le (Le.below hb2))
  rw [relN_length, relN_length] at heq
  go_wp2_with fail
  refine heq.mono ?_
  rintro e3 w3 ⟨rfl, hb3⟩
  go_wp2_with fail
  go_ret
  exact ⟨rfl, hb1.trans ((hb2.trans (hb3.mono hb2.size)).mono hb1.size)⟩

end Go.Proofs.YtfgpbnncdfcjjaaGreatDoor
