/-
  The walks of the program's composition, inverse and closure, and of its tests for cycles.
-/
import Derived.Test.YtfgpbnncdfcjjaaDoorI2
namespace Go.Proofs.YtfgpbnncdfcjjaaDoor
open Go.RowKit
set_option linter.unusedVariables false
set_option maxRecDepth 100000

/-- The composition, the rows below i being done and of row i the middles below m. -/
def coM (a b : Rel) (n i m : Nat) : Rel := fun r k => if r < i then coP a b n r k else if r = i then coP a b m i k else false
theorem coP_none (a b : Rel) (i k : Nat) : coP a b 0 i k = false := rfl
theorem coM_zero (a b : Rel) (n : Nat) : relN (coM a b n 0 0) n = List.replicate n 0 := relN_none fun i k _ _ => by
  unfold coM
  rw [if_neg (Nat.not_lt_zero _)]
  split
  · rfl
  · rfl
theorem coM_next (a b : Rel) (n i : Nat) : relN (coM a b n i n) n = relN (coM a b n (i + 1) 0) n := relN_congr fun r k _ _ => by
  unfold coM
  by_cases h1 : r < i
  · rw [if_pos h1, if_pos (by omega)]
  · rw [if_neg h1]
    by_cases h2 : r = i
    · subst h2
      rw [if_pos rfl, if_pos (by omega)]
    · rw [if_neg h2, if_neg (by omega)]
      split <;> rfl
theorem coM_all (a b : Rel) (n : Nat) : relN (coM a b n n 0) n = relN (coR n a b) n := relN_congr fun r k hr _ => by
  show (if r < n then coP a b n r k else _) = coP a b n r k
  rw [if_pos hr]
theorem coM_row (a b : Rel) (n i m : Nat) : coM a b n i m i = coP a b m i := by
  funext k
  unfold coM
  rw [if_neg (Nat.lt_irrefl _), if_pos rfl]
theorem coM_same {a b : Rel} {n i m : Nat} (h : a i m = false) : relN (coM a b n i (m + 1)) n = relN (coM a b n i m) n := relN_congr fun r k _ _ => by
  unfold coM
  rw [coP_same h]
theorem coM_set (a b : Rel) (n i m : Nat) : (relN (coM a b n i m) n).set i ((bitN (coP a b (m + 1) i) n : Nat) : Int) = relN (coM a b n i (m + 1)) n := by
  have h := relN_set (f := coM a b n i m) (g := coM a b n i (m + 1)) (n := n) (i := i) fun r k _ _ hr => by
    unfold coM
    rw [if_neg hr, if_neg hr]
  rw [coM_row] at h
  exact h

theorem inv1_any (R : Rel) (n i k : Nat) (hn : n ≤ 16) (hi : i < n) (hk : k < n) (w : World) (bR : Nat) (A : Option Addr) (c : Nat) (h : Ints w A c (relN R n)) (hr : w.cell? ⟨bR, 0, none⟩ = some (.slice A n c)) :
    Calls Tryd.prog 64 #[.int .i64 i, .int .i64 k, .pointer (some ⟨bR, 0, none⟩)] w (RetQ w (inR R i k)) := by
  go_enter Tryd.func64, Tryd.ntmps64
  go_wp2_with fail
  refine (related_any R n k i hn hk hi w A c h).mono ?_
  rintro e5 w5 ⟨rfl, rfl⟩
  go_wp2_with fail
  go_ret
  exact ⟨rfl, rfl⟩
set_option maxHeartbeats 4000000 in
theorem pairsInv_any (R : Rel) (n : Nat) (hn : n ≤ 16) (w : World) (bR : Nat)
    (hcall : ∀ i k : Nat, i < n → k < n → ∀ W, Below w.heap.size w W → Calls Tryd.prog 64 #[.int .i64 i, .int .i64 k, .pointer (some ⟨bR, 0, none⟩)] W (RetQ W (R i k))) :
    Calls Tryd.prog 63 #[.int .i64 n, .func (.func 64) #[] #[.pointer (some ⟨bR, 0, none⟩)]] w (RetRowI w (relN R n)) := by
  have hmk := run_make_any (P := Tryd.prog) 23 3 _ 1 8 Tryd.underlying23 Tryd.infoInt n (by omega) (by omega)
  have Hcall := Lib.hid hcall
  clear hcall
  go_enter Tryd.func63, Tryd.ntmps63
  go_wp2_with fail
  clear hmk
  go_loopg [6, 7, 11, 15] n (fun g s6 s7 s11 s15 wr => ∃ i : Nat, i ≤ n ∧ g = n - i ∧ s11 = .int .i64 i ∧ BitR wr w.heap.size n (midR R n i 0) ∧ Below w.heap.size w wr)
  case atStart => exact ⟨0, Nat.zero_le _, rfl, rfl, by rw [midR_zero]; simpa using BitR.made w n, (Below.refl _ _).alloc (Nat.le_refl _) _⟩
  case round =>
    obtain ⟨i, hin, rfl, rfl, hrow, hb⟩ := hrel
    by_cases hlt : i < n
    · go_wp2_with fail
      go_loopg [7, 15] n (fun g s7 s15 wq => ∃ k : Nat, k ≤ n ∧ g = n - k ∧ s15 = .int .i64 k ∧ BitR wq w.heap.size n (midR R n i k) ∧ Below w.heap.size w wq)
      case atStart => exact ⟨0, Nat.zero_le _, rfl, rfl, hrow, hb⟩
      case round =>
        obtain ⟨k, hkn, rfl, rfl, hrow2, hbq⟩ := hrel
        by_cases hltk : k < n
        · have hc := Hcall.out i k hlt hltk _ hbq
          cases hR : R i k
          · rw [hR] at hc
            have Hn := Lib.hid (midR_same R n i k hR)
            clear hR
            go_wp2_with fail
            refine hc.mono ?_
            rintro e5 w5 ⟨rfl, rfl⟩
            clear hc
            go_wp2_with fail
            go_roundg (n - (k + 1))
            case measure => omega
            case rel => exact ⟨k + 1, by omega, rfl, by go_num, by rw [Hn.out]; exact hrow2, hbq⟩
          · rw [hR] at hc
            have Hs := Lib.hid (midR_set R n i k)
            have Hn := Lib.hid (bitN_step (R i) k (by omega) hR)
            clear hR
            go_wp2_with fail
            refine hc.mono ?_
            rintro e5 w5 ⟨rfl, rfl⟩
            have q0 := hrow2.cell hlt
            have hg : (midR R n i k).getD i 0 = ((bitN (R i) k : Nat) : Int) := by
              have h1 : i < (midR R n i k).length := by rw [midR_length]; exact hlt
              rw [List.getD_eq_getElem?_getD, List.getElem?_eq_getElem h1]
              exact midR_get R n i k h1
            rw [hg] at q0
            have hfz := hrow2.frozen i
            clear hc hg
            go_wp2_with fail
            go_region_with (fail)
            all_goals (go_wp2_with fail)
            go_roundg (n - (k + 1))
            case measure => omega
            case rel => exact ⟨k + 1, by omega, rfl, by go_num, by rw [← IntWalk.i64_left, Hn.out, ← Hs.out]; exact (hrow2.set i _).of_block rfl, (hbq.setCell (p := ⟨w.heap.size, i, none⟩) (Nat.le_refl _) _).drew⟩
        · obtain rfl : k = n := by omega
          go_wp2_with fail
          go_roundg (k - (i + 1))
          case measure => omega
          case rel => exact ⟨i + 1, by omega, rfl, by go_num, by rw [← midR_next]; exact hrow2, hbq⟩
    · obtain rfl : i = n := by omega
      rw [midR_all] at hrow
      go_wp2_with fail
      go_ret
      exact hrow.ret (Nat.le_refl _) (by omega) hb
theorem imInverse_any (R : Rel) (n : Nat) (hn : n ≤ 16) (w : World) (A : Option Addr) (c : Nat) (h : Ints w A c (relN R n)) :
    Calls Tryd.prog 26 #[.slice A n c] w (RetRel w (inR R) n) := by
  obtain ⟨w0, hw0⟩ : ∃ w0, w0 = w.alloc (.cells #[.slice A n c] 23) := ⟨_, rfl⟩
  have o0 : Own w0 w.heap.size 23 #[.slice A n c] := by rw [hw0]; exact Own.new _ _ _
  have hB : Below w.heap.size w w0 := by rw [hw0]; exact (Below.refl _ _).alloc (Nat.le_refl _) _
  have hI := h.le (Le.below hB)
  have q0 := o0.cell (i := 0) (v := .slice A n c) rfl
  go_enter Tryd.func26, Tryd.ntmps26
  go_wp2_with fail
  rw [← hw0]
  clear hw0
  go_wp2_with fail
  refine (relValid_any R n hn w0 A c hI).mono ?_
  rintro e1 w1 ⟨rfl, hb1⟩
  have hB1 := hB.trans (hb1.mono hB.size)
  have q1 := Le.below hb1 _ _ q0
  have hI1 := hI.le (Le.below hb1)
  clear q0 h hI o0
  go_wp2_with fail
  refine (pairsInv_any (inR R) n hn w1 w.heap.size fun i k hi hk W hW => inv1_any R n i k hn hi hk W w.heap.size A c (hI1.le (Le.below hW)) (Le.below hW _ _ q1)).mono ?_
  rintro e2 w2 ⟨A2, c2, rfl, hr2, hb2⟩
  rw [relN_length] at hr2 ⊢
  go_wp2_with fail
  go_ret
  exact ⟨A2, c2, rfl, hr2.rebase fun g hg => Nat.le_trans hB1.size (hr2.blk hg).1, hB1.trans (hb2.mono hB1.size)⟩

/-! ### Lists of numbers that are compared -/
set_option maxHeartbeats 400000 in
theorem equalI_any (xs ys : List Int) (w : World) (A A' : Option Addr) (c c' : Nat) (hr : Ints w A c xs) (hr' : Ints w A' c' ys) :
    Calls Tryd.prog 54 #[.slice A xs.length c, .slice A' ys.length c'] w (RetB w (eqB xs ys)) := by
  have hm := hr.len
  have hm' := hr'.len
  go_enter Tryd.func54, Tryd.ntmps54
  by_cases hlen : xs.length = ys.length
  · have hne : ((xs.length : Int) != (ys.length : Int)) = false := by simp [hlen]
    have Hlen := Lib.hid hlen
    clear hlen
    go_wp2_with fail
    go_loopg [5, 13] xs.length (fun g s5 s13 wr => ∃ k : Nat, k ≤ xs.length ∧ g = xs.length - k ∧ s13 = .int .i64 k ∧ Hid (xs.take k = ys.take k) ∧ Below w.heap.size w wr)
    case atStart => exact ⟨0, Nat.zero_le _, rfl, rfl, rfl, Below.refl _ _⟩
    case round =>
      obtain ⟨k, hk, rfl, rfl, hpre, hb⟩ := hrel
      by_cases hlt : k < xs.length
      · have hlt' : k < ys.length := by have := Hlen.out; omega
        obtain ⟨b, o, rfl, hbl, k0⟩ := (hr.le (Le.below hb)).get hlt
        obtain ⟨b', o', rfl, hbl', d0⟩ := (hr'.le (Le.below hb)).get hlt'
        clear hr hr'
        by_cases he : xs[k] = ys[k]
        · have heb : (xs[k] != ys[k]) = false := by simp [he]
          have He := Lib.hid he
          clear he
          go_wp2_with fail
          go_quiet (fail)
          go_wp2_with fail
          go_roundg (xs.length - (k + 1))
          case measure => omega
          case rel => exact ⟨k + 1, by omega, rfl, by go_num, take_eq_of' hlt hlt' hpre.out He.out, below_drewN hb _⟩
        · have heb : (xs[k] != ys[k]) = true := by simp [he]
          go_wp2_with fail
          go_quiet (fail)
          go_wp2_with fail
          go_ret
          refine ⟨ret_bool ?_, below_drewN hb _⟩
          rw [eq_comm, eqB_false]
          intro e
          exact he (by simp only [e])
      · go_wp2_with fail
        go_ret
        refine ⟨ret_bool ?_, hb⟩
        obtain rfl : k = xs.length := by omega
        rw [eq_comm, eqB_iff]
        exact eq_of_take Hlen.out hpre.out
  · have hne : ((xs.length : Int) != (ys.length : Int)) = true := by simp; omega
    go_wp2_with fail
    go_ret
    exact ⟨ret_bool (eqB_ne_length hlen).symm, Below.refl _ _⟩
theorem relN_inj {a b : Rel} {n : Nat} (h : relN a n = relN b n) : EqR n a b := fun i k hi hk => by
  have h1 : (relN a n).getD i 0 = (relN b n).getD i 0 := by rw [h]
  rw [relN_getD _ hi, relN_getD _ hi] at h1
  have h2 : bitN (a i) n = bitN (b i) n := by omega
  have h3 : (bitN (a i) n).testBit k = (bitN (b i) n).testBit k := by rw [h2]
  rw [bitN_bit, bitN_bit, decide_eq_true hk, Bool.true_and, Bool.true_and] at h3
  exact h3
end Go.Proofs.YtfgpbnncdfcjjaaDoor
