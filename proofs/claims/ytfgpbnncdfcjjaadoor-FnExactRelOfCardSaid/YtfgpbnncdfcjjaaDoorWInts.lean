/-
  The walks over slices of ints: sizes, copies, equality.
-/
import Derived.Test.YtfgpbnncdfcjjaaDoorLib
import Derived.StillTailTactics
namespace Go.Proofs.YtfgpbnncdfcjjaaDoor
open Go.RowKit
set_option linter.unusedVariables false
set_option maxRecDepth 100000

theorem Tryd.infoInt : (Tryd.prog.info? 3).map (fun i => (i.zero, i.size, i.bytes)) = some (some (.int .i64 0), 1, 8) := by kernel_rfl
theorem Tryd.infoInts : (Tryd.prog.info? 23).map (fun i => (i.zero, i.size, i.bytes)) = some (some (.slice none 0 0), 1, 24) := by kernel_rfl

set_option maxHeartbeats 400000 in
theorem szInts_any (xs : List Int) (w : World) (A : Option Addr) (c : Nat) (l : Int) (hx : xs.length ≤ 9223372036854775807) (h0 : 0 ≤ l) (h1 : l ≤ 1048576) :
    Calls Tryd.prog 31 #[.slice A xs.length c, .int .i64 l] w (RetI w (restI l xs.length)) := by
  go_enter Tryd.func31, Tryd.ntmps31
  by_cases hl : l < xs.length
  · go_wp2_with fail
    go_ret
    exact ⟨ret_int (restI_gt (by omega)).symm, Below.refl _ _⟩
  · go_wp2_with fail
    go_ret
    exact ⟨ret_int (restI_le (by omega)).symm, Below.refl _ _⟩

set_option maxHeartbeats 400000 in
theorem szIntss_any (xss : List (List Int)) (w : World) (A : Option Addr) (c : Nat) (l : Int) (hr : Intss w A c xss) (h0 : 0 ≤ l) (h1 : l ≤ 1048576) :
    Calls Tryd.prog 32 #[.slice A xss.length c, .int .i64 l] w (RetI w (restI l (xss.length + wSum List.length xss))) := by
  have hlen := hr.len
  go_enter Tryd.func32, Tryd.ntmps32
  by_cases hl : l < xss.length
  · go_wp2_with fail
    go_ret
    exact ⟨ret_int (restI_gt (by omega)).symm, Below.refl _ _⟩
  · go_wp2_with fail
    go_loopg [1, 5] xss.length (fun g s1 s5 wr => ∃ (k : Nat) (l' : Int), k ≤ xss.length ∧ g = xss.length - k ∧ s5 = .int .i64 k ∧ s1 = .int .i64 l' ∧ 0 ≤ l' ∧ l' ≤ 1048576 ∧ Hid (l' + wSum List.length (xss.take k) + xss.length = l) ∧ Below w.heap.size w wr)
    case atStart => exact ⟨0, _, Nat.zero_le _, rfl, rfl, rfl, by omega, by omega, by show _ = _; simp [wSum], Below.refl _ _⟩
    case round =>
      obtain ⟨k, l', hk, rfl, rfl, rfl, hl0, hl1, hsum, hb⟩ := hrel
      by_cases hlt : k < xss.length
      · obtain ⟨b, o, A', c', rfl, hbl, k0, hre⟩ := (hr.le (Le.below hb)).get hlt
        clear hr
        have Hw := Lib.hid (wSum_take_succ List.length xss k hlt)
        have hre' := hre.len
        by_cases hfit : (xss[k].length : Int) ≤ l'
        · have Hr : Hid _ := restI_le hfit
          go_wp2_with fail
          refine (szInts_any xss[k] _ _ _ l' hre' hl0 hl1).mono ?_
          rintro e' w' ⟨rfl, hb'⟩
          rw [Hr.out]
          go_wp2_with fail
          go_roundg (xss.length - (k + 1))
          case measure => omega
          case rel => exact ⟨k + 1, _, by omega, rfl, by go_num, rfl, by omega, by omega, by have h1 := hsum.out; have h2 := Hw.out; show _ = _; omega, hb.trans (hb'.mono hb.size)⟩
        · have Hr : Hid _ := restI_gt (Int.not_le.1 hfit)
          go_wp2_with fail
          refine (szInts_any xss[k] _ _ _ l' hre' hl0 hl1).mono ?_
          rintro e' w' ⟨rfl, hb'⟩
          rw [Hr.out]
          go_wp2_with fail
          go_ret
          refine ⟨ret_int (restI_gt ?_).symm, hb.trans (hb'.mono hb.size)⟩
          have h1 := hsum.out
          have h2 := Hw.out
          have h3 := wSum_take_le List.length xss (k + 1)
          omega
      · go_wp2_with fail
        go_ret
        obtain rfl : k = xss.length := by omega
        refine ⟨ret_int ?_, hb⟩
        have h1 := hsum.out
        rw [List.take_length] at h1
        rw [restI_le (by omega)]
        omega

set_option maxHeartbeats 400000 in
theorem toInts_any (xs : List Int) (hlen : xs.length ≤ 1048576) (w : World) (A : Option Addr) (c : Nat) (hr : Ints w A c xs) :
    Calls Tryd.prog 36 #[.slice A xs.length c] w (RetInts w xs) := by
  have hmk := run_make_any (P := Tryd.prog) 23 3 _ 1 8 Tryd.underlying23 Tryd.infoInt xs.length (by omega) (by omega)
  go_enter Tryd.func36, Tryd.ntmps36
  go_wp2_with fail
  clear hmk
  go_loopg [4] xs.length (fun g s4 wr => ∃ (k : Nat) (F : Nat → Value), k ≤ xs.length ∧ g = xs.length - k ∧ s4 = .int .i64 k ∧ Below w.heap.size w wr ∧
    wr.rowIs w.heap.size 3 xs.length F ∧ Hid (∀ i (h : i < k) (h' : i < xs.length), F i = .int .i64 xs[i]))
  case atStart =>
    obtain ⟨F, hF⟩ := rowIs_made_any w #[.int .i64 0] (xs.length * 1) 3
    rw [Nat.mul_one] at hF
    first
      | exact ⟨0, F, Nat.zero_le _, rfl, rfl, (Below.refl _ _).alloc (Nat.le_refl _) _, hF, fun i h => absurd h (Nat.not_lt_zero _)⟩
      | exact ⟨0, F, Nat.zero_le _, rfl, rfl, (Below.refl _ _).alloc (Nat.le_refl _) _, by simpa using hF, fun i h => absurd h (Nat.not_lt_zero _)⟩
  case round =>
    obtain ⟨k, F, hk, rfl, rfl, hb, hF, hall⟩ := hrel
    by_cases hlt : k < xs.length
    · obtain ⟨b, o, rfl, hbl, k0⟩ := (hr.le (Le.below hb)).get hlt
      clear hr
      have f0 := hF.cell hlt
      have g0 := hF.frozen k
      go_wp2_with fail
      go_roundg (xs.length - (k + 1))
      case measure => omega
      case rel =>
        refine ⟨k + 1, _, by omega, rfl, by go_num, hb.setCell (p := ⟨w.heap.size, k, none⟩) (Nat.le_refl _) _, hF.set k _, fun i hi hi' => ?_⟩
        by_cases e : i = k
        · subst e
          exact if_pos rfl
        · exact (if_neg e).trans (hall.out i (by omega) hi')
    · go_wp2_with fail
      go_ret
      obtain rfl : k = xs.length := by omega
      refine ⟨_, _, rfl, Ints.mk (by omega) fun i hi => ?_, hb⟩
      rw [Nat.zero_add, ← hall.out i hi hi]
      exact cell_above_of (Nat.le_refl _) (hF.cell hi)

set_option maxHeartbeats 400000 in
theorem toIntss_any (xss : List (List Int)) (hlen : xss.length ≤ 1048576) (hlens : ∀ xs ∈ xss, xs.length ≤ 1048576) (w : World) (A : Option Addr) (c : Nat) (hr : Intss w A c xss) :
    Calls Tryd.prog 37 #[.slice A xss.length c] w (RetIntss w xss) := by
  have hmk := run_make_any (P := Tryd.prog) 24 23 _ 1 24 Tryd.underlying24 Tryd.infoInts xss.length (by omega) (by omega)
  go_enter Tryd.func37, Tryd.ntmps37
  go_wp2_with fail
  clear hmk
  go_loopg [4] xss.length (fun g s4 wr => ∃ (k : Nat) (F : Nat → Value), k ≤ xss.length ∧ g = xss.length - k ∧ s4 = .int .i64 k ∧ Below w.heap.size w wr ∧
    wr.rowIs w.heap.size 23 xss.length F ∧ Hid (∀ i (h : i < k) (h' : i < xss.length), ∃ A' c', F i = .slice A' xss[i].length c' ∧ Ints (above (w.heap.size + 1) wr) A' c' xss[i]))
  case atStart =>
    obtain ⟨F, hF⟩ := rowIs_made_any w #[.slice none 0 0] (xss.length * 1) 23
    rw [Nat.mul_one] at hF
    first
      | exact ⟨0, F, Nat.zero_le _, rfl, rfl, (Below.refl _ _).alloc (Nat.le_refl _) _, hF, fun i h => absurd h (Nat.not_lt_zero _)⟩
      | exact ⟨0, F, Nat.zero_le _, rfl, rfl, (Below.refl _ _).alloc (Nat.le_refl _) _, by simpa using hF, fun i h => absurd h (Nat.not_lt_zero _)⟩
  case round =>
    obtain ⟨k, F, hk, rfl, rfl, hb, hF, hall⟩ := hrel
    by_cases hlt : k < xss.length
    · obtain ⟨b, o, A0, c0, rfl, hbl, k0, hre⟩ := (hr.le (Le.below hb)).get hlt
      clear hr
      go_wp2_with fail
      refine (toInts_any xss[k] (hlens _ (List.getElem_mem hlt)) _ _ _ hre).mono ?_
      rintro e' w' ⟨A', c', rfl, hrep, hb'⟩
      have hF' : w'.rowIs w.heap.size 23 xss.length F := hF.of_block (hb'.block _ hF.lt)
      have f0 := hF'.cell hlt
      have g0 := hF'.frozen k
      clear k0 hre
      go_wp2_with fail
      go_roundg (xss.length - (k + 1))
      case measure => omega
      case rel =>
        refine ⟨k + 1, _, by omega, rfl, by go_num, (hb.trans (hb'.mono hb.size)).setCell (p := ⟨w.heap.size, k, none⟩) (Nat.le_refl _) _, hF'.set k _, fun i hi hi' => ?_⟩
        have hle := Le.above_setCell (w.heap.size + 1) w' (p := ⟨w.heap.size, k, none⟩) (Nat.lt_succ_self _) (.slice A' xss[k].length c')
        by_cases e : i = k
        · subst e
          exact ⟨A', c', if_pos rfl, (hrep.le (Le.above_mono (by have := hF.lt; omega) _)).le hle⟩
        · obtain ⟨A1, c1, h1, h2⟩ := hall.out i (by omega) hi'
          exact ⟨A1, c1, (if_neg e).trans h1, (h2.le (Le.above_le _ (Le.below hb'))).le hle⟩
    · go_wp2_with fail
      go_ret
      obtain rfl : k = xss.length := by omega
      refine ⟨_, _, rfl, Intss.mk (by omega) fun i hi => ?_, hb⟩
      obtain ⟨A1, c1, h1, h2⟩ := hall.out i hi hi
      refine ⟨A1, c1, ?_, h2.le (Le.above_mono (by omega) _)⟩
      rw [Nat.zero_add, ← h1]
      exact cell_above_of (Nat.le_refl _) (hF.cell hi)

end Go.Proofs.YtfgpbnncdfcjjaaDoor
