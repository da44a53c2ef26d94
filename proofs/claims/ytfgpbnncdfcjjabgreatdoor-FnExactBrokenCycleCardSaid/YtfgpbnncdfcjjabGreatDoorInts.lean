/-
  The walks over slices of ints: sizes, copies, equality. The walks of equality of slices of ints, and of slices of such slices. Candidates for executions, as they lie in memory; the walks of szExec, toExec, eqExec, impl.ExecSame.
-/
import Derived.Test.YtfgpbnncdfcjjabGreatDoorLib
import Derived.StillTailTactics

/-! The walks over slices of ints: sizes, copies, equality. -/
namespace Go.Proofs.YtfgpbnncdfcjjabGreatDoor
open Go.RowKit
set_option linter.unusedVariables false
set_option maxRecDepth 100000

theorem Tryz.infoInt : (Tryz.prog.info? 3).map (fun i => (i.zero, i.size, i.bytes)) = some (some (.int .i64 0), 1, 8) := by kernel_rfl
theorem Tryz.infoInts : (Tryz.prog.info? 23).map (fun i => (i.zero, i.size, i.bytes)) = some (some (.slice none 0 0), 1, 24) := by kernel_rfl

set_option maxHeartbeats 400000 in
theorem szInts_any (xs : List Int) (w : World) (A : Option Addr) (c : Nat) (l : Int) (hx : xs.length ≤ 9223372036854775807) (h0 : 0 ≤ l) (h1 : l ≤ 1048576) :
    Calls Tryz.prog 34 #[.slice A xs.length c, .int .i64 l] w (RetI w (restI l xs.length)) := by
  go_enter Tryz.func34, Tryz.ntmps34
  by_cases hl : l < xs.length
  · go_wp2_with fail
    go_ret
    exact ⟨ret_int (restI_gt (by omega)).symm, Below.refl _ _⟩
  · go_wp2_with fail
    go_ret
    exact ⟨ret_int (restI_le (by omega)).symm, Below.refl _ _⟩

set_option maxHeartbeats 400000 in
theorem szIntss_any (xss : List (List Int)) (w : World) (A : Option Addr) (c : Nat) (l : Int) (hr : Intss w A c xss) (h0 : 0 ≤ l) (h1 : l ≤ 1048576) :
    Calls Tryz.prog 35 #[.slice A xss.length c, .int .i64 l] w (RetI w (restI l (xss.length + wSum List.length xss))) := by
  have hlen := hr.len
  go_enter Tryz.func35, Tryz.ntmps35
  by_cases hl : l < xss.length
  · go_wp2_with fail
    go_ret
    exact ⟨ret_int (restI_gt (by omega)).symm, Below.refl _ _⟩
  · go_wp2_with fail
    go_loopg [1, 5] xss.length (fun g s1 s5 wr => ∃ (k : Nat) (l' : Int), k ≤ xss.length ∧ g = xss.length - k ∧ s5 = .int .i64 k ∧ s1 = .int .i64 l' ∧ 0 ≤ l' ∧ l' ≤ 1048576 ∧ Hid (l' + wSum List.length (xss.take k) + xss.length = l) ∧ Below w.heap.size w wr)
    case atStart => exact ⟨0, _, Nat.zero_le _, rfl, rfl, rfl, by omega, by omega, by show _ = _; simp [wSum], Below.refl _ _⟩
    case round =>
      obtain ⟨k, l', hk, rfl, rfl, rfl, hl0, hl1, hsum, hb⟩ := hrel
      by_cases hlt : k < xss.length
      · obtain ⟨b, o, A', c', rfl, hbl, k0, hre⟩ := (hr.le (Le.below hb)).get hlt
        clear hr
        have Hw := Lib.hid (wSum_take_succ List.length xss k hlt)
        have hre' := hre.len
        by_cases hfit : (xss[k].length : Int) ≤ l'
        · have Hr : Hid _ := restI_le hfit
          go_wp2_with fail
          refine (szInts_any xss[k] _ _ _ l' hre' hl0 hl1).mono ?_
          rintro e' w' ⟨rfl, hb'⟩
          rw [Hr.out]
          go_wp2_with fail
          go_roundg (xss.length - (k + 1))
          case measure => omega
          case rel => exact ⟨k + 1, _, by omega, rfl, by go_num, rfl, by omega, by omega, by have h1 := hsum.out; have h2 := Hw.out; show _ = _; omega, hb.trans (hb'.mono hb.size)⟩
        · have Hr : Hid _ := restI_gt (Int.not_le.1 hfit)
          go_wp2_with fail
          refine (szInts_any xss[k] _ _ _ l' hre' hl0 hl1).mono ?_
          rintro e' w' ⟨rfl, hb'⟩
          rw [Hr.out]
          go_wp2_with fail
          go_ret
          refine ⟨ret_int (restI_gt ?_).symm, hb.trans (hb'.mono hb.size)⟩
          have h1 := hsum.out
          have h2 := Hw.out
          have h3 := wSum_take_le List.length xss (k + 1)
          omega
      · go_wp2_with fail
        go_ret
        obtain rfl : k = xss.length := by omega
        refine ⟨ret_int ?_, hb⟩
        have h1 := hsum.out
        rw [List.take_length] at h1
        rw [restI_le (by omega)]
        omega

set_option maxHeartbeats 400000 in
theorem toInts_any (xs : List Int) (hlen : xs.length ≤ 1048576) (w : World) (A : Option Addr) (c : Nat) (hr : Ints w A c xs) :
    Calls Tryz.prog 40 #[.slice A xs.length c] w (RetInts w xs) := by
  have hmk := run_make_any (P := Tryz.prog) 23 3 _ 1 8 Tryz.underlying23 Tryz.infoInt xs.length (by omega) (by omega)
  go_enter Tryz.func40, Tryz.ntmps40
  go_wp2_with fail
  clear hmk
  go_loopg [4] xs.length (fun g s4 wr => ∃ (k : Nat) (F : Nat → Value), k ≤ xs.length ∧ g = xs.length - k ∧ s4 = .int .i64 k ∧ Below w.heap.size w wr ∧
    wr.rowIs w.heap.size 3 xs.length F ∧ Hid (∀ i (h : i < k) (h' : i < xs.length), F i = .int .i64 xs[i]))
  case atStart =>
    obtain ⟨F, hF⟩ := rowIs_made_any w #[.int .i64 0] (xs.length * 1) 3
    rw [Nat.mul_one] at hF
    first
      | exact ⟨0, F, Nat.zero_le _, rfl, rfl, (Below.refl _ _).alloc (Nat.le_refl _) _, hF, fun i h => absurd h (Nat.not_lt_zero _)⟩
      | exact ⟨0, F, Nat.zero_le _, rfl, rfl, (Below.refl _ _).alloc (Nat.le_refl _) _, by simpa using hF, fun i h => absurd h (Nat.not_lt_zero _)⟩
  case round =>
    obtain ⟨k, F, hk, rfl, rfl, hb, hF, hall⟩ := hrel
    by_cases hlt : k < xs.length
    · obtain ⟨b, o, rfl, hbl, k0⟩ := (hr.le (Le.below hb)).get hlt
      clear hr
      have f0 := hF.cell hlt
      have g0 := hF.frozen k
      go_wp2_with fail
      go_roundg (xs.length - (k + 1))
      case measure => omega
      case rel =>
        refine ⟨k + 1, _, by omega, rfl, by go_num, hb.setCell (p := ⟨w.heap.size, k, none⟩) (Nat.le_refl _) _, hF.set k _, fun i hi hi' => ?_⟩
        by_cases e : i = k
        · subst e
          exact if_pos rfl
        · exact (if_neg e).trans (hall.out i (by omega) hi')
    · go_wp2_with fail
      go_ret
      obtain rfl : k = xs.length := by omega
      refine ⟨_, _, rfl, Ints.mk (by omega) fun i hi => ?_, hb⟩
      rw [Nat.zero_add, ← hall.out i hi hi]
      exact cell_above_of (Nat.le_refl _) (hF.cell hi)

set_option maxHeartbeats 400000 in
theorem toIntss_any (xss : List (List Int)) (hlen : xss.length ≤ 1048576) (hlens : ∀ xs ∈ xss, xs.length ≤ 1048576) (w : World) (A : Option Addr) (c : Nat) (hr : Intss w A c xss) :
    Calls Tryz.prog 41 #[.slice A xss.length c] w (RetIntss w xss) := by
  have hmk := run_make_any (P := Tryz.prog) 24 23 _ 1 24 Tryz.underlying24 Tryz.infoInts xss.length (by omega) (by omega)
  go_enter Tryz.func41, Tryz.ntmps41
  go_wp2_with fail
  clear hmk
  go_loopg [4] xss.length (fun g s4 wr => ∃ (k : Nat) (F : Nat → Value), k ≤ xss.length ∧ g = xss.length - k ∧ s4 = .int .i64 k ∧ Below w.heap.size w wr ∧
    wr.rowIs w.heap.size 23 xss.length F ∧ Hid (∀ i (h : i < k) (h' : i < xss.length), ∃ A' c', F i = .slice A' xss[i].length c' ∧ Ints (above (w.heap.size + 1) wr) A' c' xss[i]))
  case atStart =>
    obtain ⟨F, hF⟩ := rowIs_made_any w #[.slice none 0 0] (xss.length * 1) 23
    rw [Nat.mul_one] at hF
    first
      | exact ⟨0, F, Nat.zero_le _, rfl, rfl, (Below.refl _ _).alloc (Nat.le_refl _) _, hF, fun i h => absurd h (Nat.not_lt_zero _)⟩
      | exact ⟨0, F, Nat.zero_le _, rfl, rfl, (Below.refl _ _).alloc (Nat.le_refl _) _, by simpa using hF, fun i h => absurd h (Nat.not_lt_zero _)⟩
  case round =>
    obtain ⟨k, F, hk, rfl, rfl, hb, hF, hall⟩ := hrel
    by_cases hlt : k < xss.length
    · obtain ⟨b, o, A0, c0, rfl, hbl, k0, hre⟩ := (hr.le (Le.below hb)).get hlt
      clear hr
      go_wp2_with fail
      refine (toInts_any xss[k] (hlens _ (List.getElem_mem hlt)) _ _ _ hre).mono ?_
      rintro e' w' ⟨A', c', rfl, hrep, hb'⟩
      have hF' : w'.rowIs w.heap.size 23 xss.length F := hF.of_block (hb'.block _ hF.lt)
      have f0 := hF'.cell hlt
      have g0 := hF'.frozen k
      clear k0 hre
      go_wp2_with fail
      go_roundg (xss.length - (k + 1))
      case measure => omega
      case rel =>
        refine ⟨k + 1, _, by omega, rfl, by go_num, (hb.trans (hb'.mono hb.size)).setCell (p := ⟨w.heap.size, k, none⟩) (Nat.le_refl _) _, hF'.set k _, fun i hi hi' => ?_⟩
        have hle := Le.above_setCell (w.heap.size + 1) w' (p := ⟨w.heap.size, k, none⟩) (Nat.lt_succ_self _) (.slice A' xss[k].length c')
        by_cases e : i = k
        · subst e
          exact ⟨A', c', if_pos rfl, (hrep.le (Le.above_mono (by have := hF.lt; omega) _)).le hle⟩
        · obtain ⟨A1, c1, h1, h2⟩ := hall.out i (by omega) hi'
          exact ⟨A1, c1, (if_neg e).trans h1, (h2.le (Le.above_le _ (Le.below hb'))).le hle⟩
    · go_wp2_with fail
      go_ret
      obtain rfl : k = xss.length := by omega
      refine ⟨_, _, rfl, Intss.mk (by omega) fun i hi => ?_, hb⟩
      obtain ⟨A1, c1, h1, h2⟩ := hall.out i hi hi
      refine ⟨A1, c1, ?_, h2.le (Le.above_mono (by omega) _)⟩
      rw [Nat.zero_add, ← h1]
      exact cell_above_of (Nat.le_refl _) (hF.cell hi)

end Go.Proofs.YtfgpbnncdfcjjabGreatDoor

/-! The walks of equality of slices of ints, and of slices of such slices. -/
namespace Go.Proofs.YtfgpbnncdfcjjabGreatDoor
open Go.RowKit
set_option linter.unusedVariables false
set_option maxRecDepth 100000

set_option maxHeartbeats 400000 in
theorem equal_any (xs ys : List Int) (w : World) (A A' : Option Addr) (c c' : Nat) (hr : Ints w A c xs) (hr' : Ints w A' c' ys) :
    Calls Tryz.prog 66 #[.slice A xs.length c, .slice A' ys.length c'] w (RetB w (eqB xs ys)) := by
  have hm := hr.len
  have hm' := hr'.len
  go_enter Tryz.func66, Tryz.ntmps66
  by_cases hlen : xs.length = ys.length
  · have hne : ((xs.length : Int) != (ys.length : Int)) = false := by simp [hlen]
    have Hlen := Lib.hid hlen
    clear hlen
    go_wp2_with fail
    go_loopg [13] xs.length (fun g s17 wr => ∃ k : Nat, k ≤ xs.length ∧ g = xs.length - k ∧ s17 = .int .i64 k ∧ Hid (xs.take k = ys.take k) ∧ Below w.heap.size w wr)
    case atStart => exact ⟨0, Nat.zero_le _, rfl, rfl, rfl, Below.refl _ _⟩
    case round =>
      obtain ⟨k, hk, rfl, rfl, hpre, hb⟩ := hrel
      by_cases hlt : k < xs.length
      · have hlt' : k < ys.length := by have := Hlen.out; omega
        obtain ⟨b, o, rfl, hbl, k0⟩ := (hr.le (Le.below hb)).get hlt
        obtain ⟨b', o', rfl, hbl', d0⟩ := (hr'.le (Le.below hb)).get hlt'
        clear hr hr'
        by_cases he : xs[k] = ys[k]
        · have heb : (xs[k] != ys[k]) = false := by simp [he]
          have He := Lib.hid he
          clear he
          go_wp2_with fail
          go_quiet (fail)
          go_wp2_with fail
          go_roundg (xs.length - (k + 1))
          case measure => omega
          case rel => exact ⟨k + 1, by omega, rfl, by go_num, take_eq_of' hlt hlt' hpre.out He.out, below_drewN hb _⟩
        · have heb : (xs[k] != ys[k]) = true := by simp [he]
          go_wp2_with fail
          go_quiet (fail)
          go_wp2_with fail
          go_ret
          refine ⟨ret_bool ?_, below_drewN hb _⟩
          rw [eq_comm, eqB_false]
          intro e
          exact he (by simp only [e])
      · go_wp2_with fail
        go_ret
        refine ⟨ret_bool ?_, hb⟩
        obtain rfl : k = xs.length := by omega
        rw [eq_comm, eqB_iff]
        exact eq_of_take Hlen.out hpre.out
  · have hne : ((xs.length : Int) != (ys.length : Int)) = true := by simp; omega
    go_wp2_with fail
    go_ret
    exact ⟨ret_bool (eqB_ne_length hlen).symm, Below.refl _ _⟩

set_option maxHeartbeats 400000 in
theorem eqInts_any (xs ys : List Int) (w : World) (A A' : Option Addr) (c c' : Nat) (hr : Ints w A c xs) (hr' : Ints w A' c' ys) :
    Calls Tryz.prog 15 #[.slice A xs.length c, .slice A' ys.length c'] w (RetB w (eqB xs ys)) := by
  have hm := hr.len
  have hm' := hr'.len
  go_enter Tryz.func15, Tryz.ntmps15
  by_cases hlen : xs.length = ys.length
  · have hne : ((xs.length : Int) != (ys.length : Int)) = false := by simp [hlen]
    have Hlen := Lib.hid hlen
    clear hlen
    go_wp2_with fail
    go_loopg [5] xs.length (fun g s17 wr => ∃ k : Nat, k ≤ xs.length ∧ g = xs.length - k ∧ s17 = .int .i64 k ∧ Hid (xs.take k = ys.take k) ∧ Below w.heap.size w wr)
    case atStart => exact ⟨0, Nat.zero_le _, rfl, rfl, rfl, Below.refl _ _⟩
    case round =>
      obtain ⟨k, hk, rfl, rfl, hpre, hb⟩ := hrel
      by_cases hlt : k < xs.length
      · have hlt' : k < ys.length := by have := Hlen.out; omega
        obtain ⟨b, o, rfl, hbl, k0⟩ := (hr.le (Le.below hb)).get hlt
        obtain ⟨b', o', rfl, hbl', d0⟩ := (hr'.le (Le.below hb)).get hlt'
        clear hr hr'
        by_cases he : xs[k] = ys[k]
        · have heb : (xs[k] != ys[k]) = false := by simp [he]
          have He := Lib.hid he
          clear he
          go_wp2_with fail
          go_quiet (fail)
          go_wp2_with fail
          go_roundg (xs.length - (k + 1))
          case measure => omega
          case rel => exact ⟨k + 1, by omega, rfl, by go_num, take_eq_of' hlt hlt' hpre.out He.out, below_drewN hb _⟩
        · have heb : (xs[k] != ys[k]) = true := by simp [he]
          go_wp2_with fail
          go_quiet (fail)
          go_wp2_with fail
          go_ret
          refine ⟨ret_bool ?_, below_drewN hb _⟩
          rw [eq_comm, eqB_false]
          intro e
          exact he (by simp only [e])
      · go_wp2_with fail
        go_ret
        refine ⟨ret_bool ?_, hb⟩
        obtain rfl : k = xs.length := by omega
        rw [eq_comm, eqB_iff]
        exact eq_of_take Hlen.out hpre.out
  · have hne : ((xs.length : Int) != (ys.length : Int)) = true := by simp; omega
    go_wp2_with fail
    go_ret
    exact ⟨ret_bool (eqB_ne_length hlen).symm, Below.refl _ _⟩

set_option maxHeartbeats 400000 in
theorem eqIntss_any (xs ys : List (List Int)) (w : World) (A A' : Option Addr) (c c' : Nat) (hr : Intss w A c xs) (hr' : Intss w A' c' ys) :
    Calls Tryz.prog 45 #[.slice A xs.length c, .slice A' ys.length c'] w (RetB w (eqB xs ys)) := by
  have hm := hr.len
  have hm' := hr'.len
  go_enter Tryz.func45, Tryz.ntmps45
  by_cases hlen : xs.length = ys.length
  · have hne : ((xs.length : Int) != (ys.length : Int)) = false := by simp [hlen]
    have Hlen := Lib.hid hlen
    clear hlen
    go_wp2_with fail
    go_loopg [5] xs.length (fun g s17 wr => ∃ k : Nat, k ≤ xs.length ∧ g = xs.length - k ∧ s17 = .int .i64 k ∧ Hid (xs.take k = ys.take k) ∧ Below w.heap.size w wr)
    case atStart => exact ⟨0, Nat.zero_le _, rfl, rfl, rfl, Below.refl _ _⟩
    case round =>
      obtain ⟨k, hk, rfl, rfl, hpre, hb⟩ := hrel
      by_cases hlt : k < xs.length
      · have hlt' : k < ys.length := by have := Hlen.out; omega
        obtain ⟨b, o, A0, c0, rfl, hbl, k0, hre⟩ := (hr.le (Le.below hb)).get hlt
        obtain ⟨b', o', A1, c1, rfl, hbl', d0, hre'⟩ := (hr'.le (Le.below hb)).get hlt'
        clear hr hr'
        go_wp2_with fail
        go_still_tail 8, (by kernel_rfl)
        go_wp2_with fail
        refine (eqInts_any xs[k] ys[k] _ _ _ _ _ (hre.le (Le.drew _)) (hre'.le (Le.drew _))).mono ?_
        rintro e' w' ⟨rfl, hb'⟩
        have hb'' := hb.drew.trans (hb'.mono hb.size)
        clear k0 d0 hre hre' hbl hbl'
        go_wp2_with fail
        · go_ret
          refine ⟨ret_bool ?_, hb''⟩
          have hs : eqB xs[k] ys[k] = false := by simpa using ‹(!eqB xs[k] ys[k]) = true›
          rw [eq_comm, eqB_false]
          intro he
          rw [eqB_false] at hs
          exact hs (by simp only [he])
        · go_roundg (xs.length - (k + 1))
          case measure => omega
          case rel =>
            have hs : eqB xs[k] ys[k] = true := by simpa using ‹(!eqB xs[k] ys[k]) = false›
            exact ⟨k + 1, by omega, rfl, by go_num, take_eq_of' hlt hlt' hpre.out (eqB_iff.1 hs), hb''⟩
      · go_wp2_with fail
        go_ret
        refine ⟨ret_bool ?_, hb⟩
        obtain rfl : k = xs.length := by omega
        rw [eq_comm, eqB_iff]
        exact eq_of_take Hlen.out hpre.out
  · have hne : ((xs.length : Int) != (ys.length : Int)) = true := by simp; omega
    go_wp2_with fail
    go_ret
    exact ⟨ret_bool (eqB_ne_length hlen).symm, Below.refl _ _⟩

end Go.Proofs.YtfgpbnncdfcjjabGreatDoor

/-! Candidates for executions, as they lie in memory; the walks of szExec, toExec, eqExec, impl.ExecSame. -/
namespace Go.Proofs.YtfgpbnncdfcjjabGreatDoor
open Go.RowKit
set_option linter.unusedVariables false
set_option maxRecDepth 100000

structure Ex where
  from_ : List Int
  order : List (List Int)

/-- A candidate whose two slices lie at A and B. -/
def RepX (w : World) (A : Option Addr) (c : Nat) (B : Option Addr) (d : Nat) (x : Ex) : Prop := Ints w A c x.from_ ∧ Intss w B d x.order
theorem RepX.le {w w' : World} {A B : Option Addr} {c d : Nat} {x : Ex} (h : RepX w A c B d x) (hl : Le w w') : RepX w' A c B d x := ⟨h.1.le hl, h.2.le hl⟩
def wX (x : Ex) : Nat := x.from_.length + (x.order.length + wSum List.length x.order)
def RetX (w : World) (x : Ex) (e : Ending) (w' : World) : Prop := ∃ A c B d, e = .returned (.agg #[.slice A x.from_.length c, .slice B x.order.length d]) ∧ RepX (above w.heap.size w') A c B d x ∧ Below w.heap.size w w'
theorem eqX_iff {x y : Ex} : eqB x y = (eqB x.from_ y.from_ && eqB x.order y.order) := by
  rw [Bool.eq_iff_iff, Bool.and_eq_true, eqB_iff, eqB_iff, eqB_iff]
  obtain ⟨a, b⟩ := x
  obtain ⟨c, d⟩ := y
  simp

set_option maxHeartbeats 400000 in
theorem szX_any (x : Ex) (w : World) (A B : Option Addr) (c d : Nat) (l : Int) (hr : RepX w A c B d x) (h0 : 0 ≤ l) (h1 : l ≤ 1048576) :
    Calls Tryz.prog 8 #[.agg #[.slice A x.from_.length c, .slice B x.order.length d], .int .i64 l] w (RetI w (restI l (wX x))) := by
  have hlen := hr.1.len
  have hwx : wX x = x.from_.length + (x.order.length + wSum List.length x.order) := rfl
  have Hwx := Lib.hid hwx
  clear hwx
  go_enter Tryz.func8, Tryz.ntmps8
  go_wp2_with fail
  refine (szInts_any x.from_ _ _ _ l hlen h0 h1).mono ?_
  rintro e1 w1 ⟨rfl, hb1⟩
  have hb : Below w.heap.size w w1 := ((Below.refl _ _).alloc (Nat.le_refl _) _).trans (hb1.mono (by simp))
  by_cases hf : (x.from_.length : Int) ≤ l
  · have hr2 := (hr.2.le (Le.alloc _ _)).le (Le.below hb1)
    have hc1 := (bcell hb1).1
    rw [restI_le hf]
    go_wp2_with fail
    refine (szIntss_any x.order _ _ _ _ hr2 (by omega) (by omega)).mono ?_
    rintro e2 w2 ⟨rfl, hb2⟩
    have hb' := hb.trans (hb2.mono hb.size)
    by_cases hg : ((x.order.length + wSum List.length x.order : Nat) : Int) ≤ l - x.from_.length
    · rw [restI_le hg]
      clear hc1 hb1 hb2
      go_wp2_with fail
      go_ret
      exact ⟨ret_int (by rw [Hwx.out, restI_le (by omega)]; omega), hb'⟩
    · rw [restI_gt (Int.not_le.1 hg)]
      clear hc1 hb1 hb2
      go_wp2_with fail
      go_ret
      exact ⟨ret_int (by rw [Hwx.out, restI_gt (by omega)]), hb'⟩
  · rw [restI_gt (Int.not_le.1 hf)]
    go_wp2_with fail
    go_ret
    exact ⟨ret_int (by rw [Hwx.out, restI_gt (by omega)]), hb⟩

set_option maxHeartbeats 400000 in
theorem toX_any (x : Ex) (hw : wX x ≤ 1048576) (w : World) (A B : Option Addr) (c d : Nat) (hr : RepX w A c B d x) :
    Calls Tryz.prog 12 #[.agg #[.slice A x.from_.length c, .slice B x.order.length d]] w (RetX w x) := by
  have hwx : wX x = x.from_.length + (x.order.length + wSum List.length x.order) := rfl
  have h1 : x.from_.length ≤ 1048576 := by omega
  have h2 : x.order.length ≤ 1048576 := by omega
  have h3 : ∀ xs ∈ x.order, xs.length ≤ 1048576 := fun xs hx => by have := wSum_mem List.length hx; omega
  clear hwx hw
  go_enter Tryz.func12, Tryz.ntmps12
  go_wp2_with fail
  refine (toInts_any x.from_ h1 _ A c (hr.1.le (((Le.alloc _ _).to_alloc _).to_alloc _))).mono ?_
  rintro e1 w1 ⟨A1, c1, rfl, hk1, hb1⟩
  have hb : Below w.heap.size w w1 := ((((Below.refl _ _).alloc (Nat.le_refl _) _).alloc (by simp) _).alloc (by simp <;> omega) _).trans (hb1.mono (by simp <;> omega))
  have hk1' : Ints (above (w.heap.size + 3) w1) A1 c1 x.from_ := by simpa using hk1
  have oR := ((Own.new (w.alloc (.cells #[.slice A x.from_.length c, .slice B x.order.length d] 26)) 34 #[.slice none 0 0, .slice none 0 0]).alloc (.cells #[.slice none 0 0, .slice none 0 0] 34)).under hb1
  have oO := (Own.new ((w.alloc (.cells #[.slice A x.from_.length c, .slice B x.order.length d] 26)).alloc (.cells #[.slice none 0 0, .slice none 0 0] 34)) 34 #[.slice none 0 0, .slice none 0 0]).under hb1
  have oA := (((Own.new w 26 #[.slice A x.from_.length c, .slice B x.order.length d]).alloc (.cells #[.slice none 0 0, .slice none 0 0] 34)).alloc (.cells #[.slice none 0 0, .slice none 0 0] 34)).under hb1
  simp only [World.size_alloc] at oR oO oA
  have hz1 := oO.lt
  clear hk1 hb1
  have q0 := oO.cell (i := 0) rfl
  have q1 := oO.frozen 0
  have q2 := oA.cell (i := 1) rfl
  go_wp2_with fail
  have hb1' := hb.setCell (p := ⟨w.heap.size + 1 + 1, 0, none⟩) (by simp <;> omega) (.slice A1 x.from_.length c1)
  refine (toIntss_any x.order h2 h3 _ B d (hr.2.le ((Le.below hb).to_setCell (p := ⟨w.heap.size + 1 + 1, 0, none⟩) (by simp <;> omega) _))).mono ?_
  rintro e2 w2 ⟨A2, c2, rfl, hk2, hb2⟩
  have hb3 := hb1'.trans (hb2.mono hb1'.size)
  have hkf : Ints (above (w.heap.size + 3) w2) A1 c1 x.from_ := hk1'.le (((Le.refl _).to_above_setCell (p := ⟨w.heap.size + 1 + 1, 0, none⟩) (by simp)).to_above_le (Le.below hb2))
  have hko : Intss (above (w.heap.size + 3) w2) A2 c2 x.order := hk2.le (Le.above_mono (by simp <;> omega) _)
  have oO2 := (oO.set 0 (.slice A1 x.from_.length c1)).under hb2
  have oR2 := (oR.far (a := ⟨w.heap.size + 1 + 1, 0, none⟩) (by simp) (.slice A1 x.from_.length c1)).under hb2
  clear q0 q1 q2 hb2 hk2 hb1' oO oR oA hz1
  have q0 := oO2.cell (i := 0) rfl
  have q1 := oO2.cell (i := 1) rfl
  have q2 := oO2.frozen 1
  have r0 := oR2.cell (i := 0) rfl
  have r1 := oR2.cell (i := 1) rfl
  have r2 := oR2.frozen 0
  have r3 := oR2.frozen 1
  clear oO2 oR2
  go_wp2_with fail
  refine bodyPost_ret (v := .agg #[.slice A1 x.from_.length c1, .slice A2 x.order.length c2]) (by simp [results, Tryz.results12, go_sem, r0, r1]) rfl ?_
  have hle : Le (above (w.heap.size + 3) w2) (above w.heap.size (((w2.setCell ⟨w.heap.size + 1 + 1, 1, none⟩ (.slice A2 x.order.length c2)).setCell ⟨w.heap.size + 1, 0, none⟩ (.slice A1 x.from_.length c1)).setCell ⟨w.heap.size + 1, 1, none⟩ (.slice A2 x.order.length c2))) :=
    ((((Le.refl _).to_above_setCell (by simp)).to_above_setCell (by simp)).to_above_setCell (by simp)).trans (Le.above_mono (by omega) _)
  exact ⟨A1, c1, A2, c2, rfl, ⟨hkf.le hle, hko.le hle⟩, ((hb3.setCell (by simp <;> omega) _).setCell (by simp) _).setCell (by simp) _⟩

set_option maxHeartbeats 400000 in
theorem eqX_any (x y : Ex) (w : World) (A B A' B' : Option Addr) (c d c' d' : Nat) (hx : RepX w A c B d x) (hy : RepX w A' c' B' d' y) :
    Calls Tryz.prog 17 #[.agg #[.slice A x.from_.length c, .slice B x.order.length d], .agg #[.slice A' y.from_.length c', .slice B' y.order.length d']] w (RetB w (eqB x y)) := by
  have he := eqX_iff (x := x) (y := y)
  have He := Lib.hid he
  clear he
  go_enter Tryz.func17, Tryz.ntmps17
  go_wp2_with fail
  refine (eqInts_any x.from_ y.from_ _ _ _ _ _ (hx.1.le (((Le.refl _).to_alloc _).to_alloc _)) (hy.1.le (((Le.refl _).to_alloc _).to_alloc _))).mono ?_
  rintro e1 w1 ⟨rfl, hb1⟩
  have hb : Below w.heap.size w w1 := (((Below.refl _ _).alloc (Nat.le_refl _) _).alloc (by simp) _).trans (hb1.mono (by simp <;> omega))
  have hc1 := (bcell hb1).1
  have hz : w.heap.size + 2 ≤ w1.heap.size := by have := hb1.size; simp at this; omega
  cases h : eqB x.from_ y.from_
  · rw [h] at He
    go_wp2_with fail
    go_ret
    exact ⟨ret_bool (by rw [He.out]; rfl), hb⟩
  · rw [h] at He
    go_wp2_with fail
    refine (eqIntss_any x.order y.order _ _ _ _ _ (hx.2.le (Le.below hb)) (hy.2.le (Le.below hb))).mono ?_
    rintro e2 w2 ⟨rfl, hb2⟩
    have hb' := hb.trans (hb2.mono hb.size)
    clear hb1 hc1 hb2
    cases h' : eqB x.order y.order <;> (go_wp2_with fail; go_ret; exact ⟨ret_bool (by rw [He.out, h']; rfl), hb'⟩)

end Go.Proofs.YtfgpbnncdfcjjabGreatDoor
