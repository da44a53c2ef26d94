/-
  The program's CountSchedules.
-/
import Derived.Test.YtcckflijaolnkaaAlP
namespace Go.Proofs.Ytcckflijaolnkaa
open Go.RowKit
set_option linter.unusedVariables false
set_option maxRecDepth 100000

theorem wayP_snoc : ∀ (q : Prg) (t : List Ins) (a c : Nat), wayP a c (q ++ [t]) = wayT (a + wSum List.length q) (wayP a c q) t.length
  | [], t, a, c => by simp [wayP, wSum]
  | u :: q, t, a, c => by
    show wayP (a + u.length) (wayT a c u.length) (q ++ [t]) = _
    rw [wayP_snoc q t]
    show _ = wayT (a + (u.length + wSum List.length q)) _ _
    rw [Nat.add_assoc]
    rfl
theorem way_take {p : Prg} {i : Nat} (h : i < p.length) : wayP 0 1 (p.take (i + 1)) = wayT (wSum List.length (p.take i)) (wayP 0 1 (p.take i)) p[i].length := by
  rw [List.take_succ_eq_append_getElem h, wayP_snoc, Nat.zero_add]
def bdW : Nat → Nat
  | 0 => 1
  | 1 => 1
  | 2 => 2097152
  | _ => 358318080000000
theorem sum_bd {p : Prg} (hp : PrgOk p) : ∀ i, i ≤ p.length → wSum List.length (p.take i) ≤ 7 * i
  | 0, _ => by simp [wSum]
  | i + 1, h => by
    have := sum_bd hp i (by omega)
    rw [wSum_take_succ List.length p i (by omega)]
    have := (hp.1.2.1 _ (List.getElem_mem (show i < p.length by omega))).1
    omega
theorem wayT_bd {a c i : Nat} (hi : i < 3) (ha : a ≤ 7 * i) (hc : c ≤ bdW i) : ∀ j, j ≤ 7 → wayT a c j ≤ bdW (i + 1) := fun j hj => by
  have h1 := wayT_le a c j
  have h2 : (a + 1) ^ j ≤ (7 * i + 1) ^ 7 := Nat.le_trans (Nat.pow_le_pow_left (by omega) j) (Nat.pow_le_pow_right (by omega) hj)
  have h3 := Nat.mul_le_mul hc h2
  match i, hi with
  | 0, _ => simp [bdW] at *; omega
  | 1, _ => simp [bdW] at *; omega
  | 2, _ => simp [bdW] at *; omega
theorem way_bd {p : Prg} (hp : PrgOk p) : ∀ i, i ≤ p.length → wayP 0 1 (p.take i) ≤ bdW i
  | 0, _ => by simp [wayP, bdW]
  | i + 1, h => by
    rw [way_take (by omega)]
    have := hp.1.1
    exact wayT_bd (by omega) (sum_bd hp i (by omega)) (way_bd hp i (by omega)) _ (hp.1.2.1 _ (List.getElem_mem (show i < p.length by omega))).1
theorem bdW_le {i : Nat} : bdW i ≤ 358318080000000 := by
  match i with
  | 0 => decide
  | 1 => decide
  | 2 => decide
  | n + 3 => exact Nat.le_refl _
theorem way_step {a c j : Nat} (h1 : wayT a c j ≤ 358318080000000) (h2 : a + j + 1 ≤ 30) : wrap64 ((wrap64 ((wayT a c j : Int) * ((a : Int) + (j : Int) + 1))).tdiv ((j : Int) + 1)) = ((wayT a c (j + 1) : Nat) : Int) := by
  have h3 : wayT a c j * (a + j + 1) ≤ 358318080000000 * 30 := Nat.mul_le_mul h1 h2
  have e1 : (wayT a c j : Int) * ((a : Int) + (j : Int) + 1) = ((wayT a c j * (a + j + 1) : Nat) : Int) := by
    rw [Int.natCast_mul, Int.natCast_add, Int.natCast_add]
    rfl
  have e2 : ((j : Int) + 1) = ((j + 1 : Nat) : Int) := rfl
  have e3 : wayT a c (j + 1) = wayT a c j * (a + j + 1) / (j + 1) := rfl
  have h4 : wayT a c j * (a + j + 1) / (j + 1) ≤ wayT a c j * (a + j + 1) := Nat.div_le_self _ _
  rw [e1, e2, e3]
  generalize wayT a c j * (a + j + 1) = x at h3 h4
  rw [IntWalk.wrap64_in (x : Int) ⟨by omega, by omega⟩, ← Int.ofNat_tdiv]
  generalize x / (j + 1) = y at h4
  exact IntWalk.wrap64_in (y : Int) ⟨by omega, by omega⟩
noncomputable def wayO (p : Prg) : Nat := if prgB p = true then wayP 0 1 p else 0

set_option maxHeartbeats 1000000 in
theorem implCn_any (p : Prg) (hl : p.length ≤ 1048576) (hls : ∀ t ∈ p, t.length ≤ 1048576) (W : World) (v : Value) (hr : PrgS W v p) : Calls Try.prog 33 #[v] W (RetHd W (wayO p)) := by
  have hv := implPrg_any p hl hls W v hr
  have HR := Lib.hid hr
  obtain ⟨A, c, rfl, _⟩ := hr.slice
  have HF : Hid (prgB p = false → wayO p = 0) := fun h => by show _ = _; unfold wayO; rw [h]; rfl
  have HT : Hid (prgB p = true → wayO p = wayP 0 1 p) := fun h => by show _ = _; unfold wayO; rw [if_pos h]
  have HP : Hid (prgB p = true → PrgOk p) := fun h => prgB_iff.1 h
  go_enter Try.func33, Try.ntmps33
  go_wp2_with fail
  refine hv.mono ?_
  rintro e1 w1 ⟨rfl, hb1⟩
  clear hv
  cases hpb : prgB p
  · have Hn := Lib.hid (HF.out hpb)
    clear hpb HT HF
    go_wp2_with fail
    go_ret
    exact ⟨by rw [Hn.out]; rfl, hb1⟩
  · have Hp : Hid (PrgOk p) := HP.out hpb
    have Hn := Lib.hid (HT.out hpb)
    have HR1 := Lib.hid (HR.out.le (Le.below hb1))
    clear hpb HT HF HR hr
    go_wp2_with fail
    go_loopg [3, 4, 6, 7, 13] p.length (fun g s3 s4 s6 s7 s13 wr => ∃ i : Nat, i ≤ p.length ∧ g = p.length - i ∧ s13 = .int .i64 i ∧ s3 = .int .i64 ((wayP 0 1 (p.take i) : Nat) : Int) ∧ s4 = .int .i64 ((wSum List.length (p.take i) : Nat) : Int) ∧ Below w1.heap.size w1 wr)
    case atStart => exact ⟨0, Nat.zero_le _, rfl, rfl, rfl, rfl, Below.refl _ _⟩
    case round =>
      obtain ⟨i, hi, rfl, rfl, rfl, rfl, hb⟩ := hrel
      by_cases hlt : i < p.length
      · obtain ⟨b, o, A2, c2, rfl, hbl, k0, hlm, hx⟩ := SlR.getSub (PrgS.le HR1.out (Le.below hb)) hlt
        have hp3 := Hp.out.1.1
        have hm7 := (Hp.out.1.2.1 _ (List.getElem_mem hlt)).1
        have ha := sum_bd Hp.out i hi
        have hc := way_bd Hp.out i hi
        have Hw := Lib.hid (way_take hlt)
        have Hs := Lib.hid (wSum_take_succ List.length p i hlt)
        have Hbd := Lib.hid (wayT_bd (by omega) ha hc)
        generalize wSum List.length (p.take i) = a at ha Hw Hs Hbd
        generalize wayP 0 1 (p.take i) = cc at hc Hw Hbd
        generalize p[i] = t0 at k0 hlm hm7 Hw Hs
        obtain ⟨m, hm⟩ : ∃ m, m = t0.length := ⟨_, rfl⟩
        rw [← hm] at k0 hlm hm7 Hw Hs
        clear hx hc hm
        go_wp2_with fail
        go_loopg [3, 4, 7, 19] m (fun g s3 s4 s7 s19 wq => ∃ j : Nat, j ≤ m ∧ g = m - j ∧ s19 = .int .i64 j ∧ s3 = .int .i64 ((wayT a cc j : Nat) : Int) ∧ s4 = .int .i64 ((a + j : Nat) : Int) ∧ Below w1.heap.size w1 wq)
        case atStart => exact ⟨0, Nat.zero_le _, rfl, rfl, rfl, rfl, hb⟩
        case round =>
          obtain ⟨j, hj, rfl, rfl, rfl, rfl, hb⟩ := hrel
          by_cases hjl : j < m
          · have Hst := Lib.hid (way_step (a := a) (c := cc) (j := j) (Nat.le_trans (Hbd.out j (by omega)) bdW_le) (by omega))
            go_wp2_with fail
            go_roundg (m - (j + 1))
            case measure => omega
            case rel => exact ⟨j + 1, by omega, rfl, by go_num, congrArg (Value.int .i64) Hst.out, congrArg (Value.int .i64) (by omega), hb⟩
          · obtain rfl : j = m := by omega
            go_wp2_with fail
            go_roundg (p.length - (i + 1))
            case measure => omega
            case rel => exact ⟨i + 1, by omega, rfl, by go_num, by rw [Hw.out], by rw [Hs.out], hb⟩
      · obtain rfl : i = p.length := by omega
        rw [List.take_length, ← Hn.out]
        go_wp2_with fail
        go_ret
        exact ⟨rfl, hb1.trans (hb.mono hb1.size)⟩

end Go.Proofs.Ytcckflijaolnkaa
