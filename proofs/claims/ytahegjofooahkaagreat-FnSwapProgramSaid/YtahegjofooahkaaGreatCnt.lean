/-
  The walk of impl.CountOps.
-/
import Derived.Test.YtahegjofooahkaaGreatImPa
namespace Go.Proofs.YtahegjofooahkaaGreat
open Go.RowKit
set_option linter.unusedVariables false
set_option maxRecDepth 100000

/-- How many instructions are of a kind. -/
def opT (o : Int) (t : List Ins) : Nat := t.countP fun x => decide (x.op = o)
def opN (o : Int) (p : Prg) : Nat := wSum (opT o) p
noncomputable def opO (o : Int) (p : Prg) : Nat := if prgB p = true then opN o p else 0
theorem opT_take_succ (o : Int) (t : List Ins) (k : Nat) (h : k < t.length) : opT o (t.take (k + 1)) = opT o (t.take k) + if decide (t[k].op = o) = true then 1 else 0 := countP_take_succ _ _ _ h
theorem opT_le (o : Int) (t : List Ins) : opT o t ≤ t.length := List.countP_le_length
theorem opN_take_succ (o : Int) (p : Prg) (k : Nat) (h : k < p.length) : opN o (p.take (k + 1)) = opN o (p.take k) + opT o p[k] := wSum_take_succ _ _ _ h

set_option maxHeartbeats 4000000 in
theorem cntOps_any (p : Prg) (op : Int) (hl : p.length ≤ 1048576) (hls : ∀ t ∈ p, t.length ≤ 1048576) (w : World) (v : Value) (hr : PrgS w v p) : Calls Tryz.prog 43 #[v, .int .i64 op] w (RetI w (opO op p : Nat)) := by
  obtain ⟨A, c, rfl, _⟩ := hr.slice
  have hpv := implPrg_any p hl hls w _ hr
  clear hls
  go_enter Tryz.func43, Tryz.ntmps43
  cases hv : prgB p
  · rw [hv] at hpv
    have He : Hid (opO op p = 0) := by show _ = _; unfold opO; rw [if_neg (by rw [hv]; decide)]
    clear hv
    go_wp2_with fail
    refine hpv.mono ?_
    rintro e1 w1 ⟨rfl, hb1⟩
    go_wp2_with fail
    go_ret
    exact ⟨ret_int (by rw [He.out]; rfl), hb1⟩
  · rw [hv] at hpv
    have hsh := (prgB_iff.1 hv).1
    have He : Hid (opO op p = opN op p) := by show _ = _; unfold opO; rw [if_pos hv]
    have Hsh := Lib.hid hsh
    have h3 := hsh.1
    clear hv hsh
    go_wp2_with fail
    refine hpv.mono ?_
    rintro e1 w1 ⟨rfl, hb1⟩
    have hr1 := PrgS.le hr (Le.below hb1)
    clear hpv hr
    go_wp2_with fail
    go_loopg [5, 15] p.length (fun g s5 s15 wr => ∃ i : Nat, i ≤ p.length ∧ g = p.length - i ∧ s15 = .int .i64 i ∧ s5 = .int .i64 (opN op (p.take i) : Nat) ∧ opN op (p.take i) ≤ 7 * i ∧ Below w1.heap.size w1 wr)
    case atStart => exact ⟨0, Nat.zero_le _, rfl, rfl, by simp [opN, wSum], by simp [opN, wSum], Below.refl _ _⟩
    case round =>
      obtain ⟨wo, rfl⟩ : ∃ wo : World, wo = wr := ⟨_, rfl⟩
      obtain ⟨i, hi, rfl, rfl, rfl, hn, hb⟩ := hrel
      by_cases hlt : i < p.length
      · obtain ⟨bb, o, A1, c1, rfl, hbl, k0, hlm, hx⟩ := SlR.getSub (PrgS.le hr1 (Le.below hb)) hlt
        have htl := (Hsh.out.2.1 _ (List.getElem_mem hlt)).1
        have Hts := Lib.hid (opN_take_succ op p i hlt)
        generalize hnn : opN op (p.take i) = nn at hn
        rw [hnn] at Hts
        generalize htt : p[i] = t at hx hlm k0 Hts htl
        clear hr1 hnn htt
        go_wp2_with fail
        go_loopg [5, 21] t.length (fun g s5 s21 wr => ∃ k : Nat, k ≤ t.length ∧ g = t.length - k ∧ s21 = .int .i64 k ∧ s5 = .int .i64 ((nn + opT op (t.take k) : Nat) : Int) ∧ opT op (t.take k) ≤ k ∧ Below wo.heap.size wo wr)
        case atStart => exact ⟨0, Nat.zero_le _, rfl, rfl, by simp [opT], by simp [opT], Below.refl _ _⟩
        case round =>
          obtain ⟨wk, rfl⟩ : ∃ wk : World, wk = wr := ⟨_, rfl⟩
          obtain ⟨k, hk, rfl, rfl, rfl, hm, hbk⟩ := hrel
          by_cases hkt : k < t.length
          · obtain ⟨b2, o2, rfl, hbl2, d0, d1, d2, d3⟩ := (InsS.le hx (Le.below hbk)).get hkt
            have Hkts := Lib.hid (opT_take_succ op t k hkt)
            generalize hmm : opT op (t.take k) = mm at hm
            rw [hmm] at Hkts
            generalize hxx : t[k] = x at d0 d1 d2 d3 Hkts
            clear hmm hxx k0
            cases hq : decide (x.op = op)
            · have hqb : ((x.op : Int) == op) = false := by rw [beq_eq_false_iff_ne]; exact of_decide_eq_false hq
              rw [hq] at Hkts
              clear hq
              go_wp2_with fail
              go_roundg (t.length - (k + 1))
              case measure => omega
              case rel => exact ⟨k + 1, by omega, rfl, by go_num, congrArg (Value.int .i64) (by rw [Hkts.out]; simp), by rw [Hkts.out]; simp; omega, hbk.alloc hbk.size _⟩
            · have hqb : ((x.op : Int) == op) = true := by rw [beq_iff_eq]; exact of_decide_eq_true hq
              rw [hq] at Hkts
              clear hq
              go_wp2_with fail
              go_roundg (t.length - (k + 1))
              case measure => omega
              case rel => exact ⟨k + 1, by omega, rfl, by go_num, congrArg (Value.int .i64) (by rw [Hkts.out]; simp; omega), by rw [Hkts.out]; simp; omega, hbk.alloc hbk.size _⟩
          · obtain rfl : k = t.length := by omega
            rw [List.take_length] at hm ⊢
            go_wp2_with fail
            go_roundg (p.length - (i + 1))
            case measure => omega
            case rel => exact ⟨i + 1, by omega, rfl, by go_num, congrArg (Value.int .i64) (by rw [Hts.out]), by rw [Hts.out]; omega, hb.trans (hbk.mono hb.size)⟩
      · obtain rfl : i = p.length := by omega
        rw [List.take_length] at hn ⊢
        go_wp2_with fail
        go_ret
        exact ⟨ret_int (by rw [He.out]), hb1.trans (hb.mono hb1.size)⟩

end Go.Proofs.YtahegjofooahkaaGreat
