/-
  The reference's RunSchedule.
-/
import Derived.Test.YtcckflijaolnkaaFol
namespace Go.Proofs.Ytcckflijaolnkaa
open Go.RowKit
set_option linter.unusedVariables false
set_option maxRecDepth 100000

theorem mvI_mem {p : Prg} {s : St} {m : Int} : m ∈ mvI p s p.length ↔ ∃ t : Nat, m = (t : Int) ∧ t < p.length ∧ onS p s t = true := by
  rw [mvI_eq, List.mem_map]
  constructor
  · rintro ⟨t, h, rfl⟩
    unfold mvS at h
    rw [List.mem_filter, List.mem_range] at h
    exact ⟨t, rfl, h⟩
  · rintro ⟨t, rfl, h⟩
    exact ⟨t, by unfold mvS; rw [List.mem_filter, List.mem_range]; exact h, rfl⟩
/-- A thread's move. -/
theorem seq_step {p : Prg} {s : St} {t : Nat} (ht : t < p.length) (hon : onS p s t = true) : stepW (sucS p) (fun s => mvI p s p.length) s (t : Int) = some (nxS p s t) := by
  have hl : (mvI p s p.length).length = (sucS p s).length := by rw [mvI_eq]; unfold sucS; rw [List.length_map, List.length_map]
  obtain ⟨i, hi, hj, h1, h2⟩ := lookup_in (mvI p s p.length) (sucS p s) (t : Int) hl (mvI_mem.2 ⟨t, rfl, ht, hon⟩)
  unfold stepW
  rw [h2]
  have h3 : (mvS p s)[i]'(by unfold sucS at hj; rw [List.length_map] at hj; exact hj) = t := by
    simp only [mvI_eq, List.getElem_map] at h1
    omega
  simp only [sucS, List.getElem_map, h3]
theorem seq_none {p : Prg} {s : St} {m : Int} (h : ∀ t : Nat, m = (t : Int) → t < p.length → onS p s t = false) : stepW (sucS p) (fun s => mvI p s p.length) s m = none :=
  step_none fun hm => by
    obtain ⟨t, h1, h2, h3⟩ := mvI_mem.1 hm
    rw [h t h1 h2] at h3
    cases h3
theorem seq_len (p : Prg) : ∀ s, Reach (sucS p) (st0 p) s → (mvI p s p.length).length = (sucS p s).length := fun s _ => by rw [mvI_eq]; unfold sucS; rw [List.length_map, List.length_map]
/-- A box that holds a state: its block, and what the state's rows hold beside it. -/
structure Bx (w : World) (b : Nat) (A1 A2 A3 A4 : Option Addr) (c1 c2 c3 c4 : Nat) (s : S3) : Prop where
  own : Own w b 71 #[.slice A1 s.at_.length c1, .slice A2 s.regs.length c2, .slice A3 s.mem.length c3, .slice A4 s.buf.length c4]
  rep : Rep4 (hidP (fun x => x = b) w) A1 A2 A3 A4 c1 c2 c3 c4 s
section
variable {w w' : World} {b : Nat} {A1 A2 A3 A4 : Option Addr} {c1 c2 c3 c4 : Nat} {s : S3}
theorem Bx.below (h : Bx w b A1 A2 A3 A4 c1 c2 c3 c4 s) (hb : Below w.heap.size w w') : Bx w' b A1 A2 A3 A4 c1 c2 c3 c4 s :=
  ⟨h.own.under hb, h.rep.le (Le.hidP_below hb (fun _ _ => .inr trivial))⟩
theorem Bx.new (hr : Rep4 w A1 A2 A3 A4 c1 c2 c3 c4 s) : Bx (w.alloc (.cells #[.slice A1 s.at_.length c1, .slice A2 s.regs.length c2, .slice A3 s.mem.length c3, .slice A4 s.buf.length c4] 71)) w.heap.size A1 A2 A3 A4 c1 c2 c3 c4 s :=
  ⟨Own.new _ _ _, hr.le fun x v hc => cell_hidP.2 ⟨by have := World.block_lt_of_cell? _ _ hc; omega, Le.alloc _ _ _ _ hc⟩⟩
theorem Bx.cells (h : Bx w b A1 A2 A3 A4 c1 c2 c3 c4 s) : w.cell? ⟨b, 0, none⟩ = some (.slice A1 s.at_.length c1) ∧ w.cell? ⟨b, 1, none⟩ = some (.slice A2 s.regs.length c2) ∧ w.cell? ⟨b, 2, none⟩ = some (.slice A3 s.mem.length c3) ∧ w.cell? ⟨b, 3, none⟩ = some (.slice A4 s.buf.length c4) :=
  ⟨h.own.cell (i := 0) rfl, h.own.cell (i := 1) rfl, h.own.cell (i := 2) rfl, h.own.cell (i := 3) rfl⟩
/-- Another state is put into it. -/
theorem Bx.put {D1 D2 D3 D4 : Option Addr} {d1 d2 d3 d4 B : Nat} {s' : S3} (h : Bx w b A1 A2 A3 A4 c1 c2 c3 c4 s) (hB : b < B) (hr : Rep4 (above B w) D1 D2 D3 D4 d1 d2 d3 d4 s') :
    Bx ((((w.setCell ⟨b, 0, none⟩ (.slice D1 s'.at_.length d1)).setCell ⟨b, 1, none⟩ (.slice D2 s'.regs.length d2)).setCell ⟨b, 2, none⟩ (.slice D3 s'.mem.length d3)).setCell ⟨b, 3, none⟩ (.slice D4 s'.buf.length d4)) b D1 D2 D3 D4 d1 d2 d3 d4 s' := by
  refine ⟨(((h.own.set 0 _).set 1 _).set 2 _).set 3 _, hr.le fun x v hc => ?_⟩
  obtain ⟨h1, h2⟩ := cell_above_lt hc
  have hne : ∀ i, (⟨b, i, none⟩ : Addr) ≠ x := fun i e => by rw [← e] at h1; simp only at h1; omega
  refine cell_hidP.2 ⟨by omega, ?_⟩
  rw [World.cell?_setCell_other _ _ _ _ (hne 3), World.cell?_setCell_other _ _ _ _ (hne 2), World.cell?_setCell_other _ _ _ _ (hne 1), World.cell?_setCell_other _ _ _ _ (hne 0)]
  exact h2
end

set_option maxHeartbeats 3000000 in
theorem specSc_any (p : Prg) (hl : p.length ≤ 1048576) (ms : List Int) (W : World) (v : Value) (hr : PrgS W v p) (B : Option Addr) (d : Nat) (hI : Ints W B d ms) : Calls Try.prog 23 #[v, .slice B ms.length d] W (RetO W (schR p ms)) := by
  have hv := specPrg_any p hl W v hr
  have HR := Lib.hid hr
  have HI := Lib.hid hI
  have hm := hI.len
  obtain ⟨A, c, rfl, _⟩ := hr.slice
  have HF : Hid (prgB p = false → schR p ms = none) := fun h => by unfold schR; rw [h]; rfl
  have HT : Hid (prgB p = true → PrgOk p ∧ schR p ms = resW (sucS p) (fun s => mvI p s p.length) (doneS p) outS (st0 p) ms) := fun h => ⟨prgB_iff.1 h, by unfold schR; rw [if_pos h]⟩
  generalize schR p ms = r at HF HT
  clear hI
  go_enter Try.func23, Try.ntmps23
  go_wp2_with fail
  refine hv.mono ?_
  rintro e1 w1 ⟨rfl, hb1⟩
  clear hv
  cases hpb : prgB p
  · obtain rfl := HF.out hpb
    clear hpb HT HF
    go_wp2_with fail
    refine bodyPost_ret (v := .tuple #[.slice (some ⟨w1.heap.size, 0, none⟩) 0 0, .bool false]) (by simp [results, Try.results23, go_sem]) rfl ?_
    exact ⟨_, _, rfl, ⟨_, _, rfl, by simp, fun i hi => absurd hi (Nat.not_lt_zero _)⟩, hb1.alloc hb1.size _⟩
  · obtain ⟨hp, hs⟩ := HT.out hpb
    have Hp := Lib.hid hp
    have Hs := Lib.hid hs
    have h3 := hp.1.1
    have hst := l3Start_any p (by omega) 0 (by omega) w1 (.slice A p.length c) (HR.out.le (Le.below hb1))
    clear hpb HT HF hp hs
    go_wp2_with fail
    refine hst.mono ?_
    rintro e5 w5 ⟨A1, A2, A3, A4, c1, c2, c3, c4, rfl, hr5, hb5⟩
    have hB5 := hb1.trans (hb5.mono hb1.size)
    rw [s30_st0] at hr5 ⊢
    have hbx := Bx.new (hr5.le (Le.above _ _))
    obtain ⟨b, hbe⟩ : ∃ b, b = w5.heap.size := ⟨_, rfl⟩
    have hbW : W.heap.size ≤ b := by rw [hbe]; exact hB5.size
    have hB6 := hB5.alloc hB5.size (.cells #[.slice A1 (st0 p).s3.at_.length c1, .slice A2 (st0 p).s3.regs.length c2, .slice A3 (st0 p).s3.mem.length c3, .slice A4 (st0 p).s3.buf.length c4] 71)
    obtain ⟨w6, hw6⟩ : ∃ w6, w6 = w5.alloc (.cells #[.slice A1 (st0 p).s3.at_.length c1, .slice A2 (st0 p).s3.regs.length c2, .slice A3 (st0 p).s3.mem.length c3, .slice A4 (st0 p).s3.buf.length c4] 71) := ⟨_, rfl⟩
    rw [← hw6] at hbx hB6
    rw [← hbe] at hbx
    have Hbx := Lib.hid hbx
    clear hst hr5 hb5 hbx
    go_upto_region 4 with (fail)
    rw [← hw6, ← hbe]
    clear hw6 hbe
    go_wp2_with fail
    go_loopg [7] ms.length (fun g s7 wr => ∃ (i : Nat) (s : St) (A1 A2 A3 A4 : Option Addr) (c1 c2 c3 c4 : Nat), i ≤ ms.length ∧ g = ms.length - i ∧ s7 = .int .i64 i ∧ Hid (runW (sucS p) (fun s => mvI p s p.length) (st0 p) (ms.take i) = some s) ∧ Hid (Bx wr b A1 A2 A3 A4 c1 c2 c3 c4 s.s3) ∧ Below W.heap.size W wr)
    case atStart => exact ⟨0, st0 p, A1, A2, A3, A4, c1, c2, c3, c4, Nat.zero_le _, rfl, rfl, by rw [List.take_zero]; rfl, Hbx.out, hB6⟩
    case round =>
      clear Hbx hB6
      obtain ⟨wo, rfl⟩ : ∃ wo : World, wo = wr := ⟨_, rfl⟩
      obtain ⟨i, s, A1, A2, A3, A4, c1, c2, c3, c4, hi, rfl, rfl, hrun, hbx, hb⟩ := hrel
      have hre := run_reach (seq_len p) _ _ .start hrun.out
      have hok := reach_ok Hp.out hre
      have Hok := Lib.hid hok
      have hbl := hbx.out.own.lt
      obtain ⟨q0, q1, q2, q3⟩ := hbx.out.cells
      have hpr := HR.out.le (Le.below hb)
      have Hpr := Lib.hid hpr
      have Hre := Lib.hid hre
      by_cases hlt : i < ms.length
      · obtain ⟨bm, om, rfl, hbm, k0⟩ := (HI.out.le (Le.below hb)).get hlt
        have Hstep : Hid (runW (sucS p) (fun s => mvI p s p.length) (st0 p) (ms.take (i + 1)) = stepW (sucS p) (fun s => mvI p s p.length) s ms[i]) := by
          show _ = _
          rw [run_take hlt, hrun.out]
          rfl
        have Hnone : Hid (stepW (sucS p) (fun s => mvI p s p.length) s ms[i] = none → r = none) := fun h => by
          rw [Hs.out]
          unfold resW
          rw [run_take_none hlt (by rw [Hstep.out]; exact h)]
          rfl
        generalize ms[i] = m at k0 Hstep Hnone
        clear hre hrun hok hpr
        by_cases hneg : m < 0
        · have hd : decide (m < 0) = true := decide_eq_true hneg
          obtain rfl : r = none := Hnone.out (seq_none fun t ht _ => by omega)
          clear Hstep Hnone q0 q1 q2 q3
          go_wp2_with fail
          refine wp_region_ext wo (by kernel_rfl) (by kernel_rfl) (Below.refl _ _) ?_
          repeat (go_big_quiet_step (fail))
          refine wpQuiet_nil ?_
          rintro w6 ⟨⟨_, hb6⟩, rfl⟩
          have hB6 := hb.trans (hb6.mono hb.size)
          go_wp2_with fail
          refine bodyPost_ret (v := .tuple #[.slice (some ⟨w6.heap.size, 0, none⟩) 0 0, .bool false]) (by simp [results, Try.results23, go_sem]) rfl ?_
          exact ⟨_, _, rfl, ⟨_, _, rfl, by simp, fun i hi => absurd hi (Nat.not_lt_zero _)⟩, hB6.alloc hB6.size _⟩
        · have hd : decide (m < 0) = false := decide_eq_false hneg
          obtain ⟨t, rfl⟩ : ∃ t : Nat, m = (t : Int) := ⟨m.toNat, by omega⟩
          by_cases htp : t < p.length
          · have hd2 : decide (p.length ≤ t) = false := by rw [decide_eq_false_iff_not]; omega
            have htI : (t : Int) < (p.length : Int) := by omega
            have h1 : t < s.s3.at_.length := by show t < (s.pc.map _).length; rw [List.length_map, Hok.out.pcl]; exact htp
            have hat : s.s3.at_[t]'h1 = ((pcS s t : Nat) : Int) := by have h := s3_at (s := s) t; rw [List.getD_eq_getElem?_getD, List.getElem?_eq_getElem h1] at h; exact h
            obtain ⟨b3, o3, e3, hb3, j0⟩ := (hbx.out.rep.at_.le (Le.hidP _ _)).get h1
            rw [hat] at j0
            obtain ⟨bp, op, A5, c5, e5, hbp, k5, hlm, hx⟩ := SlR.getSub Hpr.out htp
            rw [← thrP_get htp] at k5 hlm
            subst e3 e5
            have hatI : (t : Int) < (s.s3.at_.length : Int) := by omega
            have hbo := hb3
            have f0 := fun n : Ext wo => n.le _ _ q0
            have f1 := fun n : Ext wo => n.le _ _ j0
            have f2 := fun n : Ext wo => n.le _ _ k5
            have hpc := Hok.out.pcb t
            cases hon : onS p s t
            · have heq : (((pcS s t : Nat) : Int) == ((thrP p t).length : Int)) = true := by
                unfold onS at hon
                rw [decide_eq_false_iff_not] at hon
                rw [beq_iff_eq]; omega
              obtain rfl : r = none := Hnone.out (seq_none fun u hu _ => by
                obtain rfl : u = t := by omega
                exact hon)
              clear hon hat Hstep Hnone hx q1 q2 q3
              go_wp2_with fail
              refine wp_region_ext wo (by kernel_rfl) (by kernel_rfl) (Below.refl _ _) ?_
              repeat (go_big_quiet_step (fail))
              refine wpQuiet_nil ?_
              rintro w6 ⟨⟨_, hb6⟩, rfl⟩
              have hB6 := hb.trans (hb6.mono hb.size)
              clear f0 f1 f2
              go_wp2_with fail
              refine bodyPost_ret (v := .tuple #[.slice (some ⟨w6.heap.size, 0, none⟩) 0 0, .bool false]) (by simp [results, Try.results23, go_sem]) rfl ?_
              exact ⟨_, _, rfl, ⟨_, _, rfl, by simp, fun i hi => absurd hi (Nat.not_lt_zero _)⟩, hB6.alloc hB6.size _⟩
            · have hlt2 : pcS s t < (thrP p t).length := by unfold onS at hon; simpa using hon
              have heq : (((pcS s t : Nat) : Int) == ((thrP p t).length : Int)) = false := by rw [beq_eq_false_iff_ne]; omega
              have hth7 := (thr_ok Hp.out t).1
              have hins := ins_ok Hp.out hlt2
              have hrl := Hok.out.regl
              have hml := Hok.out.meml
              have Hrn : Hid (runW (sucS p) (fun s => mvI p s p.length) (st0 p) (ms.take (i + 1)) = some (nxS p s t)) := by show _ = _; rw [Hstep.out]; exact seq_step htp hon
              have HDo : Hid (∀ U, Below wo.heap.size wo U → Calls Try.prog 53 #[.slice (some ⟨bp, op, none⟩) p.length c, .agg #[.slice (some ⟨b3, o3, none⟩) s.s3.at_.length c1, .slice A2 s.s3.regs.length c2, .slice A3 s.s3.mem.length c3, .slice A4 s.s3.buf.length c4], .int .i64 t] U (RetS4 U (nxS p s t).s3)) := fun U hU => by
                rw [← do3_next]
                exact l3Do_any p s.s3 t (pcS s t) (insS p s t) hins htp (by omega) (s3_at t) hlt2 rfl (by omega) (by show (s.pc.map _).length = _; rw [List.length_map, Hok.out.pcl]) hrl hml (by show ([] : List (List Int)).length ≤ _; simp) (fun xs hx => by cases hx) (by show s.regs.length ≤ _; omega) U _ (Hpr.out.le (Le.below hU)) _ _ _ _ _ _ _ _ ((hbx.out.below hU).rep.le (Le.hidP _ _))
              clear hon hat Hstep Hnone hx hins
              go_wp2_with fail
              refine wp_region_ext wo (by kernel_rfl) (by kernel_rfl) (Below.refl _ _) ?_
              repeat (go_big_quiet_step (fail))
              refine wpQuiet_nil ?_
              rintro w6 ⟨⟨_, hb6⟩, rfl⟩
              have hB6 := hb.trans (hb6.mono hb.size)
              have hbx6 := Lib.hid (hbx.out.below hb6)
              have hdo := HDo.out w6 hb6
              obtain ⟨p0, p1, p2, p3⟩ := hbx6.out.cells
              have hbl6 := hbx6.out.own.lt
              clear f0 f1 f2 q0 q1 q2 q3 j0 k5 hbx HDo
              go_wp2_with fail
              refine hdo.mono ?_
              rintro e7 w7 ⟨D1, D2, D3, D4, d1, d2, d3, d4, rfl, hr7, hb7⟩
              have hbx7 := hbx6.out.below hb7
              have hput := Lib.hid (hbx7.put hbl6 hr7)
              have hB7 := hB6.trans (hb7.mono hB6.size)
              obtain ⟨p0, p1, p2, p3⟩ := hbx7.cells
              have y0 := hbx7.own.frozen 0
              have y1 := hbx7.own.frozen 1
              have y2 := hbx7.own.frozen 2
              have y3 := hbx7.own.frozen 3
              have hbl7 := hbx7.own.lt
              clear hdo hr7 hbx6
              go_wp2_with fail
              go_roundg (ms.length - (i + 1))
              case measure => omega
              case rel => exact ⟨i + 1, nxS p s t, D1, D2, D3, D4, d1, d2, d3, d4, by omega, rfl, by go_num, Hrn.out, hput.out, (((hB7.setCell (p := ⟨b, 0, none⟩) hbW _).setCell (p := ⟨b, 1, none⟩) hbW _).setCell (p := ⟨b, 2, none⟩) hbW _).setCell (p := ⟨b, 3, none⟩) hbW _⟩
          · have hd2 : decide (p.length ≤ t) = true := by rw [decide_eq_true_iff]; omega
            obtain rfl : r = none := Hnone.out (seq_none fun u hu hup => by omega)
            clear Hstep Hnone q0 q1 q2 q3
            go_wp2_with fail
            refine wp_region_ext wo (by kernel_rfl) (by kernel_rfl) (Below.refl _ _) ?_
            repeat (go_big_quiet_step (fail))
            refine wpQuiet_nil ?_
            rintro w6 ⟨⟨_, hb6⟩, rfl⟩
            have hB6 := hb.trans (hb6.mono hb.size)
            go_wp2_with fail
            refine bodyPost_ret (v := .tuple #[.slice (some ⟨w6.heap.size, 0, none⟩) 0 0, .bool false]) (by simp [results, Try.results23, go_sem]) rfl ?_
            exact ⟨_, _, rfl, ⟨_, _, rfl, by simp, fun i hi => absurd hi (Nat.not_lt_zero _)⟩, hB6.alloc hB6.size _⟩
      · obtain rfl : i = ms.length := by omega
        have Hr : Hid (r = if doneS p s = true then some (outS s) else none) := by
          show _ = _
          have h := hrun.out
          rw [List.take_length] at h
          rw [Hs.out]
          unfold resW
          rw [h]
          rfl
        have hdn := l3Done_any p s.s3 (by show (s.pc.map _).length = _; rw [List.length_map, hok.pcl]) wo _ hpr A1 A2 A3 A4 c1 c2 c3 c4 (hbx.out.rep.le (Le.hidP _ _))
        rw [done3_s3] at hdn
        clear hre hrun hok hpr
        go_wp2_with fail
        refine hdn.mono ?_
        rintro e8 w8 ⟨rfl, hb8⟩
        have hB8 := hb.trans (hb8.mono hb.size)
        have hbx8 := Lib.hid (hbx.out.below hb8)
        clear hdn q0 q1 q2 q3 hbx
        cases hdo : doneS p s
        · obtain rfl : r = none := by rw [Hr.out, hdo]; rfl
          clear hdo Hr
          go_wp2_with fail
          refine bodyPost_ret (v := .tuple #[.slice (some ⟨w8.heap.size, 0, none⟩) 0 0, .bool false]) (by simp [results, Try.results23, go_sem]) rfl ?_
          exact ⟨_, _, rfl, ⟨_, _, rfl, by simp, fun i hi => absurd hi (Nat.not_lt_zero _)⟩, hB8.alloc hB8.size _⟩
        · obtain rfl : r = some (outS s) := by rw [Hr.out, hdo]; rfl
          obtain ⟨q0, q1, q2, q3⟩ := hbx8.out.cells
          have hbl8 := hbx8.out.own.lt
          have hou := l3Outcome_any s.s3 (by show s.regs.length ≤ _; rw [Hok.out.regl]; omega) (by show s.mem.length ≤ _; rw [Hok.out.meml]; omega) w8 A1 A2 A3 A4 c1 c2 c3 c4 (hbx8.out.rep.le (Le.hidP _ _))
          clear hdo Hr
          go_wp2_with fail
          refine hou.mono ?_
          rintro e9 w9 ⟨A9, c9, rfl, hrow9, hb9⟩
          have hB9 := hB8.trans (hb9.mono hB8.size)
          have hsz := hB8.size
          have Hrow := Lib.hid hrow9
          clear hou hrow9
          go_wp2_with fail
          refine bodyPost_ret (v := .tuple #[.slice A9 (s.s3.regs ++ s.s3.mem).length c9, .bool true]) (by simp [results, Try.results23, go_sem]) rfl ?_
          obtain ⟨A4, c4, e4, hi4⟩ := RowI.ints Hrow.out
          injection e4 with e4 _ e5
          subst e4 e5
          exact ⟨A9, c9, rfl, hi4.le (Le.above_mono hsz _), hB9⟩

end Go.Proofs.Ytcckflijaolnkaa
