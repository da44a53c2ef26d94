/-
  The reference's InstrValid, l1Reads, l1Writes, l1Count, l1Execs, l1Shape, ProgramValid.
-/
import Derived.Test.YtfgpbnncdfcjjaaDoorPrg
namespace Go.Proofs.YtfgpbnncdfcjjaaDoor
open Go.RowKit
set_option linter.unusedVariables false
set_option maxRecDepth 100000

set_option maxHeartbeats 400000 in
theorem l1In_any (n most : Int) (w : World) : Calls Tryd.prog 145 #[.int .i64 n, .int .i64 most] w (fun e w' => e = .returned (.bool (btw n most)) ∧ w = w') := by
  go_enter Tryd.func145, Tryd.ntmps145
  by_cases h1 : 0 ≤ n
  · by_cases h2 : n ≤ most
    · have hb := Lib.hid (btw_iff.2 ⟨h1, h2⟩)
      go_wp2_with fail
      go_ret
      exact ⟨ret_bool hb.out.symm, rfl⟩
    · have hb := Lib.hid (btw_false.2 fun h => h2 h.2)
      go_wp2_with fail
      go_ret
      exact ⟨ret_bool hb.out.symm, rfl⟩
  · have hb := Lib.hid (btw_false (most := most).2 fun h => h1 h.1)
    go_wp2_with fail
    go_ret
    exact ⟨ret_bool hb.out.symm, rfl⟩

theorem l1Reads_any (x : Ins) (w : World) : Calls Tryd.prog 93 #[.agg #[.int .i64 x.op, .int .i64 x.loc, .int .i64 x.reg, .int .i64 x.val]] w (RetB w (rdB x)) := by
  have hb1 : Below w.heap.size w (w.alloc (.cells #[.int .i64 x.op, .int .i64 x.loc, .int .i64 x.reg, .int .i64 x.val] 89)) := (Below.refl _ _).alloc (Nat.le_refl _) _
  have Hb := Lib.hid hb1
  clear hb1
  go_enter Tryd.func93, Tryd.ntmps93
  by_cases h1 : x.op = 1
  · have e : Hid (rdB x = true) := by show _ = _; simp [rdB, h1]
    have hd : ((x.op : Int) == 1) = true := by simp [h1]
    clear h1
    go_wp2_with fail
    go_ret
    exact ⟨ret_bool e.out.symm, Hb.out⟩
  · by_cases h5 : x.op = 5
    · have e : Hid (rdB x = true) := by show _ = _; simp [rdB, h5]
      have hd : ((x.op : Int) == 1) = false := by simpa using h1
      have hd5 : ((x.op : Int) == 5) = true := by simp [h5]
      clear h1 h5
      go_wp2_with fail
      go_ret
      exact ⟨ret_bool e.out.symm, Hb.out⟩
    · have e : Hid (rdB x = false) := by show _ = _; simp [rdB, h1, h5]
      have hd : ((x.op : Int) == 1) = false := by simpa using h1
      have hd5 : ((x.op : Int) == 5) = false := by simpa using h5
      clear h1 h5
      go_wp2_with fail
      go_ret
      exact ⟨ret_bool e.out.symm, Hb.out⟩
theorem l1Writes_any (x : Ins) (w : World) : Calls Tryd.prog 94 #[.agg #[.int .i64 x.op, .int .i64 x.loc, .int .i64 x.reg, .int .i64 x.val]] w (RetB w (wrB x)) := by
  have hb1 : Below w.heap.size w (w.alloc (.cells #[.int .i64 x.op, .int .i64 x.loc, .int .i64 x.reg, .int .i64 x.val] 89)) := (Below.refl _ _).alloc (Nat.le_refl _) _
  have Hb := Lib.hid hb1
  clear hb1
  go_enter Tryd.func94, Tryd.ntmps94
  by_cases h2 : x.op = 2
  · have e : Hid (wrB x = true) := by show _ = _; simp [wrB, h2]
    have hd : ((x.op : Int) == 2) = true := by simp [h2]
    clear h2
    go_wp2_with fail
    go_ret
    exact ⟨ret_bool e.out.symm, Hb.out⟩
  · have hd : ((x.op : Int) == 2) = false := by simpa using h2
    by_cases h3 : x.op = 3
    · have e : Hid (wrB x = true) := by show _ = _; simp [wrB, h3]
      have hd3 : ((x.op : Int) == 3) = true := by simp [h3]
      clear h2 h3
      go_wp2_with fail
      go_ret
      exact ⟨ret_bool e.out.symm, Hb.out⟩
    · have hd3 : ((x.op : Int) == 3) = false := by simpa using h3
      by_cases h5 : x.op = 5
      · have e : Hid (wrB x = true) := by show _ = _; simp [wrB, h5]
        have hd5 : ((x.op : Int) == 5) = true := by simp [h5]
        clear h2 h3 h5
        go_wp2_with fail
        go_ret
        exact ⟨ret_bool e.out.symm, Hb.out⟩
      · have e : Hid (wrB x = false) := by show _ = _; simp [wrB, h2, h3, h5]
        have hd5 : ((x.op : Int) == 5) = false := by simpa using h5
        clear h2 h3 h5
        go_wp2_with fail
        go_ret
        exact ⟨ret_bool e.out.symm, Hb.out⟩

/-- .. as a sum of the tests that the text writes. -/
theorem insB_load {x : Ins} (h : x.op = 1 ∨ x.op = 3) : insB x = (btw x.loc 2 && (btw x.reg 2 && decide (x.val = 0))) := by
  rw [Bool.eq_iff_iff, insB_iff]
  simp only [Bool.and_eq_true, btw_iff, decide_eq_true_eq]
  unfold InsOk
  omega
theorem insB_store {x : Ins} (h : x.op = 2) : insB x = (btw x.loc 2 && (decide (x.reg = 0) && btw x.val 3)) := by
  rw [Bool.eq_iff_iff, insB_iff]
  simp only [Bool.and_eq_true, btw_iff, decide_eq_true_eq]
  unfold InsOk
  omega
theorem insB_fence {x : Ins} (h : x.op = 4) : insB x = (decide (x.loc = 0) && (decide (x.reg = 0) && decide (x.val = 0))) := by
  rw [Bool.eq_iff_iff, insB_iff]
  simp only [Bool.and_eq_true, decide_eq_true_eq]
  unfold InsOk
  omega
theorem insB_swap {x : Ins} (h : x.op = 5) : insB x = (btw x.loc 2 && (btw x.reg 2 && btw x.val 3)) := by
  rw [Bool.eq_iff_iff, insB_iff]
  simp only [Bool.and_eq_true, btw_iff]
  unfold InsOk
  omega
theorem insB_none {x : Ins} (h1 : x.op ≠ 1) (h2 : x.op ≠ 2) (h3 : x.op ≠ 3) (h4 : x.op ≠ 4) (h5 : x.op ≠ 5) : insB x = false := by
  rw [insB_false]
  unfold InsOk
  omega

set_option maxHeartbeats 2000000 in
theorem specIns_any (x : Ins) (w : World) : Calls Tryd.prog 127 #[.agg #[.int .i64 x.op, .int .i64 x.loc, .int .i64 x.reg, .int .i64 x.val]] w (RetB w (insB x)) := by
  obtain ⟨W, hW⟩ : ∃ W, W = w.alloc (.cells #[.int .i64 x.op, .int .i64 x.loc, .int .i64 x.reg, .int .i64 x.val] 89) := ⟨_, rfl⟩
  have hbW : Below w.heap.size w W := by rw [hW]; exact (Below.refl _ _).alloc (Nat.le_refl _) _
  have bx : Own W w.heap.size 89 #[.int .i64 x.op, .int .i64 x.loc, .int .i64 x.reg, .int .i64 x.val] := by rw [hW]; exact Own.new _ _ _
  have c0 := bx.cell (i := 0) rfl
  have c1 := bx.cell (i := 1) rfl
  have c2 := bx.cell (i := 2) rfl
  have c3 := bx.cell (i := 3) rfl
  have cl := bx.lt
  have Bx := Lib.hid bx
  clear bx
  go_enter Tryd.func127, Tryd.ntmps127
  have hop : (x.op = 1 ∨ x.op = 3) ∨ x.op = 2 ∨ x.op = 4 ∨ x.op = 5 ∨ (x.op ≠ 1 ∧ x.op ≠ 2 ∧ x.op ≠ 3 ∧ x.op ≠ 4 ∧ x.op ≠ 5) := by omega
  obtain ⟨z0, hz0⟩ : ∃ b : Bool, b = decide (x.loc = 0) := ⟨_, rfl⟩
  obtain ⟨z1, hz1⟩ : ∃ b : Bool, b = decide (x.reg = 0) := ⟨_, rfl⟩
  obtain ⟨z2, hz2⟩ : ∃ b : Bool, b = decide (x.val = 0) := ⟨_, rfl⟩
  have y0 : ((x.loc : Int) == 0) = z0 := by rw [hz0]; by_cases h : x.loc = 0 <;> simp [h]
  have y1 : ((x.reg : Int) == 0) = z1 := by rw [hz1]; by_cases h : x.reg = 0 <;> simp [h]
  have y2 : ((x.val : Int) == 0) = z2 := by rw [hz2]; by_cases h : x.val = 0 <;> simp [h]
  rcases hop with h13 | h | h | h | ⟨h1, h2, h3, h4, h5⟩
  · have e := insB_load h13
    rw [← hz2] at e
    clear hz0 hz1 hz2 y0 y1
    generalize hl : btw x.loc 2 = bl at e
    generalize hr : btw x.reg 2 = br at e
    have He := Lib.hid e
    clear e
    rcases h13 with h | h
    · have d1 : ((x.op : Int) == 1) = true := by simp [h]
      clear h
      cases bl <;> cases br <;> cases z2
      all_goals
        go_wp2_with (first | (go_at_call 145; refine (l1In_any _ _ _).mono ?_; rintro e1 w1 ⟨rfl, rfl⟩))
        go_ret
        exact ⟨ret_bool He.out.symm, by rw [← hW] ; exact hbW⟩
    · have d1 : ((x.op : Int) == 1) = false := by simp [h]
      have d3 : ((x.op : Int) == 3) = true := by simp [h]
      have d2 : ((x.op : Int) == 2) = false := by simp [h]
      have d4 : ((x.op : Int) == 4) = false := by simp [h]
      have d5 : ((x.op : Int) == 5) = false := by simp [h]
      clear h
      cases bl <;> cases br <;> cases z2
      all_goals
        go_wp2_with (first | (go_at_call 145; refine (l1In_any _ _ _).mono ?_; rintro e1 w1 ⟨rfl, rfl⟩))
        go_ret
        exact ⟨ret_bool He.out.symm, by rw [← hW]; exact hbW⟩
  · have e := insB_store h
    rw [← hz1] at e
    clear hz0 hz1 hz2 y0 y2
    generalize hl : btw x.loc 2 = bl at e
    generalize hr : btw x.val 3 = br at e
    have He := Lib.hid e
    clear e
    have d1 : ((x.op : Int) == 1) = false := by simp [h]
    have d3 : ((x.op : Int) == 3) = false := by simp [h]
    have d2 : ((x.op : Int) == 2) = true := by simp [h]
    have d4 : ((x.op : Int) == 4) = false := by simp [h]
    have d5 : ((x.op : Int) == 5) = false := by simp [h]
    clear h
    cases bl <;> cases z1 <;> cases br
    all_goals
      go_wp2_with (first | (go_at_call 145; refine (l1In_any _ _ _).mono ?_; rintro e1 w1 ⟨rfl, rfl⟩))
      go_ret
      exact ⟨ret_bool He.out.symm, by rw [← hW]; exact hbW⟩
  · have e := insB_fence h
    rw [← hz0, ← hz1, ← hz2] at e
    clear hz0 hz1 hz2
    have He := Lib.hid e
    clear e
    have d1 : ((x.op : Int) == 1) = false := by simp [h]
    have d3 : ((x.op : Int) == 3) = false := by simp [h]
    have d2 : ((x.op : Int) == 2) = false := by simp [h]
    have d4 : ((x.op : Int) == 4) = true := by simp [h]
    have d5 : ((x.op : Int) == 5) = false := by simp [h]
    clear h
    cases z0 <;> cases z1 <;> cases z2
    all_goals
      go_wp2_with (first | (go_at_call 145; refine (l1In_any _ _ _).mono ?_; rintro e1 w1 ⟨rfl, rfl⟩))
      go_ret
      exact ⟨ret_bool He.out.symm, by rw [← hW]; exact hbW⟩
  · have e := insB_swap h
    clear hz0 hz1 hz2 y0 y1 y2
    generalize hl : btw x.loc 2 = bl at e
    generalize hr : btw x.reg 2 = br at e
    generalize hv : btw x.val 3 = bv at e
    have He := Lib.hid e
    clear e
    have d1 : ((x.op : Int) == 1) = false := by simp [h]
    have d3 : ((x.op : Int) == 3) = false := by simp [h]
    have d2 : ((x.op : Int) == 2) = false := by simp [h]
    have d4 : ((x.op : Int) == 4) = false := by simp [h]
    have d5 : ((x.op : Int) == 5) = true := by simp [h]
    clear h
    cases bl <;> cases br <;> cases bv
    all_goals
      go_wp2_with (first | (go_at_call 145; refine (l1In_any _ _ _).mono ?_; rintro e1 w1 ⟨rfl, rfl⟩))
      go_ret
      exact ⟨ret_bool He.out.symm, by rw [← hW]; exact hbW⟩
  · have He := Lib.hid (insB_none h1 h2 h3 h4 h5)
    have d1 : ((x.op : Int) == 1) = false := by simpa using h1
    have d2 : ((x.op : Int) == 2) = false := by simpa using h2
    have d3 : ((x.op : Int) == 3) = false := by simpa using h3
    have d4 : ((x.op : Int) == 4) = false := by simpa using h4
    have d5 : ((x.op : Int) == 5) = false := by simpa using h5
    clear h1 h2 h3 h4 h5 hz0 hz1 hz2 y0 y1 y2
    go_wp2_with fail
    go_ret
    exact ⟨ret_bool He.out.symm, by rw [← hW]; exact hbW⟩

set_option maxHeartbeats 2000000 in
theorem l1Count_any (p : Prg) (loc : Int) (b : Bool) (h3 : p.length ≤ 3) (h7 : ∀ t ∈ p, t.length ≤ 7) (w : World) (v : Value) (hr : PrgS w v p) :
    Calls Tryd.prog 128 #[v, .int .i64 loc, .bool b] w (RetI w (cntP loc b p)) := by
  obtain ⟨A, c, rfl, _⟩ := hr.slice
  go_enter Tryd.func128, Tryd.ntmps128
  go_wp2_with fail
  go_loopg [7, 8] p.length (fun g s7 s8 wr => ∃ i : Nat, i ≤ p.length ∧ g = p.length - i ∧ s8 = .int .i64 i ∧ s7 = .int .i64 (cntP loc b (p.take i) : Nat) ∧ cntP loc b (p.take i) ≤ 7 * i ∧ Below w.heap.size w wr)
  case atStart => exact ⟨0, Nat.zero_le _, rfl, rfl, by simp [cntP, wSum], by simp [cntP, wSum], Below.refl _ _⟩
  case round =>
    obtain ⟨wo, rfl⟩ : ∃ wo : World, wo = wr := ⟨_, rfl⟩
    obtain ⟨i, hi, rfl, rfl, rfl, hn, hb⟩ := hrel
    by_cases hlt : i < p.length
    · obtain ⟨bb, o, A1, c1, rfl, hbl, k0, _, hx⟩ := SlR.getSub (PrgS.le hr (Le.below hb)) hlt
      have ht7 := h7 _ (List.getElem_mem hlt)
      have hts := cntP_take_succ loc b p i hlt
      have hct := cntT_le loc b p[i]
      have Hts := Lib.hid hts
      generalize hnn : cntP loc b (p.take i) = nn at hn
      rw [hnn] at Hts
      generalize htt : p[i] = t at hx ht7 hct k0 Hts
      clear hr hts hnn htt
      go_wp2_with fail
      go_loopg [7, 9] t.length (fun g s7 s9 wr => ∃ k : Nat, k ≤ t.length ∧ g = t.length - k ∧ s9 = .int .i64 k ∧ s7 = .int .i64 ((nn + cntT loc b (t.take k) : Nat) : Int) ∧ cntT loc b (t.take k) ≤ k ∧ Below wo.heap.size wo wr)
      case atStart => exact ⟨0, Nat.zero_le _, rfl, rfl, by simp [cntT], by simp [cntT], Below.refl _ _⟩
      case round =>
        obtain ⟨k, hk, rfl, rfl, rfl, hm, hbk⟩ := hrel
        have k1 := Le.below hbk _ _ k0
        by_cases hkt : k < t.length
        · obtain ⟨b2, o2, rfl, hbl2, d0, d1, d2, d3⟩ := (InsS.le hx (Le.below hbk)).get hkt
          have hkts := cntT_take_succ loc b t k hkt
          have Hkts := Lib.hid hkts
          generalize hmm : cntT loc b (t.take k) = mm at hm
          rw [hmm] at Hkts
          generalize hxx : t[k] = x at d0 d1 d2 d3 Hkts
          clear hkts hmm hxx k0
          have hB1 : Below wo.heap.size wo (wr.alloc (.cells #[.int .i64 x.op, .int .i64 x.loc, .int .i64 x.reg, .int .i64 x.val] 89)) := hbk.alloc hbk.size _
          have HB1 := Lib.hid hB1
          clear hB1
          by_cases hloc : x.loc = loc
          · have el : ((x.loc : Int) == loc) = true := by simpa using hloc
            have Hloc := Lib.hid hloc
            clear hloc
            cases b
            · -- reads
              have Hh : Hid (hitB loc false x = rdB x) := by show _ = _; simp [hitB, Hloc.out]
              generalize hy : rdB x = y at Hh
              have Hcall := Lib.hid (fun W => l1Reads_any x W)
              rw [hy] at Hcall
              clear hy
              cases y
              · go_wp2_with fail
                refine (Hcall.out _).mono ?_
                rintro e5 w5 ⟨rfl, hb5⟩
                have hb6 := HB1.out.trans (hb5.mono HB1.out.size)
                clear hb5
                go_wp2_with fail
                go_roundg (t.length - (k + 1))
                case measure => omega
                case rel => exact ⟨k + 1, by omega, rfl, by go_num, congrArg (Value.int .i64) (by rw [Hkts.out, Hh.out]; simp), by rw [Hkts.out, Hh.out]; simp; omega, hb6⟩
              · go_wp2_with fail
                refine (Hcall.out _).mono ?_
                rintro e5 w5 ⟨rfl, hb5⟩
                have hb6 := HB1.out.trans (hb5.mono HB1.out.size)
                clear hb5
                go_wp2_with fail
                go_roundg (t.length - (k + 1))
                case measure => omega
                case rel => exact ⟨k + 1, by omega, rfl, by go_num, congrArg (Value.int .i64) (by rw [Hkts.out, Hh.out]; simp; omega), by rw [Hkts.out, Hh.out]; simp; omega, hb6⟩
            · -- writes
              have Hh : Hid (hitB loc true x = wrB x) := by show _ = _; simp [hitB, Hloc.out]
              generalize hy : wrB x = y at Hh
              have Hcall := Lib.hid (fun W => l1Writes_any x W)
              rw [hy] at Hcall
              clear hy
              cases y
              · go_wp2_with fail
                refine (Hcall.out _).mono ?_
                rintro e5 w5 ⟨rfl, hb5⟩
                have hb6 := HB1.out.trans (hb5.mono HB1.out.size)
                clear hb5
                go_wp2_with fail
                go_roundg (t.length - (k + 1))
                case measure => omega
                case rel => exact ⟨k + 1, by omega, rfl, by go_num, congrArg (Value.int .i64) (by rw [Hkts.out, Hh.out]; simp), by rw [Hkts.out, Hh.out]; simp; omega, hb6⟩
              · go_wp2_with fail
                refine (Hcall.out _).mono ?_
                rintro e5 w5 ⟨rfl, hb5⟩
                have hb6 := HB1.out.trans (hb5.mono HB1.out.size)
                clear hb5
                go_wp2_with fail
                go_roundg (t.length - (k + 1))
                case measure => omega
                case rel => exact ⟨k + 1, by omega, rfl, by go_num, congrArg (Value.int .i64) (by rw [Hkts.out, Hh.out]; simp; omega), by rw [Hkts.out, Hh.out]; simp; omega, hb6⟩
          · have el : ((x.loc : Int) == loc) = false := by simpa using hloc
            have Hh : Hid (hitB loc b x = false) := by show _ = _; simp [hitB, hloc]
            clear hloc
            go_wp2_with fail
            go_roundg (t.length - (k + 1))
            case measure => omega
            case rel => exact ⟨k + 1, by omega, rfl, by go_num, congrArg (Value.int .i64) (by rw [Hkts.out, Hh.out]; simp), by rw [Hkts.out, Hh.out]; simp; omega, HB1.out⟩
        · obtain rfl : k = t.length := by omega
          rw [List.take_length] at hm ⊢
          go_wp2_with fail
          go_roundg (p.length - (i + 1))
          case measure => omega
          case rel => exact ⟨i + 1, by omega, rfl, by go_num, congrArg (Value.int .i64) (by rw [Hts.out]), by rw [Hts.out]; omega, hb.trans (hbk.mono hb.size)⟩
    · obtain rfl : i = p.length := by omega
      go_wp2_with fail
      go_ret
      exact ⟨ret_int (by rw [List.take_length]), hb⟩

end Go.Proofs.YtfgpbnncdfcjjaaDoor
