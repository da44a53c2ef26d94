/-
  The program's reads, writes, execs.
-/
import Derived.Test.YtfgpbnncdfcjjaaDoorImP
import Derived.Test.YtfgpbnncdfcjjaaDoorSpP2
namespace Go.Proofs.YtfgpbnncdfcjjaaDoor
open Go.RowKit
set_option linter.unusedVariables false
set_option maxRecDepth 100000

theorem reads_any (x : Ins) (w : World) : Calls Tryd.prog 86 #[.agg #[.int .i64 x.op, .int .i64 x.loc, .int .i64 x.reg, .int .i64 x.val]] w (RetB w (rdB x)) := by
  have hb1 : Below w.heap.size w (w.alloc (.cells #[.int .i64 x.op, .int .i64 x.loc, .int .i64 x.reg, .int .i64 x.val] 89)) := (Below.refl _ _).alloc (Nat.le_refl _) _
  have Hb := Lib.hid hb1
  clear hb1
  go_enter Tryd.func86, Tryd.ntmps86
  by_cases h1 : x.op = 1
  · have e : Hid (rdB x = true) := by show _ = _; simp [rdB, h1]
    have hd : ((x.op : Int) == 1) = true := by simp [h1]
    clear h1
    go_wp2_with fail
    go_ret
    exact ⟨ret_bool e.out.symm, Hb.out⟩
  · by_cases h5 : x.op = 5
    · have e : Hid (rdB x = true) := by show _ = _; simp [rdB, h5]
      have hd : ((x.op : Int) == 1) = false := by simpa using h1
      have hd5 : ((x.op : Int) == 5) = true := by simp [h5]
      clear h1 h5
      go_wp2_with fail
      go_ret
      exact ⟨ret_bool e.out.symm, Hb.out⟩
    · have e : Hid (rdB x = false) := by show _ = _; simp [rdB, h1, h5]
      have hd : ((x.op : Int) == 1) = false := by simpa using h1
      have hd5 : ((x.op : Int) == 5) = false := by simpa using h5
      clear h1 h5
      go_wp2_with fail
      go_ret
      exact ⟨ret_bool e.out.symm, Hb.out⟩
theorem writes_any (x : Ins) (w : World) : Calls Tryd.prog 87 #[.agg #[.int .i64 x.op, .int .i64 x.loc, .int .i64 x.reg, .int .i64 x.val]] w (RetB w (wrB x)) := by
  have hb1 : Below w.heap.size w (w.alloc (.cells #[.int .i64 x.op, .int .i64 x.loc, .int .i64 x.reg, .int .i64 x.val] 89)) := (Below.refl _ _).alloc (Nat.le_refl _) _
  have Hb := Lib.hid hb1
  clear hb1
  go_enter Tryd.func87, Tryd.ntmps87
  by_cases h2 : x.op = 2
  · have e : Hid (wrB x = true) := by show _ = _; simp [wrB, h2]
    have hd : ((x.op : Int) == 2) = true := by simp [h2]
    clear h2
    go_wp2_with fail
    go_ret
    exact ⟨ret_bool e.out.symm, Hb.out⟩
  · have hd : ((x.op : Int) == 2) = false := by simpa using h2
    by_cases h3 : x.op = 3
    · have e : Hid (wrB x = true) := by show _ = _; simp [wrB, h3]
      have hd3 : ((x.op : Int) == 3) = true := by simp [h3]
      clear h2 h3
      go_wp2_with fail
      go_ret
      exact ⟨ret_bool e.out.symm, Hb.out⟩
    · have hd3 : ((x.op : Int) == 3) = false := by simpa using h3
      by_cases h5 : x.op = 5
      · have e : Hid (wrB x = true) := by show _ = _; simp [wrB, h5]
        have hd5 : ((x.op : Int) == 5) = true := by simp [h5]
        clear h2 h3 h5
        go_wp2_with fail
        go_ret
        exact ⟨ret_bool e.out.symm, Hb.out⟩
      · have e : Hid (wrB x = false) := by show _ = _; simp [wrB, h2, h3, h5]
        have hd5 : ((x.op : Int) == 5) = false := by simpa using h5
        clear h2 h3 h5
        go_wp2_with fail
        go_ret
        exact ⟨ret_bool e.out.symm, Hb.out⟩


set_option maxHeartbeats 400000 in
theorem times_any (n m : Nat) (hn : n ≤ 100) (hm : m ≤ 3001) (w : World) (B : Nat) (hB : Own w B 3 #[.int .i64 m]) :
    Calls Tryd.prog 115 #[.int .i64 n, .pointer (some ⟨B, 0, none⟩)] w (fun e w' => e = .returned (.tuple #[]) ∧ w.setCell ⟨B, 0, none⟩ (.int .i64 (cap (m * n) : Nat)) = w') := by
  have c0 := hB.cell (i := 0) rfl
  have f0 := hB.frozen 0
  obtain ⟨q, hq⟩ : ∃ q : Nat, q = m * n := ⟨_, rfl⟩
  have hqI : (m : Int) * (n : Int) = (q : Int) := by rw [hq]; simp
  have hqb : q ≤ 310000 := by rw [hq]; exact Nat.le_trans (Nat.mul_le_mul hm hn) (by omega)
  rw [← hq]
  clear hq hB
  go_enter Tryd.func115, Tryd.ntmps115
  by_cases h : q ≤ 3001
  · have Hc : Hid (cap q = q) := Nat.min_eq_left h
    have hi : (q : Int) ≤ 3001 := by omega
    clear h
    go_wp2_with fail
    go_end0
    exact ⟨rfl, by rw [Hc.out]⟩
  · have Hc : Hid (cap q = 3001) := cap_big (by omega)
    have hi : ¬ (q : Int) ≤ 3001 := by omega
    clear h
    go_wp2_with fail
    go_end0
    exact ⟨rfl, by rw [Hc.out]; rfl⟩

set_option maxHeartbeats 4000000 in
theorem execs_any (p : Prg) (h3 : p.length ≤ 3) (h7 : ∀ t ∈ p, t.length ≤ 7) (hs : ∀ loc b, cntP loc b p ≤ 21) (w : World) (v : Value) (hr : PrgS w v p) :
    Calls Tryd.prog 85 #[v] w (RetI w (cap (exN p) : Nat)) := by
  obtain ⟨A, c, rfl, _⟩ := hr.slice
  have H7 := Lib.hid h7
  have Hs := Lib.hid hs
  have own0 := Own.new w 3 #[.int .i64 1]
  have hb0 : Below w.heap.size w (w.alloc (.cells #[.int .i64 1] 3)) := (Below.refl _ _).alloc (Nat.le_refl _) _
  clear h7 hs
  go_enter Tryd.func85, Tryd.ntmps85
  go_wp2_with fail
  go_loopg [14] 3 (fun g s14 wr => ∃ l : Nat, l ≤ 3 ∧ g = 3 - l ∧ s14 = .int .i64 l ∧ Hid (Own wr w.heap.size 3 #[.int .i64 (cap (exK p l) : Nat)]) ∧ Below w.heap.size w wr)
  case atStart => exact ⟨0, by omega, rfl, rfl, own0, hb0⟩
  case round =>
    obtain ⟨wo, rfl⟩ : ∃ wo : World, wo = wr := ⟨_, rfl⟩
    clear own0 hb0
    obtain ⟨l, hl, rfl, rfl, ho, hb⟩ := hrel
    have hbs := hb.size
    by_cases hl3 : l < 3
    · have hl3i : decide ((l : Int) < 3) = true := by rw [decide_eq_true_iff]; omega
      go_wp2_with fail
      go_loopg [6, 7, 19] p.length (fun g s6 s7 s19 wr => ∃ i : Nat, i ≤ p.length ∧ g = p.length - i ∧ s19 = .int .i64 i ∧ s6 = .int .i64 (cntP l false (p.take i) : Nat) ∧ s7 = .int .i64 (cntP l true (p.take i) : Nat) ∧ cntP l false (p.take i) ≤ 7 * i ∧ cntP l true (p.take i) ≤ 7 * i ∧ Below wo.heap.size wo wr)
      case atStart => exact ⟨0, Nat.zero_le _, rfl, rfl, by simp [cntP, wSum], by simp [cntP, wSum], by simp [cntP, wSum], by simp [cntP, wSum], Below.refl _ _⟩
      case round =>
        obtain ⟨wi, rfl⟩ : ∃ wi : World, wi = wr := ⟨_, rfl⟩
        obtain ⟨i, hi, rfl, rfl, rfl, rfl, hn1, hn2, hbi⟩ := hrel
        have hBi := hb.trans (hbi.mono hbs)
        by_cases hlt : i < p.length
        · obtain ⟨bb, o, A1, c1, rfl, hbl, k00, hlm, hx⟩ := SlR.getSub hr hlt
          have k0 := Le.below hBi _ _ k00
          have ht7 := H7.out _ (List.getElem_mem hlt)
          have Hts1 := Lib.hid (cntP_take_succ l false p i hlt)
          have Hts2 := Lib.hid (cntP_take_succ l true p i hlt)
          have hct1 := cntT_le l false p[i]
          have hct2 := cntT_le l true p[i]
          generalize hnn1 : cntP l false (p.take i) = n1 at hn1
          generalize hnn2 : cntP l true (p.take i) = n2 at hn2
          rw [hnn1] at Hts1
          rw [hnn2] at Hts2
          generalize htt : p[i] = t at hx hlm k00 k0 Hts1 Hts2 hct1 hct2 ht7
          clear hr hnn1 hnn2 htt
          go_wp2_with fail
          go_loopg [6, 7, 25] t.length (fun g s6 s7 s25 wr => ∃ k : Nat, k ≤ t.length ∧ g = t.length - k ∧ s25 = .int .i64 k ∧ s6 = .int .i64 ((n1 + cntT l false (t.take k) : Nat) : Int) ∧ s7 = .int .i64 ((n2 + cntT l true (t.take k) : Nat) : Int) ∧ cntT l false (t.take k) ≤ k ∧ cntT l true (t.take k) ≤ k ∧ Below wi.heap.size wi wr)
          case atStart => exact ⟨0, Nat.zero_le _, rfl, rfl, by simp [cntT], by simp [cntT], by simp [cntT], by simp [cntT], Below.refl _ _⟩
          case round =>
            obtain ⟨wk, rfl⟩ : ∃ wk : World, wk = wr := ⟨_, rfl⟩
            obtain ⟨k, hk, rfl, rfl, rfl, rfl, hm1, hm2, hbk⟩ := hrel
            by_cases hkt : k < t.length
            · obtain ⟨b2, o2, rfl, hbl2, d0, d1, d2, d3⟩ := (InsS.le hx ((Le.below hBi).trans (Le.below hbk))).get hkt
              have Hk1 := Lib.hid (cntT_take_succ l false t k hkt)
              have Hk2 := Lib.hid (cntT_take_succ l true t k hkt)
              generalize hmm1 : cntT l false (t.take k) = m1 at hm1
              generalize hmm2 : cntT l true (t.take k) = m2 at hm2
              rw [hmm1] at Hk1
              rw [hmm2] at Hk2
              generalize hxx : t[k] = x at d0 d1 d2 d3 Hk1 Hk2
              clear hmm1 hmm2 hxx
              obtain ⟨V, hV⟩ : ∃ V, V = wk.alloc (.cells #[.int .i64 x.op, .int .i64 x.loc, .int .i64 x.reg, .int .i64 x.val] 89) := ⟨_, rfl⟩
              have bx : Own V wk.heap.size 89 #[.int .i64 x.op, .int .i64 x.loc, .int .i64 x.reg, .int .i64 x.val] := by rw [hV]; exact Own.new _ _ _
              have hbV : Below wi.heap.size wi V := by rw [hV]; exact hbk.alloc hbk.size _
              have Bx := Lib.hid bx
              by_cases hloc : x.loc = (l : Int)
              · have el : ((x.loc : Int) == (l : Int)) = true := by simpa using hloc
                have Hh1 : Hid (hitB l false x = rdB x) := by show _ = _; simp [hitB, hloc]
                have Hh2 : Hid (hitB l true x = wrB x) := by show _ = _; simp [hitB, hloc]
                have Hc1 := Lib.hid (fun W => reads_any x W)
                have Hc2 := Lib.hid (fun W => writes_any x W)
                generalize rdB x = y1 at Hh1 Hc1
                generalize wrB x = y2 at Hh2 Hc2
                clear hloc bx
                cases y1 <;> cases y2
                all_goals
                  go_wp2_with fail
                  rw [← hV]
                  refine (Hc1.out _).mono ?_
                  rintro e5 w5 ⟨rfl, hb5⟩
                  have hb6 := hbV.trans (hb5.mono hbV.size)
                  have x0 := (Bx.out.under hb5).cell (i := 0) rfl
                  have x1 := (Bx.out.under hb5).cell (i := 1) rfl
                  have x2 := (Bx.out.under hb5).cell (i := 2) rfl
                  have x3 := (Bx.out.under hb5).cell (i := 3) rfl
                  clear hV hb5
                  go_wp2_with fail
                  refine (Hc2.out _).mono ?_
                  rintro e7 w7 ⟨rfl, hb7⟩
                  have hb8 := hb6.trans (hb7.mono hb6.size)
                  clear x0 x1 x2 x3 hb7 hb6
                  go_wp2_with fail
                  go_roundg (t.length - (k + 1))
                  case measure => omega
                  case rel => exact ⟨k + 1, by omega, rfl, by go_num, congrArg (Value.int .i64) (by rw [Hk1.out, Hh1.out]; simp; try omega), congrArg (Value.int .i64) (by rw [Hk2.out, Hh2.out]; simp; try omega), by rw [Hk1.out, Hh1.out]; simp; try omega, by rw [Hk2.out, Hh2.out]; simp; try omega, hb8⟩
              · have el : ((x.loc : Int) == (l : Int)) = false := by simpa using hloc
                have Hh1 : Hid (hitB l false x = false) := by show _ = _; simp [hitB, hloc]
                have Hh2 : Hid (hitB l true x = false) := by show _ = _; simp [hitB, hloc]
                have HbV := Lib.hid hbV
                rw [hV] at HbV
                clear hloc bx hbV hV Bx
                go_wp2_with fail
                go_roundg (t.length - (k + 1))
                case measure => omega
                case rel => exact ⟨k + 1, by omega, rfl, by go_num, congrArg (Value.int .i64) (by rw [Hk1.out, Hh1.out]; simp), congrArg (Value.int .i64) (by rw [Hk2.out, Hh2.out]; simp), by rw [Hk1.out, Hh1.out]; simp; omega, by rw [Hk2.out, Hh2.out]; simp; omega, HbV.out⟩
            · obtain rfl : k = t.length := by omega
              rw [List.take_length] at hm1 hm2 ⊢
              go_wp2_with fail
              go_roundg (p.length - (i + 1))
              case measure => omega
              case rel => exact ⟨i + 1, by omega, rfl, by go_num, congrArg (Value.int .i64) (by rw [Hts1.out]), congrArg (Value.int .i64) (by rw [Hts2.out]), by rw [Hts1.out]; omega, by rw [Hts2.out]; omega, hbi.trans (hbk.mono hbi.size)⟩
        · obtain rfl : i = p.length := by omega
          rw [List.take_length] at hn1 hn2 ⊢
          have hoi := Own.below ho.out hbi (by have := hb.size; have := ho.out.lt; omega)
          obtain ⟨W, hW⟩ : ∃ W, W = cntP l true p := ⟨_, rfl⟩
          obtain ⟨R, hR⟩ : ∃ R, R = cntP l false p := ⟨_, rfl⟩
          have hW21 : W ≤ 21 := by rw [hW]; exact Hs.out _ _
          have hR21 : R ≤ 21 := by rw [hR]; exact Hs.out _ _
          have Hex : Hid (exL p l = (W + 1) ^ R * fact W) := by show _ = _; rw [hW, hR]; rfl
          rw [← hW, ← hR]
          have Hoi := Lib.hid hoi
          clear hW hR hoi hn1 hn2
          go_wp2_with fail
          go_loopg [52] R (fun g s52 wr => ∃ k : Nat, k ≤ R ∧ g = R - k ∧ s52 = .int .i64 k ∧ Hid (Own wr w.heap.size 3 #[.int .i64 (cap (exK p l * (W + 1) ^ k) : Nat)]) ∧ Below w.heap.size w wr)
          case atStart => exact ⟨0, by omega, rfl, rfl, by show Own _ _ _ _; rw [Nat.pow_zero, Nat.mul_one]; exact Hoi.out, hBi⟩
          case round =>
            obtain ⟨w4, rfl⟩ : ∃ w4 : World, w4 = wr := ⟨_, rfl⟩
            clear hBi Hoi
            obtain ⟨k, hk, rfl, rfl, ho4, hb4⟩ := hrel
            by_cases hkR : k < R
            · obtain ⟨m, hm⟩ : ∃ m, m = cap (exK p l * (W + 1) ^ k) := ⟨_, rfl⟩
              have hm3 : m ≤ 3001 := by rw [hm]; exact cap_le _
              have ho4' := ho4.out
              rw [← hm] at ho4'
              have hcall := times_any (W + 1) m (by omega) hm3 w4 _ ho4'
              rw [show ((W + 1 : Nat) : Int) = (W : Int) + 1 by omega] at hcall
              have hset := ho4'.set 0 (.int .i64 (cap (m * (W + 1)) : Nat))
              have hnx : cap (m * (W + 1)) = cap (exK p l * (W + 1) ^ (k + 1)) := by rw [hm, cap_mul _ _ (Nat.succ_pos W), Nat.pow_succ, Nat.mul_assoc]
              have Hset : Hid (Own (w4.setCell ⟨w.heap.size, 0, none⟩ (.int .i64 (cap (m * (W + 1)) : Nat))) w.heap.size 3 #[.int .i64 (cap (exK p l * (W + 1) ^ (k + 1)) : Nat)]) := by rw [← hnx]; exact hset
              have hb5 := hb4.setCell (p := ⟨w.heap.size, 0, none⟩) (Nat.le_refl _) (.int .i64 (cap (m * (W + 1)) : Nat))
              clear hm ho4' hset hnx ho4 hb4
              go_wp2_with fail
              refine hcall.mono ?_
              rintro e6 w6 ⟨rfl, rfl⟩
              go_wp2_with fail
              go_roundg (R - (k + 1))
              case measure => omega
              case rel => exact ⟨k + 1, by omega, rfl, by go_num, Hset.out, hb5⟩
            · obtain rfl : k = R := by omega
              go_wp2_with fail
              go_loopg [60] W (fun g s60 wr => ∃ j : Nat, j ≤ W ∧ g = W - j ∧ s60 = .int .i64 j ∧ Hid (Own wr w.heap.size 3 #[.int .i64 (cap (exK p l * (W + 1) ^ k * fact j) : Nat)]) ∧ Below w.heap.size w wr)
              case atStart => exact ⟨0, by omega, rfl, rfl, by show Own _ _ _ _; rw [show fact 0 = 1 from rfl, Nat.mul_one]; exact ho4.out, hb4⟩
              case round =>
                obtain ⟨w7, rfl⟩ : ∃ w7 : World, w7 = wr := ⟨_, rfl⟩
                clear ho4 hb4
                obtain ⟨j, hj, rfl, rfl, ho7, hb7⟩ := hrel
                by_cases hjW : j < W
                · obtain ⟨m, hm⟩ : ∃ m, m = cap (exK p l * (W + 1) ^ k * fact j) := ⟨_, rfl⟩
                  have hm3 : m ≤ 3001 := by rw [hm]; exact cap_le _
                  have ho7' := ho7.out
                  rw [← hm] at ho7'
                  have hcall := times_any (j + 1) m (by omega) hm3 w7 _ ho7'
                  rw [show ((j + 1 : Nat) : Int) = (j : Int) + 1 by omega] at hcall
                  have hset := ho7'.set 0 (.int .i64 (cap (m * (j + 1)) : Nat))
                  have hnx : cap (m * (j + 1)) = cap (exK p l * (W + 1) ^ k * fact (j + 1)) := by rw [hm, cap_mul _ _ (Nat.succ_pos j), Nat.mul_assoc, Nat.mul_comm (fact j) (j + 1)]; rfl
                  have Hset : Hid (Own (w7.setCell ⟨w.heap.size, 0, none⟩ (.int .i64 (cap (m * (j + 1)) : Nat))) w.heap.size 3 #[.int .i64 (cap (exK p l * (W + 1) ^ k * fact (j + 1)) : Nat)]) := by rw [← hnx]; exact hset
                  have hb8 := hb7.setCell (p := ⟨w.heap.size, 0, none⟩) (Nat.le_refl _) (.int .i64 (cap (m * (j + 1)) : Nat))
                  clear hm ho7' hset hnx ho7 hb7
                  go_wp2_with fail
                  refine hcall.mono ?_
                  rintro e9 w9 ⟨rfl, rfl⟩
                  go_wp2_with fail
                  go_roundg (W - (j + 1))
                  case measure => omega
                  case rel => exact ⟨j + 1, by omega, rfl, by go_num, Hset.out, hb8⟩
                · obtain rfl : j = W := by omega
                  have Hn : Hid (Own w7 w.heap.size 3 #[.int .i64 (cap (exK p (l + 1)) : Nat)]) := by
                    show Own _ _ _ _
                    rw [exK, Hex.out, ← Nat.mul_assoc]
                    exact ho7.out
                  go_wp2_with fail
                  go_roundg (3 - (l + 1))
                  case measure => omega
                  case rel => exact ⟨l + 1, by omega, rfl, by go_num, Hn.out, hb7⟩
    · obtain rfl : l = 3 := by omega
      have Ho : Hid (Own wo w.heap.size 3 #[.int .i64 (cap (exN p) : Nat)]) := by rw [← exK_three]; exact ho
      have c0 := Ho.out.cell (i := 0) rfl
      go_wp2_with fail
      go_ret
      exact ⟨rfl, hb⟩

end Go.Proofs.YtfgpbnncdfcjjaaDoor
