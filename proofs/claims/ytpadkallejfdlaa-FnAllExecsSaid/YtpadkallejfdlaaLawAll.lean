/-
  The walk of FnAllExecs: it answers true.
-/
import Derived.Test.YtpadkallejfdlaaLawAE
import Derived.Test.YtpadkallejfdlaaCands
import Derived.Test.YtpadkallejfdlaaImCV
import Derived.Test.YtpadkallejfdlaaDpC
import Derived.Test.YtpadkallejfdlaaCnt
namespace Go.Proofs.Ytpadkallejfdlaa
open Go.RowKit
set_option linter.unusedVariables false
set_option maxRecDepth 100000

noncomputable def exO (p : Prg) : Nat := if prgB p = true then exN p else 0
set_option maxHeartbeats 1000000 in
theorem cntEx_any (p : Prg) (hl : p.length ≤ 1048576) (hls : ∀ t ∈ p, t.length ≤ 1048576) (w : World) (v : Value) (hr : PrgS w v p) : Calls Try.prog 33 #[v] w (RetI w (exO p : Nat)) := by
  obtain ⟨A, c, rfl, _⟩ := hr.slice
  have hpv := implPrg_any p hl hls w _ hr
  clear hls
  go_enter Try.func33, Try.ntmps33
  cases hv : prgB p
  · rw [hv] at hpv
    have He : Hid (exO p = 0) := by show _ = _; unfold exO; rw [if_neg (by rw [hv]; decide)]
    clear hv
    go_wp2_with fail
    refine hpv.mono ?_
    rintro e1 w1 ⟨rfl, hb1⟩
    go_wp2_with fail
    go_ret
    exact ⟨ret_int (by rw [He.out]; rfl), hb1⟩
  · rw [hv] at hpv
    have hok := prgB_iff.1 hv
    have He : Hid (exO p = cap (exN p)) := by show _ = _; unfold exO; rw [if_pos hv, cap_lt hok.2.2]
    have hx := fun W (h : PrgS W (.slice A p.length c) p) => execs_any p hok.1.1 (fun t ht => (hok.1.2.1 t ht).1) hok.1.small W _ h
    have Hx := Lib.hid hx
    clear hv hok hx
    go_wp2_with fail
    refine hpv.mono ?_
    rintro e1 w1 ⟨rfl, hb1⟩
    go_wp2_with fail
    refine (Hx.out w1 (PrgS.le hr (Le.below hb1))).mono ?_
    rintro e2 w2 ⟨rfl, hb2⟩
    go_wp2_with fail
    go_ret
    exact ⟨ret_int (by rw [He.out]), hb1.trans (hb2.mono hb1.size)⟩

theorem drawAE_any (w : World) (A : Option Addr) (n c : Nat) (h : Bys w A n) (hnc : n ≤ c) (hA : A = none → n = 0) : Calls Try.prog 31 #[.slice A n c] w (RetDrP w) := by
  have hd := drawPV_any w A n c h hnc hA
  go_enter Try.func31, Try.ntmps31
  go_wp2_with fail
  refine hd.mono ?_
  rintro e w' ⟨pr, v, rfl, h1, h2, h3⟩
  go_wp2_with fail
  go_ret
  exact ⟨pr, v, rfl, h1, h2, h3⟩

theorem cand_wX {p : Prg} {x : Ex} (h : CandOk p x) : wX x ≤ 1048576 := by
  have h1 := cand_wt h
  have h2 := h.2.2.1
  unfold wtX at h1
  unfold wX
  omega
theorem RetB.op {P : Program} {f : FuncId} {args : Array Value} {w : World} {b : Bool} (h : Calls P f args w (RetB w b)) : Calls P f args w fun e w' => e = .returned (.bool b) ∧ Below w.heap.size w w' := h
theorem allO_false {p : Prg} (h : prgB p = false) : allO p = [] := by unfold allO; rw [if_neg (by rw [h]; decide)]
theorem allO_true {p : Prg} (h : prgB p = true) : allO p = cands (evs p) := if_pos h
theorem opN_zero {p : Prg} (h : opN 5 p = 0) : ∀ t ∈ p, ∀ x ∈ t, x.op ≠ 5 := fun t ht x hx e => by
  have h1 := wSum_mem (opT 5) ht
  have h2 : opT 5 t = 0 := by unfold opN at h; omega
  unfold opT at h2
  rw [List.countP_eq_zero] at h2
  exact h2 x hx (by simp [e])
/-- What the law asks of the numbers. -/
theorem allO_count {p : Prg} (h : prgB p = true) : 1 ≤ (allO p).length ∧ (allO p).length ≤ exO p ∧ (opO 5 p = 0 → exO p = (allO p).length) := by
  have hok := prgB_iff.1 h
  have e1 : exO p = exN p := if_pos h
  have e2 : opO 5 p = opN 5 p := if_pos h
  rw [allO_true h, e1, e2]
  exact ⟨cands_pos hok, cands_le hok.1, fun h0 => (cands_eq hok.1 (opN_zero h0)).symm⟩

set_option maxHeartbeats 8000000 in
theorem lawAll_walk (w : World) (A : Option Addr) (n c : Nat) (h : Bys w A n) (hnc : n ≤ c) (hA : A = none → n = 0) :
    Calls Try.prog 7 #[.slice A n c] w (RetB w true) := by
  have hdr := drawAE_any w A n c h hnc hA
  have hn := h.1
  clear h
  go_enter Try.func7, Try.ntmps7
  by_cases hsz : (1048576 : Int) < (n : Int)
  · have hd : decide ((n : Int) > 1048576) = true := by simpa using hsz
    go_wp2_with fail
    go_ret
    exact ⟨rfl, Below.refl _ _⟩
  have hd : decide ((n : Int) > 1048576) = false := by simpa using hsz
  go_wp2_with fail
  refine hdr.mono ?_
  rintro e1 w1 ⟨p, v1, rfl, hps, hfew, hb1⟩
  obtain ⟨A1, c1, rfl, _⟩ := hps.slice
  have hp1 := PrgS.le hps (Le.above _ _)
  have hl : p.length ≤ 1048576 := by have := hfew.1; omega
  have Hls := Lib.hid (hfew.mil (by omega))
  clear hps hdr hfew
  go_wp2_with fail
  refine (implAll_any p hl Hls.out _ _ hp1).mono ?_
  rintro e2 w2 ⟨v2, F2, rfl, ho2, _, _, hb2⟩
  have hB2 := hb1.trans (hb2.mono hb1.size)
  have hp2 := PrgS.le hp1 (Le.below hb2)
  have hx2 := ho2.exS0
  obtain ⟨A2, c2, rfl, hm2⟩ := hx2.slice
  clear ho2 hb2 hp1
  go_wp2_with fail
  refine (specAll_any p hl _ _ hp2).mono ?_
  rintro e3 w3 ⟨A3, c3, rfl, hx3', hb3⟩
  have hB3 := hB2.trans (hb3.mono hB2.size)
  have hp3 := PrgS.le hp2 (Le.below hb3)
  have hx23 := ExS.le hx2 (Le.below hb3)
  have hx3 := ExS.le hx3' (Le.above _ _)
  have hpv := fun W (h : PrgS W (.slice A1 p.length c1) p) => implPrg_any p hl Hls.out W _ h
  clear hp2 hx2 hb3 hx3'
  cases hv : prgB p
  · have hz : (((allO p).length : Nat) : Int) = 0 := by rw [allO_false hv]; rfl
    simp only [hv] at hpv
    have Hpv := Lib.hid hpv
    clear hpv hv
    go_wp2_with fail
    refine (Hpv.out _ hp3).mono ?_
    rintro e4 w4 ⟨rfl, hb4⟩
    have hp4 := PrgS.le hp3 (Le.below hb4)
    have hB4 := hB3.trans (hb4.mono hB3.size)
    go_wp2_with fail
    refine (Hpv.out _ hp4).mono ?_
    rintro e5 w5 ⟨rfl, hb5⟩
    go_wp2_with fail
    go_ret
    exact ⟨by simp, hB4.trans (hb5.mono hB4.size)⟩
  · obtain ⟨hc1, hc2, hc3⟩ := allO_count hv
    have hmem : ∀ x ∈ allO p, CandOk p x := fun x hx => mem_allO.1 hx
    have Hmem := Lib.hid hmem
    have Hnd : Hid ((allO p).Nodup) := by show List.Nodup _; rw [allO_true hv]; exact cands_nodup _
    have Hc3 := Lib.hid hc3
    simp only [hv] at hpv
    have Hpv := Lib.hid hpv
    clear hpv hv hmem hc3
    have Hcv : Hid (∀ x ∈ allO p, ∀ W A B c d, PrgS W (.slice A1 p.length c1) p → RepX W A c B d x → Calls Try.prog 29 #[.slice A1 p.length c1, .agg #[.slice A x.from_.length c, .slice B x.order.length d]] W (RetB W true)) := fun x hx W A B c d hp hr => by
      have h := implCand_any p hl Hls.out x W _ A B c d hp hr (cand_wX (Hmem.out x hx))
      rw [candB_iff.2 (Hmem.out x hx)] at h
      exact h
    have Hex := Lib.hid (fun W (h : PrgS W (.slice A1 p.length c1) p) => cntEx_any p hl Hls.out W _ h)
    have Hop := Lib.hid (fun W (h : PrgS W (.slice A1 p.length c1) p) => cntOps_any p 5 hl Hls.out W _ h)
    generalize allO p = xs at hx23 hx3 hm2 hc1 hc2 Hc3 Hmem Hnd Hcv ⊢
    go_wp2_with fail
    refine (Hpv.out _ hp3).mono ?_
    rintro e4 w4 ⟨rfl, hb4⟩
    have hp4 := PrgS.le hp3 (Le.below hb4)
    have hB4 := hB3.trans (hb4.mono hB3.size)
    have hx24 := ExS.le hx23 (Le.below hb4)
    have hx34 := ExS.le hx3 (Le.below hb4)
    clear hp3 hx23 hx3 hb4 Hpv
    go_wp2_with fail
    go_loopg [6] xs.length (fun g s6 wr => ∃ i : Nat, i ≤ xs.length ∧ g = xs.length - i ∧ s6 = .int .i64 i ∧ Below w4.heap.size w4 wr)
    case atStart => exact ⟨0, Nat.zero_le _, rfl, rfl, Below.refl _ _⟩
    case round =>
      obtain ⟨i, hi, rfl, rfl, hb⟩ := hrel
      by_cases hlt : i < xs.length
      · have hpr := PrgS.le hp4 (Le.below hb)
        have hl2 := ExS.le hx24 (Le.below hb)
        have hl3 := ExS.le hx34 (Le.below hb)
        obtain ⟨b, o, Ai, ci, Bi, di, rfl, hbl, k0, k1, hxi⟩ := hl2.get hlt
        obtain ⟨b', o', Aw, cw, Bw, dw, rfl, hbl', d0, d1, hxw⟩ := hl3.get hlt
        have hmi := List.getElem_mem hlt
        have he : eqB xs[i] xs[i] = true := eqB_self _
        have r1 := fun W (h : Below wr.heap.size wr W) => RetB.op (execSame_any xs[i] xs[i] W Ai Bi Aw Bw ci di cw dw (hxi.le (Le.below h)) (hxw.le (Le.below h)))
        simp only [he] at r1
        have r2 := fun W (h : Below wr.heap.size wr W) => RetB.op (Hcv.out xs[i] hmi W Ai Bi ci di (PrgS.le hpr (Le.below h)) (hxi.le (Le.below h)))
        have R1 := Lib.hid r1
        have R2 := Lib.hid r2
        have f0 := fun n : Ext wr => n.le _ _ k0
        have f1 := fun n : Ext wr => n.le _ _ k1
        have g0 := fun n : Ext wr => n.le _ _ d0
        have g1 := fun n : Ext wr => n.le _ _ d1
        have hb40 : decide ((i : Int) < 40) = true ∨ decide ((i : Int) < 40) = false := by cases decide ((i : Int) < 40) <;> simp
        have hil : (i : Int) < (xs.length : Int) := by omega
        rcases Nat.eq_zero_or_pos i with hi0 | hi0
        · have b0 : decide ((i : Int) > 0) = false := by rw [decide_eq_false_iff_not]; omega
          have b1 : decide (0 < (i : Int)) = false := by rw [decide_eq_false_iff_not]; omega
          have b2 : decide (0 < i) = false := by rw [decide_eq_false_iff_not]; omega
          clear he r1 r2 hxi hxw hl2 hl3 hpr k0 k1 d0 d1 hi0
          rcases hb40 with b40 | b40
          all_goals
            go_wp2_with fail
            refine wp_region_ext _ (by kernel_rfl) (by kernel_rfl) (Below.refl _ _) ?_
            repeat (go_big_quiet_step ((first | (go_at_call 32; with_reducible exact Ext.call _ R1.out) | (go_at_call 29; with_reducible exact Ext.call _ R2.out))))
            refine wpQuiet_nil ?_
            rintro wn ⟨⟨_, hbn⟩, rfl⟩
            have hBn : Below w4.heap.size w4 wn := hb.trans (hbn.mono hb.size)
            clear R1 R2 f0 f1 g0 g1 hbn hb
            go_wp2_with fail
            go_roundg (xs.length - (i + 1))
            case measure => omega
            case rel => exact ⟨i + 1, by omega, rfl, by go_num, hBn⟩
        · obtain ⟨j, hj⟩ : ∃ j, i = j + 1 := ⟨i - 1, by omega⟩
          have hjlt : j < xs.length := by omega
          obtain ⟨bb, oo, Aj, cj, Bj, dj, e, _, j0, j1, hxj⟩ := hl2.get hjlt
          injection e with e
          injection e with e1 e2
          subst e1 e2
          have hne : eqB xs[i] xs[j] = false := eqB_false.2 fun e => by
            have := (List.pairwise_iff_getElem.1 Hnd.out) j i hjlt hlt (by omega)
            exact this e.symm
          have r3 := fun W (h : Below wr.heap.size wr W) => RetB.op (execSame_any xs[i] xs[j] W Ai Bi Aj Bj ci di cj dj (hxi.le (Le.below h)) (hxj.le (Le.below h)))
          simp only [hne] at r3
          have R3 := Lib.hid r3
          have p0 := fun n : Ext wr => n.le _ _ j0
          have p1 := fun n : Ext wr => n.le _ _ j1
          have b0 : decide ((i : Int) > 0) = true := by rw [decide_eq_true_iff]; omega
          have b1 : decide (0 < (i : Int)) = true := by rw [decide_eq_true_iff]; omega
          have b2 : decide (0 < i) = true := by rw [decide_eq_true_iff]; omega
          have hw : IntKind.i64.wrap ((i : Int) - 1) = (j : Int) := by rw [IntWalk.i64_in _ ⟨by omega, by omega⟩]; omega
          have hjl : (j : Int) < (xs.length : Int) := by omega
          have hj0 : (0 : Int) ≤ (j : Int) := by omega
          have hxi' : xs[i] = xs[i] := rfl
          clear he r1 r2 r3 hxi hxw hxj hl2 hl3 hpr k0 k1 d0 d1 hi0 hne j0 j1 hxi' hj
          rcases hb40 with b40 | b40
          all_goals
            go_wp2_with fail
            refine wp_region_ext _ (by kernel_rfl) (by kernel_rfl) (Below.refl _ _) ?_
            repeat (go_big_quiet_step ((first | (go_at_call 32; with_reducible exact Ext.call _ R1.out) | (go_at_call 32; with_reducible exact Ext.call _ R3.out) | (go_at_call 29; with_reducible exact Ext.call _ R2.out))))
            refine wpQuiet_nil ?_
            rintro wn ⟨⟨_, hbn⟩, rfl⟩
            have hBn : Below w4.heap.size w4 wn := hb.trans (hbn.mono hb.size)
            clear R1 R2 R3 f0 f1 g0 g1 p0 p1 hbn hb hw
            go_wp2_with fail
            go_roundg (xs.length - (i + 1))
            case measure => omega
            case rel => exact ⟨i + 1, by omega, rfl, by go_num, hBn⟩
      · obtain rfl : i = xs.length := by omega
        have hpr := PrgS.le hp4 (Le.below hb)
        have hBr : Below w.heap.size w wr := hB4.trans (hb.mono hB4.size)
        have he := Hex.out wr hpr
        generalize exO p = N at hc2 Hc3 he
        have hN := hc2
        go_wp2_with fail
        refine he.mono ?_
        rintro e5 w5 ⟨rfl, hb5⟩
        have hB5 := hBr.trans (hb5.mono hBr.size)
        have ho := Hop.out w5 (PrgS.le hpr (Le.below hb5))
        generalize opO 5 p = K at ho Hc3
        have b1 : decide ((xs.length : Int) ≥ 1) = true := by rw [decide_eq_true_iff]; omega
        have b2 : decide ((xs.length : Int) ≤ (N : Int)) = true := by rw [decide_eq_true_iff]; omega
        have b3 : decide (xs.length ≤ N) = true := by rw [decide_eq_true_iff]; omega
        go_wp2_with fail
        refine ho.mono ?_
        rintro e6 w6 ⟨rfl, hb6⟩
        have hB6 := hB5.trans (hb6.mono hB5.size)
        rcases Nat.eq_zero_or_pos K with h0 | h0
        · have hNl := Hc3.out h0
          subst h0 hNl
          clear Hc3
          go_wp2_with fail
          go_ret
          exact ⟨rfl, hB6⟩
        · have b4 : decide ((K : Int) > 0) = true := by rw [decide_eq_true_iff]; omega
          have b5 : decide (0 < (K : Int)) = true := by rw [decide_eq_true_iff]; omega
          have b6 : decide (0 < K) = true := by rw [decide_eq_true_iff]; omega
          go_wp2_with fail
          go_ret
          exact ⟨rfl, hB6⟩

end Go.Proofs.Ytpadkallejfdlaa
