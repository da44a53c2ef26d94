/-
  The walk of l1Draw: some program of few threads and instructions.
-/
import Derived.Test.YtpadkallejfdlaaDp5
namespace Go.Proofs.Ytpadkallejfdlaa
open Go.RowKit
set_option linter.unusedVariables false
set_option maxRecDepth 100000

theorem mv_grownV {w X w1 : World} {R : Nat} {row : Option Nat} (m : Mv R w X) (h : X.grownBy w1 row) (hs : ∀ g, row = some g → w.heap.size ≤ g) : Mv R w w1 :=
  ⟨(World.grownBy.os h).trans m.os, (World.grownBy.tape h).trans m.tape, (World.grownBy.output h).trans m.output, Nat.le_trans m.size (World.grownBy.size h), fun i hi hne => (World.grownBy.block h i (Nat.lt_of_lt_of_le hi m.size) (fun e => by have := hs i e.symm; omega)).trans (World.grownBy.block m i hi hne)⟩
theorem prg_one {W : World} {base b1 b2 : Nat} {a b c d : Int} (h1 : Own W b1 65 #[.int .i64 a, .int .i64 b, .int .i64 c, .int .i64 d]) (h2 : Own W b2 36 #[.slice (some ⟨b1, 0, none⟩) 1 1]) (g1 : base ≤ b1) (g2 : base ≤ b2) : PrgS (above base W) (.slice (some ⟨b2, 0, none⟩) 1 1) [[⟨a, b, c, d⟩]] := by
  refine ⟨_, _, rfl, by simp, fun i hi => ⟨b2, 0, rfl, fun _ => .slice (some ⟨b1, 0, none⟩) 1 1, fun j hj => ?_, ?_⟩⟩
  · obtain rfl : i = 0 := by simp at hi; omega
    obtain rfl : j = 0 := by omega
    exact cell_above_of g2 (h2.cell rfl)
  · obtain rfl : i = 0 := by simp at hi; omega
    refine ⟨_, _, rfl, _, _, rfl, by simp, fun i hi => ⟨b1, 0, rfl, fun j => #[Value.int .i64 a, .int .i64 b, .int .i64 c, .int .i64 d].getD j undef, fun j hj => ?_, ?_⟩⟩
    · obtain rfl : i = 0 := by simp at hi; omega
      refine cell_above_of g1 ?_
      match j, hj with
      | 0, _ => exact h1.cell rfl
      | 1, _ => exact h1.cell rfl
      | 2, _ => exact h1.cell rfl
      | 3, _ => exact h1.cell rfl
    · obtain rfl : i = 0 := by simp at hi; omega
      exact ⟨rfl, rfl, rfl, rfl⟩

def RetDP (w : World) (R p : Nat) (e : Ending) (w' : World) : Prop := ∃ (pr : Prg) (v : Value) (p' : Nat), e = .returned v ∧ PrgS (above w.heap.size w') v pr ∧ Few 4 8 pr ∧ Mv R w w' ∧ Rd w' R p' ∧ p' ≤ p + 1000

set_option maxHeartbeats 4000000 in
theorem drawP_any (w : World) (R p : Nat) (hp : p ≤ 900000000) (hr : Rd w R p) : Calls Try.prog 82 #[.pointer (some ⟨R, 0, none⟩)] w (RetDP w R p) := by
  have hR := hr.lt
  obtain ⟨i0, hi0, hz0, hz1, hz2⟩ := info_parts Try.infoIns
  obtain ⟨i1, hi1, hy0, hy1, hy2⟩ := info_parts Try.infoInsS
  go_enter Try.func82, Try.ntmps82
  go_wp2_with fail
  refine (tests_any w).mono ?_
  rintro e1 w1 ⟨A, c, rfl, hss, hb1⟩
  have hm1 : Mv R w w1 := Mv.of_below hb1
  have hr1 := hr.below hb1
  have hpk := pick_any _ R p 3 (by omega) hr1
  clear hr1 hr hb1
  go_wp2_with fail
  refine hpk.mono ?_
  rintro e2 w2 ⟨k, rfl, hk0, _, m2, r2⟩
  have hm2 := hm1.trans m2
  have hs2 : Strs (above (R + 1) w2) A c tests := (hss.le (Le.above_mono (by omega) _)).le m2.above
  clear hpk m2 hm1 hss
  by_cases hk : 0 < k
  case' pos =>
    have hpk := pick_any _ R (p + 1) tests.length (by omega) r2
    go_wp2_with fail
    refine hpk.mono ?_
    rintro e3 w3 ⟨v, rfl, hv0, hv1, m3, r3⟩
    obtain ⟨i, rfl⟩ : ∃ i : Nat, v = i := ⟨v.toNat, by omega⟩
    have hi : i < tests.length := by have := hv1 (by show (0 : Int) < 21; omega); omega
    obtain ⟨b, o, rfl, hbl, hc⟩ := (hs2.le m3.above).get hi
    have hc' := (cell_above_lt hc).2
    have hii : (i : Int) < (tests.length : Int) := by omega
    have hsm := tests_small _ (List.getElem_mem hi)
    have hm3 := hm2.trans m3
    generalize tests[i] = y at hc hc' hsm
    clear hs2 hpk m3 hv1 hc hbl hm2 r2
    go_wp2_with fail
    refine (parseP_any y _ (by omega)).mono ?_
    rintro e4 w4 ⟨pr, v4, ok, rfl, hps, hfew, hb4⟩
    have hm4 := hm3.trans (Mv.of_below hb4)
    have r4 := r3.below hb4
    have hms := hm3.size
    clear hb4 hm3 r3 hc'
    cases ok
    case true =>
      go_wp2_with fail
      go_ret
      exact ⟨pr, v4, _, rfl, PrgS.le hps (Le.above_mono hms _), hfew, hm4, r4, by omega⟩
    case' false =>
      clear hps hfew hms
      obtain ⟨W, hW⟩ : ∃ W, W = w4 := ⟨_, rfl⟩
      subst hW
      obtain ⟨q, hq⟩ : ∃ q, q = p + 1 + 1 := ⟨_, rfl⟩
      rw [← hq] at r4
      have hqp : q ≤ p + 2 := by omega
      clear hq
      have hmW := hm4
      have rW := r4
      clear hm4 r4
  case' neg =>
    obtain ⟨W, hW⟩ : ∃ W, W = w2 := ⟨_, rfl⟩
    subst hW
    obtain ⟨q, hq⟩ : ∃ q, q = p + 1 := ⟨_, rfl⟩
    rw [← hq] at r2
    have hqp : q ≤ p + 2 := by omega
    clear hq hs2
    have hmW := hm2
    have rW := r2
    clear hm2 r2
  all_goals
    have hsW := hmW.size
    have hrow0 : PrgW (W.alloc (.cells #[] 36)) w.heap.size (.slice (some ⟨W.heap.size, 0, none⟩) 0 0) [] [] (fun _ => []) := RowW.made 1 thr (Own.new _ _ _) hsW
    have il := Own.new (W.alloc (.cells #[] 36)) 3 #[.int .i64 2, .int .i64 3, .int .i64 1]
    have hil : Ints (above (R + 1) ((W.alloc (.cells #[] 36)).alloc (.cells #[.int .i64 2, .int .i64 3, .int .i64 1] 3))) (some ⟨W.heap.size + 1, 0, none⟩) 3 [2, 3, 1] := ints_lit [2, 3, 1] (by simpa using il) (by omega) rfl (by omega) (fun i hi => by
      match i, hi with
      | 0, _ => rfl
      | 1, _ => rfl
      | 2, _ => rfl)
    have hnum := num_any _ R q _ 3 [2, 3, 1] (by omega) ((rW.alloc _).alloc _) hil (by simp)
    have hm1 := (hmW.alloc (.cells #[] 36)).alloc (.cells #[.int .i64 2, .int .i64 3, .int .i64 1] 3)
    have Hrow1 := Lib.hid (hrow0.below thr_loc ((Below.refl _ _).alloc (Nat.le_refl _) (.cells #[.int .i64 2, .int .i64 3, .int .i64 1] 3)))
    clear il hil rW hmW hrow0
    go_wp2_with fail
    refine hnum.mono ?_
    rintro e2 w2 ⟨n, rfl, hn, m2, r2⟩
    have hlit : n = 2 ∨ n = 3 ∨ n = 1 := by simpa using hn
    have hn3 : 0 ≤ n ∧ n ≤ 3 := by omega
    obtain ⟨n, rfl⟩ : ∃ k : Nat, n = k := ⟨n.toNat, by omega⟩
    have hm2 := hm1.trans m2
    have Hrow2 := Lib.hid (Hrow1.out.move thr_loc (w' := w2) fun b hb hl => m2.block hl (by omega))
    have hn33 : n ≤ 3 := by omega
    clear hn hlit hn3 hm1 m2 Hrow1 hnum
    go_wp2_with fail
    go_loopg [6, 7] n (fun g s6 s7 wr => ∃ (i : Nat) (v : Value) (pr : Prg) (cs : List Value) (Fs : Nat → List Nat) (q' : Nat), i ≤ n ∧ i = g ∧ v = s6 ∧ s7 = .int .i64 i ∧ Hid (PrgW wr w.heap.size v pr cs Fs) ∧ Hid (Few (3 - i) 8 pr) ∧ pr.length + i ≤ 3 ∧ Hid (Mv R w wr) ∧ Hid (Rd wr R q') ∧ q' + 50 * i ≤ q + 200)
    case atStart => exact ⟨n, _, [], [], _, _, Nat.le_refl _, rfl, rfl, rfl, Hrow2.out, Few.nil _ _, by simp; omega, hm2, r2, by omega⟩
    case round =>
      obtain ⟨wo, rfl⟩ : ∃ wo : World, wo = wr := ⟨_, rfl⟩
      obtain ⟨i, v, pr, cs, Fs, q', hi, rfl, rfl, rfl, hrow, hfew, hpl, hmo, hro, hq⟩ := hrel
      by_cases hi0' : 0 < i
      · have bi : decide ((i : Int) > 0) = true := by rw [decide_eq_true_iff]; omega
        have hso := hmo.out.size
        have hth : RowT (wo.alloc (.cells #[] 65)) wo.heap.size (.slice (some ⟨wo.heap.size, 0, none⟩) 0 0) [] := RowOf.made _ (Own.new _ _ _) (Nat.le_refl _)
        have il := Own.new (wo.alloc (.cells #[] 65)) 3 #[.int .i64 2, .int .i64 1, .int .i64 3, .int .i64 2, .int .i64 0]
        have hil : Ints (above (R + 1) ((wo.alloc (.cells #[] 65)).alloc (.cells #[.int .i64 2, .int .i64 1, .int .i64 3, .int .i64 2, .int .i64 0] 3))) (some ⟨wo.heap.size + 1, 0, none⟩) 5 [2, 1, 3, 2, 0] := ints_lit [2, 1, 3, 2, 0] (by simpa using il) (by omega) rfl (by omega) (fun i hi => by
          match i, hi with
          | 0, _ => rfl
          | 1, _ => rfl
          | 2, _ => rfl
          | 3, _ => rfl
          | 4, _ => rfl)
        have hnum := num_any _ R q' _ 5 [2, 1, 3, 2, 0] (by omega) ((hro.out.alloc _).alloc _) hil (by simp)
        have hm1 := ((Mv.refl R wo).alloc (.cells #[] 65)).alloc (.cells #[.int .i64 2, .int .i64 1, .int .i64 3, .int .i64 2, .int .i64 0] 3)
        have Hth1 := Lib.hid (hth.below ((Below.refl _ _).alloc (Nat.le_refl _) (.cells #[.int .i64 2, .int .i64 1, .int .i64 3, .int .i64 2, .int .i64 0] 3)))
        clear il hil hth
        go_wp2_with fail
        refine hnum.mono ?_
        rintro e3 w3 ⟨m, rfl, hm, m3, r3⟩
        have hlit : m = 2 ∨ m = 1 ∨ m = 3 ∨ m = 2 ∨ m = 0 := by simpa using hm
        obtain ⟨m, rfl⟩ : ∃ k : Nat, m = k := ⟨m.toNat, by omega⟩
        have hm33 : m ≤ 3 := by omega
        have hm3 := hm1.trans m3
        have Hth3 := Lib.hid (Hth1.out.of_block (w' := w3) fun g hb _ hl => m3.block hl (by omega))
        clear hm hlit hm1 m3 Hth1 hnum
        go_wp2_with fail
        go_loopg [8, 9] m (fun g s8 s9 wr => ∃ (k : Nat) (tv : Value) (t : List Ins) (q2 : Nat), k ≤ m ∧ k = g ∧ tv = s8 ∧ s9 = .int .i64 k ∧ Hid (RowT wr wo.heap.size tv t) ∧ t.length + k ≤ 3 ∧ Hid (Mv R wo wr) ∧ Hid (Rd wr R q2) ∧ q2 + 10 * k ≤ q' + 40)
        case atStart => exact ⟨m, _, [], _, Nat.le_refl _, rfl, rfl, rfl, Hth3.out, by simp; omega, hm3, r3, by omega⟩
        case round =>
          obtain ⟨k, tv, t, q2, hk2, rfl, rfl, rfl, hrt, htl, hmk, hrk, hq2⟩ := hrel
          by_cases hk3 : 0 < k
          · have bk : decide ((k : Int) > 0) = true := by rw [decide_eq_true_iff]; omega
            obtain ⟨ct, hot, hqt⟩ := hrt.out
            have Hqt := Lib.hid hqt
            have Hot := Lib.hid hot
            have hsk := hmk.out.size
            clear hot hqt
            go_wp2_with fail
            refine (instr_any _ R q2 (by omega) hrk.out).mono ?_
            rintro e5 w5 ⟨x, q5, rfl, m5, r5, hq5⟩
            have Hot5 := Lib.hid (owns_of_block Hot.out (w' := w5) fun g _ hb hl => m5.block hl (by omega))
            have hs5 := m5.size
            have Hm5 := Lib.hid (hmk.out.trans m5)
            have Hr5 := Lib.hid r5
            clear m5 r5
            go_wp2_with (at_builtin; refine wpList_append_lies _ (by rfl) _ _ _ (by rfl) wo.heap.size 65 i0 _ 4 32 Try.underlying36 hi0 hz0 hz1 hz2 rfl (by omega) tv t.length ct (by rfl) (owns_alloc Hot5.out _) ⟨w5.heap.size, 0, none⟩ 1 1 [.int .i64 x.op, .int .i64 x.loc, .int .i64 x.reg, .int .i64 x.val] (by rfl) (by rfl) (World.news_of_block (cs := #[.int .i64 x.op, .int .i64 x.loc, .int .i64 x.reg, .int .i64 x.val]) (t := 65) (fr := (0, 0)) (heap_alloc_new w5 _)) (by simp [Value.oneCell']) (by omega) (by simp [maxLen]; omega) (by omega) (by simp; omega) (w5.heap.size + 1) (by simp) ?_; intro gg cap w6 hown6 hgrow hat6 hlt6)
            go_roundg (k - 1)
            case measure => omega
            case rel => exact ⟨k - 1, _, t ++ [x], q5, by omega, rfl, rfl, by go_num, RowOf.snoc (news := [.int .i64 x.op, .int .i64 x.loc, .int .i64 x.reg, .int .i64 x.val]) qin_congr Hot.out Hqt.out rfl ⟨rfl, rfl, rfl, rfl⟩ hown6, by simp; omega, mv_grownV (Hm5.out.alloc _) hgrow (fun g hg => owns_base' Hot.out hg), rd_grown (Hr5.out.alloc _) hgrow (fun g hg => by have := owns_base' Hot.out hg; omega), by omega⟩
          · obtain rfl : k = 0 := by omega
            have hsk := hmk.out.size
            obtain ⟨At, cT, rfl⟩ : ∃ At cT, tv = .slice At t.length cT := by
              obtain ⟨ct, hot, _⟩ := hrt.out
              rcases hot.2 with ⟨rfl, h0⟩ | ⟨g, cap, cur, rfl, _⟩
              · exact ⟨none, 0, by rw [h0]⟩
              · exact ⟨_, _, rfl⟩
            have Hown := Lib.hid (owns_of_block hrow.out.own (w' := wr) fun g _ hb hl => hmk.out.block hl (by omega))
            have Hpush : Hid (∀ (gg cap : Nat) (w6 : World), w6.ownsRow w.heap.size 36 1 (.slice (some ⟨gg, 0, none⟩) (pr.length + 1) cap) (pr.length + 1) (cs ++ [.slice At t.length cT]) → (wr.alloc (.cells #[.slice At t.length cT] 36)).grownBy w6 v.ownBlock → (v.ownBlock = some gg ∨ gg = wr.heap.size + 1) →
                ∃ Fs', PrgW w6 w.heap.size (.slice (some ⟨gg, 0, none⟩) (pr.length + 1) cap) (pr ++ [t]) (cs ++ [.slice At t.length cT]) Fs' ∧ Mv R w w6 ∧ Rd w6 R q2) := fun gg cap w6 hown hg hat' =>
              ⟨_, hrow.out.push thr_loc (by have := hmk.out.size; simp; omega) (fun b hb hl => (Go.Deep.blk_alloc_lt _ _ _ (by omega)).trans (hmk.out.block hl (by omega))) hg rfl (RowT.thr (hrt.out.of_block (w' := wr.alloc (.cells #[.slice At t.length cT] 36)) fun g _ _ hl => Go.Deep.blk_alloc_lt _ _ _ hl)) (fun b hb => (hrt.out.blk (mem_own.1 hb)).1) (own_nodup _) hso hown hat' (by simp),
                mv_grownV ((hmo.out.trans hmk.out).alloc _) hg (fun g hg => owns_base' hrow.out.own hg), rd_grown (hrk.out.alloc _) hg (fun g hg => by have := owns_base' hrow.out.own hg; omega)⟩
            go_wp2_with (at_builtin; refine wpList_append_lies _ (by rfl) _ _ _ (by rfl) w.heap.size 36 i1 _ 1 24 Try.underlying26 hi1 hy0 hy1 hy2 rfl (by omega) v pr.length cs (by rfl) (owns_alloc Hown.out _) ⟨wr.heap.size, 0, none⟩ 1 1 [.slice At t.length cT] (by rfl) (by rfl) (World.news_of_block (cs := #[.slice At t.length cT]) (t := 36) (fr := (0, 0)) (heap_alloc_new wr _)) (by simp [Value.oneCell']) (by omega) (by simp [maxLen]; omega) (by omega) (by simp; omega) (wr.heap.size + 1) (by simp) ?_; intro gg cap w6 hown6 hgrow hat6 hlt6)
            obtain ⟨Fs', hp1, hp2, hp3⟩ := Hpush.out gg cap w6 hown6 hgrow hat6
            go_roundg (i - 1)
            case measure => omega
            case rel => exact ⟨i - 1, _, pr ++ [t], _, Fs', q2, by omega, rfl, rfl, by go_num, hp1, (hfew.out.push (by omega)).mono (by omega) (Nat.le_refl _), by simp; omega, hp2, hp3, by omega⟩
      · obtain rfl : i = 0 := by omega
        have hpS : PrgS (above w.heap.size wo) v pr := hrow.out.prgS
        have Hps := Lib.hid hpS
        obtain ⟨A9, c9, rfl, _⟩ := hpS.slice
        have hvalid := specPrg_any pr (by omega) wo (.slice A9 pr.length c9) (PrgS.le hpS (Le.above _ _))
        have Hfew : Hid (Few 4 8 pr) := hfew.out.mono (by omega) (Nat.le_refl _)
        have hso := hmo.out.size
        clear hpS hrow
        cases hv : prgB pr
        · rw [hv] at hvalid
          have Hv := Lib.hid hvalid
          clear hvalid hv
          go_wp2_with fail
          refine Hv.out.mono ?_
          rintro e3 w3 ⟨rfl, hb3⟩
          have r3 := hro.out.below hb3
          have m3 := hmo.out.trans (Mv.of_below hb3)
          have hs3 := hb3.size
          clear hb3 Hv
          go_wp2_with fail
          refine (instr_any _ R q' (by omega) r3).mono ?_
          rintro e5 w5 ⟨x, q5, rfl, m5, r5, hq5⟩
          have hs5 := m5.size
          have Hm5 := Lib.hid (m3.trans m5)
          have Hr5 := Lib.hid r5
          clear m5 r5 m3 r3
          go_wp2_with fail
          go_ret
          refine ⟨[[x]], _, q5, rfl, prg_one ((Own.new _ _ _).alloc _) (by simpa using Own.new (w5.alloc _) _ _) (by omega) (by omega), ⟨by simp, fun t ht => by simp at ht; subst ht; simp⟩, (Hm5.out.alloc _).alloc _, (Hr5.out.alloc _).alloc _, by omega⟩
        · rw [hv] at hvalid
          have Hv := Lib.hid hvalid
          clear hvalid hv
          go_wp2_with fail
          refine Hv.out.mono ?_
          rintro e3 w3 ⟨rfl, hb3⟩
          go_wp2_with fail
          go_ret
          exact ⟨pr, _, q', rfl, PrgS.le Hps.out (Le.above_le _ (Le.below hb3)), Hfew.out, hmo.out.trans (Mv.of_below hb3), hro.out.below hb3, by omega⟩

end Go.Proofs.Ytpadkallejfdlaa
