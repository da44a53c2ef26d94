/-
  The draw of an outcome with buffers: DrawFindMoves.
-/
import Derived.Test.YtahegjofooahkaaGreatODr
import Derived.Test.YtahegjofooahkaaGreatS4R
import Derived.Test.YtahegjofooahkaaGreatMvs
namespace Go.Proofs.YtahegjofooahkaaGreat
open Go.RowKit
set_option linter.unusedVariables false
set_option maxRecDepth 100000

theorem outB_len {p : Prg} {sp : Bool} (hp : PrgOk p) {s : BSt} (h : Reach (sucB p sp) (bt0 p sp) s) : (outB s).length = p.length * 3 + 3 := by
  have hok := (reachB_ok hp h).ok
  unfold outB outS
  rw [List.length_append, hok.regl, hok.meml]

set_option maxHeartbeats 4000000 in
theorem drawFM_any (w : World) (A : Option Addr) (n c : Nat) (h : Bys w A n) (hnc : n ≤ c) (hA : A = none → n = 0) : Calls Tryz.prog 13 #[.slice A n c] w (RetD3 w) := by
  obtain ⟨i0, hi0, hz0, hz1, hz2⟩ := info_parts Tryz.infoInt
  have hop := open_any w A n c h hnc hA
  go_enter Tryz.func13, Tryz.ntmps13
  go_wp2_with fail
  refine hop.mono ?_
  rintro e1 w1 ⟨R, rfl, hR, hr1, hb1⟩
  have hod := drawP_any w1 R 0 (by omega) hr1
  have hRl := hr1.lt
  clear hop hr1
  go_wp2_with fail
  refine hod.mono ?_
  rintro e2 w2 ⟨p, v, q', rfl, hp, hpq, hfew, m2, r2, hq⟩
  have hpk := pick_any w2 R q' 2 (by omega) r2
  have HPQ := Lib.hid hpq
  have Hp := Lib.hid hp
  have Hfew := Lib.hid hfew
  have hs2 := m2.size
  have hb2 := Mv.belowR hb1 hR m2
  have hw1 := hb1.size
  have hp3 := hp.1.1
  clear hod hp hpq hfew r2
  go_wp2_with fail
  refine hpk.mono ?_
  rintro e3 w3 ⟨tv, rfl, _, _, m3, r3⟩
  have hb3 := Mv.belowR hb2 hR m3
  have hs3 := m3.size
  obtain ⟨sp, hsp⟩ : ∃ sp : Bool, sp = (tv == 0) := ⟨_, rfl⟩
  have HP3 : Hid (PrgS (above w1.heap.size w3) v p) := PrgS.le HPQ.out.1 (m3.aboveB hRl)
  have hsq := l4Run_any p Hp.out sp w3 v (PrgS.le HP3.out (Le.above _ _))
  have HR3 := Lib.hid r3
  clear hpk r3
  rw [hsp] at hsq
  go_wp2_with fail
  refine hsq.mono ?_
  rw [← hsp]
  rintro e4 w4 ⟨V, L, go, oo, co, rfl, hdfs, hwh, hI, hs4, hb4⟩
  have hfld := fldO (V.length : Int) (some ⟨go, oo, none⟩) L.length co
  have hLl : 0 < L.length := by
    obtain ⟨s, k1, k2⟩ := exists_done Hp.out
    obtain ⟨b, h1, h2, h3⟩ := out_sc sp Hp.out ⟨s, k1, k2, rfl⟩
    have := (hwh.2.1 (outS s)).2 ⟨b, hdfs.all.2 h1, by simp, h2, h3⟩
    exact List.length_pos_of_mem this
  have HLen : Hid (∀ x ∈ L, x.length = p.length * 3 + 3) := fun x hx => by
    obtain ⟨s, k1, _, _, k4⟩ := (hwh.2.1 x).1 hx
    rw [← k4]
    exact outB_len Hp.out (hdfs.reach s k1)
  have hLm := hI.len
  have HI := Lib.hid hI
  have hm4 := Mv.trans m3 (Mv.of_below hb4)
  have HR4 := Lib.hid (HR3.out.below hb4)
  have HP4 : Hid (PrgS (above w1.heap.size w4) v p) := HP3.out.le (Le.above_le _ (Le.below hb4))
  have hb4w := hb3.trans (hb4.mono (hb3.size))
  clear hsq hdfs hwh hI HR3 HP3 hsp
  go_upto_region 5 with (fail)
  obtain ⟨V5, hV5⟩ : ∃ V5, V5 = w4.alloc (.cells #[] 3) := ⟨_, rfl⟩
  have oE : Own V5 w4.heap.size 3 #[] := by rw [hV5]; exact Own.new _ _ _
  have hm5 : Mv R w4 V5 := by rw [hV5]; exact (Mv.refl R w4).alloc _
  have hL5 : Le w4 V5 := by rw [hV5]; exact Le.alloc _ _
  have hs5 : V5.heap.size = w4.heap.size + 1 := by rw [hV5]; simp
  have hpk := pick_any V5 R (q' + 1) L.length (by omega) (by rw [hV5]; exact HR4.out.alloc _)
  have hRG : R < w4.heap.size := by omega
  have HK5 : Hid (Kp R w4.heap.size w4 V5) := by show Kp _ _ _ _; rw [hV5]; exact (Kp.refl (Nat.le_refl _)).alloc _
  have HI5 : Hid (Intss (above w3.heap.size V5) (some ⟨go, oo, none⟩) co L) := HI.out.le (Le.above_le _ hL5)
  have HE := Lib.hid oE
  rw [hV5] at hpk
  have Hs5 := Lib.hid hs5
  clear oE HI hs5 HR4
  go_wp2_with fail
  refine hpk.mono ?_
  rw [← hV5]
  rintro e6 w6 ⟨tw, rfl, h0t, hlt, m6, r6⟩
  clear hV5 hpk
  obtain ⟨t, rfl⟩ : ∃ t : Nat, tw = (t : Int) := ⟨tw.toNat, by omega⟩
  have htL : t < L.length := by have := hlt (by omega); omega
  have htI : (t : Int) < (L.length : Int) := by omega
  have hm6 := hm5.trans m6
  have hs6 := m6.size
  have HLe : Hid (Le (above w3.heap.size V5) w6) := fun x u hc => by
    obtain ⟨h1, h2⟩ := cell_above_lt hc
    exact m6.cell h2 (by omega)
  have HI6 := Lib.hid (HI5.out.le HLe.out)
  have HE6 := Lib.hid (HE.out.mv m6 (by omega))
  have HK6 := Lib.hid (HK5.out.mv m6)
  have HR6 := Lib.hid r6
  obtain ⟨bL, oL, A5, c5, e5, hbL, k0, hI5⟩ := HI6.out.get htL
  injection e5 with e5
  injection e5 with e5 e6
  subst e5 e6
  have hol := HLen.out _ (List.getElem_mem htL)
  have HI7 := Lib.hid hI5
  generalize L[t] = o at k0 HI7 hol
  rw [hol] at k0
  have Hol := Lib.hid hol
  have hs5' : w4.heap.size < V5.heap.size := by have := Hs5.out; omega
  clear hI5 HE HI5 HLe HK5 m6 r6 hol
  go_wp2_with (at_builtin; refine wpList_append_emp (o := ⟨some _, _, _, _, _, _⟩) (by rfl) _ _ _ (by rfl) qint_congr (R := RInt) w4.heap.size 3 i0 _ 8 Tryz.underlying24 hi0 hz0 hz1 hz2 rfl (by omega) w4.heap.size (by rfl) HE6.out (Nat.le_refl _) A5 c5 o (by rw [Hol.out]; rfl) HI7.out (fun cs y h => h) qint_one (by rw [Hol.out]; simp [maxLen]; omega) (by rw [Hol.out]; omega) ?_; intro A7 c7 w7 hrow7 hnx7 hbk7)
  have hb7 : Below w6.heap.size w6 w7 := hnx7
  have HK7 := Lib.hid (HK6.out.below hb7)
  have HR7 := Lib.hid (HR6.out.below hb7)
  have hm7 := hm6.trans (Mv.of_below hb7)
  have hs7 := hb7.size
  have HFin : Hid (∀ U A' c' o' q2, RowI U w4.heap.size (.slice A' o'.length c') o' → o'.length ≤ 13 → Mv R w4 U → Rd U R q2 → q2 ≤ q' + 2000 → Kp R w4.heap.size w4 U →
      Calls Tryz.prog 52 #[.pointer (some ⟨R, 0, none⟩), v] U (fun e W' => ∃ v5, e = .returned v5 ∧ RetD3 w (.returned (.tuple #[v5, .bool sp, .slice A' o'.length c'])) W')) := fun U A' c' o' q2 h1 h2 h3 h4 h5 h6 => by
    have hPU : PrgS (above w1.heap.size U) v p := HP4.out.le (h6.le hRl (by omega))
    refine (mutP_any U R q2 v p (by omega) h4 (PrgS.le hPU (Le.above _ _)) (Hfew.out.mono (by omega) (by omega))).mono ?_
    rintro e W' ⟨p5, v5, q5, rfl, hpq5, hfew5, m5, r5, hq5⟩
    obtain ⟨A9, c9', e9, hi9⟩ := RowI.ints h1
    injection e9 with e9 _ e10
    subst e9 e10
    have hUw : w.heap.size ≤ U.heap.size := by have := h3.size; omega
    exact ⟨v5, rfl, p5, v5, sp, A', c', o', rfl, PrgS.le hpq5.1 (Le.above_mono hUw _), hfew5, (hi9.le (m5.aboveB (by omega))).le (Le.above_mono (by omega) _), by omega, Mv.belowR (hb4w.trans ((h3.below hR hb4w.size))) hR m5⟩
  have hpk2 := pick_any w7 R (q' + 1 + 1) 4 (by omega) HR7.out
  have Hrow7 := Lib.hid hrow7
  clear hrow7 hnx7 hbk7 hb7 HK6 HR6 HE6 HI6 HI7 k0 hm6 hm5 hfld HLen
  rw [Hol.out] at Hrow7 ⊢
  go_wp2_with fail
  refine hpk2.mono ?_
  rintro e8 w8 ⟨sv, rfl, _, _, m8, r8⟩
  have HK8 := Lib.hid (HK7.out.mv m8)
  have HR8 := Lib.hid r8
  have hm8 := hm7.trans m8
  have hs8 := m8.size
  have hrow8 := RowI.mvR2 Hrow7.out m8 hRG
  obtain ⟨g6, e6, hg6, hgl7, hfz7, hcl7⟩ := RowI.at hrow8 (i := 0) (by rw [Hol.out]; omega)
  subst e6
  have Hrow8 := Lib.hid hrow8
  clear hpk2 m8 r8 HK7 HR7 hm7 Hrow7 hrow8 hfz7 hcl7
  by_cases hs0 : sv = 0
  · subst hs0
    have hpk3 := pick_any w8 R (q' + 1 + 1 + 1) ((p.length * 3 + 3 : Nat) : Int) (by omega) HR8.out
    go_wp2_with fail
    refine hpk3.mono ?_
    rintro e9 w9 ⟨jv, rfl, h0j, hjl, m9, r9⟩
    obtain ⟨j, rfl⟩ : ∃ j : Nat, jv = (j : Int) := ⟨jv.toNat, by omega⟩
    have hj : j < p.length * 3 + 3 := by have := hjl (by omega); omega
    have hjI : (j : Int) < ((p.length * 3 + 3 : Nat) : Int) := by omega
    have HK9 := Lib.hid (HK8.out.mv m9)
    have hm9 := hm8.trans m9
    have hs9 := m9.size
    have hrow9 := Lib.hid (RowI.mvR2 Hrow8.out m9 hRG)
    obtain ⟨V9, hV9⟩ : ∃ V9, V9 = w9.alloc (.cells #[.int .i64 1, .int .i64 0, .int .i64 3, .int .i64 4] 3) := ⟨_, rfl⟩
    have oX : Own V9 w9.heap.size 3 #[.int .i64 1, .int .i64 0, .int .i64 3, .int .i64 4] := by rw [hV9]; exact Own.new _ _ _
    have hnum := num4_any V9 R (q' + 1 + 1 + 1 + 1) w9.heap.size 1 0 3 4 (by omega) (by rw [hV9]; exact r9.alloc _) oX (by omega)
    have HKA : Hid (Kp R w4.heap.size w4 V9) := by show Kp _ _ _ _; rw [hV9]; exact HK9.out.alloc _
    have hmA : Mv R w4 V9 := by rw [hV9]; exact hm9.alloc _
    have hrowA : Hid (RowI V9 w4.heap.size (.slice (some ⟨g6, 0, none⟩) (p.length * 3 + 3) c7) o) := by show RowI _ _ _ _; rw [hV9]; exact RowOf.below hrow9.out ((Below.refl _ _).alloc (Nat.le_refl _) _)
    rw [hV9] at hnum
    clear hpk3 oX hrow9 HK9 HK8 HR8 Hrow8 m9 r9
    go_wp2_with fail
    refine hnum.mono ?_
    rw [← hV9]
    rintro eb wb ⟨x, rfl, _, mb, rb⟩
    clear hnum hV9
    have hrowb := RowI.mvR2 hrowA.out mb hRG
    obtain ⟨g7, e7, _, hglb, hfzb, hclb⟩ := RowI.at hrowb (i := j) (by rw [Hol.out]; exact hj)
    obtain rfl : g6 = g7 := by injection e7 with e7; injection e7 with e7
    have kc := hclb j (by rw [Hol.out]; exact hj)
    have kf := hfzb j
    have hset := Lib.hid (RowI.set hrowb (i := j) (by rw [Hol.out]; exact hj) x)
    have HKb := Lib.hid (HKA.out.mv mb)
    have hmb := hmA.trans mb
    have HRb := Lib.hid rb
    have hl9 : (o.set j x).length = p.length * 3 + 3 := by rw [List.length_set]; exact Hol.out
    have hfin := HFin.out (wb.setCell ⟨g6, j, none⟩ (.int .i64 x)) (some ⟨g6, 0, none⟩) c7 (o.set j x) (q' + 1 + 1 + 1 + 1 + 1) (by rw [hl9]; exact hset.out) (by rw [hl9]; omega) (hmb.setNew (p := ⟨g6, j, none⟩) (by show w4.heap.size ≤ g6; omega) _) (HRb.out.setNew (q := ⟨g6, j, none⟩) (by show R < g6; omega) _) (by omega) (HKb.out.set (p := ⟨g6, j, none⟩) hg6 _)
    rw [hl9] at hfin
    clear hrowA hrowb hfzb hclb e7 mb rb HKA hset HKb hmb HRb hl9
    go_wp2_with fail
    refine hfin.mono ?_
    rintro ec wc ⟨v5, rfl, hD⟩
    have HD := Lib.hid hD
    clear hfin hD
    go_wp2_with fail
    refine bodyPost_ret (v := .tuple #[v5, .bool sp, .slice (some ⟨g6, 0, none⟩) (p.length * 3 + 3) c7]) (by simp [results, Tryz.results13, go_sem]) rfl ?_
    exact HD.out
  · have hd0 : (sv == 0) = false := beq_eq_false_iff_ne.2 hs0
    have hfin := HFin.out w8 (some ⟨g6, 0, none⟩) c7 o (q' + 1 + 1 + 1) (by rw [Hol.out]; exact Hrow8.out) (by rw [Hol.out]; omega) hm8 HR8.out (by omega) HK8.out
    rw [Hol.out] at hfin
    go_wp2_with fail
    refine hfin.mono ?_
    rintro e9 w9 ⟨v5, rfl, hD⟩
    have HD := Lib.hid hD
    clear hfin hD
    go_wp2_with fail
    refine bodyPost_ret (v := .tuple #[v5, .bool sp, .slice (some ⟨g6, 0, none⟩) (p.length * 3 + 3) c7]) (by simp [results, Tryz.results13, go_sem]) rfl ?_
    exact HD.out

end Go.Proofs.YtahegjofooahkaaGreat
