/-
  The draw of an outcome: l3Draw; the draws of the laws on schedules and outcomes.
-/
import Derived.Test.YtcckflijaolnkaaGreatShD
import Derived.Test.YtcckflijaolnkaaGreatSpM
import Derived.Test.YtcckflijaolnkaaGreatApE
namespace Go.Proofs.YtcckflijaolnkaaGreat
open Go.RowKit
set_option linter.unusedVariables false
set_option maxRecDepth 100000

theorem fldO (n : Int) (A : Option Addr) (k c : Nat) : ∀ w, (Instr.field 90 (.agg #[.int .i64 n, .slice A k c]) 1).run Tryz.prog w = .ok (.slice A k c) w := fun w => by kernel_rfl
theorem num5_any (X : World) (R q b : Nat) (a0 a1 a2 a3 a4 : Int) (hq : q ≤ 1000000000) (hr : Rd X R q) (ho : Own X b 3 #[.int .i64 a0, .int .i64 a1, .int .i64 a2, .int .i64 a3, .int .i64 a4]) (hb : R < b) :
    Calls Tryz.prog 49 #[.pointer (some ⟨R, 0, none⟩), .slice (some ⟨b, 0, none⟩) 5 5] X (RetNum X R q [a0, a1, a2, a3, a4]) :=
  num_any X R q _ 5 [a0, a1, a2, a3, a4] (by omega) hr (ints_lit [a0, a1, a2, a3, a4] ho hb rfl (by omega) (fun i hi => by
    match i, hi with
    | 0, _ => rfl
    | 1, _ => rfl
    | 2, _ => rfl
    | 3, _ => rfl
    | 4, _ => rfl)) (by simp)
/-- A program and something like an outcome. -/
def RetLD (w : World) (R q : Nat) (e : Ending) (w' : World) : Prop := ∃ (p : Prg) (v : Value) (A : Option Addr) (c : Nat) (o : List Int) (q' : Nat), e = .returned (.tuple #[v, .slice A o.length c]) ∧ PrgOk p ∧ PrgQ (above w.heap.size w') v p ∧ Few 4 8 p ∧ Ints (above w.heap.size w') A c o ∧ o.length ≤ 13 ∧ Mv R w w' ∧ Rd w' R q' ∧ q' ≤ q + 2000
theorem outS_len {p : Prg} (hp : PrgOk p) {s : St} (h : Reach (sucS p) (st0 p) s) : (outS s).length = p.length * 3 + 3 := by
  have hok := reach_ok hp h
  unfold outS
  rw [List.length_append, hok.regl, hok.meml]
/-- What lay below K is as it was, block R apart. -/
def Kp (R K : Nat) (a b : World) : Prop := K ≤ b.heap.size ∧ ∀ i, i < K → i ≠ R → b.heap[i]? = a.heap[i]?
section
variable {R K : Nat} {a b c : World}
theorem Kp.refl (h : K ≤ a.heap.size) : Kp R K a a := ⟨h, fun _ _ _ => rfl⟩
theorem Kp.mv (h : Kp R K a b) (m : Mv R b c) : Kp R K a c := ⟨Nat.le_trans h.1 m.size, fun i hi hn => (m.block (by have := h.1; omega) hn).trans (h.2 i hi hn)⟩
theorem Kp.below (h : Kp R K a b) (m : Below b.heap.size b c) : Kp R K a c := ⟨Nat.le_trans h.1 m.size, fun i hi hn => (m.block i (by have := h.1; omega)).trans (h.2 i hi hn)⟩
theorem Kp.set (h : Kp R K a b) {p : Addr} (hp : K ≤ p.block) (v : Value) : Kp R K a (b.setCell p v) := ⟨by simpa [World.setCell] using h.1, fun i hi hn => (Go.Deep.blk_setCell_other _ _ _ _ (by omega)).trans (h.2 i hi hn)⟩
theorem Kp.alloc (h : Kp R K a b) (o : Obj) : Kp R K a (b.alloc o) := h.below ((Below.refl _ _).alloc (Nat.le_refl _) o)
theorem Kp.grown {row : Option Nat} (h : Kp R K a b) (hg : b.grownBy c row) (hr : ∀ g, row = some g → K ≤ g) : Kp R K a c :=
  ⟨Nat.le_trans h.1 (World.grownBy.size hg), fun i hi hn => (World.grownBy.block hg i (by have := h.1; omega) (fun e => by have := hr i e.symm; omega)).trans (h.2 i hi hn)⟩
theorem Kp.le {B : Nat} (h : Kp R K a b) (hB : R < B) (hK : a.heap.size ≤ K) : Le (above B a) (above B b) := fun x u hc => by
  obtain ⟨h1, h2⟩ := cell_above_lt hc
  have hl := World.block_lt_of_cell? _ _ h2
  refine cell_above_of h1 ?_
  rw [World.cell?_of_block (w := a) (h.2 x.block (by omega) (by omega))]
  exact h2
end
theorem RowI.mvR2 {a b : World} {R base : Nat} {v : Value} {xs : List Int} (h : RowI a base v xs) (m : Mv R a b) (hR : R < base) : RowI b base v xs := h.of_block fun g hg _ hl => m.block hl (by omega)

set_option maxHeartbeats 4000000 in
theorem odraw_any (W : World) (R q : Nat) (hq : q ≤ 800000000) (hr : Rd W R q) : Calls Tryz.prog 28 #[.pointer (some ⟨R, 0, none⟩)] W (RetLD W R q) := by
  obtain ⟨i0, hi0, hz0, hz1, hz2⟩ := info_parts Tryz.infoInt
  have hR := hr.lt
  have hdr := drawP_any W R q (by omega) hr
  clear hr
  go_enter Tryz.func28, Tryz.ntmps28
  go_wp2_with fail
  refine hdr.mono ?_
  rintro e1 w1 ⟨p, v, q1, rfl, hp, hpq, hfew, m1, r1, hq1⟩
  have hs1 := m1.size
  have Hp := Lib.hid hp
  have HPQ := Lib.hid hpq
  have Hfew := Lib.hid hfew
  have HR1 := Lib.hid r1
  have hp3 := hp.1.1
  have hsq := l3Seq_any p hp w1 v (PrgS.le hpq.1 (Le.above _ _))
  clear hdr hp hpq hfew r1
  go_wp2_with fail
  refine hsq.mono ?_
  rintro e2 w2 ⟨V, L, go, oo, co, rfl, hdfs, hwh, hI, hs2, hb2⟩
  have hfld := fldO (V.length : Int) (some ⟨go, oo, none⟩) L.length co
  have hLl : 0 < L.length := by
    obtain ⟨s, k1, k2⟩ := exists_done Hp.out
    have := (hwh.2.1 (outS s)).2 ⟨s, hdfs.all.2 k1, by simp, k2, rfl⟩
    exact List.length_pos_of_mem this
  have HLen : Hid (∀ x ∈ L, x.length = p.length * 3 + 3) := fun x hx => by
    obtain ⟨s, k1, _, _, k4⟩ := (hwh.2.1 x).1 hx
    rw [← k4]
    exact outS_len Hp.out (hdfs.reach s k1)
  have hLm := hI.len
  have HI := Lib.hid hI
  have hm2 := m1.trans (Mv.of_below hb2)
  have HR2 := Lib.hid (HR1.out.below hb2)
  have HPQ2 : Hid (PrgQ (above W.heap.size w2) v p) := HPQ.out.le (Le.above_le _ (Le.below hb2))
  clear hsq hdfs hwh hI HPQ HR1
  go_upto_region 3 with (fail)
  obtain ⟨V3, hV3⟩ : ∃ V3, V3 = w2.alloc (.cells #[] 3) := ⟨_, rfl⟩
  have oE : Own V3 w2.heap.size 3 #[] := by rw [hV3]; exact Own.new _ _ _
  have hm3 : Mv R W V3 := by rw [hV3]; exact hm2.alloc _
  have hL3 : Le w2 V3 := by rw [hV3]; exact Le.alloc _ _
  have hs3 : V3.heap.size = w2.heap.size + 1 := by rw [hV3]; simp
  have hpk := pick_any V3 R q1 L.length (by omega) (by rw [hV3]; exact HR2.out.alloc _)
  have HK3 : Hid (Kp R w2.heap.size w2 V3) := by show Kp _ _ _ _; rw [hV3]; exact (Kp.refl (Nat.le_refl _)).alloc _
  have HI3 : Hid (Intss (above w1.heap.size V3) (some ⟨go, oo, none⟩) co L) := HI.out.le (Le.above_le _ hL3)
  have HE := Lib.hid oE
  rw [hV3] at hpk
  have hRG : R < w2.heap.size := by omega
  have Hs3 := Lib.hid hs3
  clear oE HI hs3 HR2
  go_wp2_with fail
  refine hpk.mono ?_
  rw [← hV3]
  rintro e4 w4 ⟨tv, rfl, h0t, hlt, m4, r4⟩
  clear hV3 hpk
  obtain ⟨t, rfl⟩ : ∃ t : Nat, tv = (t : Int) := ⟨tv.toNat, by omega⟩
  have htL : t < L.length := by have := hlt (by omega); omega
  have htI : (t : Int) < (L.length : Int) := by omega
  have hm4 := hm3.trans m4
  have hs4 := m4.size
  have HLe : Hid (Le (above w1.heap.size V3) w4) := fun x u hc => by
    obtain ⟨h1, h2⟩ := cell_above_lt hc
    exact m4.cell h2 (by omega)
  have HI4 := Lib.hid (HI3.out.le HLe.out)
  have HE4 := Lib.hid (HE.out.mv m4 (by omega))
  have HK4 := Lib.hid (HK3.out.mv m4)
  have HR4 := Lib.hid r4
  obtain ⟨bL, oL, A5, c5, e5, hbL, k0, hI5⟩ := HI4.out.get htL
  injection e5 with e5
  injection e5 with e5 e6
  subst e5 e6
  have hol := HLen.out _ (List.getElem_mem htL)
  have HI5 := Lib.hid hI5
  generalize L[t] = o at k0 HI5 hol
  rw [hol] at k0
  have Hol := Lib.hid hol
  have hs3' : w2.heap.size < V3.heap.size := by have := Hs3.out; omega
  clear hI5 HE HI3 HLe HK3 m4 r4 hol
  go_wp2_with (at_builtin; refine wpList_append_emp (o := ⟨some 20, _, _, _, _, _⟩) (by rfl) _ _ _ (by rfl) qint_congr (R := RInt) w2.heap.size 3 i0 _ 8 Tryz.underlying24 hi0 hz0 hz1 hz2 rfl (by omega) w2.heap.size (by rfl) HE4.out (Nat.le_refl _) A5 c5 o (by rw [Hol.out]; rfl) HI5.out (fun cs y h => h) qint_one (by rw [Hol.out]; simp [maxLen]; omega) (by rw [Hol.out]; omega) ?_; intro A6 c6 w6 hrow6 hnx6 hbk6)
  have hb6 : Below w4.heap.size w4 w6 := hnx6
  have HK6 := Lib.hid (HK4.out.below hb6)
  have HR6 := Lib.hid (HR4.out.below hb6)
  have hm6 := hm4.trans (Mv.of_below hb6)
  have hs6 := hb6.size
  have hw2W : W.heap.size ≤ w2.heap.size := by omega
  have HFin : Hid (∀ w' o' A' c' q', RowI w' w2.heap.size (.slice A' o'.length c') o' → o'.length ≤ 13 → Mv R W w' → Rd w' R q' → q' ≤ q + 2000 → Kp R w2.heap.size w2 w' → RetLD W R q (.returned (.tuple #[v, .slice A' o'.length c'])) w') := fun w' o' A' c' q' h1 h2 h3 h4 h5 h6 => by
    obtain ⟨A9, c9', e9, hi9⟩ := RowI.ints h1
    injection e9 with e9 _ e10
    subst e9 e10
    exact ⟨p, v, A', c', o', q', rfl, Hp.out, HPQ2.out.le (h6.le hR (Nat.le_refl _)), Hfew.out, hi9.le (Le.above_mono hw2W _), h2, h3, h4, h5⟩
  have hpk2 := pick_any w6 R (q1 + 1) 6 (by omega) HR6.out
  have Hrow6 := Lib.hid hrow6
  clear hrow6 hnx6 hbk6 hb6 HK4 HR4 HE4 HI4 HI5 k0 hm4 hm3 hm2 hfld HLen
  rw [Hol.out] at Hrow6 ⊢
  go_wp2_with fail
  refine hpk2.mono ?_
  rintro e7 w7 ⟨sv, rfl, _, _, m7, r7⟩
  have HK7 := Lib.hid (HK6.out.mv m7)
  have HR7 := Lib.hid r7
  have hm7 := hm6.trans m7
  have hs7 := m7.size
  have hrow7 := RowI.mvR2 Hrow6.out m7 hRG
  obtain ⟨g6, e6, hg6, hgl7, hfz7, hcl7⟩ := RowI.at hrow7 (i := 0) (by rw [Hol.out]; omega)
  subst e6
  have Hrow7 := Lib.hid hrow7
  clear hpk2 m7 r7 HK6 HR6 hm6 Hrow6 hrow7 hfz7 hcl7
  by_cases hs0 : sv = 0
  · subst hs0
    have hpk3 := pick_any w7 R (q1 + 1 + 1) ((p.length * 3 + 3 : Nat) : Int) (by omega) HR7.out
    go_wp2_with fail
    refine hpk3.mono ?_
    rintro e8 w8 ⟨jv, rfl, h0j, hjl, m8, r8⟩
    obtain ⟨j, rfl⟩ : ∃ j : Nat, jv = (j : Int) := ⟨jv.toNat, by omega⟩
    have hj : j < p.length * 3 + 3 := by have := hjl (by omega); omega
    have hjI : (j : Int) < ((p.length * 3 + 3 : Nat) : Int) := by omega
    have HK8 := Lib.hid (HK7.out.mv m8)
    have hm8 := hm7.trans m8
    have hs8 := m8.size
    have hrow8 := Lib.hid (RowI.mvR2 Hrow7.out m8 hRG)
    obtain ⟨V9, hV9⟩ : ∃ V9, V9 = w8.alloc (.cells #[.int .i64 1, .int .i64 0, .int .i64 3, .int .i64 4, .int .i64 (-1)] 3) := ⟨_, rfl⟩
    have oX : Own V9 w8.heap.size 3 #[.int .i64 1, .int .i64 0, .int .i64 3, .int .i64 4, .int .i64 (-1)] := by rw [hV9]; exact Own.new _ _ _
    have hnum := num5_any V9 R (q1 + 1 + 1 + 1) w8.heap.size 1 0 3 4 (-1) (by omega) (by rw [hV9]; exact r8.alloc _) oX (by omega)
    have HK9 : Hid (Kp R w2.heap.size w2 V9) := by show Kp _ _ _ _; rw [hV9]; exact HK8.out.alloc _
    have hm9 : Mv R W V9 := by rw [hV9]; exact hm8.alloc _
    have hrow9 : Hid (RowI V9 w2.heap.size (.slice (some ⟨g6, 0, none⟩) (p.length * 3 + 3) c6) o) := by show RowI _ _ _ _; rw [hV9]; exact RowOf.below hrow8.out ((Below.refl _ _).alloc (Nat.le_refl _) _)
    rw [hV9] at hnum
    clear hpk3 oX hrow8 HK8 HK7 HR7 Hrow7 m8 r8
    go_wp2_with fail
    refine hnum.mono ?_
    rw [← hV9]
    rintro e10 w10 ⟨x, rfl, _, m10, r10⟩
    clear hnum hV9
    have hrow10 := RowI.mvR2 hrow9.out m10 hRG
    obtain ⟨g7, e7, _, hgl10, hfz10, hcl10⟩ := RowI.at hrow10 (i := j) (by rw [Hol.out]; exact hj)
    obtain rfl : g6 = g7 := by injection e7 with e7; injection e7 with e7
    have kc := hcl10 j (by rw [Hol.out]; exact hj)
    have kf := hfz10 j
    have hset := Lib.hid (RowI.set hrow10 (i := j) (by rw [Hol.out]; exact hj) x)
    have HK10 := Lib.hid (HK9.out.mv m10)
    have hm10 := hm9.trans m10
    have HR10 := Lib.hid r10
    clear hrow9 hrow10 hfz10 hcl10 e7 m10 r10 HK9
    go_wp2_with fail
    refine bodyPost_ret (v := .tuple #[v, .slice (some ⟨g6, 0, none⟩) (p.length * 3 + 3) c6]) (by simp [results, Tryz.results28, go_sem]) rfl ?_
    have hl9 : (o.set j x).length = p.length * 3 + 3 := by rw [List.length_set]; exact Hol.out
    have h := HFin.out _ (o.set j x) (some ⟨g6, 0, none⟩) c6 _ (by rw [hl9]; exact hset.out) (by rw [hl9]; omega) (hm10.setNew (p := ⟨g6, j, none⟩) (by show W.heap.size ≤ g6; omega) _) (HR10.out.setNew (q := ⟨g6, j, none⟩) (by show R < g6; omega) _) (by omega) (HK10.out.set (p := ⟨g6, j, none⟩) hg6 _)
    rw [hl9] at h
    exact h
  · have hd0 : (sv == 0) = false := beq_eq_false_iff_ne.2 hs0
    by_cases hs1 : sv = 1
    · subst hs1
      have hpk3 := pick_any w7 R (q1 + 1 + 1) 4 (by omega) HR7.out
      go_wp2_with fail
      refine hpk3.mono ?_
      rintro e8 w8 ⟨jv, rfl, _, _, m8, r8⟩
      have HK8 := Lib.hid (HK7.out.mv m8)
      have hm8 := hm7.trans m8
      have hs8 := m8.size
      have hrow8 := Lib.hid (RowI.mvR2 Hrow7.out m8 hRG)
      have HR8 := Lib.hid r8
      clear hpk3 m8 r8 HK7 HR7 Hrow7
      by_cases hj : jv = 0
      · subst hj
        obtain ⟨cells, hown, hqq8⟩ := hrow8.out
        rw [Hol.out] at hown
        have Hown := Lib.hid hown
        have Hqq := Lib.hid hqq8
        clear hown hqq8
        go_wp2_with (at_builtin; refine wpList_append_lies _ (by rfl) _ _ _ (by rfl) w2.heap.size 3 i0 _ 1 8 Tryz.underlying24 hi0 hz0 hz1 hz2 rfl (by omega) (.slice (some ⟨g6, 0, none⟩) (p.length * 3 + 3) c6) (p.length * 3 + 3) cells (by rfl) (owns_alloc Hown.out _) ⟨w8.heap.size, 0, none⟩ 1 1 [.int .i64 0] (by rfl) (by rfl) (World.news_of_block (cs := #[.int .i64 0]) (t := 3) (fr := (0, 0)) (heap_alloc_new w8 _)) (by simp [Value.oneCell']) (by omega) (by simp [maxLen]; omega) (by omega) (by simp; omega) (w8.heap.size + 1) (by simp) ?_; intro gg cap w9 hown9 hgrow9 hat9 hlt9)
        have hr9 := Lib.hid (RowOf.snoc (news := [.int .i64 0]) (x := (0 : Int)) qint_congr (by rw [Hol.out]; exact Hown.out) Hqq.out rfl rfl (by rw [Hol.out]; exact hown9))
        have hgr : ∀ g, (Value.slice (some ⟨g6, 0, none⟩) (p.length * 3 + 3) c6).ownBlock = some g → w2.heap.size ≤ g := fun g hg => by simp only [Value.ownBlock, Option.some.injEq] at hg; omega
        have HK9 := Lib.hid ((HK8.out.alloc _).grown hgrow9 hgr)
        have hm9 : Mv R W w9 := mv_grown2 (hm8.alloc _) hgrow9 (fun g hg => by have := hgr g hg; omega)
        have HR9 : Hid (Rd w9 R (q1 + 1 + 1 + 1)) := Rd.of_blocks HR8.out fun b hb => (World.grownBy.block hgrow9 b (by simp; omega) (fun e => by have := hgr b e.symm; omega)).trans (Go.Deep.blk_alloc_lt _ _ _ (by omega))
        clear hown9 hgrow9 hat9
        go_wp2_with fail
        refine bodyPost_ret (v := .tuple #[v, .slice (some ⟨gg, 0, none⟩) (p.length * 3 + 3 + 1) cap]) (by simp [results, Tryz.results28, go_sem]) rfl ?_
        have hl9 : (o ++ [(0 : Int)]).length = p.length * 3 + 3 + 1 := by rw [List.length_append, Hol.out]; rfl
        have h := HFin.out _ (o ++ [(0 : Int)]) (some ⟨gg, 0, none⟩) cap _ (by rw [hl9]; exact hr9.out) (by rw [hl9]; omega) hm9 HR9.out (by omega) HK9.out
        rw [hl9] at h
        exact h
      · have hdj : (jv == 0) = false := beq_eq_false_iff_ne.2 hj
        go_wp2_with fail
        refine bodyPost_ret (v := .tuple #[v, .slice (some ⟨g6, 0, none⟩) (p.length * 3 + 3) c6]) (by simp [results, Tryz.results28, go_sem]) rfl ?_
        have h := HFin.out _ o (some ⟨g6, 0, none⟩) c6 _ (by rw [Hol.out]; exact hrow8.out) (by rw [Hol.out]; omega) hm8 HR8.out (by omega) HK8.out
        rw [Hol.out] at h
        exact h
    · have hd1 : (sv == 1) = false := beq_eq_false_iff_ne.2 hs1
      go_wp2_with fail
      refine bodyPost_ret (v := .tuple #[v, .slice (some ⟨g6, 0, none⟩) (p.length * 3 + 3) c6]) (by simp [results, Tryz.results28, go_sem]) rfl ?_
      have h := HFin.out _ o (some ⟨g6, 0, none⟩) c6 _ (by rw [Hol.out]; exact Hrow7.out) (by rw [Hol.out]; omega) hm7 HR7.out (by omega) HK7.out
      rw [Hol.out] at h
      exact h

theorem Mv.aboveB {R B : Nat} {a b : World} (m : Mv R a b) (hR : R < B) : Le (Go.Proofs.YtcckflijaolnkaaGreat.above B a) (Go.Proofs.YtcckflijaolnkaaGreat.above B b) := fun x u hc => by
  obtain ⟨h1, h2⟩ := cell_above_lt hc
  exact cell_above_of h1 (m.cell h2 (by omega))
/-- A program and a list of numbers. -/
def RetD2 (w : World) (e : Ending) (w' : World) : Prop := ∃ (p : Prg) (v : Value) (A : Option Addr) (c : Nat) (o : List Int), e = .returned (.tuple #[v, .slice A o.length c]) ∧ PrgS (above w.heap.size w') v p ∧ Few 2000 2000 p ∧ Ints (above w.heap.size w') A c o ∧ o.length ≤ 30 ∧ Below w.heap.size w w'

set_option maxHeartbeats 1000000 in
theorem drawOV_any (w : World) (A : Option Addr) (n c : Nat) (h : Bys w A n) (hnc : n ≤ c) (hA : A = none → n = 0) : Calls Tryz.prog 13 #[.slice A n c] w (RetD2 w) := by
  have hop := open_any w A n c h hnc hA
  go_enter Tryz.func13, Tryz.ntmps13
  go_wp2_with fail
  refine hop.mono ?_
  rintro e1 w1 ⟨R, rfl, hR, hr1, hb1⟩
  have hod := odraw_any w1 R 0 (by omega) hr1
  have hRl := hr1.lt
  clear hop hr1
  go_wp2_with fail
  refine hod.mono ?_
  rintro e2 w2 ⟨p, v, B, d, o, q', rfl, hp, hpq, hfew, hi, hol, m2, r2, hq⟩
  have hmu := mutP_any w2 R q' v p (by omega) r2 (PrgS.le hpq.1 (Le.above _ _)) (hfew.mono (by omega) (by omega))
  have HI := Lib.hid hi
  have hs2 := m2.size
  have hb2 := Mv.belowR hb1 hR m2
  have hw1 := hb1.size
  clear hod hp hpq hfew r2 hi
  go_wp2_with fail
  refine hmu.mono ?_
  rintro e3 w3 ⟨p3, v3, q3, rfl, hpq3, hfew3, m3, r3, hq3⟩
  have hb3 := Mv.belowR hb2 hR m3
  have HI3 := Lib.hid ((HI.out.le (m3.aboveB hRl)).le (Le.above_mono hw1 _))
  have HP3 := Lib.hid hpq3
  have Hfew3 := Lib.hid hfew3
  clear hmu hpq3 r3 hfew3 m3 m2
  go_wp2_with fail
  refine bodyPost_ret (v := .tuple #[v3, .slice B o.length d]) (by simp [results, Tryz.results13, go_sem]) rfl ?_
  exact ⟨p3, v3, B, d, o, rfl, PrgS.le HP3.out.1 (Le.above_mono (by omega) _), Hfew3.out, HI3.out, by omega, hb3⟩

end Go.Proofs.YtcckflijaolnkaaGreat
