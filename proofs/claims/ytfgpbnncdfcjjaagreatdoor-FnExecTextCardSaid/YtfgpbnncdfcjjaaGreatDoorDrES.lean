/-
  The walk of DrawExecSame: two candidates.
-/
import Derived.Test.YtfgpbnncdfcjjaaGreatDoorDrCV
namespace Go.Proofs.YtfgpbnncdfcjjaaGreatDoor
open Go.RowKit
set_option linter.unusedVariables false
set_option maxRecDepth 100000

theorem cand_sz3 {p : Prg} {x : Ex} (h : CandOk p x) : SzX 15 3 x := by
  have h2 := cand_sz h
  exact ⟨h2.1, h2.2.1, by have := h.2.2.1; omega, h2.2.2.2⟩
def RetDES (w : World) (e : Ending) (w' : World) : Prop := ∃ (x y : Ex) (A : Option Addr) (c : Nat) (B : Option Addr) (d : Nat) (A' : Option Addr) (c' : Nat) (B' : Option Addr) (d' : Nat), e = .returned (.tuple #[.agg #[.slice A x.from_.length c, .slice B x.order.length d], .agg #[.slice A' y.from_.length c', .slice B' y.order.length d']]) ∧ RepX (above w.heap.size w') A c B d x ∧ RepX (above w.heap.size w') A' c' B' d' y ∧ wX x ≤ 1048576 ∧ wX y ≤ 1048576 ∧ Below w.heap.size w w'

set_option maxHeartbeats 1000000 in
theorem drawES_any (w : World) (A : Option Addr) (n c : Nat) (h : Bys w A n) (hnc : n ≤ c) (hA : A = none → n = 0) : Calls Tryz.prog 47 #[.slice A n c] w (RetDES w) := by
  obtain ⟨W0, hW0⟩ : ∃ W0, W0 = (w.alloc (.cells #[.slice none 0 0, .slice none 0 0] 27)).alloc (.cells #[.slice none 0 0, .slice none 0 0] 27) := ⟨_, rfl⟩
  have oX : Own W0 w.heap.size 27 #[.slice none 0 0, .slice none 0 0] := by rw [hW0]; exact (Own.new w 27 #[.slice none 0 0, .slice none 0 0]).alloc _
  have oY : Own W0 (w.heap.size + 1) 27 #[.slice none 0 0, .slice none 0 0] := by rw [hW0]; simpa using Own.new (w.alloc (.cells #[.slice none 0 0, .slice none 0 0] 27)) 27 #[.slice none 0 0, .slice none 0 0]
  have hs0 : W0.heap.size = w.heap.size + 2 := by rw [hW0]; simp
  have hB0 : Below w.heap.size w W0 := by rw [hW0]; exact ((Below.refl _ _).alloc (Nat.le_refl _) _).alloc (by simp) _
  have hop := open_any W0 A n c (h.le (Le.below hB0)) hnc hA
  clear h
  go_enter Tryz.func47, Tryz.ntmps47
  go_wp2_with fail
  rw [← hW0]
  clear hW0
  refine hop.mono ?_
  rintro e1 w1 ⟨R, rfl, hR, r1, hb1⟩
  have oX1 := oX.under hb1
  have oY1 := oY.under hb1
  have hs1 := hb1.size
  have hB1 : Below w.heap.size w w1 := hB0.trans (hb1.mono hB0.size)
  have hd := draw6_any w1 R 0 (by omega) r1
  have hRl := r1.lt
  clear hop oX oY hb1 r1
  go_wp2_with fail
  refine hd.mono ?_
  rintro e2 w2 ⟨pr, x, v2, A2, c2, B2, d2, p2, rfl, hc, hps, hx, hfew, m2, r2, hp2⟩
  have oX2 := oX1.mv m2 (by omega)
  have oY2 := oY1.mv m2 (by omega)
  have hB2 : Below w.heap.size w w2 := hB1.trans (m2.below (by omega) hB1.size)
  have hsz := cand_sz3 hc
  have hs2 := m2.size
  obtain ⟨V, hV⟩ : ∃ V, V = w2.alloc (.cells #[.slice A2 x.from_.length c2, .slice B2 x.order.length d2] 27) := ⟨_, rfl⟩
  have oT : Own V w2.heap.size 27 #[.slice A2 x.from_.length c2, .slice B2 x.order.length d2] := by rw [hV]; exact Own.new _ _ _
  have oXV : Own V w.heap.size 27 #[.slice none 0 0, .slice none 0 0] := by rw [hV]; exact oX2.alloc _
  have oYV : Own V (w.heap.size + 1) 27 #[.slice none 0 0, .slice none 0 0] := by rw [hV]; exact oY2.alloc _
  have rV : Rd V R p2 := by rw [hV]; exact r2.alloc _
  have hBV : Below w.heap.size w V := by rw [hV]; exact hB2.alloc hB2.size _
  have hxV : RepX (above (R + 1) V) A2 c2 B2 d2 x := by rw [hV]; exact hx.le ((Le.above_mono (by omega) _).trans (Le.above_le _ (Le.alloc _ _)))
  have hpk := pick_any V R p2 2 (by omega) rV
  have HK := Lib.hid (And.intro oT (And.intro oXV (And.intro oYV (And.intro hxV hsz))))
  have HBV := Lib.hid hBV
  clear hd m2 r2 oX1 oY1 oX2 oY2 hps hx hB2 hB1 oT oXV oYV rV hxV hBV hfew hc hsz
  go_wp2_with fail
  try rw [← hV]
  clear hV
  refine hpk.mono ?_
  rintro e3 w3 ⟨k, rfl, hk0, hk1, m3, r3⟩
  have oT3 := HK.out.1.mv m3 (by omega)
  have oX3 := HK.out.2.1.mv m3 (by omega)
  have oY3 := HK.out.2.2.1.mv m3 (by omega)
  have hx3 := HK.out.2.2.2.1.le m3.above
  have hB3 : Below w.heap.size w w3 := HBV.out.trans (m3.below (by omega) HBV.out.size)
  have hs3 := m3.size
  have hsT := HK.out.1.lt
  have Hsz := Lib.hid HK.out.2.2.2.2
  clear hpk m3 HK HBV
  by_cases hk : k = 0
  · subst hk
    have hd := draw6_any w3 R (p2 + 1) (by omega) r3
    have HK3 := Lib.hid (And.intro oT3 (And.intro oX3 (And.intro oY3 hx3)))
    have HB3 := Lib.hid hB3
    clear oT3 oX3 oY3 hx3 hB3 r3 hk0 hk1
    go_wp2_with fail
    refine hd.mono ?_
    rintro e4 w4 ⟨qr, y, v4, A4, c4, B4, d4, p4, rfl, hc4, hps4, hy, hfew4, m4, r4, hp4⟩
    have hsz4 := cand_sz hc4
    have hs4 := m4.size
    obtain ⟨U, hU⟩ : ∃ U, U = w4.alloc (.cells #[.slice A4 y.from_.length c4, .slice B4 y.order.length d4] 27) := ⟨_, rfl⟩
    have oZ : Own U w4.heap.size 27 #[.slice A4 y.from_.length c4, .slice B4 y.order.length d4] := by rw [hU]; exact Own.new _ _ _
    have mU : Mv R w3 U := by rw [hU]; exact m4.alloc _
    have hyU : RepX (above (R + 1) U) A4 c4 B4 d4 y := by rw [hU]; exact hy.le ((Le.above_mono (by omega) _).trans (Le.above_le _ (Le.alloc _ _)))
    have oTU := HK3.out.1.mv mU (by omega)
    have oXU := HK3.out.2.1.mv mU (by omega)
    have oYU := HK3.out.2.2.1.mv mU (by omega)
    have hxU := HK3.out.2.2.2.le mU.above
    have hBU : Below w.heap.size w U := HB3.out.trans (mU.below (by omega) HB3.out.size)
    have t0 := oTU.cell (i := 0) rfl
    have t1 := oTU.cell (i := 1) rfl
    have z0 := oZ.cell (i := 0) rfl
    have z1 := oZ.cell (i := 1) rfl
    have x0 := oXU.cell (i := 0) rfl
    have x1 := oXU.cell (i := 1) rfl
    have y0 := oYU.cell (i := 0) rfl
    have y1 := oYU.cell (i := 1) rfl
    have fx0 := oXU.frozen 0
    have fx1 := oXU.frozen 1
    have fy0 := oYU.frozen 0
    have fy1 := oYU.frozen 1
    have l0 := oTU.lt
    have l1 := oZ.lt
    have l2 := oXU.lt
    have l3 := oYU.lt
    have n1 : w2.heap.size ≠ w.heap.size := by omega
    have n2 : w2.heap.size ≠ w.heap.size + 1 := by omega
    have n3 : w4.heap.size ≠ w.heap.size := by omega
    have n4 : w4.heap.size ≠ w.heap.size + 1 := by omega
    have HF := Lib.hid (And.intro hxU (And.intro hyU (And.intro hBU hsz4)))
    clear hd m4 r4 hy hc4 hps4 hfew4 hsz4 oZ oTU oXU oYU mU hyU hxU hBU
    go_wp2_with fail
    try rw [← hU]
    clear hU
    go_region_law fail
    all_goals
      go_wp2_with fail
      refine bodyPost_ret (v := .tuple #[.agg #[.slice A2 x.from_.length c2, .slice B2 x.order.length d2], .agg #[.slice A4 y.from_.length c4, .slice B4 y.order.length d4]]) (by simp [results, Tryz.results47, go_sem, x0, x1, y0, y1]) rfl ?_
      have hle : Le (above (R + 1) U) (above w.heap.size ((((U.setCell ⟨w.heap.size, 0, none⟩ (.slice A2 x.from_.length c2)).setCell ⟨w.heap.size, 1, none⟩ (.slice B2 x.order.length d2)).setCell ⟨w.heap.size + 1, 0, none⟩ (.slice A4 y.from_.length c4)).setCell ⟨w.heap.size + 1, 1, none⟩ (.slice B4 y.order.length d4))) :=
        (((((Le.refl _).to_above_setCell (by show w.heap.size < R + 1; omega)).to_above_setCell (by show w.heap.size < R + 1; omega)).to_above_setCell (by show w.heap.size + 1 < R + 1; omega)).to_above_setCell (by show w.heap.size + 1 < R + 1; omega)).trans (Le.above_mono (by omega) _)
      have hBS : Below w.heap.size w ((((U.setCell ⟨w.heap.size, 0, none⟩ (.slice A2 x.from_.length c2)).setCell ⟨w.heap.size, 1, none⟩ (.slice B2 x.order.length d2)).setCell ⟨w.heap.size + 1, 0, none⟩ (.slice A4 y.from_.length c4)).setCell ⟨w.heap.size + 1, 1, none⟩ (.slice B4 y.order.length d4)) :=
        (((HF.out.2.2.1.setCell (Nat.le_refl _) _).setCell (Nat.le_refl _) _).setCell (Nat.le_succ _) _).setCell (Nat.le_succ _) _
      have hz1 := HF.out.1.le hle
      have hz2 := HF.out.2.1.le hle
      have hz3 := hz1.le (Le.above_le _ (Le.drew _))
      have hz4 := hz2.le (Le.above_le _ (Le.drew _))
      have hBD := hBS.drew
      have e1 := szX_wX Hsz.out (by omega)
      have e2 := szX_wX HF.out.2.2.2 (by omega)
      unfold RetDES
      first
        | with_reducible exact ⟨x, y, A2, c2, B2, d2, A4, c4, B4, d4, rfl, hz1, hz2, e1, e2, hBS⟩
        | with_reducible exact ⟨x, y, A2, c2, B2, d2, A4, c4, B4, d4, rfl, hz3, hz4, e1, e2, hBD⟩
  · have HK3 := Lib.hid (And.intro oT3 (And.intro oX3 (And.intro oY3 hx3)))
    have HB3 := Lib.hid hB3
    have hkb : (k == 0) = false := by rw [beq_eq_false_iff_ne]; exact hk
    have t0 := oT3.cell (i := 0) rfl
    have t1 := oT3.cell (i := 1) rfl
    have l0 := oT3.lt
    have n0 : w2.heap.size ≠ R := by omega
    have n1 : w.heap.size ≠ R := by omega
    have n2 : w.heap.size + 1 ≠ R := by omega
    have n3 : w2.heap.size ≠ w.heap.size := by omega
    have n4 : w2.heap.size ≠ w.heap.size + 1 := by omega
    have Hr3 := Lib.hid r3
    clear oT3 oX3 oY3 hx3 hB3 r3 hk0 hk1 hk
    go_wp2_with fail
    go_region_law (first
      | (go_simp; go_at_call 58; ((with_reducible refine (mut6k_any 2 (by omega) _ R (p2 + 1) 15 (by omega) x Hsz.out (by omega) ?_ A2 B2 c2 d2 ?_).mono ?_); exact Hr3.out.drew; exact HK3.out.2.2.2.le ((Le.above _ _).trans (Le.drew _)); rintro e4 w4 ⟨y, A4, c4, B4, d4, p4, rfl, hsz4, hy4, m4', r4, hp4⟩; have m4 : Mv R w3 w4 := ((Mv.refl R w3).drew).trans m4'; have q4 := HK3.out.1.mv m4 n0; have g0 := q4.cell (i := 0) rfl; have g1 := q4.cell (i := 1) rfl; have g2 := q4.lt); go_wp2_with fail)
      | (go_simp; go_at_call 58; ((with_reducible refine (mut6k_any 1 (by omega) _ R p4 16 (by omega) y hsz4 (by omega) ?_ A4 B4 c4 d4 ?_).mono ?_); exact r4; exact hy4.le (Le.above _ _); rintro e5 w5 ⟨z, A5, c5, B5, d5, p5, rfl, hsz5, hy5, m5', r5, hp5⟩; have m5 := m4.trans m5'; have q5 := HK3.out.1.mv m5 n0; have k0 := q5.cell (i := 0) rfl; have k1 := q5.cell (i := 1) rfl; have k2 := q5.lt; have o6 := HK3.out.2.1.mv m5 n1; have k60 := o6.cell (i := 0) rfl; have k61 := o6.cell (i := 1) rfl; have k62 := o6.frozen 0; have k63 := o6.frozen 1; have k64 := o6.lt; have o7 := HK3.out.2.2.1.mv m5 n2; have k70 := o7.cell (i := 0) rfl; have k71 := o7.cell (i := 1) rfl; have k72 := o7.frozen 0; have k73 := o7.frozen 1; have k74 := o7.lt); go_wp2_with fail))
    all_goals
      go_wp2_with fail
      have hs4 := m4.size
      have hx5 := HK3.out.2.2.2.le m5.above
      have hz5 : RepX (above (R + 1) w5) A5 c5 B5 d5 z := hy5.le (Le.above_mono (by omega) _)
      have hB5 : Below w.heap.size w w5 := HB3.out.trans (m5.below (by omega) HB3.out.size)
      refine bodyPost_ret (v := .tuple #[.agg #[.slice A2 x.from_.length c2, .slice B2 x.order.length d2], .agg #[.slice A5 z.from_.length c5, .slice B5 z.order.length d5]]) (by simp [results, Tryz.results47, go_sem, k60, k61, k70, k71]) rfl ?_
      have hle : Le (above (R + 1) w5) (above w.heap.size ((((w5.setCell ⟨w.heap.size, 0, none⟩ (.slice A2 x.from_.length c2)).setCell ⟨w.heap.size, 1, none⟩ (.slice B2 x.order.length d2)).setCell ⟨w.heap.size + 1, 0, none⟩ (.slice A5 z.from_.length c5)).setCell ⟨w.heap.size + 1, 1, none⟩ (.slice B5 z.order.length d5))) :=
        (((((Le.refl _).to_above_setCell (by show w.heap.size < R + 1; omega)).to_above_setCell (by show w.heap.size < R + 1; omega)).to_above_setCell (by show w.heap.size + 1 < R + 1; omega)).to_above_setCell (by show w.heap.size + 1 < R + 1; omega)).trans (Le.above_mono (by omega) _)
      have hBS : Below w.heap.size w ((((w5.setCell ⟨w.heap.size, 0, none⟩ (.slice A2 x.from_.length c2)).setCell ⟨w.heap.size, 1, none⟩ (.slice B2 x.order.length d2)).setCell ⟨w.heap.size + 1, 0, none⟩ (.slice A5 z.from_.length c5)).setCell ⟨w.heap.size + 1, 1, none⟩ (.slice B5 z.order.length d5)) :=
        (((hB5.setCell (Nat.le_refl _) _).setCell (Nat.le_refl _) _).setCell (Nat.le_succ _) _).setCell (Nat.le_succ _) _
      have hz1 := hx5.le hle
      have hz2 := hz5.le hle
      have e1 := szX_wX Hsz.out (by omega)
      have e2 := szX_wX hsz5 (by omega)
      unfold RetDES
      with_reducible exact ⟨x, z, A2, c2, B2, d2, A5, c5, B5, d5, rfl, hz1, hz2, e1, e2, hBS⟩

end Go.Proofs.YtfgpbnncdfcjjaaGreatDoor
