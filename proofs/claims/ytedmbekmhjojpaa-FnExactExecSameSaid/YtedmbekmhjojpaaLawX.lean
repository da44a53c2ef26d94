/-
  The walk of FnExactExecSame: it answers true.
-/
import Derived.Test.YtedmbekmhjojpaaSpecX
namespace Go.Proofs.Ytedmbekmhjojpaa
open Go.RowKit
set_option linter.unusedVariables false

theorem all4 {w : World} {b b' : Nat} {v0 v1 u0 u1 : Value} (hx : Box2 w b v0 v1) (hy : Box2 w b' u0 u1) (W : World) (h : Le w W) :
    W.cell? ⟨b, 0, none⟩ = some v0 ∧ W.cell? ⟨b, 1, none⟩ = some v1 ∧ W.cell? ⟨b', 0, none⟩ = some u0 ∧ W.cell? ⟨b', 1, none⟩ = some u1 :=
  ⟨h _ _ hx.c0, h _ _ hx.c1, h _ _ hy.c0, h _ _ hy.c1⟩

set_option maxHeartbeats 1000000 in
theorem lawX_walk (x y : Ex) (w : World) (A B A' B' : Option Addr) (c d c' d' : Nat) (hx : RepX w A c B d x) (hy : RepX w A' c' B' d' y) :
    Calls Try.prog 4 #[.agg #[.slice A x.from_.length c, .slice B x.order.length d], .agg #[.slice A' y.from_.length c', .slice B' y.order.length d']] w (RetB w true) := by
  have hb0 : Below w.heap.size w ((w.alloc (.cells #[.slice A x.from_.length c, .slice B x.order.length d] 35)).alloc (.cells #[.slice A' y.from_.length c', .slice B' y.order.length d'] 35)) :=
    (((Below.refl _ _).alloc (Nat.le_refl _) _).alloc (by simp) _)
  have Hb0 := Lib.hid hb0
  clear hb0
  go_enter Try.func4, Try.ntmps4
  go_wp2_with fail
  refine (szX_any x _ _ _ _ _ _ (hx.le (Le.below Hb0.out)) (by omega) (by omega)).mono ?_
  rintro e1 w1 ⟨rfl, hb1⟩
  by_cases hwx : (wX x : Int) ≤ 1048576
  case neg =>
    rw [restI_gt (by omega)]
    go_wp2_with fail
    go_ret
    exact ⟨rfl, Hb0.out.trans (hb1.mono (by simp; omega))⟩
  rw [restI_le hwx]
  have hc1 := (bcell hb1).1
  go_wp2_with fail
  refine (szX_any y _ _ _ _ _ _ ((hy.le (Le.below Hb0.out)).le (Le.below hb1)) (by omega) (by omega)).mono ?_
  rintro e2 w2 ⟨rfl, hb2⟩
  by_cases hwy : (wX y : Int) ≤ 1048576 - wX x
  case neg =>
    rw [restI_gt (by omega)]
    go_wp2_with fail
    go_ret
    exact ⟨rfl, (Hb0.out.trans (hb1.mono (by simp; omega))).trans (hb2.mono (by have := hb1.size; simp at this; omega))⟩
  rw [restI_le hwy]
  have hz1 : w.heap.size + 2 ≤ w1.heap.size := by have := hb1.size; simp at this; omega
  have hbw : Below w.heap.size w w2 := (Hb0.out.trans (hb1.mono (by simp; omega))).trans (hb2.mono (by omega))
  have bx : Box2 w2 w.heap.size (.slice A x.from_.length c) (.slice B x.order.length d) := (((Box2.new _ _ _ _).le (Le.alloc _ _)).le (Le.below hb1)).le (Le.below hb2)
  have bY : Box2 w2 (w.heap.size + 1) (.slice A' y.from_.length c') (.slice B' y.order.length d') := (((by simpa using Box2.new (w.alloc (.cells #[.slice A x.from_.length c, .slice B x.order.length d] 35)) (.slice A' y.from_.length c') (.slice B' y.order.length d') 35 : Box2 _ (w.heap.size + 1) _ _)).le (Le.below hb1)).le (Le.below hb2)
  have hx2 := hx.le (Le.below hbw)
  have hy2 := hy.le (Le.below hbw)
  have hwx' : wX x ≤ 1048576 := by omega
  have hwy' : wX y ≤ 1048576 := by omega
  clear hc1 hb1 hb2 hx hy Hb0 hz1
  -- spec.RelExprSame over copies
  go_wp2_with fail
  go_region_held3 (fun W => W.cell? ⟨w.heap.size, 0, none⟩ = some (.slice A x.from_.length c) ∧ W.cell? ⟨w.heap.size, 1, none⟩ = some (.slice B x.order.length d) ∧
      W.cell? ⟨w.heap.size + 1, 0, none⟩ = some (.slice A' y.from_.length c') ∧ W.cell? ⟨w.heap.size + 1, 1, none⟩ = some (.slice B' y.order.length d'))
    (first | exact all4 bx bY _ (Le.drew _) | exact all4 bx bY _ ((Le.drew _).to_below hb3) | exact all4 bx bY _ (((Le.drew _).to_below hb3).to_below hb4) | exact all4 bx bY _ ((((Le.drew _).to_below hb3).to_below hb4).to_below hb5))
    (first
      | (go_at_call 12; ((with_reducible refine (toX_any x hwx' _ A B c d ?_).mono ?_); (exact hx2.le (Le.drew _)); rintro e3 w3 ⟨A3, c3, B3, d3, rfl, hk3, hb3⟩))
      | (go_at_call 12; ((with_reducible refine (toX_any y hwy' _ A' B' c' d' ?_).mono ?_); (exact hy2.le ((Le.drew _).to_below hb3)); rintro e4 w4 ⟨A4, c4, B4, d4, rfl, hk4, hb4⟩))
      | (go_at_call 11; ((with_reducible refine (specX_any x y _ _ _ _ _ _ _ _ _ ?_ ?_).mono ?_); (exact hk3.le ((Le.above _ _).to_below hb4)); (exact hk4.le (Le.above _ _)); rintro e5 w5 ⟨rfl, hb5⟩)))
  have l25 : Le w2 w5 := (((Le.drew _).to_below hb3).to_below hb4).to_below hb5
  have z23 := hb3.size
  have z34 := hb4.size
  have z45 := hb5.size
  simp only [World.size_drew] at z23
  have z2 := hbw.size
  have b25 : Below w.heap.size w w5 := ((hbw.drew.trans (hb3.mono z2)).trans (hb4.mono (by omega))).trans (hb5.mono (by omega))
  have hx5 := hx2.le l25
  have hy5 := hy2.le l25
  have bx5 := bx.le l25
  have bY5 := bY.le l25
  clear hx2 hy2 l25 hk3 hb3 hk4 hb4 hb5 hbw z23 z34 z45 z2 bx bY
  -- the copies
  obtain ⟨x0, x1, xs⟩ := bx5.all
  go_wp2_with fail
  refine (toX_any x hwx' _ A B c d hx5).mono ?_
  rintro e6 w6 ⟨A6, c6, B6, d6, rfl, hk6, hb6⟩
  have b6 : Below w.heap.size w w6 := b25.trans (hb6.mono b25.size)
  have hx6 := hx5.le (Le.below hb6)
  have hy6 := hy5.le (Le.below hb6)
  have bx6 := bx5.le (Le.below hb6)
  have bY6 := bY5.le (Le.below hb6)
  have hk6' := hk6.le (Le.above _ _)
  clear x0 x1 xs hb6 hk6 hx5 hy5 bx5 bY5 b25
  obtain ⟨y0, y1, ys⟩ := bY6.all
  go_wp2_with fail
  refine (toX_any y hwy' _ A' B' c' d' (hy6.le (Le.alloc _ _))).mono ?_
  rintro e7 w7 ⟨A7, c7, B7, d7, rfl, hk7, hb7⟩
  have b7 : Below w.heap.size w w7 := (b6.alloc b6.size _).trans (hb7.mono (by have := b6.size; simp; omega))
  have l67 := (Le.alloc w6 _).to_below hb7
  have hx7 := hx6.le l67
  have hy7 := hy6.le l67
  have bx7 := bx6.le l67
  have bY7 := bY6.le l67
  have hk7' := hk7.le (Le.above _ _)
  have hk67 := hk6'.le l67
  have bX := (Box2.new w6 _ _ _).le (Le.below hb7)
  obtain ⟨X0, X1, Xs⟩ := bX.all
  clear y0 y1 ys hb7 hk7 hk6' hx6 hy6 bx6 bY6 b6 l67
  go_wp2_with fail
  refine (execSame_any x y _ _ _ _ _ _ _ _ _ (hk67.le (Le.alloc _ _)) (hk7'.le (Le.alloc _ _))).mono ?_
  rintro e8 w8 ⟨rfl, hb8⟩
  have b8 : Below w.heap.size w w8 := (b7.alloc b7.size _).trans (hb8.mono (by have := b7.size; simp; omega))
  have l78 := (Le.alloc w7 _).to_below hb8
  have hx8 := hx7.le l78
  have hy8 := hy7.le l78
  have bx8 := bx7.le l78
  have bY8 := bY7.le l78
  have bX8 := bX.le l78
  have bZ8 := (Box2.new w7 _ _ _).le (Le.below hb8)
  have hkx8 := hk67.le l78
  have hky8 := hk7'.le l78
  have sx : eqB x x = true := eqB_self x
  have sy : eqB y y = true := eqB_self y
  clear X0 X1 Xs hb8 hk67 hk7' hx7 hy7 bx7 bY7 bX b7 l78
  go_wp2_with fail
  -- the first argument's copy is as it was
  go_region_held3 (fun W => W.cell? ⟨w.heap.size, 0, none⟩ = some (.slice A x.from_.length c) ∧ W.cell? ⟨w.heap.size, 1, none⟩ = some (.slice B x.order.length d) ∧
      W.cell? ⟨w6.heap.size, 0, none⟩ = some (.slice A6 x.from_.length c6) ∧ W.cell? ⟨w6.heap.size, 1, none⟩ = some (.slice B6 x.order.length d6))
    (first | exact all4 bx8 bX8 _ (Le.drew _) | exact all4 bx8 bX8 _ ((Le.drew _).to_below hb9) | exact all4 bx8 bX8 _ (((Le.drew _).to_below hb9).to_below hb10))
    (first
      | (go_at_call 12; ((with_reducible refine (toX_any x hwx' _ A B c d ?_).mono ?_); (exact hx8.le (Le.drew _)); rintro e9 w9 ⟨A9, c9, B9, d9, rfl, hk9, hb9⟩))
      | (go_at_call 14; ((with_reducible refine (eqX_any x x _ _ _ _ _ _ _ _ _ ?_ ?_).mono ?_); (exact hkx8.le ((Le.drew _).to_below hb9)); (exact hk9.le (Le.above _ _)); rintro e10 w10 ⟨rfl, hb10⟩)))
  have l810 : Le w8 w10 := ((Le.drew _).to_below hb9).to_below hb10
  have z8 := b8.size
  have z9 := hb9.size
  have z10 := hb10.size
  simp only [World.size_drew] at z9
  have b10 : Below w.heap.size w w10 := (b8.drew.trans (hb9.mono z8)).trans (hb10.mono (by omega))
  have hy10 := hy8.le l810
  have bY10 := bY8.le l810
  have bZ10 := bZ8.le l810
  have hky10 := hky8.le l810
  clear hx8 hy8 bx8 bX8 bZ8 hkx8 hky8 b8 l810 hb9 hb10 hk9 z8 z9 z10 bY8
  go_wp2_with fail
  go_region_held3 (fun W => W.cell? ⟨w.heap.size + 1, 0, none⟩ = some (.slice A' y.from_.length c') ∧ W.cell? ⟨w.heap.size + 1, 1, none⟩ = some (.slice B' y.order.length d') ∧
      W.cell? ⟨w7.heap.size, 0, none⟩ = some (.slice A7 y.from_.length c7) ∧ W.cell? ⟨w7.heap.size, 1, none⟩ = some (.slice B7 y.order.length d7))
    (first | exact all4 bY10 bZ10 _ (Le.drew _) | exact all4 bY10 bZ10 _ ((Le.drew _).to_below hb11) | exact all4 bY10 bZ10 _ (((Le.drew _).to_below hb11).to_below hb12))
    (first
      | (go_at_call 12; ((with_reducible refine (toX_any y hwy' _ A' B' c' d' ?_).mono ?_); (exact hy10.le (Le.drew _)); rintro e11 w11 ⟨A11, c11, B11, d11, rfl, hk11, hb11⟩))
      | (go_at_call 14; ((with_reducible refine (eqX_any y y _ _ _ _ _ _ _ _ _ ?_ ?_).mono ?_); (exact hky10.le ((Le.drew _).to_below hb11)); (exact hk11.le (Le.above _ _)); rintro e12 w12 ⟨rfl, hb12⟩)))
  have z10 := b10.size
  have z11 := hb11.size
  simp only [World.size_drew] at z11
  have b12 : Below w.heap.size w w12 := (b10.drew.trans (hb11.mono z10)).trans (hb12.mono (by omega))
  clear hy10 bY10 bZ10 hky10 hb11 hb12 hk11 z10 z11 b10
  go_wp2_with fail
  go_ret
  exact ⟨rfl, b12⟩
end Go.Proofs.Ytedmbekmhjojpaa
