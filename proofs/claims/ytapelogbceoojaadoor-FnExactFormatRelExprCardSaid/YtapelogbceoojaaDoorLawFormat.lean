/-
  The walk of FnExactFormatRelExpr: it answers true.
-/
import Derived.Test.YtapelogbceoojaaDoorSzE
import Derived.Test.YtapelogbceoojaaDoorToE
import Derived.Test.YtapelogbceoojaaDoorWText2
import Derived.Test.YtapelogbceoojaaDoorEqE
namespace Go.Proofs.YtapelogbceoojaaDoor
open Go.RowKit
set_option linter.unusedVariables false
set_option maxRecDepth 100000

theorem all6' {w : World} {b b' : Nat} {v0 v1 v2 u0 u1 u2 : Value} (hx : Box3 w b v0 v1 v2) (hy : Box3 w b' u0 u1 u2) (W : World) (h : Le w W) :
    W.cell? ⟨b, 0, none⟩ = some v0 ∧ W.cell? ⟨b, 1, none⟩ = some v1 ∧ W.cell? ⟨b, 2, none⟩ = some v2 ∧ W.cell? ⟨b', 0, none⟩ = some u0 ∧ W.cell? ⟨b', 1, none⟩ = some u1 ∧ W.cell? ⟨b', 2, none⟩ = some u2 :=
  ⟨h _ _ hx.c0, h _ _ hx.c1, h _ _ hx.c2, h _ _ hy.c0, h _ _ hy.c1, h _ _ hy.c2⟩

set_option maxHeartbeats 1000000 in
theorem lawFormat_walk (x : RE) (w : World) (A : Option Addr) (c : Nat) (hg : GN w) (hx : RepK w A c x) :
    Calls Tryd.prog 5 #[.agg #[.int .i64 x.op, .string x.name, .slice A x.kids.length c]] w (RetB w true) := by
  have hb0 : Below w.heap.size w (w.alloc (.cells #[.int .i64 x.op, .string x.name, .slice A x.kids.length c] 24)) := (Below.refl _ _).alloc (Nat.le_refl _) _
  have Hb0 := Lib.hid hb0
  clear hb0
  go_enter Tryd.func5, Tryd.ntmps5
  go_wp2_with fail
  refine (szE_any x _ _ _ _ (hx.le (Le.below Hb0.out)) (by omega) (by omega)).mono ?_
  rintro e1 w1 ⟨rfl, hb1⟩
  have bw1 : Below w.heap.size w w1 := Hb0.out.trans (hb1.mono (by simp))
  by_cases hwx : (wE x : Int) ≤ 1048576
  case neg =>
    rw [restI_gt (by omega)]
    go_wp2_with fail
    go_ret
    exact ⟨rfl, bw1⟩
  rw [restI_le hwx]
  have bx : Box3 w1 w.heap.size (.int .i64 x.op) (.string x.name) (.slice A x.kids.length c) := (Box3.new _ _ _ _ _).le (Le.below hb1)
  have hx1 := hx.le (Le.below bw1)
  have hwx' : wE x ≤ 1048576 := by omega
  have hcx : cntE x ≤ 1048577 := by have := cntE_le x; omega
  clear hb1 hx Hb0
  obtain ⟨x0, x1, x2, xs⟩ := bx.all
  go_wp2_with fail
  refine (toE_any x hwx' _ A c hx1).mono ?_
  rintro e2 w2 ⟨A2, c2, rfl, hk2, hb2⟩
  go_wp2_with fail
  refine (specFormat_any x _ _ _ hcx (hk2.le (Le.above _ _))).mono ?_
  rintro e3 w3 ⟨rfl, hb3⟩
  have l13 := (Le.below hb2).trans (Le.below hb3)
  have b3 : Below w.heap.size w w3 := (bw1.trans (hb2.mono bw1.size)).trans (hb3.mono (by have := bw1.size; have := hb2.size; omega))
  have hx3 := hx1.le l13
  have bx3 := bx.le l13
  clear hb2 hk2 hb3 l13 hx1 bx bw1 x0 x1 x2 xs
  obtain ⟨x0, x1, x2, xs⟩ := bx3.all
  go_wp2_with fail
  refine (toE_any x hwx' _ A c hx3).mono ?_
  rintro e4 w4 ⟨A4, c4, rfl, hk4, hb4⟩
  have b4 : Below w.heap.size w w4 := b3.trans (hb4.mono b3.size)
  have hx4 := hx3.le (Le.below hb4)
  have bx4 := bx3.le (Le.below hb4)
  have hk4' := hk4.le (Le.above _ _)
  clear hb4 hk4 hx3 bx3 b3 x0 x1 x2 xs
  go_wp2_with fail
  refine (format_any x _ A4 c4 (hg.le (Le.below (b4.alloc b4.size _))) (hk4'.le (Le.alloc _ _))).mono ?_
  rintro e5 w5 ⟨rfl, hb5⟩
  have b5 : Below w.heap.size w w5 := (b4.alloc b4.size _).trans (hb5.mono (by have := b4.size; simp; omega))
  have l45 := (Le.alloc w4 _).to_below hb5
  have hx5 := hx4.le l45
  have bx5 := bx4.le l45
  have bX5 := (Box3.new w4 _ _ _ _).le (Le.below hb5)
  have hk5 := hk4'.le l45
  have sx : sameB x x = true := sameB_iff.2 rfl
  clear hb5 hk4' hx4 bx4 b4 l45
  go_wp2_with fail
  go_region_held3 (fun W => W.cell? ⟨w.heap.size, 0, none⟩ = some (.int .i64 x.op) ∧ W.cell? ⟨w.heap.size, 1, none⟩ = some (.string x.name) ∧ W.cell? ⟨w.heap.size, 2, none⟩ = some (.slice A x.kids.length c) ∧
      W.cell? ⟨w4.heap.size, 0, none⟩ = some (.int .i64 x.op) ∧ W.cell? ⟨w4.heap.size, 1, none⟩ = some (.string x.name) ∧ W.cell? ⟨w4.heap.size, 2, none⟩ = some (.slice A4 x.kids.length c4))
    (first | exact all6' bx5 bX5 _ (Le.drew _) | exact all6' bx5 bX5 _ ((Le.drew _).to_below hb6) | exact all6' bx5 bX5 _ (((Le.drew _).to_below hb6).to_below hb7))
    (first
      | (go_at_call 15; ((with_reducible refine (toE_any x hwx' _ A c ?_).mono ?_); (exact hx5.le (Le.drew _)); rintro e6 w6 ⟨A6, c6, rfl, hk6, hb6⟩))
      | (go_at_call 17; ((with_reducible refine (eqE_any x _ _ _ _ _ x ?_ ?_).mono ?_); (exact hk5.le ((Le.drew _).to_below hb6)); (exact hk6.le (Le.above _ _)); rintro e7 w7 ⟨rfl, hb7⟩)))
  have b7 : Below w.heap.size w w7 := (b5.drew.trans (hb6.mono b5.size)).trans (hb7.mono (by have := b5.size; have := hb6.size; simp at this; omega))
  clear hb6 hb7 hk6 hk5 hx5 bx5 bX5 b5
  go_wp2_with fail
  go_ret
  exact ⟨rfl, b7⟩

end Go.Proofs.YtapelogbceoojaaDoor
