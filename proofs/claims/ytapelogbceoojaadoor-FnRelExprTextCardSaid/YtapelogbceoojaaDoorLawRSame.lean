/-
  The walk of FnRelExprSame: it answers true.
-/
import Derived.Test.YtapelogbceoojaaDoorDrw
import Derived.Test.YtapelogbceoojaaDoorSpecE
import Derived.Test.YtapelogbceoojaaDoorSameE
import Derived.Test.YtapelogbceoojaaDoorWText2
import Derived.Test.YtapelogbceoojaaDoorWPars5
namespace Go.Proofs.YtapelogbceoojaaDoor
open Go.RowKit
set_option linter.unusedVariables false
set_option maxRecDepth 100000

theorem sameB_comm (x y : RE) : sameB y x = sameB x y := by
  cases h : sameB x y
  · rw [sameB_false] at h ⊢
    exact fun e => h e.symm
  · rw [sameB_iff] at h ⊢
    exact h.symm
theorem fmt_ne {x : RE} (h : fmt x ≠ ⟨#[]⟩) : Val x := by
  cases hv : valB x
  · rw [fmt_false hv] at h; exact absurd rfl h
  · exact valB_iff.1 hv
theorem fmt_val {x : RE} (h : Val x) : fmt x = ct x := fmt_true (valB_iff.2 h)

set_option maxHeartbeats 2000000 in
theorem lawRSame_walk (w : World) (A : Option Addr) (n c : Nat) (hg : GN w) (h : Bys w A n) (hnc : n ≤ c) (hA : A = none → n = 0) :
    Calls Tryd.prog 4 #[.slice A n c] w (RetB w true) := by
  have hdr := drawSame_any w A n c h hnc hA
  have hn := h.1
  clear h
  go_enter Tryd.func4, Tryd.ntmps4
  by_cases hsz : (1048576 : Int) < (n : Int)
  · have hd : decide ((n : Int) > 1048576) = true := by simpa using hsz
    go_wp2_with fail
    go_ret
    exact ⟨rfl, Below.refl _ _⟩
  have hd : decide ((n : Int) > 1048576) = false := by simpa using hsz
  go_wp2_with fail
  refine hdr.mono ?_
  rintro e1 w1 ⟨x, y, A1, A2, c1, c2, rfl, hx, hy, hb1⟩
  obtain ⟨V0, hV0⟩ : ∃ V0, V0 = (w1.alloc (.cells #[.int .i64 x.op, .string x.name, .slice A1 x.kids.length c1] 29)).alloc (.cells #[.int .i64 y.op, .string y.name, .slice A2 y.kids.length c2] 29) := ⟨_, rfl⟩
  have bx0 : Box3 V0 w1.heap.size (.int .i64 x.op) (.string x.name) (.slice A1 x.kids.length c1) := by rw [hV0]; exact (Box3.new _ _ _ _ _).le (Le.alloc _ _)
  have bY0 : Box3 V0 (w1.heap.size + 1) (.int .i64 y.op) (.string y.name) (.slice A2 y.kids.length c2) := by
    have h := Box3.new (w1.alloc (.cells #[.int .i64 x.op, .string x.name, .slice A1 x.kids.length c1] 29)) (.int .i64 y.op) (.string y.name) (.slice A2 y.kids.length c2) 29
    rw [World.size_alloc, ← hV0] at h
    exact h
  have hz : w.heap.size ≤ w1.heap.size := hb1.size
  have hB0 : Below w.heap.size w V0 := by rw [hV0]; exact (hb1.alloc hz _).alloc (by simp; omega) _
  have hx0 : RepK V0 A1 c1 x := hx.le ((Le.above _ _).trans (by rw [hV0]; exact (Le.alloc _ _).trans (Le.alloc _ _)))
  have hy0 : RepK V0 A2 c2 y := hy.le ((Le.above _ _).trans (by rw [hV0]; exact (Le.alloc _ _).trans (Le.alloc _ _)))
  have sxx : sameB x x = true := sameB_iff.2 rfl
  have scm : sameB y x = sameB x y := sameB_comm x y
  have hkey : Val x → Val y → (sameB x y == ((ct x).toList == (ct y).toList)) = true := fun h1 h2 => by
    cases hs : sameB x y
    · have hne : ct x ≠ ct y := fun e => sameB_false.1 hs (ct_inj h1 h2 e)
      rw [str_eq_false hne]; rfl
    · rw [sameB_iff.1 hs]; simp
  clear hx hy hb1 hdr
  go_wp2_with fail
  rw [← hV0]
  clear hV0
  refine (same_any x _ A1 A2 c1 c2 y hx0 hy0).mono ?_
  rintro e1 V1 ⟨rfl, hb1⟩
  have hB1 := hB0.trans (hb1.mono hB0.size)
  have hx1 := hx0.le (Le.below hb1)
  have hy1 := hy0.le (Le.below hb1)
  have bx1 := bx0.le (Le.below hb1)
  have bY1 := bY0.le (Le.below hb1)
  clear hx0 hy0 bx0 bY0 hb1 hB0
  obtain ⟨x0, x1, x2, xs⟩ := bx1.all
  obtain ⟨y0, y1, y2, ys⟩ := bY1.all
  go_wp2_with fail
  refine (specSame_any x _ A1 A2 c1 c2 y hx1 hy1).mono ?_
  rintro e2 V2 ⟨rfl, hb2⟩
  have hB2 := hB1.trans (hb2.mono hB1.size)
  have hx2 := hx1.le (Le.below hb2)
  have hy2 := hy1.le (Le.below hb2)
  have bx2 := bx1.le (Le.below hb2)
  have bY2 := bY1.le (Le.below hb2)
  clear hx1 hy1 bx1 bY1 hb2 hB1 x0 x1 x2 xs y0 y1 y2 ys
  obtain ⟨x0, x1, x2, xs⟩ := bx2.all
  obtain ⟨y0, y1, y2, ys⟩ := bY2.all
  go_wp2_with fail
  refine (same_any y _ A2 A1 c2 c1 x hy2 hx2).mono ?_
  rintro e3 V3 ⟨rfl, hb3⟩
  have hB3 := hB2.trans (hb3.mono hB2.size)
  have hx3 := hx2.le (Le.below hb3)
  have hy3 := hy2.le (Le.below hb3)
  have bx3 := bx2.le (Le.below hb3)
  have bY3 := bY2.le (Le.below hb3)
  clear hx2 hy2 bx2 bY2 hb3 hB2 x0 x1 x2 xs y0 y1 y2 ys
  rw [scm]
  obtain ⟨x0, x1, x2, xs⟩ := bx3.all
  obtain ⟨y0, y1, y2, ys⟩ := bY3.all
  go_wp2_with fail
  refine (same_any x _ A1 A1 c1 c1 x hx3 hx3).mono ?_
  rintro e4 V4 ⟨rfl, hb4⟩
  have hB4 := hB3.trans (hb4.mono hB3.size)
  have hx4 := hx3.le (Le.below hb4)
  have hy4 := hy3.le (Le.below hb4)
  have bx4 := bx3.le (Le.below hb4)
  have bY4 := bY3.le (Le.below hb4)
  clear hx3 hy3 bx3 bY3 hb4 hB3 x0 x1 x2 xs y0 y1 y2 ys
  rw [sxx]
  obtain ⟨x0, x1, x2, xs⟩ := bx4.all
  obtain ⟨y0, y1, y2, ys⟩ := bY4.all
  go_wp2_with fail
  refine (format_any x _ A1 c1 (hg.le (Le.below hB4)) hx4).mono ?_
  rintro e5 V5 ⟨rfl, hb5⟩
  have hB5 := hB4.trans (hb5.mono hB4.size)
  have hx5 := hx4.le (Le.below hb5)
  have hy5 := hy4.le (Le.below hb5)
  have bx5 := bx4.le (Le.below hb5)
  have bY5 := bY4.le (Le.below hb5)
  clear hx4 hy4 bx4 bY4 hb5 hB4 x0 x1 x2 xs y0 y1 y2 ys
  obtain ⟨x0, x1, x2, xs⟩ := bx5.all
  obtain ⟨y0, y1, y2, ys⟩ := bY5.all
  go_wp2_with fail
  refine (format_any y _ A2 c2 (hg.le (Le.below hB5)) hy5).mono ?_
  rintro e6 V6 ⟨rfl, hb6⟩
  have hB6 := hB5.trans (hb6.mono hB5.size)
  have hx6 := hx5.le (Le.below hb6)
  have hy6 := hy5.le (Le.below hb6)
  have bx6 := bx5.le (Le.below hb6)
  have bY6 := bY5.le (Le.below hb6)
  clear hx5 hy5 bx5 bY5 hb6 hB5 x0 x1 x2 xs y0 y1 y2 ys
  by_cases e1 : fmt x = ⟨#[]⟩
  · rw [e1]
    go_wp2_with fail
    go_ret
    exact ⟨rfl, hB6⟩
  · by_cases e2 : fmt y = ⟨#[]⟩
    · have n1 := str_ne_nil e1
      rw [e2]
      clear e1
      go_wp2_with fail
      go_ret
      exact ⟨rfl, hB6⟩
    · have hv1 := fmt_ne e1
      have hv2 := fmt_ne e2
      have hk := hkey hv1 hv2
      rw [fmt_val hv1] at e1 ⊢
      rw [fmt_val hv2] at e2 ⊢
      have n1 := str_ne_nil e1
      have n2 := str_ne_nil e2
      clear e1 e2 hkey
      go_wp2_with fail
      go_ret
      exact ⟨rfl, hB6⟩

end Go.Proofs.YtapelogbceoojaaDoor
