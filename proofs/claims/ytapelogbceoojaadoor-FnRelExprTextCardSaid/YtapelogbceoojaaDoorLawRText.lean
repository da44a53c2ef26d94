/-
  The walk of FnRelExprText: it answers true.
-/
import Derived.Test.YtapelogbceoojaaDoorLawRSame
import Derived.Test.YtapelogbceoojaaDoorDrp
namespace Go.Proofs.YtapelogbceoojaaDoor
open Go.RowKit
set_option linter.unusedVariables false
set_option maxRecDepth 100000

theorem RetB.open' {P : Program} {f : FuncId} {args : Array Value} {w : World} {b : Bool} (h : Calls P f args w (RetB w b)) : Calls P f args w fun e w' => e = .returned (.bool b) ∧ Below w.heap.size w w' := h
theorem read_fmt {x y : RE} {b : Bool} (h : Read (fmt x) y b) : (valB x = true → b = true ∧ y = x) ∧ (valB x = false → b = false) := by
  refine ⟨fun hv => ?_, fun hv => ?_⟩
  · have hV := valB_iff.1 hv
    rw [fmt_true hv] at h
    obtain ⟨rfl, rfl⟩ := h.uniq (Or.inl ⟨rfl, hV, rfl⟩)
    exact ⟨rfl, rfl⟩
  · rw [fmt_false hv] at h
    rcases h with ⟨_, h1, h2⟩ | ⟨h, _⟩
    · exact absurd h2 (ct_ne h1)
    · exact h

set_option maxHeartbeats 4000000 in
theorem lawRText_walk (w : World) (A A' : Option Addr) (n c n' c' : Nat) (hg : GN w) (h : Bys w A n) (hnc : n ≤ c) (hA : A = none → n = 0) (h' : Bys w A' n') (hnc' : n' ≤ c') (hA' : A' = none → n' = 0) :
    Calls Tryd.prog 8 #[.slice A n c, .slice A' n' c'] w (RetB w true) := by
  have hdr := drawFormat_any w A n c h hnc hA
  have hn := h.1
  have hn' := h'.1
  clear h
  go_enter Tryd.func8, Tryd.ntmps8
  by_cases hsz : (1048576 : Int) < (n : Int)
  · have hd : decide ((n : Int) > 1048576) = true := by simpa using hsz
    go_wp2_with fail
    go_ret
    exact ⟨rfl, Below.refl _ _⟩
  have hd : decide ((n : Int) > 1048576) = false := by simpa using hsz
  by_cases hsz' : (1048576 : Int) < (n' : Int)
  · have hd' : decide ((n' : Int) > 1048576) = true := by simpa using hsz'
    go_wp2_with fail
    go_ret
    exact ⟨rfl, Below.refl _ _⟩
  have hd' : decide ((n' : Int) > 1048576) = false := by simpa using hsz'
  go_wp2_with fail
  refine hdr.mono ?_
  rintro e1 w1 ⟨x, A1, c1, rfl, hx, hcx, hnx, hb1⟩
  obtain ⟨V0, hV0⟩ : ∃ V0, V0 = w1.alloc (.cells #[.int .i64 x.op, .string x.name, .slice A1 x.kids.length c1] 29) := ⟨_, rfl⟩
  have bx0 : Box3 V0 w1.heap.size (.int .i64 x.op) (.string x.name) (.slice A1 x.kids.length c1) := by rw [hV0]; exact Box3.new _ _ _ _ _
  have hB0 : Below w.heap.size w V0 := by rw [hV0]; exact hb1.alloc hb1.size _
  have hx0 : RepK V0 A1 c1 x := hx.le ((Le.above _ _).trans (by rw [hV0]; exact Le.alloc _ _))
  clear hx hb1 hdr
  go_wp2_with fail
  rw [← hV0]
  clear hV0
  refine (format_any x _ A1 c1 (hg.le (Le.below hB0)) hx0).mono ?_
  rintro e2 V1 ⟨rfl, hb2⟩
  have hB1 := hB0.trans (hb2.mono hB0.size)
  have hx1 := hx0.le (Le.below hb2)
  have bx1 := bx0.le (Le.below hb2)
  clear hx0 bx0 hb2 hB0
  go_wp2_with fail
  refine (parse_any (fmt x) _ (hg.le (Le.below hB1))).mono ?_
  rintro e3 w3 ⟨y, b, A3, c3, F3, rfl, hrd, ho3, _, _, hn3, hb3⟩
  have hy3 := ho3.repK hn3
  obtain ⟨V3, hV3⟩ : ∃ V3, V3 = w3.alloc (.cells #[.int .i64 y.op, .string y.name, .slice A3 y.kids.length c3] 29) := ⟨_, rfl⟩
  have hl3 : Le V1 V3 := by rw [hV3]; exact (Le.below hb3).trans (Le.alloc _ _)
  have by3 : Box3 V3 w3.heap.size (.int .i64 y.op) (.string y.name) (.slice A3 y.kids.length c3) := by rw [hV3]; exact Box3.new _ _ _ _ _
  have hB3 : Below w.heap.size w V3 := by rw [hV3]; exact (hB1.trans (hb3.mono hB1.size)).alloc (hB1.trans (hb3.mono hB1.size)).size _
  have hy : RepK V3 A3 c3 y := hy3.le (by rw [hV3]; exact Le.alloc _ _)
  have hx3 := hx1.le hl3
  have bx3 := bx1.le hl3
  obtain ⟨hrt, hrf⟩ := read_fmt hrd
  clear hrd ho3 hb3 hx1 bx1 hl3 hy3 hB1
  go_wp2_with fail
  rw [← hV3]
  clear hV3
  have f0 := fun n : Ext V3 => n.le _ _ bx3.c0
  have f1 := fun n : Ext V3 => n.le _ _ bx3.c1
  have f2 := fun n : Ext V3 => n.le _ _ bx3.c2
  have g0 := fun n : Ext V3 => n.le _ _ by3.c0
  have g1 := fun n : Ext V3 => n.le _ _ by3.c1
  have g2 := fun n : Ext V3 => n.le _ _ by3.c2
  have r1 := fun (W : World) (h : Below V3.heap.size V3 W) => RetStr.open (specFormat_any x W A1 c1 (by omega) (hx3.le (Le.below h)))
  have r2 := fun (W : World) (h : Below V3.heap.size V3 W) => RetB.open' (valid_any x W A1 c1 (hg.le ((Le.below hB3).trans (Le.below h))) (hx3.le (Le.below h)))
  have r3 := fun (W : World) (h : Below V3.heap.size V3 W) => RetB.open' (specValid_any x W A1 c1 (by omega) (hx3.le (Le.below h)))
  have r4 := fun (W : World) (h : Below V3.heap.size V3 W) => RetB.open' (same_any y W A3 A1 c3 c1 x (hy.le (Le.below h)) (hx3.le (Le.below h)))
  have R1 := Lib.hid r1
  have R2 := Lib.hid r2
  have R3 := Lib.hid r3
  have R4 := Lib.hid r4
  clear r1 r2 r3 r4
  have hdr2 : ∀ W, Below w.heap.size w W → Calls Tryd.prog 33 #[.slice A' n' c'] W (RetDrT W) := fun W hW => drawParse_any W A' n' c' (h'.le (Le.below hW)) hnc' hA'
  have Hdr2 := Lib.hid hdr2
  clear hdr2 h'
  have hreg : valB x = true ∨ valB x = false := by cases valB x <;> simp
  rcases hreg with hv | hv
  · obtain ⟨rfl, rfl⟩ := hrt hv
    have hne := str_ne_nil (ct_ne (valB_iff.1 hv))
    have hs : sameB y y = true := sameB_iff.2 rfl
    have hfm := fmt_true hv
    have Hrf := Lib.hid hrf
    clear hrt hrf
    rw [hv] at R2 R3
    rw [hs] at R4
    rw [hfm] at R1 ⊢
    clear hv hs hfm
    refine wp_region_ext _ (by kernel_rfl) (by kernel_rfl) (Below.refl _ _) ?_
    repeat (go_big_quiet_step ((first | (go_at_call 22; exact Ext.call _ R1.out) | (go_at_call 16; exact Ext.call _ R2.out) | (go_at_call 14; exact Ext.call _ R3.out) | (go_at_call 19; exact Ext.call _ R4.out))))
    refine wpQuiet_nil ?_
    rintro wn ⟨⟨_, hbn⟩, rfl⟩
    have hBn : Below w.heap.size w wn := hB3.trans (hbn.mono hB3.size)
    clear R1 R2 R3 R4 f0 f1 f2 g0 g1 g2 hbn hx3 bx3 hy by3 hB3
    go_wp2_with fail
    refine (Hdr2.out wn hBn).mono ?_
    rintro e5 V5 ⟨t, rfl, ht, hb5⟩
    have hB5 := hBn.trans (hb5.mono hBn.size)
    clear hb5 hBn Hdr2
    go_wp2_with fail
    refine (parse_any t _ (hg.le (Le.below hB5))).mono ?_
    rintro e6 w6 ⟨z, b6, A6, c6, F6, rfl, hrd6, ho6, _, _, hn6, hb6⟩
    have hB6 := hB5.trans (hb6.mono hB5.size)
    have bz6 := Box3.new w6 (.int .i64 z.op) (.string z.name) (.slice A6 z.kids.length c6) 29
    have hz6 := (ho6.repK hn6).le (Le.alloc w6 (.cells #[.int .i64 z.op, .string z.name, .slice A6 z.kids.length c6] 29))
    have hB6' := hB6.alloc hB6.size (.cells #[.int .i64 z.op, .string z.name, .slice A6 z.kids.length c6] 29)
    have Hrd6 := Lib.hid hrd6
    clear hb6 hB5 ho6 hB6 hrd6
    go_wp2_with fail
    refine (specParse_any t _).mono ?_
    rintro e7 w7 ⟨z', b7, A7, c7, F7, rfl, hrd7, ho7, _, hn7, hb7⟩
    obtain ⟨rfl, rfl⟩ := Hrd6.out.uniq hrd7
    have hB7 := hB6'.trans (hb7.mono hB6'.size)
    have hz7 := (ho7.repK hn7).le (Le.alloc w7 (.cells #[.int .i64 z.op, .string z.name, .slice A7 z.kids.length c7] 29))
    have hz67 := (hz6.le (Le.below hb7)).le (Le.alloc w7 (.cells #[.int .i64 z.op, .string z.name, .slice A7 z.kids.length c7] 29))
    obtain ⟨x0, x1, x2, xs⟩ := (bz6.le (Le.below hb7)).all
    have bz7 := (bz6.le (Le.below hb7)).le (Le.alloc w7 (.cells #[.int .i64 z.op, .string z.name, .slice A7 z.kids.length c7] 29))
    have hB7' := hB7.alloc hB7.size (.cells #[.int .i64 z.op, .string z.name, .slice A7 z.kids.length c7] 29)
    have szz : sameB z z = true := sameB_iff.2 rfl
    clear hrd7 hb7 ho7 hB6' hz6 bz6 hB7
    cases b6
    · go_wp2_with fail
      refine (same_any z _ A6 A7 c6 c7 z hz67 hz7).mono ?_
      rintro e8 w8 ⟨rfl, hb8⟩
      have hB8 := hB7'.trans (hb8.mono hB7'.size)
      clear hb8
      go_wp2_with fail
      go_ret
      exact ⟨rfl, hB8⟩
    · have hft : fmt z = t := by
        rcases Hrd6.out with ⟨_, h1, h2⟩ | ⟨h, _⟩
        · rw [fmt_val h1, h2]
        · cases h
      go_wp2_with fail
      refine (same_any z _ A6 A7 c6 c7 z hz67 hz7).mono ?_
      rintro e8 w8 ⟨rfl, hb8⟩
      have hB8 := hB7'.trans (hb8.mono hB7'.size)
      have hz8 := hz67.le (Le.below hb8)
      obtain ⟨y0, y1, y2, ys⟩ := (bz7.le (Le.below hb8)).all
      clear hb8 x0 x1 x2
      go_wp2_with fail
      refine (format_any z _ A6 c6 (hg.le (Le.below hB8)) hz8).mono ?_
      rintro e9 w9 ⟨rfl, hb9⟩
      have hB9 := hB8.trans (hb9.mono hB8.size)
      rw [hft]
      clear hft hb9
      go_wp2_with fail
      go_ret
      exact ⟨rfl, hB9⟩
  · have hb := hrf hv
    subst hb
    have hfm := fmt_false hv
    have Hrt := Lib.hid hrt
    clear hrt hrf
    rw [hv] at R2 R3
    rw [hfm] at R1 ⊢
    clear hv hfm R4
    refine wp_region_ext _ (by kernel_rfl) (by kernel_rfl) (Below.refl _ _) ?_
    repeat (go_big_quiet_step ((first | (go_at_call 22; exact Ext.call _ R1.out) | (go_at_call 16; exact Ext.call _ R2.out) | (go_at_call 14; exact Ext.call _ R3.out))))
    refine wpQuiet_nil ?_
    rintro wn ⟨⟨_, hbn⟩, rfl⟩
    have hBn : Below w.heap.size w wn := hB3.trans (hbn.mono hB3.size)
    clear R1 R2 R3 f0 f1 f2 g0 g1 g2 hbn hx3 bx3 hy by3 hB3
    go_wp2_with fail
    refine (Hdr2.out wn hBn).mono ?_
    rintro e5 V5 ⟨t, rfl, ht, hb5⟩
    have hB5 := hBn.trans (hb5.mono hBn.size)
    clear hb5 hBn Hdr2
    go_wp2_with fail
    refine (parse_any t _ (hg.le (Le.below hB5))).mono ?_
    rintro e6 w6 ⟨z, b6, A6, c6, F6, rfl, hrd6, ho6, _, _, hn6, hb6⟩
    have hB6 := hB5.trans (hb6.mono hB5.size)
    have bz6 := Box3.new w6 (.int .i64 z.op) (.string z.name) (.slice A6 z.kids.length c6) 29
    have hz6 := (ho6.repK hn6).le (Le.alloc w6 (.cells #[.int .i64 z.op, .string z.name, .slice A6 z.kids.length c6] 29))
    have hB6' := hB6.alloc hB6.size (.cells #[.int .i64 z.op, .string z.name, .slice A6 z.kids.length c6] 29)
    have Hrd6 := Lib.hid hrd6
    clear hb6 hB5 ho6 hB6 hrd6
    go_wp2_with fail
    refine (specParse_any t _).mono ?_
    rintro e7 w7 ⟨z', b7, A7, c7, F7, rfl, hrd7, ho7, _, hn7, hb7⟩
    obtain ⟨rfl, rfl⟩ := Hrd6.out.uniq hrd7
    have hB7 := hB6'.trans (hb7.mono hB6'.size)
    have hz7 := (ho7.repK hn7).le (Le.alloc w7 (.cells #[.int .i64 z.op, .string z.name, .slice A7 z.kids.length c7] 29))
    have hz67 := (hz6.le (Le.below hb7)).le (Le.alloc w7 (.cells #[.int .i64 z.op, .string z.name, .slice A7 z.kids.length c7] 29))
    obtain ⟨x0, x1, x2, xs⟩ := (bz6.le (Le.below hb7)).all
    have bz7 := (bz6.le (Le.below hb7)).le (Le.alloc w7 (.cells #[.int .i64 z.op, .string z.name, .slice A7 z.kids.length c7] 29))
    have hB7' := hB7.alloc hB7.size (.cells #[.int .i64 z.op, .string z.name, .slice A7 z.kids.length c7] 29)
    have szz : sameB z z = true := sameB_iff.2 rfl
    clear hrd7 hb7 ho7 hB6' hz6 bz6 hB7
    cases b6
    · go_wp2_with fail
      refine (same_any z _ A6 A7 c6 c7 z hz67 hz7).mono ?_
      rintro e8 w8 ⟨rfl, hb8⟩
      have hB8 := hB7'.trans (hb8.mono hB7'.size)
      clear hb8
      go_wp2_with fail
      go_ret
      exact ⟨rfl, hB8⟩
    · have hft : fmt z = t := by
        rcases Hrd6.out with ⟨_, h1, h2⟩ | ⟨h, _⟩
        · rw [fmt_val h1, h2]
        · cases h
      go_wp2_with fail
      refine (same_any z _ A6 A7 c6 c7 z hz67 hz7).mono ?_
      rintro e8 w8 ⟨rfl, hb8⟩
      have hB8 := hB7'.trans (hb8.mono hB7'.size)
      have hz8 := hz67.le (Le.below hb8)
      obtain ⟨y0, y1, y2, ys⟩ := (bz7.le (Le.below hb8)).all
      clear hb8 x0 x1 x2
      go_wp2_with fail
      refine (format_any z _ A6 c6 (hg.le (Le.below hB8)) hz8).mono ?_
      rintro e9 w9 ⟨rfl, hb9⟩
      have hB9 := hB8.trans (hb9.mono hB8.size)
      rw [hft]
      clear hft hb9
      go_wp2_with fail
      go_ret
      exact ⟨rfl, hB9⟩

end Go.Proofs.YtapelogbceoojaaDoor
