/-
  The walk of FnExactExecValid: it answers true.
-/
import Derived.Test.YtpadkallejfdlaaImCV
import Derived.Test.YtpadkallejfdlaaLawEv
namespace Go.Proofs.Ytpadkallejfdlaa
open Go.RowKit
set_option linter.unusedVariables false
set_option maxRecDepth 100000

theorem eqXX_any (x : Ex) (w : World) (A B A' B' : Option Addr) (c d c' d' : Nat) (hx : RepX w A c B d x) (hy : RepX w A' c' B' d' x) :
    Calls Try.prog 30 #[.agg #[.slice A x.from_.length c, .slice B x.order.length d], .agg #[.slice A' x.from_.length c', .slice B' x.order.length d']] w (RetB w true) := by
  have h := eqX_any x x w A B A' B' c d c' d' hx hy
  rw [eqB_self] at h
  exact h

set_option maxHeartbeats 4000000 in
theorem lawCV_walk (p : Prg) (x : Ex) (w : World) (v : Value) (A B : Option Addr) (c d : Nat) (hp : PrgS w v p) (hx : RepX w A c B d x) :
    Calls Try.prog 6 #[v, .agg #[.slice A x.from_.length c, .slice B x.order.length d]] w (RetB w true) := by
  obtain ⟨Ap, cp, rfl, _⟩ := hp.slice
  obtain ⟨w0, hw0⟩ : ∃ w0, w0 = w.alloc (.cells #[.slice A x.from_.length c, .slice B x.order.length d] 47) := ⟨_, rfl⟩
  have bx0 : Box2 w0 w.heap.size (.slice A x.from_.length c) (.slice B x.order.length d) := by rw [hw0]; exact Box2.new _ _ _ _
  have hB0 : Below w.heap.size w w0 := by rw [hw0]; exact (Below.refl _ _).alloc (Nat.le_refl _) _
  go_enter Try.func6, Try.ntmps6
  go_wp2_with fail
  rw [← hw0]
  clear hw0
  refine (szInsSS_any p w0 Ap cp 1048576 (PrgS.le hp (Le.below hB0)) (by omega) (by omega)).mono ?_
  rintro e1 w1 ⟨rfl, hb1⟩
  have hB1 := hB0.trans (hb1.mono hB0.size)
  by_cases hfit : ((p.length + wSum List.length p : Nat) : Int) ≤ 1048576
  case neg =>
    rw [restI_gt (Int.not_le.1 hfit)]
    go_wp2_with fail
    go_ret
    exact ⟨rfl, hB1⟩
  rw [restI_le hfit]
  obtain ⟨left, hleft⟩ : ∃ left : Int, left = 1048576 - ((p.length + wSum List.length p : Nat) : Int) := ⟨_, rfl⟩
  rw [← hleft]
  have hl0 : 0 ≤ left := by omega
  have hl1 : left ≤ 1048576 := by omega
  have hl : p.length ≤ 1048576 := by omega
  have hls : ∀ t ∈ p, t.length ≤ 1048576 := fun t ht => by have := wSum_mem List.length ht; omega
  have Hls := Lib.hid hls
  have bx1 := bx0.le (Le.below hb1)
  obtain ⟨q0, q1, _⟩ := bx1.all
  clear hls hb1 bx0 hleft hfit
  go_wp2_with fail
  refine (szX_any x _ _ _ _ _ _ (hx.le (Le.below hB1)) hl0 hl1).mono ?_
  rintro e2 w2 ⟨rfl, hb2⟩
  have hB2 := hB1.trans (hb2.mono hB1.size)
  by_cases hwx : (wX x : Int) ≤ left
  case neg =>
    rw [restI_gt (by omega)]
    go_wp2_with fail
    go_ret
    exact ⟨rfl, hB2⟩
  rw [restI_le hwx]
  have hwx' : wX x ≤ 1048576 := by omega
  have bx2 := bx1.le (Le.below hb2)
  have hp2 := PrgS.le hp (Le.below hB2)
  have hx2 := hx.le (Le.below hB2)
  clear hp hx q0 q1 bx1 hb2
  go_wp2_with fail
  go_region_held3 (fun W => W.cell? ⟨w.heap.size, 0, none⟩ = some (.slice A x.from_.length c) ∧ W.cell? ⟨w.heap.size, 1, none⟩ = some (.slice B x.order.length d))
    ((first | exact ⟨bx2.c0, bx2.c1⟩ | exact ⟨Le.below hb3 _ _ bx2.c0, Le.below hb3 _ _ bx2.c1⟩ | exact ⟨Le.below hb4 _ _ (Le.below hb3 _ _ bx2.c0), Le.below hb4 _ _ (Le.below hb3 _ _ bx2.c1)⟩ | exact ⟨Le.below hb5 _ _ (Le.below hb4 _ _ (Le.below hb3 _ _ bx2.c0)), Le.below hb5 _ _ (Le.below hb4 _ _ (Le.below hb3 _ _ bx2.c1))⟩))
    (first
      | (go_at_call 11; ((with_reducible refine (toInsSS_any p hl Hls.out _ Ap cp (PrgS.le hp2 (Le.drew _))).mono ?_); rintro e3 w3 ⟨v3, F3, rfl, ho3, _, _, hb3⟩))
      | (go_at_call 28; ((with_reducible refine (toX_any x hwx' _ A B c d (hx2.le ((Le.drew _).to_below hb3))).mono ?_); rintro e4 w4 ⟨A4, c4, B4, d4, rfl, hk4, hb4⟩))
      | (go_at_call 27; ((with_reducible refine (specCand_any p hl x _ _ A4 B4 c4 d4 (PrgS.le ho3.prgS0 (Le.below hb4)) (hk4.le (Le.above _ _))).mono ?_); rintro e5 w5 ⟨rfl, hb5⟩)))
  have hd3 := below_of_drew hb3
  have hB3 := hB2.trans (hd3.mono hB2.size)
  have hB4 := hB3.trans (hb4.mono hB3.size)
  have hB5 := hB4.trans (hb5.mono hB4.size)
  have hL5 : Le w2 w5 := (Le.below hd3).trans ((Le.below hb4).trans (Le.below hb5))
  have hp5 := PrgS.le hp2 hL5
  have hx5 := hx2.le hL5
  have bx5 := bx2.le hL5
  clear hp2 hx2 bx2 hb3 hb4 hb5 hd3 hL5 ho3 hk4 hB3 hB4 hB2
  go_wp2_with fail
  refine (toInsSS_any p hl Hls.out w5 Ap cp hp5).mono ?_
  rintro e6 w6 ⟨v6, F6, rfl, ho6, _, _, hb6⟩
  have hB6 := hB5.trans (hb6.mono hB5.size)
  have bx6 := bx5.le (Le.below hb6)
  have hx6 := hx5.le (Le.below hb6)
  have hp6 := PrgS.le hp5 (Le.below hb6)
  have hpr6 := ho6.prgS0
  obtain ⟨q0, q1, _⟩ := bx6.all
  clear hp5 hx5 bx5 hb6 ho6 hB5
  go_wp2_with fail
  refine (toX_any x hwx' w6 A B c d hx6).mono ?_
  rintro e7 w7 ⟨A7, c7, B7, d7, rfl, hk7, hb7⟩
  obtain ⟨V, hV⟩ : ∃ V, V = w7.alloc (.cells #[.slice A7 x.from_.length c7, .slice B7 x.order.length d7] 50) := ⟨_, rfl⟩
  have by7 : Box2 V w7.heap.size (.slice A7 x.from_.length c7) (.slice B7 x.order.length d7) := by rw [hV]; exact Box2.new _ _ _ _
  have hB7 := hB6.trans (hb7.mono hB6.size)
  have hBV : Below w.heap.size w V := by rw [hV]; exact hB7.alloc hB7.size _
  have hLV : Le w7 V := by rw [hV]; exact Le.alloc _ _
  have bxV := (bx6.le (Le.below hb7)).le hLV
  have hxV := (hx6.le (Le.below hb7)).le hLV
  have hpV := PrgS.le (PrgS.le hp6 (Le.below hb7)) hLV
  have hprV := PrgS.le (PrgS.le hpr6 (Le.below hb7)) hLV
  have hkV : RepX V A7 c7 B7 d7 x := hk7.le ((Le.above _ _).trans hLV)
  have y0 := by7.c0
  have y1 := by7.c1
  clear hp6 hx6 bx6 hb7 hk7 hpr6 hB6 q0 q1 hB7 hLV
  go_wp2_with fail
  rw [← hV]
  clear hV
  refine (implCand_any p hl Hls.out x V _ A7 B7 c7 d7 hprV hkV hwx').mono ?_
  rintro e8 w8 ⟨rfl, hb8⟩
  have hB8 := hBV.trans (hb8.mono hBV.size)
  have bx8 := bxV.le (Le.below hb8)
  have by8 := by7.le (Le.below hb8)
  have hx8 := hxV.le (Le.below hb8)
  have hp8 := PrgS.le hpV (Le.below hb8)
  have hpr8 := PrgS.le hprV (Le.below hb8)
  have hk8 := hkV.le (Le.below hb8)
  clear bxV by7 hxV hpV hprV hkV hb8 hBV y0 y1
  go_wp2_with fail
  refine (toInsSS_any p hl Hls.out w8 Ap cp hp8).mono ?_
  rintro e9 w9 ⟨v9, F9, rfl, ho9, _, _, hb9⟩
  have hB9 := hB8.trans (hb9.mono hB8.size)
  go_wp2_with fail
  refine (eqInsSS_any p _ _ _ (PrgS.le hpr8 (Le.below hb9)) ho9.prgS0).mono ?_
  rintro e10 w10 ⟨rfl, hb10⟩
  have hB10 := hB9.trans (hb10.mono hB9.size)
  have hL10 := (Le.below hb9).trans (Le.below hb10)
  have bx10 := bx8.le hL10
  have by10 := by8.le hL10
  have hx10 := hx8.le hL10
  have hk10 := hk8.le hL10
  clear bx8 by8 hx8 hp8 hpr8 hk8 hb9 hb10 hL10 ho9 hB8 hB9
  go_wp2_with fail
  go_region_held3 (fun W => W.cell? ⟨w7.heap.size, 0, none⟩ = some (.slice A7 x.from_.length c7) ∧ W.cell? ⟨w7.heap.size, 1, none⟩ = some (.slice B7 x.order.length d7) ∧ W.cell? ⟨w.heap.size, 0, none⟩ = some (.slice A x.from_.length c) ∧ W.cell? ⟨w.heap.size, 1, none⟩ = some (.slice B x.order.length d))
    ((first | exact ⟨by10.c0, by10.c1, bx10.c0, bx10.c1⟩ | exact ⟨Le.below hb11 _ _ by10.c0, Le.below hb11 _ _ by10.c1, Le.below hb11 _ _ bx10.c0, Le.below hb11 _ _ bx10.c1⟩ | exact ⟨Le.below hb12 _ _ (Le.below hb11 _ _ by10.c0), Le.below hb12 _ _ (Le.below hb11 _ _ by10.c1), Le.below hb12 _ _ (Le.below hb11 _ _ bx10.c0), Le.below hb12 _ _ (Le.below hb11 _ _ bx10.c1)⟩))
    (first
      | (go_at_call 28; ((with_reducible refine (toX_any x hwx' _ A B c d (hx10.le (Le.drew _))).mono ?_); rintro e11 w11 ⟨A11, c11, B11, d11, rfl, hk11, hb11⟩))
      | (go_at_call 30; ((with_reducible refine (eqXX_any x _ A7 B7 A11 B11 c7 d7 c11 d11 (hk10.le ((Le.drew _).to_below hb11)) (hk11.le (Le.above _ _))).mono ?_); rintro e12 w12 ⟨rfl, hb12⟩)))
  have hB11 := hB10.trans ((below_of_drew hb11).mono hB10.size)
  have hB12 := hB11.trans (hb12.mono hB11.size)
  clear hb11 hb12
  go_wp2_with fail
  go_ret
  exact ⟨rfl, hB12⟩

end Go.Proofs.Ytpadkallejfdlaa
