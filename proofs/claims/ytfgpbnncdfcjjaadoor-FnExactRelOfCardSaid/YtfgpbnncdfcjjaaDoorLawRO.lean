/-
  The walk of FnExactRelOf: it answers true.
-/
import Derived.Test.YtfgpbnncdfcjjaaDoorImRl
import Derived.Test.YtfgpbnncdfcjjaaDoorToX
import Derived.Test.YtfgpbnncdfcjjaaDoorLawEv
namespace Go.Proofs.YtfgpbnncdfcjjaaDoor
open Go.RowKit
set_option linter.unusedVariables false
set_option maxRecDepth 100000

theorem eqXX_any (x : Ex) (w : World) (A B A' B' : Option Addr) (c d c' d' : Nat) (hx : RepX w A c B d x) (hy : RepX w A' c' B' d' x) :
    Calls Tryd.prog 16 #[.agg #[.slice A x.from_.length c, .slice B x.order.length d], .agg #[.slice A' x.from_.length c', .slice B' x.order.length d']] w (RetB w true) := by
  have h := eqX_any x x w A B A' B' c d c' d' hx hy
  rw [eqB_self] at h
  exact h
theorem eqII_any (xs : List Int) (w : World) (A A' : Option Addr) (c c' : Nat) (hr : Ints w A c xs) (hr' : Ints w A' c' xs) :
    Calls Tryd.prog 14 #[.slice A xs.length c, .slice A' xs.length c'] w (RetB w true) := by
  have h := eqInts_any xs xs w A A' c c' hr hr'
  rw [eqB_self] at h
  exact h
theorem OwPr.room {w : World} {v : Value} {p : Prg} {F : List Nat} (h : OwPr w v p F) : Room w v p := by
  intro b o n c e t ht A m c' hc
  subst e
  rcases h with ⟨e, _, _⟩ | ⟨g, c0, N, G, Fs, e, hc0, hr, hN, _, hel, _⟩
  · injection e with e1; cases e1
  · injection e with e1 e2 e3
    injection e1 with e1
    injection e1 with e1 e4
    subst e1 e4
    have h1 := hr.cell (i := t) (by omega)
    rw [Nat.zero_add, h1] at hc
    injection hc with hc
    have h2 := hel t ht
    have h3 : OwI w (G (t * 1 + 0)) p[t] (Fs t) := h2
    rw [Nat.mul_one, Nat.add_zero, hc] at h3
    obtain ⟨A', c'', e5, hle, _⟩ := h3.slice
    injection e5 with _ e6 e7
    omega
theorem relB_len {p : Prg} {x : Ex} {s : ByteArray} : (relB p x s).length ≤ 15 := by
  unfold relB
  by_cases h : candB p x = true ∧ memB nm s = true
  · rw [if_pos h]
    unfold relO
    rw [relN_length]
    exact cand_len (candB_iff.1 h.1).1
  · rw [if_neg h]; simp

set_option maxHeartbeats 8000000 in
theorem lawRO_walk (p : Prg) (x : Ex) (s : ByteArray) (w : World) (v : Value) (A B : Option Addr) (c d : Nat) (hg : GN w) (hp : PrgS w v p) (hx : RepX w A c B d x) :
    Calls Tryd.prog 3 #[v, .agg #[.slice A x.from_.length c, .slice B x.order.length d], .string s] w (RetB w true) := by
  obtain ⟨Ap, cp, rfl, _⟩ := hp.slice
  obtain ⟨w0, hw0⟩ : ∃ w0, w0 = w.alloc (.cells #[.slice A x.from_.length c, .slice B x.order.length d] 26) := ⟨_, rfl⟩
  have bx0 : Box2 w0 w.heap.size (.slice A x.from_.length c) (.slice B x.order.length d) := by rw [hw0]; exact Box2.new _ _ _ _
  have hB : Below w.heap.size w w0 := by rw [hw0]; exact (Below.refl _ _).alloc (Nat.le_refl _) _
  have hp0 := PrgS.le hp (Le.below hB)
  have hx0 := hx.le (Le.below hB)
  have hg0 := hg.le (Le.below hB)
  clear hp hx hg
  go_enter Tryd.func3, Tryd.ntmps3
  by_cases hsz : (1048576 : Int) < (s.size : Int)
  · have hd : decide ((s.size : Int) > 1048576) = true := by simpa using hsz
    go_wp2_with fail
    go_ret
    exact ⟨rfl, by rw [← hw0]; exact hB⟩
  have hd : decide ((s.size : Int) > 1048576) = false := by simpa using hsz
  go_wp2_with fail
  rw [← hw0]
  clear hw0
  refine (szInsSS_any p w0 Ap cp 1048576 hp0 (by omega) (by omega)).mono ?_
  rintro e1 w1 ⟨rfl, hB1⟩
  by_cases hfit : ((p.length + wSum List.length p : Nat) : Int) ≤ 1048576
  case neg =>
    rw [restI_gt (Int.not_le.1 hfit)]
    go_wp2_with fail
    go_ret
    exact ⟨rfl, hB.trans (hB1.mono hB.size)⟩
  rw [restI_le hfit]
  obtain ⟨left, hleft⟩ : ∃ left : Int, left = 1048576 - ((p.length + wSum List.length p : Nat) : Int) := ⟨_, rfl⟩
  rw [← hleft]
  have hl0 : 0 ≤ left := by omega
  have hl1 : left ≤ 1048576 := by omega
  have hl : p.length ≤ 1048576 := by omega
  have hls : ∀ t ∈ p, t.length ≤ 1048576 := fun t ht => by have := wSum_mem List.length ht; omega
  have hwt : wSum wtIs p ≤ 4 * 1048576 := by
    rw [wtIs_small]
    omega
  have Hls := Lib.hid hls
  have bx1 := bx0.le (Le.below hB1)
  obtain ⟨q0, q1, _⟩ := bx1.all
  clear hls hleft hfit
  go_wp2_with fail
  refine (szX_any x _ _ _ _ _ _ (hx0.le (Le.below hB1)) hl0 hl1).mono ?_
  rintro e2 w2 ⟨rfl, hb2⟩
  have hB2 := hB1.trans (hb2.mono hB1.size)
  by_cases hwx : (wX x : Int) ≤ left
  case neg =>
    rw [restI_gt (by omega)]
    go_wp2_with fail
    go_ret
    exact ⟨rfl, hB.trans (hB2.mono hB.size)⟩
  rw [restI_le hwx]
  have hwx' : wX x ≤ 1048576 := by omega
  have hwtx : wtX x ≤ 1048576 := by have h1 : wX x = x.from_.length + (x.order.length + wSum List.length x.order) := rfl; have h2 : wtX x = x.from_.length + wSum List.length x.order := rfl; omega
  have bx2 := bx0.le (Le.below hB2)
  have hp2 := PrgS.le hp0 (Le.below hB2)
  have hx2 := hx0.le (Le.below hB2)
  have hRl : (relB p x s).length ≤ 15 := relB_len
  have Hspec := Lib.hid (fun W vp A B c d => specRelOf_any p hl x s W vp A B c d)
  have Himpl := Lib.hid (fun W vp A B c d => implRelOf_any p hl Hls.out x hwx' s W vp A B c d)
  generalize relB p x s = R at Hspec Himpl hRl
  clear q0 q1 bx1 hb2 hB1
  go_wp2_with fail
  go_region_held3 (fun W => W.cell? ⟨w.heap.size, 0, none⟩ = some (.slice A x.from_.length c) ∧ W.cell? ⟨w.heap.size, 1, none⟩ = some (.slice B x.order.length d))
    ((first | exact ⟨bx2.c0, bx2.c1⟩ | exact ⟨Le.below hb3 _ _ bx2.c0, Le.below hb3 _ _ bx2.c1⟩ | exact ⟨Le.below hb4 _ _ (Le.below hb3 _ _ bx2.c0), Le.below hb4 _ _ (Le.below hb3 _ _ bx2.c1)⟩ | exact ⟨Le.below hb5 _ _ (Le.below hb4 _ _ (Le.below hb3 _ _ bx2.c0)), Le.below hb5 _ _ (Le.below hb4 _ _ (Le.below hb3 _ _ bx2.c1))⟩))
    (first
      | (go_at_call 11; ((with_reducible refine (toInsSS_any p hl Hls.out _ Ap cp (PrgS.le hp2 (Le.drew _))).mono ?_); rintro e3 w3 ⟨v3, F3, rfl, ho3, _, _, hb3⟩))
      | (go_at_call 12; ((with_reducible refine (toX_any x hwx' _ A B c d (hx2.le ((Le.drew _).to_below hb3))).mono ?_); rintro e4 w4 ⟨A4, c4, B4, d4, rfl, hk4, hb4⟩))
      | (go_at_call 10; ((with_reducible refine (Hspec.out _ _ A4 B4 c4 d4 (PrgS.le ho3.prgS0 (Le.below hb4)) (hk4.le (Le.above _ _))).mono ?_); rintro e5 w5 ⟨A5, c5, rfl, hrow5, hb5⟩)))
  have hd3 := below_of_drew hb3
  have hB3 := hB2.trans (hd3.mono hB2.size)
  have hB4 := hB3.trans (hb4.mono hB3.size)
  have hB5 := hB4.trans (hb5.mono hB4.size)
  have hi5 : Ints w5 A5 c5 R := row_ints hrow5
  have bx5 := bx0.le (Le.below hB5)
  clear hp2 hx2 bx2 hb3 hb4 hb5 hd3 ho3 hk4 hB3 hB4 hB2 hrow5
  go_wp2_with fail
  refine (toInsSS_any p hl Hls.out w5 Ap cp (PrgS.le hp0 (Le.below hB5))).mono ?_
  rintro e6 w6 ⟨v6, F6, rfl, ho6, hn6, hF6, hC6⟩
  have hB6 := hB5.trans (hC6.mono hB5.size)
  have hlt6 := ho6.lt pinsS_loc
  have bx6 := bx0.le (Le.below hB6)
  obtain ⟨q0, q1, _⟩ := bx6.all
  clear bx5
  go_wp2_with fail
  refine (toXO_any x hwx' w6 A B c d (hx0.le (Le.below hB6))).mono ?_
  rintro e7 w7 ⟨A7, c7, B7, d7, F7a, F7b, rfl, ho7, hn7, hF7, hb7⟩
  obtain ⟨V, hV⟩ : ∃ V, V = w7.alloc (.cells #[.slice A7 x.from_.length c7, .slice B7 x.order.length d7] 32) := ⟨_, rfl⟩
  have by7 : Box2 V w7.heap.size (.slice A7 x.from_.length c7) (.slice B7 x.order.length d7) := by rw [hV]; exact Box2.new _ _ _ _
  have hb7V : Below w7.heap.size w7 V := by rw [hV]; exact (Below.refl _ _).alloc (Nat.le_refl _) _
  have hs67 := hb7.size
  have hC7 := hC6.trans (hb7.mono hC6.size)
  have hCV := hC7.trans (hb7V.mono hC7.size)
  have hD7 : Below w6.heap.size w6 V := hb7.trans (hb7V.mono hb7.size)
  have hBV := hB5.trans (hCV.mono hB5.size)
  have hlt7 := ho7.lt
  have ho7V := ho7.below hb7V
  have ho6V : OwPr V v6 p F6 := ho6.below pinsS_loc hD7
  have y0 := by7.c0
  have y1 := by7.c1
  clear q0 q1 bx6 hb7
  go_wp2_with fail
  rw [← hV]
  clear hV
  refine (Himpl.out V _ A7 B7 c7 d7 (hg0.le (Le.below hBV)) ho6V.prgS0 ho6V.room ho7V.rep).mono ?_
  rintro e8 w8 ⟨A8, c8, rfl, hrow8, hb8⟩
  obtain ⟨F8, ho8, hn8, hF8⟩ := hrow8.ow qint_congr
  have hC8 := hCV.trans (hb8.mono hCV.size)
  have hD8 := hD7.trans (hb8.mono hD7.size)
  have hi8 : Ints w8 A8 c8 R := row_ints hrow8
  clear y0 y1 hrow8
  go_wp2_with fail
  refine (eqII_any R w8 A8 A5 c8 c5 hi8 (hi5.le (Le.below hC8))).mono ?_
  rintro e9 w9 ⟨rfl, hb9⟩
  have hC9 := hC8.trans (hb9.mono hC8.size)
  have hD9 := hD8.trans (hb9.mono hD8.size)
  have hB9 := hB5.trans (hC9.mono hB5.size)
  clear hi8
  go_wp2_with fail
  refine (toInsSS_any p hl Hls.out w9 Ap cp (PrgS.le hp0 (Le.below hB9))).mono ?_
  rintro e10 w10 ⟨v10, F10, rfl, ho10, _, _, hb10⟩
  have hD10 := hD9.trans (hb10.mono hD9.size)
  go_wp2_with fail
  refine (eqInsSS_any p _ _ _ (show OwPr w10 v6 p F6 from ho6.below pinsS_loc hD10).prgS0 ho10.prgS0).mono ?_
  rintro e11 w11 ⟨rfl, hb11⟩
  have hb911 := hb10.trans (hb11.mono hb10.size)
  have hb811 := hb9.trans (hb911.mono hb9.size)
  have hC11 := hC9.trans (hb911.mono hC9.size)
  have hD11 := hD9.trans (hb911.mono hD9.size)
  have hB11 := hB5.trans (hC11.mono hB5.size)
  have hbV11 := hb8.trans (hb811.mono hb8.size)
  have bx11 := bx0.le (Le.below hB11)
  have by11 := by7.le (Le.below hbV11)
  have hx11 := hx0.le (Le.below hB11)
  have ho711 : OwX w11 A7 c7 B7 d7 x F7a F7b := (ho7V.below hbV11)
  have hk11 := ho711.rep
  clear ho10 hb10 hb11 hC8 hD8 hC9 hD9 hB9 hb9 hb911
  go_wp2_with fail
  go_region_held3 (fun W => W.cell? ⟨w7.heap.size, 0, none⟩ = some (.slice A7 x.from_.length c7) ∧ W.cell? ⟨w7.heap.size, 1, none⟩ = some (.slice B7 x.order.length d7) ∧ W.cell? ⟨w.heap.size, 0, none⟩ = some (.slice A x.from_.length c) ∧ W.cell? ⟨w.heap.size, 1, none⟩ = some (.slice B x.order.length d))
    ((first | exact ⟨by11.c0, by11.c1, bx11.c0, bx11.c1⟩ | exact ⟨Le.below hb12 _ _ by11.c0, Le.below hb12 _ _ by11.c1, Le.below hb12 _ _ bx11.c0, Le.below hb12 _ _ bx11.c1⟩ | exact ⟨Le.below hb13 _ _ (Le.below hb12 _ _ by11.c0), Le.below hb13 _ _ (Le.below hb12 _ _ by11.c1), Le.below hb13 _ _ (Le.below hb12 _ _ bx11.c0), Le.below hb13 _ _ (Le.below hb12 _ _ bx11.c1)⟩))
    (first
      | (go_at_call 12; ((with_reducible refine (toX_any x hwx' _ A B c d (hx11.le (Le.drew _))).mono ?_); rintro e12 w12 ⟨A12, c12, B12, d12, rfl, hk12, hb12⟩))
      | (go_at_call 16; ((with_reducible refine (eqXX_any x _ A7 B7 A12 B12 c7 d7 c12 d12 (hk11.le ((Le.drew _).to_below hb12)) (hk12.le (Le.above _ _))).mono ?_); rintro e13 w13 ⟨rfl, hb13⟩)))
  have hb1113 := (below_of_drew hb12).trans (hb13.mono (below_of_drew hb12).size)
  have hC13 := hC11.trans (hb1113.mono hC11.size)
  have hD13 := hD11.trans (hb1113.mono hD11.size)
  have hb813 := hb811.trans (hb1113.mono hb811.size)
  have hbV13 := hbV11.trans (hb1113.mono hbV11.size)
  have ho613 : OwPr w13 v6 p F6 := ho6.below pinsS_loc hD13
  have ho713 : OwX w13 A7 c7 B7 d7 x F7a F7b := ho7V.below hbV13
  have ho813 : OwI1 w13 (.slice A8 R.length c8) R F8 := ho8.below (flat_loc qint_congr) hb813
  have by13 := by7.le (Le.below hbV13)
  have hlt8 := ho8.lt (flat_loc qint_congr)
  obtain ⟨M, hM⟩ : ∃ M : Nat, M = 1 + wSum wtIs p := ⟨_, rfl⟩
  have Mk1 : Hid (Calls Tryd.prog 17 #[v6, .int .i64 1] w13 (fun e w' => e = .returned (.int .i64 (M : Int)) ∧ MvO F6 w13 w')) := by
    rw [hM]
    exact (markInsSS_any p w13 v6 F6 1 ho613 hn6 (by omega)).mono fun e w' h => ⟨h.1, h.2.2⟩
  have hM1 : M ≤ 4 * 1048576 + 1 := by omega
  clear hb12 hb13 hb1113 hb811 hC11 hD11 hbV11 bx11 by11 hx11 ho711 hk11 hk12 hM hwt ho613
  go_wp2_with fail
  refine Mk1.out.mono ?_
  rintro e14 w14 ⟨rfl, m14⟩
  have hF67 : ∀ b, b ∈ F7a ++ F7b → b ∉ F6 := fun b h h6 => by have := hF7 b h; have := hlt6 b h6; omega
  have hF68 : ∀ b, b ∈ F8 → b ∉ F6 := fun b h h6 => by have := hF8 b h; have := hlt6 b h6; have := hD7.size; omega
  have ho714 : OwX w14 A7 c7 B7 d7 x F7a F7b := ho713.move fun b hm => m14.block b (ho713.lt b hm) (hF67 b hm)
  have ho814 : OwI1 w14 (.slice A8 R.length c8) R F8 := ho813.move (flat_loc qint_congr) fun b hm => m14.block b (ho813.lt (flat_loc qint_congr) b hm) (hF68 b hm)
  have z0 : w14.cell? ⟨w7.heap.size, 0, none⟩ = some (.slice A7 x.from_.length c7) := m14.cell by13.c0 fun h6 => by have h : w7.heap.size < w6.heap.size := hlt6 _ h6; omega
  have z1 : w14.cell? ⟨w7.heap.size, 1, none⟩ = some (.slice B7 x.order.length d7) := m14.cell by13.c1 fun h6 => by have h : w7.heap.size < w6.heap.size := hlt6 _ h6; omega
  have hC14 : Below w5.heap.size w5 w14 := hC13.trans (m14.below hF6 hC13.size)
  obtain ⟨N, hN⟩ : ∃ N : Nat, N = M + wtX x := ⟨_, rfl⟩
  have Mk2 : Hid (Calls Tryd.prog 18 #[.agg #[.slice A7 x.from_.length c7, .slice B7 x.order.length d7], .int .i64 M] w14 (fun e w' => e = .returned (.int .i64 (N : Int)) ∧ MvO (F7a ++ F7b) w14 w')) := by
    rw [hN]
    exact markX_any x w14 A7 B7 c7 d7 F7a F7b M ho714 hn7 (by omega)
  have bN : decide ((N : Int) < 0) = false := by rw [decide_eq_false_iff_not]; omega
  have hlx := hx0.1.len
  have hly := hx0.2.len
  clear Mk1 ho713 ho813 by13 hC13 hD13 hN ho714
  go_wp2_with fail
  refine Mk2.out.mono ?_
  rintro e15 w15 ⟨rfl, m15⟩
  have hF78 : ∀ b, b ∈ F8 → b ∉ F7a ++ F7b := fun b h h7 => by have := hF8 b h; have := hlt7 b h7; have := hb7V.size; omega
  have ho815 : OwI1 w15 (.slice A8 R.length c8) R F8 := ho814.move (flat_loc qint_congr) fun b hm => m15.block b (ho814.lt (flat_loc qint_congr) b hm) (hF78 b hm)
  have hC15 : Below w5.heap.size w5 w15 := hC14.trans (m15.below (fun b hm => Nat.le_trans hC6.size (hF7 b hm)) hC14.size)
  have hi815 : Ints w15 A8 c8 R := Ints.le (ho815.ints (B := 0) fun _ _ => Nat.zero_le _) (Le.above _ _)
  clear Mk2 ho814 hC14 z0 z1
  go_wp2_with fail
  refine (eqII_any R w15 A8 A5 c8 c5 hi815 (hi5.le (Le.below hC15))).mono ?_
  rintro e16 w16 ⟨rfl, hb16⟩
  have ho816 : OwI1 w16 (.slice A8 R.length c8) R F8 := ho815.below (flat_loc qint_congr) hb16
  have hC16 := hC15.trans (hb16.mono hC15.size)
  obtain ⟨Q, hQ⟩ : ∃ Q : Nat, Q = 1 + R.length := ⟨_, rfl⟩
  have bQ : decide ((Q : Int) < 0) = false := by rw [decide_eq_false_iff_not]; omega
  have Mk3 : Hid (Calls Tryd.prog 19 #[.slice A8 R.length c8, .int .i64 1] w16 (fun e w' => e = .returned (.int .i64 (Q : Int)) ∧ Ints w' A8 c8 (mkNs 1 R) ∧ MvO F8 w16 w')) := by
    rw [hQ]
    refine (markInts_any R w16 _ F8 1 ho816 hn8 (by omega)).mono fun e w' h => ⟨h.1, ?_, h.2.2⟩
    have hi := h.2.1.ints (B := 0) fun _ _ => Nat.zero_le _
    obtain ⟨A', c', e', _⟩ := SlR.slice hi
    rw [mkNs_length] at e'
    injection e' with e1 e2 e3
    subst e1 e3
    have := SlR.le' (fun _ _ _ _ _ h => h) hi (Le.above 0 w')
    unfold Ints
    rw [mkNs_length]
    exact this
  have Held : Hid (∀ w : World, Ints w A8 c8 (mkNs 1 R) → Calls Tryd.prog 20 #[.slice A8 R.length c8, .int .i64 1] w (RetHd w Q)) := fun w h => by
    rw [hQ]; exact heldInts_any R w A8 c8 1 h (by omega)
  clear hQ hi815 ho815 hC15 hb16 ho816
  go_wp2_with fail
  refine Mk3.out.mono ?_
  rintro e17 w17 ⟨rfl, hmk, m17⟩
  have hC17 : Below w5.heap.size w5 w17 := hC16.trans (m17.below (fun b hm => Nat.le_trans hCV.size (hF8 b hm)) hC16.size)
  clear Mk3 hC16
  go_wp2_with fail
  refine (Held.out w17 hmk).mono ?_
  rintro e18 w18 ⟨rfl, hb18⟩
  have hC18 := hC17.trans (hb18.mono hC17.size)
  have hB18 := hB5.trans (hC18.mono hB5.size)
  have bx18 := bx0.le (Le.below hB18)
  have hp18 := PrgS.le hp0 (Le.below hB18)
  have hx18 := hx0.le (Le.below hB18)
  have hg18 := hg0.le (Le.below hB18)
  go_wp2_with fail
  go_region_held3 (fun W => W.cell? ⟨w.heap.size, 0, none⟩ = some (.slice A x.from_.length c) ∧ W.cell? ⟨w.heap.size, 1, none⟩ = some (.slice B x.order.length d))
    ((first | exact ⟨bx18.c0, bx18.c1⟩ | exact ⟨Le.below hb19 _ _ bx18.c0, Le.below hb19 _ _ bx18.c1⟩ | exact ⟨Le.below hb20 _ _ (Le.below hb19 _ _ bx18.c0), Le.below hb20 _ _ (Le.below hb19 _ _ bx18.c1)⟩ | exact ⟨Le.below hb21 _ _ (Le.below hb20 _ _ (Le.below hb19 _ _ bx18.c0)), Le.below hb21 _ _ (Le.below hb20 _ _ (Le.below hb19 _ _ bx18.c1))⟩))
    (first
      | (go_at_call 11; ((with_reducible refine (toInsSS_any p hl Hls.out _ Ap cp (PrgS.le hp18 (Le.drew _))).mono ?_); rintro e19 w19 ⟨v19, F19, rfl, ho19, _, _, hb19⟩; have hr19 := ho19.room; have hs19 := ho19.prgS0))
      | (go_at_call 12; ((with_reducible refine (toX_any x hwx' _ A B c d (hx18.le ((Le.drew _).to_below hb19))).mono ?_); rintro e20 w20 ⟨A20, c20, B20, d20, rfl, hk20, hb20⟩))
      | (go_at_call 13; ((with_reducible refine (Himpl.out _ _ A20 B20 c20 d20 (hg18.le (((Le.drew _).to_below hb19).trans (Le.below hb20))) (PrgS.le hs19 (Le.below hb20)) (hr19.le hs19 (Le.below hb20)) (hk20.le (Le.above _ _))).mono ?_); rintro e21 w21 ⟨A21, c21, rfl, hrow21, hb21⟩)))
  have hd19 := below_of_drew hb19
  have hb1820 := hd19.trans (hb20.mono hd19.size)
  have hb1821 := hb1820.trans (hb21.mono hb1820.size)
  have hC21 := hC18.trans (hb1821.mono hC18.size)
  have hi21 : Ints w21 A21 c21 R := row_ints hrow21
  have hmk21 := (hmk.le (Le.below hb18)).le (Le.below hb1821)
  clear hb19 hb20 hb21 hd19 hb1820 hk20 ho19 hr19 hs19 hp18 hx18 bx18 hrow21
  go_wp2_with fail
  refine (eqII_any R w21 A21 A5 c21 c5 hi21 (hi5.le (Le.below hC21))).mono ?_
  rintro e22 w22 ⟨rfl, hb22⟩
  have hC22 := hC21.trans (hb22.mono hC21.size)
  clear hi21
  go_wp2_with fail
  refine (Held.out w22 (hmk21.le (Le.below hb22))).mono ?_
  rintro e23 w23 ⟨rfl, hb23⟩
  have hC23 := hC22.trans (hb23.mono hC22.size)
  have hB23 := hB5.trans (hC23.mono hB5.size)
  go_wp2_with fail
  go_ret
  exact ⟨rfl, hB.trans (hB23.mono hB.size)⟩

end Go.Proofs.YtfgpbnncdfcjjaaDoor
