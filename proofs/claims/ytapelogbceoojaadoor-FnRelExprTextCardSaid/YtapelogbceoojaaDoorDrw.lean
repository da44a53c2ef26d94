/-
  The walks of DrawRelExprValid, DrawFormatRelExpr, DrawRelExprSame.
-/
import Derived.Test.YtapelogbceoojaaDoorMut2
import Derived.Deep.RegionWith
namespace Go.Proofs.YtapelogbceoojaaDoor
open Go.RowKit
set_option linter.unusedVariables false
set_option maxRecDepth 100000

/-- One expression that was drawn. -/
def RetDr (w : World) (e : Ending) (w' : World) : Prop :=
  ∃ (x : RE) (A : Option Addr) (c : Nat), e = .returned (.agg #[.int .i64 x.op, .string x.name, .slice A x.kids.length c]) ∧ RepK (above w.heap.size w') A c x ∧ cntE x ≤ 100 ∧ x.name.size ≤ 300 ∧ Below w.heap.size w w'

theorem le_res3 {V : World} {R B : Nat} (h : B ≤ R) (v0 v1 v2 : Value) (m : Nat) (hm : m ≤ R + 1) : Le (above (R + 1) V) (above m (((V.setCell ⟨B, 0, none⟩ v0).setCell ⟨B, 1, none⟩ v1).setCell ⟨B, 2, none⟩ v2)) :=
  (((Le.above_setCell _ _ (p := ⟨B, 0, none⟩) (by show B < R + 1; omega) _).trans (Le.above_setCell _ _ (p := ⟨B, 1, none⟩) (by show B < R + 1; omega) _)).trans (Le.above_setCell _ _ (p := ⟨B, 2, none⟩) (by show B < R + 1; omega) _)).trans (Le.above_mono hm _)
theorem cntE_kids' (e : RE) : cntE e = 1 + cntL e.kids := by obtain ⟨op, name, kids⟩ := e; rw [cntE]; rfl
theorem cnt_kids (xs : List RE) : xs.length ≤ cntL xs := by
  induction xs with
  | nil => simp [cntL]
  | cons e es ih => rw [cntL, List.length_cons]; have := cntE_kids' e; omega
theorem OwE.rep_above {w : World} {A : Option Addr} {c R : Nat} {x : RE} {F : List Nat} (h : OwE w (.slice A x.kids.length c) x.kids F) (hn : x.name.size ≤ 300) (hF : ∀ b ∈ F, R + 1 ≤ b) : RepK (above (R + 1) w) A c x := ⟨by omega, h.rep hF⟩

set_option maxHeartbeats 1000000 in
theorem drawValid_any (w : World) (A : Option Addr) (n c : Nat) (h : Bys w A n) (hnc : n ≤ c) (hA : A = none → n = 0) : Calls Tryd.prog 66 #[.slice A n c] w (RetDr w) := by
  obtain ⟨W, hW⟩ : ∃ W, W = w.alloc (.cells #[.int .i64 0, .string ⟨#[]⟩, .slice none 0 0] 29) := ⟨_, rfl⟩
  have hsW : W.heap.size = w.heap.size + 1 := by rw [hW]; simp
  have rbW : Own W w.heap.size 29 #[.int .i64 0, .string ⟨#[]⟩, .slice none 0 0] := by rw [hW]; exact Own.new _ _ _
  have hbW : Below w.heap.size w W := by rw [hW]; exact (Below.refl _ _).alloc (Nat.le_refl _) _
  have hop := open_any W A n c (h.le (Le.below hbW)) hnc hA
  clear h
  go_enter Tryd.func66, Tryd.ntmps66
  go_wp2_with fail
  rw [← hW]
  refine hop.mono ?_
  rintro e1 w1 ⟨R, rfl, hR, rd1, hb1⟩
  have hR1 := rd1.lt
  have rb1 := rbW.under hb1
  have hB1 : Below w.heap.size w w1 := hbW.trans (hb1.mono (by omega))
  clear hop rbW hW hb1 hbW
  go_wp2_with fail
  refine (some_any w1 R 0 (by omega) rd1).mono ?_
  rintro e2 w2 ⟨x, A2, c2, F, p2, rfl, ho, hF, hsh, hcn, m2, rd2, hp2⟩
  have hx := ho.rep_above hsh.name_le (R := R) (fun b hb => by have := hF b hb; omega)
  have hck := cntE_kids' x
  have hkl := cnt_kids x.kids
  have rb2 := rb1.mv m2 (by omega)
  have hB2 : Below w.heap.size w w2 := hB1.trans (m2.below (by omega) hB1.size)
  have hmut := mutate_any w2 R p2 x A2 c2 (by omega) rd2 hx hsh.name_le (by omega)
  clear ho hF hsh m2 rd2 rb1 hB1 rd1 hx
  go_wp2_with fail
  refine hmut.mono ?_
  rintro e3 w3 ⟨y, A3, c3, p3, rfl, hy, hn3, hk3, hc3, m3, rd3, hp3⟩
  obtain ⟨r0, r1, r2, g0, g1, g2, rl⟩ := (rb2.mv m3 (by omega)).res'
  have hB3 : Below w.heap.size w w3 := hB2.trans (m3.below (by omega) hB2.size)
  clear hmut m3 rd3 rb2 hB2
  go_wp2_with fail
  refine bodyPost_ret (v := .agg #[.int .i64 y.op, .string y.name, .slice A3 y.kids.length c3]) (by simp [results, Tryd.results66, go_sem, r0, r1, r2]) rfl ?_
  exact ⟨y, A3, c3, rfl, hy.le (le_res3 (by omega) _ _ _ _ (by omega)), by omega, hn3, ((hB3.setCell (Nat.le_refl _) _).setCell (Nat.le_refl _) _).setCell (Nat.le_refl _) _⟩

set_option maxHeartbeats 400000 in
theorem drawFormat_any (w : World) (A : Option Addr) (n c : Nat) (h : Bys w A n) (hnc : n ≤ c) (hA : A = none → n = 0) : Calls Tryd.prog 32 #[.slice A n c] w (RetDr w) := by
  obtain ⟨W, hW⟩ : ∃ W, W = w.alloc (.cells #[.int .i64 0, .string ⟨#[]⟩, .slice none 0 0] 29) := ⟨_, rfl⟩
  have hsW : W.heap.size = w.heap.size + 1 := by rw [hW]; simp
  have rbW : Own W w.heap.size 29 #[.int .i64 0, .string ⟨#[]⟩, .slice none 0 0] := by rw [hW]; exact Own.new _ _ _
  have hbW : Below w.heap.size w W := by rw [hW]; exact (Below.refl _ _).alloc (Nat.le_refl _) _
  have hop := drawValid_any W A n c (h.le (Le.below hbW)) hnc hA
  clear h
  go_enter Tryd.func32, Tryd.ntmps32
  go_wp2_with fail
  rw [← hW]
  refine hop.mono ?_
  rintro e1 w1 ⟨y, A3, c3, rfl, hy, hc3, hn3, hb1⟩
  obtain ⟨r0, r1, r2, g0, g1, g2, rl⟩ := (rbW.under hb1).res'
  have hB1 : Below w.heap.size w w1 := hbW.trans (hb1.mono (by omega))
  rw [hsW] at hy
  clear hop rbW hW hb1 hbW
  go_wp2_with fail
  refine bodyPost_ret (v := .agg #[.int .i64 y.op, .string y.name, .slice A3 y.kids.length c3]) (by simp [results, Tryd.results32, go_sem, r0, r1, r2]) rfl ?_
  exact ⟨y, A3, c3, rfl, hy.le (le_res3 (Nat.le_refl _) _ _ _ _ (by omega)), by omega, hn3, ((hB1.setCell (Nat.le_refl _) _).setCell (Nat.le_refl _) _).setCell (Nat.le_refl _) _⟩

/-- Two expressions that were drawn. -/
def RetDr2 (w : World) (e : Ending) (w' : World) : Prop :=
  ∃ (x y : RE) (A A' : Option Addr) (c c' : Nat), e = .returned (.tuple #[.agg #[.int .i64 x.op, .string x.name, .slice A x.kids.length c], .agg #[.int .i64 y.op, .string y.name, .slice A' y.kids.length c']]) ∧ RepK (above w.heap.size w') A c x ∧ RepK (above w.heap.size w') A' c' y ∧ Below w.heap.size w w'

set_option maxHeartbeats 8000000 in
theorem drawSame_any (w : World) (A : Option Addr) (n c : Nat) (h : Bys w A n) (hnc : n ≤ c) (hA : A = none → n = 0) : Calls Tryd.prog 18 #[.slice A n c] w (RetDr2 w) := by
  obtain ⟨W, hW⟩ : ∃ W, W = (w.alloc (.cells #[.int .i64 0, .string ⟨#[]⟩, .slice none 0 0] 29)).alloc (.cells #[.int .i64 0, .string ⟨#[]⟩, .slice none 0 0] 29) := ⟨_, rfl⟩
  have hsW : W.heap.size = w.heap.size + 2 := by rw [hW]; simp
  have raW : Own W w.heap.size 29 #[.int .i64 0, .string ⟨#[]⟩, .slice none 0 0] := by rw [hW]; exact (Own.new _ _ _).alloc _
  have rbW : Own W (w.heap.size + 1) 29 #[.int .i64 0, .string ⟨#[]⟩, .slice none 0 0] := by
    have h := Own.new (w.alloc (.cells #[.int .i64 0, .string ⟨#[]⟩, .slice none 0 0] 29)) 29 #[.int .i64 0, .string ⟨#[]⟩, .slice none 0 0]
    rw [World.size_alloc, ← hW] at h
    exact h
  have hbW : Below w.heap.size w W := by rw [hW]; exact ((Below.refl _ _).alloc (Nat.le_refl _) _).alloc (by simp) _
  have hop := open_any W A n c (h.le (Le.below hbW)) hnc hA
  clear h
  go_enter Tryd.func18, Tryd.ntmps18
  go_wp2_with fail
  rw [← hW]
  refine hop.mono ?_
  rintro e1 w1 ⟨R, rfl, hR, rd1, hb1⟩
  have hR1 := rd1.lt
  have ra1 := raW.under hb1
  have rb1 := rbW.under hb1
  have hB1 : Below w.heap.size w w1 := hbW.trans (hb1.mono (by omega))
  clear hop raW rbW hW hb1 hbW
  go_wp2_with fail
  refine (some_any w1 R 0 (by omega) rd1).mono ?_
  rintro e2 w2 ⟨x, A2, c2, F, p2, rfl, ho, hF, hsh, hcn, m2, rd2, hp2⟩
  have hs2 := m2.size
  have hx0 := ho.rep_above hsh.name_le (R := R) (fun b hb => by have := hF b hb; omega)
  have hnx := hsh.name_le
  have hck := cntE_kids' x
  have hkl := cnt_kids x.kids
  have ra2 := (ra1.mv m2 (by omega)).alloc (.cells #[.int .i64 x.op, .string x.name, .slice A2 x.kids.length c2] 29)
  have rb2 := (rb1.mv m2 (by omega)).alloc (.cells #[.int .i64 x.op, .string x.name, .slice A2 x.kids.length c2] 29)
  have hB2 : Below w.heap.size w w2 := hB1.trans (m2.below (by omega) hB1.size)
  have hB2' := hB2.alloc hB2.size (.cells #[.int .i64 x.op, .string x.name, .slice A2 x.kids.length c2] 29)
  have bx := Own.new w2 29 #[.int .i64 x.op, .string x.name, .slice A2 x.kids.length c2]
  have rd2' := rd2.alloc (.cells #[.int .i64 x.op, .string x.name, .slice A2 x.kids.length c2] 29)
  have hx2 : RepK (above (R + 1) (w2.alloc (.cells #[.int .i64 x.op, .string x.name, .slice A2 x.kids.length c2] 29))) A2 c2 x := hx0.le (Le.above_le _ (Le.alloc _ _))
  have hpk := pick_any _ R p2 2 (by omega) rd2'
  clear ho hF hsh m2 rd2 ra1 rb1 hB1 rd1 hx0 rd2' hB2
  go_wp2_with fail
  refine hpk.mono ?_
  rintro e3 w3 ⟨k, rfl, _, _, m3, rd3⟩
  have hs3 := m3.size
  have bx3 := bx.mv m3 (by omega)
  have ra3 := ra2.mv m3 (by omega)
  have rb3 := rb2.mv m3 (by omega)
  have hx3 := hx2.le m3.above
  have hB3 : Below w.heap.size w w3 := hB2'.trans (m3.below (by omega) hB2'.size)
  obtain ⟨x0, x1, x2, _, _, _, xl⟩ := bx3.res'
  rw [World.size_alloc] at hs3
  have Bx3 := Lib.hid bx3
  have Ra3 := Lib.hid ra3
  have Rb3 := Lib.hid rb3
  have Hx3 := Lib.hid hx3
  have HB3 := Lib.hid hB3
  have Rd3 := Lib.hid rd3
  clear hpk m3 bx ra2 rb2 hx2 hB2' bx3 ra3 rb3 hx3 hB3 rd3
  have nB : w.heap.size ≠ w.heap.size + 1 := by omega
  have nB' : w.heap.size + 1 ≠ w.heap.size := by omega
  have hsW2 : w.heap.size + 1 < w2.heap.size := by omega
  by_cases hk : k = 0
  · subst hk
    go_wp2_with fail
    have hsome := fun (V : World) (hV : Rd V R (p2 + 1)) => some_any V R (p2 + 1) (by omega) hV
    have Hsome := Lib.hid hsome
    clear hsome
    go_region_with
      (first | (go_at_call 50; ((with_reducible refine (Hsome.out _ ?_).mono ?_); (exact Rd3.out.drew); rintro e4 w4 ⟨y, A4, c4, F4, p4, rfl, ho4, hF4, hsh4, hcn4, m4, rd4, hp4⟩; obtain ⟨y0, y1, y2, _, _, _, yl⟩ := Own.res' (Own.mv (b := w2.heap.size) Bx3.out.drew m4 (by omega)); obtain ⟨a0, a1, a2, f0, f1, f2, al⟩ := Own.res' (Own.mv (b := w.heap.size) Ra3.out.drew m4 (by omega)); obtain ⟨b0, b1, b2, g0, g1, g2, bl⟩ := Own.res' (Own.mv (b := w.heap.size + 1) Rb3.out.drew m4 (by omega)))))
    all_goals
      have hy4 : RepK (above (R + 1) w4) A4 c4 y := ho4.rep_above hsh4.name_le (fun b hb => by have : w3.heap.size ≤ b := hF4 b hb; omega)
      have hx4 : RepK (above (R + 1) w4) A2 c2 x := Hx3.out.le (show Le (above (R + 1) w3.drew) (above (R + 1) w4) from m4.above)
      have hB4 : Below w.heap.size w w4 := (show Below w.heap.size w w3.drew from HB3.out.drew).trans (m4.below (by omega) (by have := HB3.out.size; exact this))
      go_wp2_with fail
      refine bodyPost_ret (v := .tuple #[.agg #[.int .i64 x.op, .string x.name, .slice A2 x.kids.length c2], .agg #[.int .i64 y.op, .string y.name, .slice A4 y.kids.length c4]]) (by simp [results, Tryd.results18, go_sem, a0, a1, a2, b0, b1, b2]) rfl ?_
      exact ⟨x, y, A2, A4, c2, c4, rfl, (hx4.le (le_res3 (by omega) _ _ _ _ (Nat.le_refl _))).le (le_res3 (by omega) _ _ _ _ (by omega)), (hy4.le (le_res3 (by omega) _ _ _ _ (Nat.le_refl _))).le (le_res3 (by omega) _ _ _ _ (by omega)),
        (((((hB4.setCell (Nat.le_refl _) _).setCell (Nat.le_refl _) _).setCell (Nat.le_refl _) _).setCell (by show w.heap.size ≤ w.heap.size + 1; omega) _).setCell (by show w.heap.size ≤ w.heap.size + 1; omega) _).setCell (by show w.heap.size ≤ w.heap.size + 1; omega) _⟩
  · have bk : (k == 0) = false := by rw [beq_eq_false_iff_ne]; exact hk
    clear hk
    go_wp2_with fail
    have hm1 := fun (V : World) (hV : V = w3.drew) => mutate_any V R (p2 + 1) x A2 c2 (by omega) (by rw [hV]; exact Rd3.out.drew) (by rw [hV]; exact Hx3.out.le (Le.above_le _ (Le.drew _))) hnx (by omega)
    have Hm1 := Lib.hid hm1
    clear hm1
    go_region_with
      (first
        | (go_at_call 52; ((with_reducible refine (Hm1.out _ rfl).mono ?_); rintro e6 w6 ⟨y, A6, c6, p6, rfl, hy6, hn6, hk6, hc6, m6, rd6, hp6⟩; obtain ⟨y06, y16, y26, _, _, _, yl6⟩ := Own.res' (Own.mv (b := w2.heap.size) Bx3.out.drew m6 (by omega)); have RA6 := Own.mv (b := w.heap.size) Ra3.out.drew m6 (by omega); have RB6 := Own.mv (b := w.heap.size + 1) Rb3.out.drew m6 (by omega); have BX6 := Own.mv (b := w2.heap.size) Bx3.out.drew m6 (by omega); obtain ⟨a06, a16, a26, f06, f16, f26, al6⟩ := Own.res' RA6; obtain ⟨b06, b16, b26, g06, g16, g26, bl6⟩ := Own.res' RB6; have RAH6 := Lib.hid RA6; have RBH6 := Lib.hid RB6; have BXH6 := Lib.hid BX6; clear RA6 RB6 BX6))
        | (go_at_call 52; ((with_reducible refine (mutate_any w6 R p6 y A6 c6 (by omega) rd6 hy6 hn6 (by omega)).mono ?_); rintro e7 w7 ⟨z, A7, c7, p7, rfl, hz7, hn7, hk7, hc7, m7, rd7, hp7⟩; obtain ⟨y07, y17, y27, _, _, _, yl7⟩ := Own.res' (Own.mv (b := w2.heap.size) BXH6.out m7 (by omega)); have RA7 := Own.mv (b := w.heap.size) RAH6.out m7 (by omega); have RB7 := Own.mv (b := w.heap.size + 1) RBH6.out m7 (by omega); have BX7 := Own.mv (b := w2.heap.size) BXH6.out m7 (by omega); obtain ⟨a07, a17, a27, f07, f17, f27, al7⟩ := Own.res' RA7; obtain ⟨b07, b17, b27, g07, g17, g27, bl7⟩ := Own.res' RB7; have RAH7 := Lib.hid RA7; have RBH7 := Lib.hid RB7; have BXH7 := Lib.hid BX7; clear RA7 RB7 BX7)))
    all_goals
      have hx7 : RepK (above (R + 1) w7) A2 c2 x := (Hx3.out.le (show Le (above (R + 1) w3.drew) (above (R + 1) w6) from m6.above)).le m7.above
      have hB6 : Below w.heap.size w w6 := (show Below w.heap.size w w3.drew from HB3.out.drew).trans (m6.below (by omega) (by have := HB3.out.size; exact this))
      have hB7 : Below w.heap.size w w7 := hB6.trans (m7.below (by omega) hB6.size)
      clear hy6 m6 rd6 m7 rd7
      go_wp2_with fail
      refine bodyPost_ret (v := .tuple #[.agg #[.int .i64 x.op, .string x.name, .slice A2 x.kids.length c2], .agg #[.int .i64 z.op, .string z.name, .slice A7 z.kids.length c7]]) (by simp [results, Tryd.results18, go_sem, a07, a17, a27, b07, b17, b27]) rfl ?_
      exact ⟨x, z, A2, A7, c2, c7, rfl, (hx7.le (le_res3 (by omega) _ _ _ _ (Nat.le_refl _))).le (le_res3 (by omega) _ _ _ _ (by omega)), (hz7.le (le_res3 (by omega) _ _ _ _ (Nat.le_refl _))).le (le_res3 (by omega) _ _ _ _ (by omega)),
        (((((hB7.setCell (Nat.le_refl _) _).setCell (Nat.le_refl _) _).setCell (Nat.le_refl _) _).setCell (by show w.heap.size ≤ w.heap.size + 1; omega) _).setCell (by show w.heap.size ≤ w.heap.size + 1; omega) _).setCell (by show w.heap.size ≤ w.heap.size + 1; omega) _⟩

end Go.Proofs.YtapelogbceoojaaDoor
