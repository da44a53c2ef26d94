/-
  The walk of l1Instr: some instruction.
-/
import Derived.Test.YtpadkallejfdlaaDp3
import Derived.Test.YtpadkallejfdlaaThr
import Derived.Test.YtpadkallejfdlaaRd
namespace Go.Proofs.Ytpadkallejfdlaa
open Go.RowKit
set_option linter.unusedVariables false
set_option maxRecDepth 100000

def RetI1 (w : World) (R p : Nat) (e : Ending) (w' : World) : Prop := ∃ (x : Ins) (p' : Nat), e = .returned (.agg #[.int .i64 x.op, .int .i64 x.loc, .int .i64 x.reg, .int .i64 x.val]) ∧ Mv R w w' ∧ Rd w' R p' ∧ p' ≤ p + 10
theorem RetI1.fin {w V : World} {R p p' : Nat} {a b c d : Int} {v0 v1 v2 v3 : Value} (hR : R < w.heap.size) (m : Mv R w V) (r : Rd V R p') (hp : p' ≤ p + 10) :
    RetI1 w R p (.returned (.agg #[.int .i64 a, .int .i64 b, .int .i64 c, .int .i64 d])) ((((V.setCell ⟨w.heap.size, 0, none⟩ v0).setCell ⟨w.heap.size, 1, none⟩ v1).setCell ⟨w.heap.size, 2, none⟩ v2).setCell ⟨w.heap.size, 3, none⟩ v3) :=
  ⟨⟨a, b, c, d⟩, p', rfl, (((m.setNew (Nat.le_refl _) _).setNew (Nat.le_refl _) _).setNew (Nat.le_refl _) _).setNew (Nat.le_refl _) _, (((r.setNew hR _).setNew hR _).setNew hR _).setNew hR _, hp⟩
theorem Own.res4 {w : World} {b : Nat} {t : TypeId} {v0 v1 v2 v3 : Value} (h : Own w b t #[v0, v1, v2, v3]) : w.cell? ⟨b, 0, none⟩ = some v0 ∧ w.cell? ⟨b, 1, none⟩ = some v1 ∧ w.cell? ⟨b, 2, none⟩ = some v2 ∧ w.cell? ⟨b, 3, none⟩ = some v3 ∧ w.frozen? ⟨b, 0, none⟩ = false ∧ w.frozen? ⟨b, 1, none⟩ = false ∧ w.frozen? ⟨b, 2, none⟩ = false ∧ w.frozen? ⟨b, 3, none⟩ = false ∧ b < w.heap.size :=
  ⟨h.cell rfl, h.cell rfl, h.cell rfl, h.cell rfl, h.frozen 0, h.frozen 1, h.frozen 2, h.frozen 3, h.lt⟩

set_option maxHeartbeats 2000000 in
theorem instr_any (w : World) (R p : Nat) (hp : p ≤ 1000000000) (hr : Rd w R p) : Calls Try.prog 102 #[.pointer (some ⟨R, 0, none⟩)] w (RetI1 w R p) := by
  have hR := hr.lt
  have rb := Own.new w 65 #[.int .i64 0, .int .i64 0, .int .i64 0, .int .i64 0]
  have hr0 := hr.alloc (.cells #[.int .i64 0, .int .i64 0, .int .i64 0, .int .i64 0] 65)
  have hm0 := (Mv.refl R w).alloc (.cells #[.int .i64 0, .int .i64 0, .int .i64 0, .int .i64 0] 65)
  have hpk := pick_any _ R p 2 (by omega) hr0
  go_enter Try.func102, Try.ntmps102
  go_wp2_with fail
  refine hpk.mono ?_
  rintro e1 w1 ⟨loc, rfl, _, _, m1, r1⟩
  have hm1 := hm0.trans m1
  have rb1 := rb.mv m1 (by omega)
  have hpk := pick_any _ R (p + 1) 7 (by omega) r1
  clear m1 r1 hm0 hr0 rb hr
  go_wp2_with fail
  refine hpk.mono ?_
  rintro e2 w2 ⟨k, rfl, hk0, hk1, m2, r2⟩
  have hm2 := hm1.trans m2
  have rb2 := rb1.mv m2 (by omega)
  have hk7 : k < 7 := hk1 (by omega)
  have hl2 := rb2.lt
  clear hpk m2 hm1 rb1 hk1
  have hcase : k = 0 ∨ k = 1 ∨ k = 2 ∨ k = 3 ∨ k = 4 ∨ k = 5 ∨ k = 6 := by omega
  rcases hcase with rfl | rfl | rfl | rfl | rfl | rfl | rfl
  · obtain ⟨c0, c1, c2, c3, f0, f1, f2, f3, fl⟩ := rb2.res4
    go_wp2_with fail
    refine bodyPost_ret (v := .agg #[.int .i64 4, .int .i64 0, .int .i64 0, .int .i64 0]) (by simp [results, Try.results102, go_sem, c0, c1, c2, c3]) rfl ?_
    exact RetI1.fin hR hm2 r2 (by omega)
  · have hpk := pick_any _ R (p + 1 + 1) 2 (by omega) r2
    go_wp2_with fail
    refine hpk.mono ?_
    rintro e3 w3 ⟨a, rfl, ha0, ha1, m3, r3⟩
    have hm3 := hm2.trans m3
    have rb3 := rb2.mv m3 (by omega)
    have ha2 : a < 2 := ha1 (by omega)
    clear hpk m3 ha1
    obtain ⟨c0, c1, c2, c3, f0, f1, f2, f3, fl⟩ := rb3.res4
    go_wp2_with fail
    refine bodyPost_ret (v := .agg #[.int .i64 3, .int .i64 loc, .int .i64 a, .int .i64 0]) (by simp [results, Try.results102, go_sem, c0, c1, c2, c3]) rfl ?_
    exact RetI1.fin hR hm3 r3 (by omega)
  · have hpk := pick_any _ R (p + 1 + 1) 2 (by omega) r2
    go_wp2_with fail
    refine hpk.mono ?_
    rintro e3 w3 ⟨a, rfl, ha0, ha1, m3, r3⟩
    have hm3 := hm2.trans m3
    have rb3 := rb2.mv m3 (by omega)
    have ha2 : a < 2 := ha1 (by omega)
    clear hpk m3 ha1
    have hpk := pick_any _ R (p + 1 + 1 + 1) 3 (by omega) r3
    go_wp2_with fail
    refine hpk.mono ?_
    rintro e4 w4 ⟨b, rfl, hb0, hb1, m4, r4⟩
    have hm4 := hm3.trans m4
    have rb4 := rb3.mv m4 (by omega)
    have hb2 : b < 3 := hb1 (by omega)
    clear hpk m4 hb1
    obtain ⟨c0, c1, c2, c3, f0, f1, f2, f3, fl⟩ := rb4.res4
    go_wp2_with fail
    refine bodyPost_ret (v := .agg #[.int .i64 5, .int .i64 loc, .int .i64 a, .int .i64 (1 + b)]) (by simp [results, Try.results102, go_sem, c0, c1, c2, c3]) rfl ?_
    exact RetI1.fin hR hm4 r4 (by omega)
  · have hpk := pick_any _ R (p + 1 + 1) 3 (by omega) r2
    go_wp2_with fail
    refine hpk.mono ?_
    rintro e3 w3 ⟨b, rfl, hb0, hb1, m3, r3⟩
    have hm3 := hm2.trans m3
    have rb3 := rb2.mv m3 (by omega)
    have hb2 : b < 3 := hb1 (by omega)
    clear hpk m3 hb1
    obtain ⟨c0, c1, c2, c3, f0, f1, f2, f3, fl⟩ := rb3.res4
    go_wp2_with fail
    refine bodyPost_ret (v := .agg #[.int .i64 2, .int .i64 loc, .int .i64 0, .int .i64 (1 + b)]) (by simp [results, Try.results102, go_sem, c0, c1, c2, c3]) rfl ?_
    exact RetI1.fin hR hm3 r3 (by omega)
  · have hpk := pick_any _ R (p + 1 + 1) 3 (by omega) r2
    go_wp2_with fail
    refine hpk.mono ?_
    rintro e3 w3 ⟨b, rfl, hb0, hb1, m3, r3⟩
    have hm3 := hm2.trans m3
    have rb3 := rb2.mv m3 (by omega)
    have hb2 : b < 3 := hb1 (by omega)
    clear hpk m3 hb1
    obtain ⟨c0, c1, c2, c3, f0, f1, f2, f3, fl⟩ := rb3.res4
    go_wp2_with fail
    refine bodyPost_ret (v := .agg #[.int .i64 2, .int .i64 loc, .int .i64 0, .int .i64 (1 + b)]) (by simp [results, Try.results102, go_sem, c0, c1, c2, c3]) rfl ?_
    exact RetI1.fin hR hm3 r3 (by omega)
  · have hpk := pick_any _ R (p + 1 + 1) 2 (by omega) r2
    go_wp2_with fail
    refine hpk.mono ?_
    rintro e3 w3 ⟨a, rfl, ha0, ha1, m3, r3⟩
    have hm3 := hm2.trans m3
    have rb3 := rb2.mv m3 (by omega)
    have ha2 : a < 2 := ha1 (by omega)
    clear hpk m3 ha1
    obtain ⟨c0, c1, c2, c3, f0, f1, f2, f3, fl⟩ := rb3.res4
    go_wp2_with fail
    refine bodyPost_ret (v := .agg #[.int .i64 1, .int .i64 loc, .int .i64 a, .int .i64 0]) (by simp [results, Try.results102, go_sem, c0, c1, c2, c3]) rfl ?_
    exact RetI1.fin hR hm3 r3 (by omega)
  · have hpk := pick_any _ R (p + 1 + 1) 2 (by omega) r2
    go_wp2_with fail
    refine hpk.mono ?_
    rintro e3 w3 ⟨a, rfl, ha0, ha1, m3, r3⟩
    have hm3 := hm2.trans m3
    have rb3 := rb2.mv m3 (by omega)
    have ha2 : a < 2 := ha1 (by omega)
    clear hpk m3 ha1
    obtain ⟨c0, c1, c2, c3, f0, f1, f2, f3, fl⟩ := rb3.res4
    go_wp2_with fail
    refine bodyPost_ret (v := .agg #[.int .i64 1, .int .i64 loc, .int .i64 a, .int .i64 0]) (by simp [results, Try.results102, go_sem, c0, c1, c2, c3]) rfl ?_
    exact RetI1.fin hR hm3 r3 (by omega)

end Go.Proofs.Ytpadkallejfdlaa
