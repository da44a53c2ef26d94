/-
  The walk of DrawExecValid: some program, some candidate.
-/
import Derived.Test.YtfgpbnncdfcjjaaGreatDoorImCV
import Derived.Test.YtfgpbnncdfcjjaaGreatDoorDr6
namespace Go.Proofs.YtfgpbnncdfcjjaaGreatDoor
open Go.RowKit
set_option linter.unusedVariables false
set_option maxRecDepth 100000

theorem wSum_le_mulD {α : Type} (f : α → Nat) (n : Nat) : ∀ xs : List α, (∀ x ∈ xs, f x ≤ n) → wSum f xs ≤ xs.length * n
  | [], _ => by simp [wSum]
  | x :: xs, h => by
    have h1 := h x (by simp)
    have h2 := wSum_le_mulD f n xs fun y hy => h y (List.mem_cons_of_mem _ hy)
    rw [wSum, List.length_cons, Nat.add_mul, Nat.one_mul]
    omega
def RetDCV (w : World) (e : Ending) (w' : World) : Prop := ∃ (pr : Prg) (x : Ex) (v : Value) (A : Option Addr) (c : Nat) (B : Option Addr) (d : Nat), e = .returned (.tuple #[v, .agg #[.slice A x.from_.length c, .slice B x.order.length d]]) ∧ PrgQ (above w.heap.size w') v pr ∧ RepX (above w.heap.size w') A c B d x ∧ Few 2000 2000 pr ∧ wX x ≤ 1048576 ∧ Below w.heap.size w w'
theorem szX_wX {n k : Nat} {x : Ex} (h : SzX n k x) (hn : n ≤ 100) : wX x ≤ 1048576 := by
  obtain ⟨_, h2, _, h4, h5⟩ := h
  have h6 : wSum List.length x.order ≤ x.order.length * 100 := wSum_le_mulD _ _ _ fun q hq => by have := h5 q hq; omega
  unfold wX
  omega
theorem cand_sz {p : Prg} {x : Ex} (h : CandOk p x) : SzX 15 2 x := by
  obtain ⟨hp, hf, ho⟩ := h
  have h3 := few3 hp
  have h1 := hf.1
  have h2 := h3.len
  have h4 := evs_length p
  have h5 := ho.1
  refine ⟨by omega, by omega, by omega, by omega, fun q hq => ?_⟩
  obtain ⟨l, hl, rfl⟩ := List.getElem_of_mem hq
  have h6 := (ho.2 l (by omega)).1.length_eq
  rw [show x.order.getD l [] = x.order[l] by simp [hl]] at h6
  have := h3.pm l (by omega)
  omega

set_option maxHeartbeats 4000000 in
theorem drawCV_any (w : World) (A : Option Addr) (n c : Nat) (h : Bys w A n) (hnc : n ≤ c) (hA : A = none → n = 0) : Calls Tryz.prog 102 #[.slice A n c] w (RetDCV w) := by
  have oR := Own.new w 27 #[.slice none 0 0, .slice none 0 0]
  have hop := open_any (w.alloc (.cells #[.slice none 0 0, .slice none 0 0] 27)) A n c (h.le (Le.alloc _ _)) hnc hA
  clear h
  go_enter Tryz.func102, Tryz.ntmps102
  go_wp2_with fail
  refine hop.mono ?_
  rintro e1 w1 ⟨R, rfl, hR, r1, hb1⟩
  simp only [World.size_alloc] at hR
  have o1 := oR.under hb1
  have hs1 := o1.lt
  have hB1 : Below w.heap.size w w1 := ((Below.refl _ _).alloc (Nat.le_refl _) _).trans (hb1.mono (by simp))
  have hd := draw6_any w1 R 0 (by omega) r1
  have hRl := r1.lt
  clear hop oR hb1 r1
  go_wp2_with fail
  refine hd.mono ?_
  rintro e2 w2 ⟨pr, x, v2, A2, c2, B2, d2, p2, rfl, hc, hps, hx, hfew, m2, r2, hp2⟩
  have o2 := o1.mv m2 (by omega)
  have hB2 : Below w.heap.size w w2 := hB1.trans (m2.below (by omega) hB1.size)
  have hsz := cand_sz hc
  have hsz := cand_sz hc
  have hps2 : PrgS (above w1.heap.size w2) v2 pr := hps.1
  have hx2 : RepX (above w1.heap.size w2) A2 c2 B2 d2 x := hx
  have hs2 := m2.size
  have oT := Own.new w2 27 #[.slice A2 x.from_.length c2, .slice B2 x.order.length d2]
  have t0 := oT.cell (i := 0) rfl
  obtain ⟨V, hV⟩ : ∃ V, V = w2.alloc (.cells #[.slice A2 x.from_.length c2, .slice B2 x.order.length d2] 27) := ⟨_, rfl⟩
  rw [← hV] at oT
  have oV : Own V w.heap.size 27 #[.slice none 0 0, .slice none 0 0] := by rw [hV]; exact o2.alloc _
  have rV : Rd V R p2 := by rw [hV]; exact r2.alloc _
  have hBV : Below w.heap.size w V := by rw [hV]; exact hB2.alloc hB2.size _
  have hpsV : PrgS (above w1.heap.size V) v2 pr := by rw [hV]; exact PrgS.le hps2 (Le.above_le _ (Le.alloc _ _))
  have hxV : RepX (above w1.heap.size V) A2 c2 B2 d2 x := by rw [hV]; exact hx2.le (Le.above_le _ (Le.alloc _ _))
  have hRV := rV.lt
  have hT : w2.heap.size < V.heap.size := oT.lt
  have u0 := oT.cell (i := 0) rfl
  have u1 := oT.cell (i := 1) rfl
  clear hd m2 r2 o1 o2 hps hx hps2 hx2 hB2 hB1 t0
  have HrV := Lib.hid rV
  have HpsV := Lib.hid hpsV
  have HxV := Lib.hid hxV
  have HT := Lib.hid oT
  have HoV := Lib.hid oV
  have Hsz := Lib.hid hsz
  have Hfew := Lib.hid hfew
  have HBV := Lib.hid hBV
  have hTR : w2.heap.size ≠ R := by omega
  have hwR : w.heap.size ≠ R := by omega
  have hwR' : w.heap.size ≤ R := by omega
  clear rV hpsV hxV oT oV hsz hfew hBV hc
  go_wp2_with fail
  try rw [← hV]
  clear hV
  go_region_law (first
    | (go_simp; go_at_call 154; ((with_reducible refine (mutP_any _ R p2 _ pr (by omega) ?_ ?_ ?_).mono ?_); exact HrV.out.drew; exact PrgS.le HpsV.out ((Le.above _ _).to_drew); exact Hfew.out.mono (by omega) (by omega); rintro e5 w5 ⟨pr5, v5, p5, rfl, hps5, hfew5, m5', r5, hp5⟩; have m5 : Mv R V w5 := ((Mv.refl R V).drew).trans m5'; have o5 := HT.out.mv m5 hTR; have k50 := o5.cell (i := 0) rfl; have k51 := o5.cell (i := 1) rfl; have l5 := o5.lt); go_wp2_with fail)
    | (go_simp; go_at_call 58; ((with_reducible refine (mut6_any _ R p5 15 (by omega) x Hsz.out (by omega) ?_ A2 B2 c2 d2 ?_).mono ?_); exact r5; exact HxV.out.le ((Le.above_mv m5 (by omega)).trans (Le.above _ _)); rintro e6 w6 ⟨x6, A6, c6, B6, d6, p6, rfl, hsz6, hx6, m6, r6, hp6⟩; have m6' := m5.trans m6; have o6 := HoV.out.mv m6' hwR; have k60 := o6.cell (i := 0) rfl; have k61 := o6.cell (i := 1) rfl; have k62 := o6.frozen 0; have k63 := o6.frozen 1; have l6 := o6.lt); go_wp2_with fail))
  all_goals
    go_wp2_with fail
    refine bodyPost_ret (v := .tuple #[v5, .agg #[.slice A6 x6.from_.length c6, .slice B6 x6.order.length d6]]) (by simp [results, Tryz.results102, go_sem, k60, k61]) rfl ?_
    have hs5 := m5.size
    have hle : Le (above (w.heap.size + 1) w6) (above w.heap.size ((w6.setCell ⟨w.heap.size, 0, none⟩ (.slice A6 x6.from_.length c6)).setCell ⟨w.heap.size, 1, none⟩ (.slice B6 x6.order.length d6))) := (((Le.refl _).to_above_setCell (by simp)).to_above_setCell (by simp)).trans (Le.above_mono (by omega) _)
    have hRd : R < V.drew.heap.size := hRV
    have hwd : w.heap.size + 1 ≤ V.drew.heap.size := by show w.heap.size + 1 ≤ V.heap.size; omega
    exact ⟨pr5, x6, v5, A6, c6, B6, d6, rfl, PrgQ.le hps5 (((Le.above_mv m6 hRd).trans (Le.above_mono hwd _)).trans hle), hx6.le ((Le.above_mono (by omega) _).trans hle), hfew5, szX_wX hsz6 (by omega), ((HBV.out.trans (m6'.below hwR' HBV.out.size)).setCell (by simp) _).setCell (by simp) _⟩

end Go.Proofs.YtfgpbnncdfcjjaaGreatDoor
