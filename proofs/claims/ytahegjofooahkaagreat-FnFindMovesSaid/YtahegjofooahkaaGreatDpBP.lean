/-
  The walk of l1Instr: some instruction. The walk of spec.ParseProgram, as far as draws want it: some program of few threads and instructions. The walk of l1Draw: some program of few threads and instructions.
-/
import Derived.Test.YtahegjofooahkaaGreatDpAP
import Derived.Test.YtahegjofooahkaaGreatThr2
import Derived.Test.YtahegjofooahkaaGreatRd
import Derived.Test.YtahegjofooahkaaGreatWInsP

/-! The walk of l1Instr: some instruction. -/
namespace Go.Proofs.YtahegjofooahkaaGreat
open Go.RowKit
set_option linter.unusedVariables false
set_option maxRecDepth 100000

theorem owns_upB {w W : World} {base : Nat} {e : TypeId} {k n : Nat} {v : Value} {cs : List Value} (h : w.ownsRow base e k v n cs) (hb : Below w.heap.size w W) : W.ownsRow base e k v n cs :=
  owns_of_block h fun g _ _ hlt => hb.block g hlt

theorem insOk_mk {a b c d : Int} (h : ((a = 1 ∨ a = 3) ∧ (0 ≤ b ∧ b ≤ 2) ∧ (0 ≤ c ∧ c ≤ 2) ∧ d = 0) ∨ (a = 2 ∧ (0 ≤ b ∧ b ≤ 2) ∧ c = 0 ∧ (0 ≤ d ∧ d ≤ 3)) ∨ (a = 4 ∧ b = 0 ∧ c = 0 ∧ d = 0) ∨ (a = 5 ∧ (0 ≤ b ∧ b ≤ 2) ∧ (0 ≤ c ∧ c ≤ 2) ∧ (0 ≤ d ∧ d ≤ 3))) : InsOk ⟨a, b, c, d⟩ := h
def RetI1 (w : World) (R p : Nat) (e : Ending) (w' : World) : Prop := ∃ (x : Ins) (p' : Nat), e = .returned (.agg #[.int .i64 x.op, .int .i64 x.loc, .int .i64 x.reg, .int .i64 x.val]) ∧ InsOk x ∧ Mv R w w' ∧ Rd w' R p' ∧ p' ≤ p + 10
theorem RetI1.fin {w V : World} {R p p' : Nat} {a b c d : Int} {v0 v1 v2 v3 : Value} (hR : R < w.heap.size) (m : Mv R w V) (r : Rd V R p') (hp : p' ≤ p + 10) (hok : InsOk ⟨a, b, c, d⟩) :
    RetI1 w R p (.returned (.agg #[.int .i64 a, .int .i64 b, .int .i64 c, .int .i64 d])) ((((V.setCell ⟨w.heap.size, 0, none⟩ v0).setCell ⟨w.heap.size, 1, none⟩ v1).setCell ⟨w.heap.size, 2, none⟩ v2).setCell ⟨w.heap.size, 3, none⟩ v3) :=
  ⟨⟨a, b, c, d⟩, p', rfl, hok, (((m.setNew (Nat.le_refl _) _).setNew (Nat.le_refl _) _).setNew (Nat.le_refl _) _).setNew (Nat.le_refl _) _, (((r.setNew hR _).setNew hR _).setNew hR _).setNew hR _, hp⟩
theorem Own.res4 {w : World} {b : Nat} {t : TypeId} {v0 v1 v2 v3 : Value} (h : Own w b t #[v0, v1, v2, v3]) : w.cell? ⟨b, 0, none⟩ = some v0 ∧ w.cell? ⟨b, 1, none⟩ = some v1 ∧ w.cell? ⟨b, 2, none⟩ = some v2 ∧ w.cell? ⟨b, 3, none⟩ = some v3 ∧ w.frozen? ⟨b, 0, none⟩ = false ∧ w.frozen? ⟨b, 1, none⟩ = false ∧ w.frozen? ⟨b, 2, none⟩ = false ∧ w.frozen? ⟨b, 3, none⟩ = false ∧ b < w.heap.size :=
  ⟨h.cell rfl, h.cell rfl, h.cell rfl, h.cell rfl, h.frozen 0, h.frozen 1, h.frozen 2, h.frozen 3, h.lt⟩

set_option maxHeartbeats 2000000 in
theorem instr_any (w : World) (R p : Nat) (hp : p ≤ 1000000000) (hr : Rd w R p) : Calls Tryz.prog 85 #[.pointer (some ⟨R, 0, none⟩)] w (RetI1 w R p) := by
  have hR := hr.lt
  have rb := Own.new w 52 #[.int .i64 0, .int .i64 0, .int .i64 0, .int .i64 0]
  have hr0 := hr.alloc (.cells #[.int .i64 0, .int .i64 0, .int .i64 0, .int .i64 0] 52)
  have hm0 := (Mv.refl R w).alloc (.cells #[.int .i64 0, .int .i64 0, .int .i64 0, .int .i64 0] 52)
  have hpk := pick_any _ R p 2 (by omega) hr0
  go_enter Tryz.func85, Tryz.ntmps85
  go_wp2_with fail
  refine hpk.mono ?_
  rintro e1 w1 ⟨loc, rfl, hloc0, hloc1, m1, r1⟩
  have hloc2 : loc < 2 := hloc1 (by omega)
  clear hloc1
  have hm1 := hm0.trans m1
  have rb1 := rb.mv m1 (by omega)
  have hpk := pick_any _ R (p + 1) 7 (by omega) r1
  clear m1 r1 hm0 hr0 rb hr
  go_wp2_with fail
  refine hpk.mono ?_
  rintro e2 w2 ⟨k, rfl, hk0, hk1, m2, r2⟩
  have hm2 := hm1.trans m2
  have rb2 := rb1.mv m2 (by omega)
  have hk7 : k < 7 := hk1 (by omega)
  have hl2 := rb2.lt
  clear hpk m2 hm1 rb1 hk1
  have hcase : k = 0 ∨ k = 1 ∨ k = 2 ∨ k = 3 ∨ k = 4 ∨ k = 5 ∨ k = 6 := by omega
  rcases hcase with rfl | rfl | rfl | rfl | rfl | rfl | rfl
  · obtain ⟨c0, c1, c2, c3, f0, f1, f2, f3, fl⟩ := rb2.res4
    go_wp2_with fail
    refine bodyPost_ret (v := .agg #[.int .i64 4, .int .i64 0, .int .i64 0, .int .i64 0]) (by simp [results, Tryz.results85, go_sem, c0, c1, c2, c3]) rfl ?_
    exact RetI1.fin hR hm2 r2 (by omega) (insOk_mk (by omega))
  · have hpk := pick_any _ R (p + 1 + 1) 2 (by omega) r2
    go_wp2_with fail
    refine hpk.mono ?_
    rintro e3 w3 ⟨a, rfl, ha0, ha1, m3, r3⟩
    have hm3 := hm2.trans m3
    have rb3 := rb2.mv m3 (by omega)
    have ha2 : a < 2 := ha1 (by omega)
    clear hpk m3 ha1
    obtain ⟨c0, c1, c2, c3, f0, f1, f2, f3, fl⟩ := rb3.res4
    go_wp2_with fail
    refine bodyPost_ret (v := .agg #[.int .i64 3, .int .i64 loc, .int .i64 a, .int .i64 0]) (by simp [results, Tryz.results85, go_sem, c0, c1, c2, c3]) rfl ?_
    exact RetI1.fin hR hm3 r3 (by omega) (insOk_mk (by omega))
  · have hpk := pick_any _ R (p + 1 + 1) 2 (by omega) r2
    go_wp2_with fail
    refine hpk.mono ?_
    rintro e3 w3 ⟨a, rfl, ha0, ha1, m3, r3⟩
    have hm3 := hm2.trans m3
    have rb3 := rb2.mv m3 (by omega)
    have ha2 : a < 2 := ha1 (by omega)
    clear hpk m3 ha1
    have hpk := pick_any _ R (p + 1 + 1 + 1) 3 (by omega) r3
    go_wp2_with fail
    refine hpk.mono ?_
    rintro e4 w4 ⟨b, rfl, hb0, hb1, m4, r4⟩
    have hm4 := hm3.trans m4
    have rb4 := rb3.mv m4 (by omega)
    have hb2 : b < 3 := hb1 (by omega)
    clear hpk m4 hb1
    obtain ⟨c0, c1, c2, c3, f0, f1, f2, f3, fl⟩ := rb4.res4
    go_wp2_with fail
    refine bodyPost_ret (v := .agg #[.int .i64 5, .int .i64 loc, .int .i64 a, .int .i64 (1 + b)]) (by simp [results, Tryz.results85, go_sem, c0, c1, c2, c3]) rfl ?_
    exact RetI1.fin hR hm4 r4 (by omega) (insOk_mk (by omega))
  · have hpk := pick_any _ R (p + 1 + 1) 3 (by omega) r2
    go_wp2_with fail
    refine hpk.mono ?_
    rintro e3 w3 ⟨b, rfl, hb0, hb1, m3, r3⟩
    have hm3 := hm2.trans m3
    have rb3 := rb2.mv m3 (by omega)
    have hb2 : b < 3 := hb1 (by omega)
    clear hpk m3 hb1
    obtain ⟨c0, c1, c2, c3, f0, f1, f2, f3, fl⟩ := rb3.res4
    go_wp2_with fail
    refine bodyPost_ret (v := .agg #[.int .i64 2, .int .i64 loc, .int .i64 0, .int .i64 (1 + b)]) (by simp [results, Tryz.results85, go_sem, c0, c1, c2, c3]) rfl ?_
    exact RetI1.fin hR hm3 r3 (by omega) (insOk_mk (by omega))
  · have hpk := pick_any _ R (p + 1 + 1) 3 (by omega) r2
    go_wp2_with fail
    refine hpk.mono ?_
    rintro e3 w3 ⟨b, rfl, hb0, hb1, m3, r3⟩
    have hm3 := hm2.trans m3
    have rb3 := rb2.mv m3 (by omega)
    have hb2 : b < 3 := hb1 (by omega)
    clear hpk m3 hb1
    obtain ⟨c0, c1, c2, c3, f0, f1, f2, f3, fl⟩ := rb3.res4
    go_wp2_with fail
    refine bodyPost_ret (v := .agg #[.int .i64 2, .int .i64 loc, .int .i64 0, .int .i64 (1 + b)]) (by simp [results, Tryz.results85, go_sem, c0, c1, c2, c3]) rfl ?_
    exact RetI1.fin hR hm3 r3 (by omega) (insOk_mk (by omega))
  · have hpk := pick_any _ R (p + 1 + 1) 2 (by omega) r2
    go_wp2_with fail
    refine hpk.mono ?_
    rintro e3 w3 ⟨a, rfl, ha0, ha1, m3, r3⟩
    have hm3 := hm2.trans m3
    have rb3 := rb2.mv m3 (by omega)
    have ha2 : a < 2 := ha1 (by omega)
    clear hpk m3 ha1
    obtain ⟨c0, c1, c2, c3, f0, f1, f2, f3, fl⟩ := rb3.res4
    go_wp2_with fail
    refine bodyPost_ret (v := .agg #[.int .i64 1, .int .i64 loc, .int .i64 a, .int .i64 0]) (by simp [results, Tryz.results85, go_sem, c0, c1, c2, c3]) rfl ?_
    exact RetI1.fin hR hm3 r3 (by omega) (insOk_mk (by omega))
  · have hpk := pick_any _ R (p + 1 + 1) 2 (by omega) r2
    go_wp2_with fail
    refine hpk.mono ?_
    rintro e3 w3 ⟨a, rfl, ha0, ha1, m3, r3⟩
    have hm3 := hm2.trans m3
    have rb3 := rb2.mv m3 (by omega)
    have ha2 : a < 2 := ha1 (by omega)
    clear hpk m3 ha1
    obtain ⟨c0, c1, c2, c3, f0, f1, f2, f3, fl⟩ := rb3.res4
    go_wp2_with fail
    refine bodyPost_ret (v := .agg #[.int .i64 1, .int .i64 loc, .int .i64 a, .int .i64 0]) (by simp [results, Tryz.results85, go_sem, c0, c1, c2, c3]) rfl ?_
    exact RetI1.fin hR hm3 r3 (by omega) (insOk_mk (by omega))

end Go.Proofs.YtahegjofooahkaaGreat

/-! The walk of spec.ParseProgram, as far as draws want it: some program of few threads and instructions. -/
namespace Go.Proofs.YtahegjofooahkaaGreat
open Go.RowKit
set_option linter.unusedVariables false
set_option maxRecDepth 100000

/-- A program of at most n threads, of at most m instructions each. -/
def Few (n m : Nat) (p : Prg) : Prop := p.length ≤ n ∧ ∀ t ∈ p, t.length ≤ m
theorem Few.nil (n m : Nat) : Few n m [] := ⟨Nat.zero_le _, fun t ht => by cases ht⟩
theorem Few.push {n m : Nat} {p : Prg} {t : List Ins} (h : Few n m p) (ht : t.length ≤ m) : Few (n + 1) m (p ++ [t]) :=
  ⟨by rw [List.length_append, List.length_singleton]; have := h.1; omega, fun s hs => by
    rcases List.mem_append.1 hs with hs | hs
    · exact h.2 s hs
    · rw [List.mem_singleton.1 hs]; exact ht⟩
theorem Few.mono {n m n' m' : Nat} {p : Prg} (h : Few n m p) (hn : n ≤ n') (hm : m ≤ m') : Few n' m' p := ⟨Nat.le_trans h.1 hn, fun t ht => Nat.le_trans (h.2 t ht) hm⟩
theorem Few.mil {n m : Nat} {p : Prg} (h : Few n m p) (hm : m ≤ 1048576) : ∀ t ∈ p, t.length ≤ 1048576 := fun t ht => by have := h.2 t ht; omega

def RetPP (w : World) (e : Ending) (w' : World) : Prop := ∃ (p : Prg) (v : Value) (b : Bool), e = .returned (.tuple #[v, .bool b]) ∧ (b = true → PrgOk p) ∧ PrgQ (above w.heap.size w') v p ∧ Few 4 8 p ∧ Below w.heap.size w w'

theorem MvO.above {F : List Nat} {B : Nat} {a b : World} (h : MvO F a b) (hF : ∀ x ∈ F, x < B) : Le (Go.Proofs.YtahegjofooahkaaGreat.above B a) (Go.Proofs.YtahegjofooahkaaGreat.above B b) := fun x v hc => by
  obtain ⟨h1, h2⟩ := cell_above_lt hc
  exact cell_above_of h1 (h.cell h2 fun hm => by have := hF _ hm; omega)
theorem MvO.grown {F : List Nat} {a X w1 : World} {row : Option Nat} (h : MvO F a X) (hg : X.grownBy w1 row) (hr : ∀ g, row = some g → g ∈ F ∨ a.heap.size ≤ g) : MvO F a w1 :=
  ⟨(World.grownBy.os hg).trans h.os, (World.grownBy.tape hg).trans h.tape, (World.grownBy.output hg).trans h.output, Nat.le_trans h.size (World.grownBy.size hg), fun i hi hn =>
    (World.grownBy.block hg i (Nat.lt_of_lt_of_le hi h.size) (fun e => by
      rcases hr i e.symm with h | h
      · exact hn h
      · omega)).trans (h.block i hi hn)⟩
/-- The row lies in block b, or behind what world a has. -/
def RowAt (b : Nat) (a : World) (v : Value) : Prop := ∀ g, v.ownBlock = some g → g ∈ [b] ∨ a.heap.size ≤ g
theorem RowAt.next {b : Nat} {a : World} {v : Value} {gg H n c : Nat} (h : RowAt b a v) (hat : v.ownBlock = some gg ∨ gg = H) (hH : a.heap.size ≤ H) : RowAt b a (.slice (some ⟨gg, 0, none⟩) n c) := fun g hg => by
  simp only [Value.ownBlock, Option.some.injEq] at hg
  subst hg
  rcases hat with e | e
  · exact h _ e
  · exact .inr (by omega)
theorem RowAt.here (b n c : Nat) (a : World) : RowAt b a (.slice (some ⟨b, 0, none⟩) n c) := fun g hg => by
  simp only [Value.ownBlock, Option.some.injEq] at hg
  subst hg
  exact .inl (by simp)

set_option maxHeartbeats 4000000 in
theorem parseP_any (s : ByteArray) (w : World) (hs : s.size ≤ 1000000) : Calls Tryz.prog 84 #[.string s] w (RetPP w) := by
  obtain ⟨i0, hi0, hz0, hz1, hz2⟩ := info_parts Tryz.infoIns
  obtain ⟨i1, hi1, hy0, hy1, hy2⟩ := info_parts Tryz.infoInsS
  have hrow0 : PrgW (w.alloc (.cells #[] 50)) w.heap.size (.slice (some ⟨w.heap.size, 0, none⟩) 0 0) [] [] (fun _ => []) := RowW.made 1 thr (Own.new _ _ _) (Nat.le_refl _)
  have Hrow0 := Lib.hid hrow0
  have hB0 : Below w.heap.size w (w.alloc (.cells #[] 50)) := (Below.refl _ _).alloc (Nat.le_refl _) _
  clear hrow0
  go_enter Tryz.func84, Tryz.ntmps84
  go_wp2_with fail
  refine (cutx_any s 124 _ (by omega)).mono ?_
  rintro e1 w1 ⟨ss, A, c, rfl, hsl, hssz, hss, hb1⟩
  have hrow1 := Lib.hid (Hrow0.out.below thr_loc hb1)
  have hB1 := hB0.trans (hb1.mono hB0.size)
  have hsz1 := hB1.size
  clear hb1 Hrow0 hB0
  have Hsz := Lib.hid hssz
  clear hssz
  go_wp2_with fail
  go_loopg [4, 6] ss.length (fun g s4 s6 wr => ∃ (i : Nat) (v : Value) (p : Prg) (cs : List Value) (Fs : Nat → List Nat), i ≤ ss.length ∧ i ≤ 4 ∧ g = ss.length - i ∧ v = s4 ∧ s6 = .int .i64 i ∧ Hid (PrgW wr w.heap.size v p cs Fs) ∧ Hid (Few i 8 p) ∧ p.length ≤ i ∧ Hid (RowAt w.heap.size w1 v) ∧ Hid (MvO [w.heap.size] w1 wr))
  case atStart => exact ⟨0, _, [], [], _, Nat.zero_le _, Nat.zero_le _, rfl, rfl, rfl, hrow1, Few.nil _ _, Nat.le_refl _, RowAt.here _ _ _ _, MvO.refl _ _⟩
  case round =>
    obtain ⟨wo, rfl⟩ : ∃ wo : World, wo = wr := ⟨_, rfl⟩
    obtain ⟨i, v, p, cs, Fs, hi, hi4, rfl, rfl, rfl, hrow, hfew, hpl, hat, hmv⟩ := hrel
    by_cases hgo0 : i < ss.length ∧ i ≤ 3
    · obtain ⟨hlt, hi3⟩ := hgo0
      · obtain ⟨bb, o, rfl, hbl, k0⟩ := (Strs.le (hss.le (hmv.out.above (by simp))) (Le.above _ _)).get hlt
        have hys := Hsz.out _ (List.getElem_mem hlt)
        generalize ss[i] = y at k0 hys
        have bi : decide ((i : Int) < (ss.length : Int)) = true := by rw [decide_eq_true_iff]; omega
        have bi3 : decide ((i : Int) ≤ 3) = true := by rw [decide_eq_true_iff]; omega
        have hth : RowT (wo.alloc (.cells #[] 52)) wo.heap.size (.slice (some ⟨wo.heap.size, 0, none⟩) 0 0) [] := RowOf.made _ (Own.new _ _ _) (Nat.le_refl _)
        have Hth := Lib.hid hth
        have hBo : Below wo.heap.size wo (wo.alloc (.cells #[] 52)) := (Below.refl _ _).alloc (Nat.le_refl _) _
        clear hth
        go_wp2_with fail
        refine (cutx_any y 59 _ (by omega)).mono ?_
        rintro e2 w2 ⟨ws, A2, c2, rfl, hwl, hwsz, hws, hb2⟩
        have Hws2 := Lib.hid hwsz
        have Hth2 : Hid (RowT w2 wo.heap.size (.slice (some ⟨wo.heap.size, 0, none⟩) 0 0) []) := Hth.out.below hb2
        have hB2 := hBo.trans (hb2.mono hBo.size)
        have hsz2 : wo.heap.size + 1 ≤ w2.heap.size := by have := hb2.size; simpa using this
        clear hb2 hwsz Hth hBo
        go_wp2_with fail
        go_loopg [7, 9] ws.length (fun g s7 s9 wr => ∃ (k : Nat) (tv : Value) (t : List Ins), k ≤ ws.length ∧ k ≤ 8 ∧ g = ws.length - k ∧ tv = s7 ∧ s9 = .int .i64 k ∧ Hid (RowT wr wo.heap.size tv t) ∧ t.length ≤ k ∧ Hid (RowAt wo.heap.size w2 tv) ∧ Hid (MvO [wo.heap.size] w2 wr))
        case atStart => exact ⟨0, _, [], Nat.zero_le _, Nat.zero_le _, rfl, rfl, rfl, Hth2, Nat.le_refl _, RowAt.here _ _ _ _, MvO.refl _ _⟩
        case round =>
          obtain ⟨k, tv, t, hk, hk8, rfl, rfl, rfl, hrt, htl, hatk, hmvk⟩ := hrel
          have k1 : wr.cell? ⟨bb, o + i, none⟩ = some (.string y) := hmvk.out.cell (Le.below hB2 _ _ k0) (by simp; omega)
          have hwr := hmvk.out.size
          have HBw : Hid (Below wo.heap.size wo wr) := hB2.trans (hmvk.out.below (fun x hx => by simp at hx; omega) hB2.size)
          by_cases hgo : (k < ws.length ∧ k ≤ 7) ∧ y.toList.isEmpty = false
          · obtain ⟨⟨hkt, hk7⟩, hy⟩ := hgo
            obtain ⟨b2, o2, rfl, hbl2, k2⟩ := (Strs.le (hws.le (hmvk.out.above (by simp))) (Le.above _ _)).get hkt
            have hzs := Hws2.out _ (List.getElem_mem hkt)
            generalize ws[k] = z at k2 hzs
            obtain ⟨ct, hot, hqt⟩ := hrt.out
            have Hot := Lib.hid hot
            have Hqt := Lib.hid hqt
            clear hot hqt
            go_wp2_with fail
            refine (parseI_any z _ (by omega)).mono ?_
            rintro e5 w5 ⟨x, rfl, hb5⟩
            have hs5 := hb5.size
            clear k0 k1 k2
            go_wp2_with (at_builtin; refine wpList_append_lies _ (by rfl) _ _ _ (by rfl) wo.heap.size 52 i0 _ 4 32 Tryz.underlying50 hi0 hz0 hz1 hz2 rfl (by omega) tv t.length ct (by rfl) (owns_alloc (owns_upB Hot.out hb5) _) ⟨w5.heap.size, 0, none⟩ 1 1 [.int .i64 x.op, .int .i64 x.loc, .int .i64 x.reg, .int .i64 x.val] (by rfl) (by rfl) (World.news_of_block (cs := #[.int .i64 x.op, .int .i64 x.loc, .int .i64 x.reg, .int .i64 x.val]) (t := 52) (fr := (0, 0)) (heap_alloc_new w5 _)) (by simp [Value.oneCell']) (by omega) (by simp [maxLen]; omega) (by omega) (by simp; omega) (w5.heap.size + 1) (by simp) ?_; intro gg cap w6 hown6 hgrow hat6 hlt6)
            go_roundg (ws.length - (k + 1))
            case measure => omega
            case rel => exact ⟨k + 1, _, t ++ [x], by omega, by omega, rfl, rfl, by go_num, RowOf.snoc (news := [.int .i64 x.op, .int .i64 x.loc, .int .i64 x.reg, .int .i64 x.val]) qin_congr Hot.out Hqt.out rfl ⟨rfl, rfl, rfl, rfl⟩ hown6, by simp; omega, hatk.out.next hat6 (by omega), ((hmvk.out.trans (MvO.of_below hb5)).trans (MvO.of_below ((Below.refl _ _).alloc (Nat.le_refl _) _))).grown hgrow hatk.out⟩
          · have hway : (ws.length ≤ k) ∨ (k < ws.length ∧ 7 < k) ∨ (k < ws.length ∧ k ≤ 7 ∧ y.toList.isEmpty = true) := by
              by_cases h1 : k < ws.length
              · by_cases h2 : k ≤ 7
                · right; right
                  refine ⟨h1, h2, ?_⟩
                  cases h3 : y.toList.isEmpty
                  · exact absurd ⟨⟨h1, h2⟩, h3⟩ hgo
                  · rfl
                · right; left; omega
              · left; omega
            obtain ⟨At, cT, rfl⟩ : ∃ At cT, tv = .slice At t.length cT := by
              obtain ⟨ct, hot, _⟩ := hrt.out
              rcases hot.2 with ⟨rfl, h0⟩ | ⟨g, cap, cur, rfl, _⟩
              · exact ⟨none, 0, by rw [h0]⟩
              · exact ⟨_, _, rfl⟩
            have hsw := hB1.size
            have hso := hmv.out.size
            have HBV : Hid (Below wo.heap.size wo (wr.alloc (.cells #[.slice At t.length cT] 50))) := HBw.out.alloc HBw.out.size _
            have Hpush : Hid (∀ (gg cap : Nat) (w6 : World), w6.ownsRow w.heap.size 50 1 (.slice (some ⟨gg, 0, none⟩) (p.length + 1) cap) (p.length + 1) (cs ++ [.slice At t.length cT]) → (wr.alloc (.cells #[.slice At t.length cT] 50)).grownBy w6 v.ownBlock → (v.ownBlock = some gg ∨ gg = wr.heap.size + 1) →
                ∃ Fs', PrgW w6 w.heap.size (.slice (some ⟨gg, 0, none⟩) (p.length + 1) cap) (p ++ [t]) (cs ++ [.slice At t.length cT]) Fs' ∧ RowAt w.heap.size w1 (.slice (some ⟨gg, 0, none⟩) (p.length + 1) cap) ∧ MvO [w.heap.size] w1 w6) := fun gg cap w6 hown hg hat' =>
              ⟨_, hrow.out.push thr_loc (by have := HBV.out.size; exact this) (fun b _ hb => HBV.out.block b hb) hg rfl (RowT.thr (hrt.out.of_block (w' := wr.alloc (.cells #[.slice At t.length cT] 50)) fun g _ _ hl => Go.Deep.blk_alloc_lt _ _ _ hl)) (fun b hb => (hrt.out.blk (mem_own.1 hb)).1) (own_nodup _) (by omega) hown hat' (by simp),
                hat.out.next hat' (by omega), (hmv.out.trans (MvO.of_below HBV.out)).grown hg hat.out⟩
            clear hgo
            rcases hway with h1 | ⟨h1, h2⟩ | ⟨h1, h2, h3⟩
            all_goals
              go_wp2_with (at_builtin; refine wpList_append_lies _ (by rfl) _ _ _ (by rfl) w.heap.size 50 i1 _ 1 24 Tryz.underlying23 hi1 hy0 hy1 hy2 rfl (by omega) v p.length cs (by rfl) (owns_alloc (owns_upB hrow.out.own HBw.out) _) ⟨wr.heap.size, 0, none⟩ 1 1 [.slice At t.length cT] (by rfl) (by rfl) (World.news_of_block (cs := #[.slice At t.length cT]) (t := 50) (fr := (0, 0)) (heap_alloc_new wr _)) (by simp [Value.oneCell']) (by omega) (by simp [maxLen]; omega) (by omega) (by simp; omega) (wr.heap.size + 1) (by simp) ?_; intro gg cap w6 hown6 hgrow hat6 hlt6)
              obtain ⟨Fs', hp1, hp2, hp3⟩ := Hpush.out gg cap w6 hown6 hgrow hat6
              go_roundg (ss.length - (i + 1))
              case measure => omega
              case rel => exact ⟨i + 1, _, p ++ [t], _, Fs', by omega, by omega, rfl, rfl, by go_num, hp1, hfew.out.push (by omega), by simp; omega, hp2, hp3⟩
    · have hway : ss.length ≤ i ∨ (i < ss.length ∧ 3 < i) := by omega
      have hpS : PrgQ (above w.heap.size wo) v p := hrow.out.prgQ
      have Hps := Lib.hid hpS
      have hBw : Below w.heap.size w wo := hB1.trans (hmv.out.below (fun x hx => by simp at hx; omega) hB1.size)
      obtain ⟨A9, c9, rfl, _⟩ := hpS.1.slice
      have hvalid := fun W => specPrg_any p (by omega) W (.slice A9 p.length c9)
      have Hfew : Hid (Few 4 8 p) := hfew.out.mono hi4 (Nat.le_refl _)
      clear hgo0 hpS hrow hat
      cases hv : prgB p
      · rw [hv] at hvalid
        have Hv := Lib.hid hvalid
        clear hvalid
        rcases hway with h1 | ⟨h1, h2⟩
        all_goals
          go_wp2_with fail
          refine (Hv.out _ (PrgS.le Hps.out.1 (Le.above _ _))).mono ?_
          rintro e3 w3 ⟨rfl, hb3⟩
          go_wp2_with fail
          go_ret2
          exact ⟨[], _, _, rfl, (fun h => by cases h), PrgQ.nil _ _ _, Few.nil _ _, (hBw.trans (hb3.mono hBw.size)).alloc (by have := hb3.size; have := hBw.size; omega) _⟩
      · rw [hv] at hvalid
        have hok := (prgB_iff.1 hv).1
        have Hpok := Lib.hid (prgB_iff.1 hv)
        have Hok := Lib.hid hok
        have Hv := Lib.hid hvalid
        clear hvalid hok
        rcases hway with h1 | ⟨h1, h2⟩
        all_goals
          go_wp2_with fail
          refine (Hv.out _ (PrgS.le Hps.out.1 (Le.above _ _))).mono ?_
          rintro e3 w3 ⟨rfl, hb3⟩
          have hB3 := hBw.trans (hb3.mono hBw.size)
          have Hp3 : Hid (PrgQ (above w.heap.size w3) (.slice A9 p.length c9) p) := PrgQ.le Hps.out (Le.above_le _ (Le.below hb3))
          go_wp2_with fail
          refine (textD_any p Hok.out _ _ (PrgS.le Hp3.out.1 (Le.above _ _))).mono ?_
          rintro e4 w4 ⟨tx, rfl, htx, hb4⟩
          have hB4 := hB3.trans (hb4.mono hB3.size)
          have Hp4 : Hid (PrgQ (above w.heap.size w4) (.slice A9 p.length c9) p) := PrgQ.le Hp3.out (Le.above_le _ (Le.below hb4))
          cases hq : (tx.toList == s.toList)
          · go_wp2_with fail
            go_ret2
            exact ⟨[], _, _, rfl, (fun h => by cases h), PrgQ.nil _ _ _, Few.nil _ _, hB4.alloc hB4.size _⟩
          · go_wp2_with fail
            go_ret2
            exact ⟨p, _, _, rfl, (fun _ => Hpok.out), Hp4.out, Hfew.out, hB4⟩

end Go.Proofs.YtahegjofooahkaaGreat

/-! The walk of l1Draw: some program of few threads and instructions. -/
namespace Go.Proofs.YtahegjofooahkaaGreat
open Go.RowKit
set_option linter.unusedVariables false
set_option maxRecDepth 100000

theorem mv_grownV {w X w1 : World} {R : Nat} {row : Option Nat} (m : Mv R w X) (h : X.grownBy w1 row) (hs : ∀ g, row = some g → w.heap.size ≤ g) : Mv R w w1 :=
  ⟨(World.grownBy.os h).trans m.os, (World.grownBy.tape h).trans m.tape, (World.grownBy.output h).trans m.output, Nat.le_trans m.size (World.grownBy.size h), fun i hi hne => (World.grownBy.block h i (Nat.lt_of_lt_of_le hi m.size) (fun e => by have := hs i e.symm; omega)).trans (World.grownBy.block m i hi hne)⟩
theorem prg_one {W : World} {base b1 b2 : Nat} {a b c d : Int} (h1 : Own W b1 52 #[.int .i64 a, .int .i64 b, .int .i64 c, .int .i64 d]) (h2 : Own W b2 50 #[.slice (some ⟨b1, 0, none⟩) 1 1]) (g1 : base ≤ b1) (g2 : base ≤ b2) : PrgS (above base W) (.slice (some ⟨b2, 0, none⟩) 1 1) [[⟨a, b, c, d⟩]] := by
  refine ⟨_, _, rfl, by simp, fun i hi => ⟨b2, 0, rfl, fun _ => .slice (some ⟨b1, 0, none⟩) 1 1, fun j hj => ?_, ?_⟩⟩
  · obtain rfl : i = 0 := by simp at hi; omega
    obtain rfl : j = 0 := by omega
    exact cell_above_of g2 (h2.cell rfl)
  · obtain rfl : i = 0 := by simp at hi; omega
    refine ⟨_, _, rfl, _, _, rfl, by simp, fun i hi => ⟨b1, 0, rfl, fun j => #[Value.int .i64 a, .int .i64 b, .int .i64 c, .int .i64 d].getD j undef, fun j hj => ?_, ?_⟩⟩
    · obtain rfl : i = 0 := by simp at hi; omega
      refine cell_above_of g1 ?_
      match j, hj with
      | 0, _ => exact h1.cell rfl
      | 1, _ => exact h1.cell rfl
      | 2, _ => exact h1.cell rfl
      | 3, _ => exact h1.cell rfl
    · obtain rfl : i = 0 := by simp at hi; omega
      exact ⟨rfl, rfl, rfl, rfl⟩

theorem prg_oneQ {W : World} {base b1 b2 : Nat} {a b c d : Int} (h1 : Own W b1 52 #[.int .i64 a, .int .i64 b, .int .i64 c, .int .i64 d]) (h2 : Own W b2 50 #[.slice (some ⟨b1, 0, none⟩) 1 1]) (g1 : base ≤ b1) (g2 : base ≤ b2) : PrgQ (above base W) (.slice (some ⟨b2, 0, none⟩) 1 1) [[⟨a, b, c, d⟩]] :=
  ⟨prg_one h1 h2 g1 g2, fun b' o' n' c'' e t ht A m c' hc => by
    obtain rfl : t = 0 := by simp at ht; omega
    injection e with e1 e2 e3
    injection e1 with e1
    injection e1 with e1 e4
    subst e1 e4
    have h3 := h2.cell (i := 0) (v := .slice (some ⟨b1, 0, none⟩) 1 1) rfl
    have h4 := (cell_above_lt hc).2
    rw [Nat.zero_add, h3] at h4
    injection h4 with h4
    injection h4 with h5 h6 h7
    omega⟩

theorem cntP_one (loc : Int) (b : Bool) (x : Ins) : cntP loc b [[x]] ≤ 1 := by
  unfold cntP
  rw [wSum, wSum]
  have := cntT_le loc b [x]
  simp only [List.length_cons, List.length_nil] at this
  omega
theorem prgOk_one {x : Ins} (h : InsOk x) : PrgOk [[x]] := by
  have hL : ∀ loc, exL [[x]] loc ≤ 2 := fun loc => by
    unfold exL
    have h1 := cntP_one loc true x
    have h2 := cntP_one loc false x
    have k1 : cntP loc true [[x]] = 0 ∨ cntP loc true [[x]] = 1 := by omega
    have k2 : cntP loc false [[x]] = 0 ∨ cntP loc false [[x]] = 1 := by omega
    rcases k1 with e1 | e1 <;> rcases k2 with e2 | e2 <;> rw [e1, e2] <;> decide
  refine ⟨⟨by simp, fun t ht => ?_, ?_⟩, by simp, ?_⟩
  · obtain rfl : t = [x] := by simpa using ht
    exact ⟨by simp, fun y hy => by obtain rfl : y = x := by simpa using hy
                                   exact h⟩
  · unfold evN
    rw [wSum, wSum]
    have : cntE' [x] ≤ 1 := List.countP_le_length
    omega
  · unfold exN
    exact Nat.le_trans (Nat.mul_le_mul (Nat.mul_le_mul (hL 0) (hL 1)) (hL 2)) (by decide)
def RetDP (w : World) (R p : Nat) (e : Ending) (w' : World) : Prop := ∃ (pr : Prg) (v : Value) (p' : Nat), e = .returned v ∧ PrgOk pr ∧ PrgQ (above w.heap.size w') v pr ∧ Few 4 8 pr ∧ Mv R w w' ∧ Rd w' R p' ∧ p' ≤ p + 1000

set_option maxHeartbeats 4000000 in
theorem drawP_any (w : World) (R p : Nat) (hp : p ≤ 900000000) (hr : Rd w R p) : Calls Tryz.prog 48 #[.pointer (some ⟨R, 0, none⟩)] w (RetDP w R p) := by
  have hR := hr.lt
  obtain ⟨i0, hi0, hz0, hz1, hz2⟩ := info_parts Tryz.infoIns
  obtain ⟨i1, hi1, hy0, hy1, hy2⟩ := info_parts Tryz.infoInsS
  go_enter Tryz.func48, Tryz.ntmps48
  go_wp2_with fail
  refine (tests_any w).mono ?_
  rintro e1 w1 ⟨A, c, rfl, hss, hb1⟩
  have hm1 : Mv R w w1 := Mv.of_below hb1
  have hr1 := hr.below hb1
  have hpk := pick_any _ R p 3 (by omega) hr1
  clear hr1 hr hb1
  go_wp2_with fail
  refine hpk.mono ?_
  rintro e2 w2 ⟨k, rfl, hk0, _, m2, r2⟩
  have hm2 := hm1.trans m2
  have hs2 : Strs (above (R + 1) w2) A c tests := (hss.le (Le.above_mono (by omega) _)).le m2.above
  clear hpk m2 hm1 hss
  by_cases hk : 0 < k
  case' pos =>
    have hpk := pick_any _ R (p + 1) tests.length (by omega) r2
    go_wp2_with fail
    refine hpk.mono ?_
    rintro e3 w3 ⟨v, rfl, hv0, hv1, m3, r3⟩
    obtain ⟨i, rfl⟩ : ∃ i : Nat, v = i := ⟨v.toNat, by omega⟩
    have hi : i < tests.length := by have := hv1 (by show (0 : Int) < 21; omega); omega
    obtain ⟨b, o, rfl, hbl, hc⟩ := (hs2.le m3.above).get hi
    have hc' := (cell_above_lt hc).2
    have hii : (i : Int) < (tests.length : Int) := by omega
    have hsm := tests_small _ (List.getElem_mem hi)
    have hm3 := hm2.trans m3
    generalize tests[i] = y at hc hc' hsm
    clear hs2 hpk m3 hv1 hc hbl hm2 r2
    go_wp2_with fail
    refine (parseP_any y _ (by omega)).mono ?_
    rintro e4 w4 ⟨pr, v4, ok, rfl, hpk, hps, hfew, hb4⟩
    have Hpk := Lib.hid hpk
    clear hpk
    have hm4 := hm3.trans (Mv.of_below hb4)
    have r4 := r3.below hb4
    have hms := hm3.size
    clear hb4 hm3 r3 hc'
    cases ok
    case true =>
      go_wp2_with fail
      go_ret
      exact ⟨pr, v4, _, rfl, Hpk.out (by first | trivial | rfl), PrgQ.le hps (Le.above_mono hms _), hfew, hm4, r4, by omega⟩
    case' false =>
      clear hps hfew hms Hpk
      obtain ⟨W, hW⟩ : ∃ W, W = w4 := ⟨_, rfl⟩
      subst hW
      obtain ⟨q, hq⟩ : ∃ q, q = p + 1 + 1 := ⟨_, rfl⟩
      rw [← hq] at r4
      have hqp : q ≤ p + 2 := by omega
      clear hq
      have hmW := hm4
      have rW := r4
      clear hm4 r4
  case' neg =>
    obtain ⟨W, hW⟩ : ∃ W, W = w2 := ⟨_, rfl⟩
    subst hW
    obtain ⟨q, hq⟩ : ∃ q, q = p + 1 := ⟨_, rfl⟩
    rw [← hq] at r2
    have hqp : q ≤ p + 2 := by omega
    clear hq hs2
    have hmW := hm2
    have rW := r2
    clear hm2 r2
  all_goals
    have hsW := hmW.size
    have hrow0 : PrgW (W.alloc (.cells #[] 50)) w.heap.size (.slice (some ⟨W.heap.size, 0, none⟩) 0 0) [] [] (fun _ => []) := RowW.made 1 thr (Own.new _ _ _) hsW
    have il := Own.new (W.alloc (.cells #[] 50)) 3 #[.int .i64 2, .int .i64 3, .int .i64 1]
    have hil : Ints (above (R + 1) ((W.alloc (.cells #[] 50)).alloc (.cells #[.int .i64 2, .int .i64 3, .int .i64 1] 3))) (some ⟨W.heap.size + 1, 0, none⟩) 3 [2, 3, 1] := ints_lit [2, 3, 1] (by simpa using il) (by omega) rfl (by omega) (fun i hi => by
      match i, hi with
      | 0, _ => rfl
      | 1, _ => rfl
      | 2, _ => rfl)
    have hnum := num_any _ R q _ 3 [2, 3, 1] (by omega) ((rW.alloc _).alloc _) hil (by simp)
    have hm1 := (hmW.alloc (.cells #[] 50)).alloc (.cells #[.int .i64 2, .int .i64 3, .int .i64 1] 3)
    have Hrow1 := Lib.hid (hrow0.below thr_loc ((Below.refl _ _).alloc (Nat.le_refl _) (.cells #[.int .i64 2, .int .i64 3, .int .i64 1] 3)))
    clear il hil rW hmW hrow0
    go_wp2_with fail
    refine hnum.mono ?_
    rintro e2 w2 ⟨n, rfl, hn, m2, r2⟩
    have hlit : n = 2 ∨ n = 3 ∨ n = 1 := by simpa using hn
    have hn3 : 0 ≤ n ∧ n ≤ 3 := by omega
    obtain ⟨n, rfl⟩ : ∃ k : Nat, n = k := ⟨n.toNat, by omega⟩
    have hm2 := hm1.trans m2
    have Hrow2 := Lib.hid (Hrow1.out.move thr_loc (w' := w2) fun b hb hl => m2.block hl (by omega))
    have hn33 : n ≤ 3 := by omega
    clear hn hlit hn3 hm1 m2 Hrow1 hnum
    go_wp2_with fail
    go_loopg [6, 7] n (fun g s6 s7 wr => ∃ (i : Nat) (v : Value) (pr : Prg) (cs : List Value) (Fs : Nat → List Nat) (q' : Nat), i ≤ n ∧ i = g ∧ v = s6 ∧ s7 = .int .i64 i ∧ Hid (PrgW wr w.heap.size v pr cs Fs) ∧ Hid (Few (3 - i) 8 pr) ∧ pr.length + i ≤ 3 ∧ Hid (Mv R w wr) ∧ Hid (Rd wr R q') ∧ q' + 50 * i ≤ q + 200)
    case atStart => exact ⟨n, _, [], [], _, _, Nat.le_refl _, rfl, rfl, rfl, Hrow2.out, Few.nil _ _, by simp; omega, hm2, r2, by omega⟩
    case round =>
      obtain ⟨wo, rfl⟩ : ∃ wo : World, wo = wr := ⟨_, rfl⟩
      obtain ⟨i, v, pr, cs, Fs, q', hi, rfl, rfl, rfl, hrow, hfew, hpl, hmo, hro, hq⟩ := hrel
      by_cases hi0' : 0 < i
      · have bi : decide ((i : Int) > 0) = true := by rw [decide_eq_true_iff]; omega
        have hso := hmo.out.size
        have hth : RowT (wo.alloc (.cells #[] 52)) wo.heap.size (.slice (some ⟨wo.heap.size, 0, none⟩) 0 0) [] := RowOf.made _ (Own.new _ _ _) (Nat.le_refl _)
        have il := Own.new (wo.alloc (.cells #[] 52)) 3 #[.int .i64 2, .int .i64 1, .int .i64 3, .int .i64 2, .int .i64 0]
        have hil : Ints (above (R + 1) ((wo.alloc (.cells #[] 52)).alloc (.cells #[.int .i64 2, .int .i64 1, .int .i64 3, .int .i64 2, .int .i64 0] 3))) (some ⟨wo.heap.size + 1, 0, none⟩) 5 [2, 1, 3, 2, 0] := ints_lit [2, 1, 3, 2, 0] (by simpa using il) (by omega) rfl (by omega) (fun i hi => by
          match i, hi with
          | 0, _ => rfl
          | 1, _ => rfl
          | 2, _ => rfl
          | 3, _ => rfl
          | 4, _ => rfl)
        have hnum := num_any _ R q' _ 5 [2, 1, 3, 2, 0] (by omega) ((hro.out.alloc _).alloc _) hil (by simp)
        have hm1 := ((Mv.refl R wo).alloc (.cells #[] 52)).alloc (.cells #[.int .i64 2, .int .i64 1, .int .i64 3, .int .i64 2, .int .i64 0] 3)
        have Hth1 := Lib.hid (hth.below ((Below.refl _ _).alloc (Nat.le_refl _) (.cells #[.int .i64 2, .int .i64 1, .int .i64 3, .int .i64 2, .int .i64 0] 3)))
        clear il hil hth
        go_wp2_with fail
        refine hnum.mono ?_
        rintro e3 w3 ⟨m, rfl, hm, m3, r3⟩
        have hlit : m = 2 ∨ m = 1 ∨ m = 3 ∨ m = 2 ∨ m = 0 := by simpa using hm
        obtain ⟨m, rfl⟩ : ∃ k : Nat, m = k := ⟨m.toNat, by omega⟩
        have hm33 : m ≤ 3 := by omega
        have hm3 := hm1.trans m3
        have Hth3 := Lib.hid (Hth1.out.of_block (w' := w3) fun g hb _ hl => m3.block hl (by omega))
        clear hm hlit hm1 m3 Hth1 hnum
        go_wp2_with fail
        go_loopg [8, 9] m (fun g s8 s9 wr => ∃ (k : Nat) (tv : Value) (t : List Ins) (q2 : Nat), k ≤ m ∧ k = g ∧ tv = s8 ∧ s9 = .int .i64 k ∧ Hid (RowT wr wo.heap.size tv t) ∧ t.length + k ≤ 3 ∧ Hid (Mv R wo wr) ∧ Hid (Rd wr R q2) ∧ q2 + 10 * k ≤ q' + 40)
        case atStart => exact ⟨m, _, [], _, Nat.le_refl _, rfl, rfl, rfl, Hth3.out, by simp; omega, hm3, r3, by omega⟩
        case round =>
          obtain ⟨k, tv, t, q2, hk2, rfl, rfl, rfl, hrt, htl, hmk, hrk, hq2⟩ := hrel
          by_cases hk3 : 0 < k
          · have bk : decide ((k : Int) > 0) = true := by rw [decide_eq_true_iff]; omega
            obtain ⟨ct, hot, hqt⟩ := hrt.out
            have Hqt := Lib.hid hqt
            have Hot := Lib.hid hot
            have hsk := hmk.out.size
            clear hot hqt
            go_wp2_with fail
            refine (instr_any _ R q2 (by omega) hrk.out).mono ?_
            rintro e5 w5 ⟨x, q5, rfl, hix, m5, r5, hq5⟩
            have Hix := Lib.hid hix
            clear hix
            have Hot5 := Lib.hid (owns_of_block Hot.out (w' := w5) fun g _ hb hl => m5.block hl (by omega))
            have hs5 := m5.size
            have Hm5 := Lib.hid (hmk.out.trans m5)
            have Hr5 := Lib.hid r5
            clear m5 r5
            go_wp2_with (at_builtin; refine wpList_append_lies _ (by rfl) _ _ _ (by rfl) wo.heap.size 52 i0 _ 4 32 Tryz.underlying50 hi0 hz0 hz1 hz2 rfl (by omega) tv t.length ct (by rfl) (owns_alloc Hot5.out _) ⟨w5.heap.size, 0, none⟩ 1 1 [.int .i64 x.op, .int .i64 x.loc, .int .i64 x.reg, .int .i64 x.val] (by rfl) (by rfl) (World.news_of_block (cs := #[.int .i64 x.op, .int .i64 x.loc, .int .i64 x.reg, .int .i64 x.val]) (t := 52) (fr := (0, 0)) (heap_alloc_new w5 _)) (by simp [Value.oneCell']) (by omega) (by simp [maxLen]; omega) (by omega) (by simp; omega) (w5.heap.size + 1) (by simp) ?_; intro gg cap w6 hown6 hgrow hat6 hlt6)
            go_roundg (k - 1)
            case measure => omega
            case rel => exact ⟨k - 1, _, t ++ [x], q5, by omega, rfl, rfl, by go_num, RowOf.snoc (news := [.int .i64 x.op, .int .i64 x.loc, .int .i64 x.reg, .int .i64 x.val]) qin_congr Hot.out Hqt.out rfl ⟨rfl, rfl, rfl, rfl⟩ hown6, by simp; omega, mv_grownV (Hm5.out.alloc _) hgrow (fun g hg => owns_base' Hot.out hg), rd_grown (Hr5.out.alloc _) hgrow (fun g hg => by have := owns_base' Hot.out hg; omega), by omega⟩
          · obtain rfl : k = 0 := by omega
            have hsk := hmk.out.size
            obtain ⟨At, cT, rfl⟩ : ∃ At cT, tv = .slice At t.length cT := by
              obtain ⟨ct, hot, _⟩ := hrt.out
              rcases hot.2 with ⟨rfl, h0⟩ | ⟨g, cap, cur, rfl, _⟩
              · exact ⟨none, 0, by rw [h0]⟩
              · exact ⟨_, _, rfl⟩
            have Hown := Lib.hid (owns_of_block hrow.out.own (w' := wr) fun g _ hb hl => hmk.out.block hl (by omega))
            have Hpush : Hid (∀ (gg cap : Nat) (w6 : World), w6.ownsRow w.heap.size 50 1 (.slice (some ⟨gg, 0, none⟩) (pr.length + 1) cap) (pr.length + 1) (cs ++ [.slice At t.length cT]) → (wr.alloc (.cells #[.slice At t.length cT] 50)).grownBy w6 v.ownBlock → (v.ownBlock = some gg ∨ gg = wr.heap.size + 1) →
                ∃ Fs', PrgW w6 w.heap.size (.slice (some ⟨gg, 0, none⟩) (pr.length + 1) cap) (pr ++ [t]) (cs ++ [.slice At t.length cT]) Fs' ∧ Mv R w w6 ∧ Rd w6 R q2) := fun gg cap w6 hown hg hat' =>
              ⟨_, hrow.out.push thr_loc (by have := hmk.out.size; simp; omega) (fun b hb hl => (Go.Deep.blk_alloc_lt _ _ _ (by omega)).trans (hmk.out.block hl (by omega))) hg rfl (RowT.thr (hrt.out.of_block (w' := wr.alloc (.cells #[.slice At t.length cT] 50)) fun g _ _ hl => Go.Deep.blk_alloc_lt _ _ _ hl)) (fun b hb => (hrt.out.blk (mem_own.1 hb)).1) (own_nodup _) hso hown hat' (by simp),
                mv_grownV ((hmo.out.trans hmk.out).alloc _) hg (fun g hg => owns_base' hrow.out.own hg), rd_grown (hrk.out.alloc _) hg (fun g hg => by have := owns_base' hrow.out.own hg; omega)⟩
            go_wp2_with (at_builtin; refine wpList_append_lies _ (by rfl) _ _ _ (by rfl) w.heap.size 50 i1 _ 1 24 Tryz.underlying23 hi1 hy0 hy1 hy2 rfl (by omega) v pr.length cs (by rfl) (owns_alloc Hown.out _) ⟨wr.heap.size, 0, none⟩ 1 1 [.slice At t.length cT] (by rfl) (by rfl) (World.news_of_block (cs := #[.slice At t.length cT]) (t := 50) (fr := (0, 0)) (heap_alloc_new wr _)) (by simp [Value.oneCell']) (by omega) (by simp [maxLen]; omega) (by omega) (by simp; omega) (wr.heap.size + 1) (by simp) ?_; intro gg cap w6 hown6 hgrow hat6 hlt6)
            obtain ⟨Fs', hp1, hp2, hp3⟩ := Hpush.out gg cap w6 hown6 hgrow hat6
            go_roundg (i - 1)
            case measure => omega
            case rel => exact ⟨i - 1, _, pr ++ [t], _, Fs', q2, by omega, rfl, rfl, by go_num, hp1, (hfew.out.push (by omega)).mono (by omega) (Nat.le_refl _), by simp; omega, hp2, hp3, by omega⟩
      · obtain rfl : i = 0 := by omega
        have hpS : PrgQ (above w.heap.size wo) v pr := hrow.out.prgQ
        have Hps := Lib.hid hpS
        obtain ⟨A9, c9, rfl, _⟩ := hpS.1.slice
        have hvalid := specPrg_any pr (by omega) wo (.slice A9 pr.length c9) (PrgS.le hpS.1 (Le.above _ _))
        have Hfew : Hid (Few 4 8 pr) := hfew.out.mono (by omega) (Nat.le_refl _)
        have hso := hmo.out.size
        clear hpS hrow
        cases hv : prgB pr
        · rw [hv] at hvalid
          have Hv := Lib.hid hvalid
          clear hvalid hv
          go_wp2_with fail
          refine Hv.out.mono ?_
          rintro e3 w3 ⟨rfl, hb3⟩
          have r3 := hro.out.below hb3
          have m3 := hmo.out.trans (Mv.of_below hb3)
          have hs3 := hb3.size
          clear hb3 Hv
          go_wp2_with fail
          refine (instr_any _ R q' (by omega) r3).mono ?_
          rintro e5 w5 ⟨x, q5, rfl, hix, m5, r5, hq5⟩
          have Hix := Lib.hid hix
          clear hix
          have hs5 := m5.size
          have Hm5 := Lib.hid (m3.trans m5)
          have Hr5 := Lib.hid r5
          clear m5 r5 m3 r3
          go_wp2_with fail
          go_ret
          refine ⟨[[x]], _, q5, rfl, prgOk_one Hix.out, prg_oneQ ((Own.new _ _ _).alloc _) (by simpa using Own.new (w5.alloc _) _ _) (by omega) (by omega), ⟨by simp, fun t ht => by simp at ht; subst ht; simp⟩, (Hm5.out.alloc _).alloc _, (Hr5.out.alloc _).alloc _, by omega⟩
        · rw [hv] at hvalid
          have Hv := Lib.hid hvalid
          have Hpk := Lib.hid (prgB_iff.1 hv)
          clear hvalid hv
          go_wp2_with fail
          refine Hv.out.mono ?_
          rintro e3 w3 ⟨rfl, hb3⟩
          go_wp2_with fail
          go_ret
          exact ⟨pr, _, q', rfl, Hpk.out, PrgQ.le Hps.out (Le.above_le _ (Le.below hb3)), Hfew.out, hmo.out.trans (Mv.of_below hb3), hro.out.below hb3, by omega⟩

end Go.Proofs.YtahegjofooahkaaGreat
