/-
  The walk of DrawProgramValid: some program of few threads and instructions.
-/
import Derived.Test.YtpadkallejfdlaaDp8
namespace Go.Proofs.Ytpadkallejfdlaa
open Go.RowKit
set_option linter.unusedVariables false
set_option maxRecDepth 100000

/-- What draws hand back: a program, somewhere. -/
def RetDrP (w : World) (e : Ending) (w' : World) : Prop := ∃ (pr : Prg) (v : Value), e = .returned v ∧ PrgS (above w.heap.size w') v pr ∧ Few 2000 2000 pr ∧ Below w.heap.size w w'
theorem Mv.belowR {w W V : World} {R : Nat} (hb : Below w.heap.size w W) (hR : w.heap.size ≤ R) (m : Mv R W V) : Below w.heap.size w V := hb.trans (m.below hR hb.size)

/-- The literal program of three empty threads. -/
theorem three {w : World} (V : World) (hV : V = (((w.alloc (.cells #[] 65)).alloc (.cells #[] 65)).alloc (.cells #[] 65)).alloc (.cells #[.slice (some ⟨w.heap.size, 0, none⟩) 0 0, .slice (some ⟨w.heap.size + 1, 0, none⟩) 0 0, .slice (some ⟨w.heap.size + 2, 0, none⟩) 0 0] 36)) :
    PrgW V w.heap.size (.slice (some ⟨w.heap.size + 3, 0, none⟩) 3 3) [[], [], []] [.slice (some ⟨w.heap.size, 0, none⟩) 0 0, .slice (some ⟨w.heap.size + 1, 0, none⟩) 0 0, .slice (some ⟨w.heap.size + 2, 0, none⟩) 0 0] (fun i => [w.heap.size + i]) := by
  have o0 : Own V w.heap.size 65 #[] := by rw [hV]; exact (((Own.new _ _ _).alloc _).alloc _).alloc _
  have o1 : Own V (w.heap.size + 1) 65 #[] := by rw [hV]; exact ((own_new2 _ _ _ _).alloc _).alloc _
  have o2 : Own V (w.heap.size + 2) 65 #[] := by
    rw [hV]
    have h := Own.new ((w.alloc (.cells #[] 65)).alloc (.cells #[] 65)) 65 #[]
    rw [World.size_alloc, World.size_alloc] at h
    exact h.alloc _
  have o3 : Own V (w.heap.size + 3) 36 #[.slice (some ⟨w.heap.size, 0, none⟩) 0 0, .slice (some ⟨w.heap.size + 1, 0, none⟩) 0 0, .slice (some ⟨w.heap.size + 2, 0, none⟩) 0 0] := by
    rw [hV]
    have h := Own.new (((w.alloc (.cells #[] 65)).alloc (.cells #[] 65)).alloc (.cells #[] 65)) 36 #[.slice (some ⟨w.heap.size, 0, none⟩) 0 0, .slice (some ⟨w.heap.size + 1, 0, none⟩) 0 0, .slice (some ⟨w.heap.size + 2, 0, none⟩) 0 0]
    rw [World.size_alloc, World.size_alloc, World.size_alloc] at h
    exact h
  have th : ∀ b, Own V b 65 #[] → thr V (fun _ => .slice (some ⟨b, 0, none⟩) 0 0) [] [b] := fun b h => ⟨RowOf.made _ h (Nat.zero_le _), rfl⟩
  refine ⟨⟨rfl, .inr ⟨_, 3, _, rfl, by omega, o3, by simp, by simp [maxLen], by simp, by simp⟩⟩, fun i hi => ?_, ?_, fun i hi b hb => ?_⟩
  · match i, hi with
    | 0, _ => exact thr_loc.congr (fun j hj => by obtain rfl : j = 0 := by omega
                                                  rfl) (th _ o0)
    | 1, _ => exact thr_loc.congr (fun j hj => by obtain rfl : j = 0 := by omega
                                                  rfl) (th _ o1)
    | 2, _ => exact thr_loc.congr (fun j hj => by obtain rfl : j = 0 := by omega
                                                  rfl) (th _ o2)
  · refine nodup_ft.2 ⟨fun i _ => by simp, fun i j _ _ hne x hx hx' => ?_⟩
    simp at hx hx'
    omega
  · simp at hb hi
    subst hb
    exact ⟨by omega, fun e => by simp only [Value.ownBlock, Option.some.injEq] at e; omega⟩

set_option maxHeartbeats 4000000 in
theorem drawPV_any (w : World) (A : Option Addr) (n c : Nat) (h : Bys w A n) (hnc : n ≤ c) (hA : A = none → n = 0) : Calls Try.prog 43 #[.slice A n c] w (RetDrP w) := by
  obtain ⟨i0, hi0, hz0, hz1, hz2⟩ := info_parts Try.infoIns
  go_enter Try.func43, Try.ntmps43
  go_wp2_with fail
  refine (open_any w A n c h hnc hA).mono ?_
  rintro e1 w1 ⟨R, rfl, hR, hr1, hb1⟩
  have hpk := pick_any _ R 0 20 (by omega) hr1
  go_wp2_with fail
  refine hpk.mono ?_
  rintro e2 w2 ⟨k, rfl, _, _, m2, r2⟩
  have hB2 := Mv.belowR hb1 hR m2
  have hR2 := r2.lt
  have hs2 := hB2.size
  clear hpk hb1 hr1 m2
  by_cases hk : k = 0
  · subst hk
    obtain ⟨V, hV⟩ : ∃ V, V = (((w2.alloc (.cells #[] 65)).alloc (.cells #[] 65)).alloc (.cells #[] 65)).alloc (.cells #[.slice (some ⟨w2.heap.size, 0, none⟩) 0 0, .slice (some ⟨w2.heap.size + 1, 0, none⟩) 0 0, .slice (some ⟨w2.heap.size + 2, 0, none⟩) 0 0] 36) := ⟨_, rfl⟩
    have h3 := three V hV
    have hms : MuS w2 V R (0 + 1) (.slice (some ⟨w2.heap.size + 3, 0, none⟩) 3 3) [[], [], []] [.slice (some ⟨w2.heap.size, 0, none⟩) 0 0, .slice (some ⟨w2.heap.size + 1, 0, none⟩) 0 0, .slice (some ⟨w2.heap.size + 2, 0, none⟩) 0 0] (fun i => [w2.heap.size + i]) :=
      ⟨h3, by rw [hV]; exact ((((Mv.refl _ _).alloc _).alloc _).alloc _).alloc _, by rw [hV]; exact (((r2.alloc _).alloc _).alloc _).alloc _, hR2⟩
    have Hms := Lib.hid hms
    clear h3 hms
    go_wp2_with fail
    rw [← hV]
    clear hV
    go_loopg [5] 9 (fun g5 s5 wr => ∃ (k : Nat) (pr : Prg) (cs : List Value) (Fs : Nat → List Nat), k ≤ 9 ∧ g5 = 9 - k ∧ s5 = .int .i64 k ∧ Hid (MuS w2 wr R (0 + 1) (.slice (some ⟨w2.heap.size + 3, 0, none⟩) 3 3) pr cs Fs) ∧ Hid (pr.length = 3 ∧ ∀ t ∈ pr, t.length ≤ k))
    case atStart => exact ⟨0, [[], [], []], _, _, by omega, rfl, rfl, Hms.out, rfl, by simp⟩
    case round =>
      obtain ⟨k, pr, cs, Fs, hk9, rfl, rfl, HR, HL⟩ := hrel
      by_cases hk : k < 9
      · have bk : decide ((k : Int) < 9) = true := by rw [decide_eq_true_iff]; omega
        have hi5 : k % 3 < pr.length := by rw [HL.out.1]; omega
        obtain ⟨g, c5', e5, hgb5, hgl5, hc5, hfr5, hth5, hnd5, hge5, _, _⟩ := HR.out.row.elem1 thr_loc hi5
        have htl := HL.out.2 _ (List.getElem_mem hi5)
        injection e5 with e5 e6 e7
        injection e5 with e5
        injection e5 with e5
        have Heg := Lib.hid e5
        clear e5 e6 e7
        have hti5 := hth5.1
        simp only at hti5
        obtain ⟨A5, c5, hvi5, htc5, _⟩ := hti5.slice
        have Htg5 : Hid ((Value.slice A5 pr[k % 3].length c5).ownBlock ≠ some g) := fun e => (hge5 g (by rw [hth5.2]; exact mem_own.2 (by rw [hvi5]; exact e))).2 rfl
        obtain ⟨cells5, hown5, hqt5⟩ := hti5
        rw [hvi5] at hown5 hc5
        have Hvi5 := Lib.hid hvi5
        have Hown5 := Lib.hid hown5
        have Hqt5 := Lib.hid hqt5
        have HL' : Hid (∀ t, t.length ≤ k + 1 → (pr.set (k % 3) t).length = 3 ∧ ∀ x ∈ pr.set (k % 3) t, x.length ≤ k + 1) := fun t ht => ⟨by rw [List.length_set]; exact HL.out.1, fun x hx => by
          rcases List.mem_or_eq_of_mem_set hx with hx | rfl
          · have := HL.out.2 x hx; omega
          · exact ht⟩
        generalize pr[k % 3] = t' at htl Htg5 Hvi5 Hown5 Hqt5 htc5 hc5
        have hg3 : g = w2.heap.size + 3 := Heg.out.symm
        have i1 : ((k : Int) % 3) < 3 := Int.emod_lt_of_pos _ (by omega)
        have i2 : (0 : Int) ≤ (k : Int) % 3 := Int.emod_nonneg _ (by omega)
        have i3 : ((k : Int) % 3).toNat = k % 3 := by omega
        subst hg3
        clear hown5 hqt5 hvi5 hth5 hnd5 hge5 Heg
        go_wp2_with (at_builtin; refine wpList_append_lies _ (by rfl) _ _ _ (by rfl) 0 65 i0 _ 4 32 Try.underlying36 hi0 hz0 hz1 hz2 rfl (by omega) (.slice A5 t'.length c5) t'.length cells5 (by rfl) (owns_alloc Hown5.out _) ⟨wr.heap.size, 0, none⟩ 1 1 [.int .i64 5, .int .i64 0, .int .i64 0, .int .i64 1] (by rfl) (by rfl) (World.news_of_block (cs := #[.int .i64 5, .int .i64 0, .int .i64 0, .int .i64 1]) (t := 65) (fr := (0, 0)) (heap_alloc_new wr _)) (by simp [Value.oneCell']) (by omega) (by simp [maxLen]; omega) (by omega) (by simp) (wr.heap.size + 1) (by simp) ?_; intro gg cap w7 hown7 hgrow hat7 hlt7; have q2 : w7.cell? ⟨w2.heap.size + 3, k % 3, none⟩ = some (.slice A5 t'.length c5) := (by rw [hgrow.cell_far _ (by simp; omega) (fun e => Htg5.out e.symm), World.cell?_alloc_lt _ _ _ hgl5]; exact hc5); have qf : w7.frozen? ⟨w2.heap.size + 3, k % 3, none⟩ = false := (by rw [hgrow.frozen_far _ (by simp; omega) (fun e => Htg5.out e.symm)]; exact (World.frozen?_of_block (w := wr) (Go.Deep.blk_alloc_lt _ _ _ hgl5)).trans hfr5))
        obtain ⟨cs9, Fs9, h9⟩ := MuS.app (V := wr) ⟨5, 0, 0, 1⟩ HR.out hi5 Hvi5.out Hown5.out Hqt5.out ((Mv.refl R wr).alloc _) (HR.out.rd.alloc _) hgrow rfl ⟨rfl, rfl, rfl, rfl⟩ hown7 hat7 (by omega)
        go_roundg (9 - (k + 1))
        case measure => omega
        case rel => exact ⟨k + 1, _, cs9, Fs9, by omega, rfl, by go_num, h9, HL'.out _ (by simp; omega)⟩
      · have bk : decide ((k : Int) < 9) = false := by rw [decide_eq_false_iff_not]; omega
        go_wp2_with fail
        go_ret
        exact ⟨pr, _, rfl, PrgS.le HR.out.row.prgS (Le.above_mono hs2 _), ⟨by rw [HL.out.1]; omega, fun t ht => by have := HL.out.2 t ht; omega⟩, hB2.trans (HR.out.mv.below hR hB2.size)⟩
  · go_wp2_with fail
    refine (drawP_any _ R _ (by omega) r2).mono ?_
    rintro e3 w3 ⟨pr, v3, p3, rfl, hps, hfew, m3, r3, hp3⟩
    have hB3 := hB2.trans (m3.below hR hB2.size)
    have hs3 := hB3.size
    clear m3 r2
    go_wp2_with fail
    refine (mutP_any _ R _ _ pr (by omega) r3 (PrgS.le hps (Le.above _ _)) (hfew.mono (by omega) (by omega))).mono ?_
    rintro e4 w4 ⟨pr4, v4, p4, rfl, hps4, hfew4, m4, r4, hp4⟩
    go_wp2_with fail
    go_ret
    exact ⟨pr4, v4, rfl, PrgS.le hps4 (Le.above_mono hs3 _), hfew4, hB3.trans (m4.below hR hB3.size)⟩

end Go.Proofs.Ytpadkallejfdlaa
