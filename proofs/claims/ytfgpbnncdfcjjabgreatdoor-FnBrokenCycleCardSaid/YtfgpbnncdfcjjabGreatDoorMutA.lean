/-
  The walk of l7Mutate, of an expression that has operands. The walks of DrawRelExprValid, DrawFormatRelExpr, DrawRelExprSame.
-/
import Derived.Test.YtfgpbnncdfcjjabGreatDoorDr
import Derived.Deep.RegionLaw
import Derived.Deep.RegionWith

/-! The walk of l7Mutate, of an expression that has operands. -/
namespace Go.Proofs.YtfgpbnncdfcjjabGreatDoor
open Go.RowKit
set_option linter.unusedVariables false
set_option maxRecDepth 100000

set_option maxHeartbeats 16000000 in
theorem mutateZ_any (Z : Nat) (w : World) (hZ : Z < w.heap.size) (R p : Nat) (x : RE) (A : Option Addr) (c : Nat) (hp : p ≤ 1000000) (hr : Rd w R p) (hx : RepK (keepW (Kz Z R) w) A c x) (hn : x.name.size ≤ 300) (hkl : x.kids.length ≤ 1000) :
    Calls Tryz.prog 91 #[.pointer (some ⟨R, 0, none⟩), .agg #[.int .i64 x.op, .string x.name, .slice A x.kids.length c]] w (RetMutZ Z w R p x) := by
  obtain ⟨i0, hi0, hz0, hz1, hz2⟩ := info_parts Tryz.infoRE
  obtain ⟨W, hW⟩ : ∃ W, W = (w.alloc (.cells #[.int .i64 x.op, .string x.name, .slice A x.kids.length c] 57)).alloc (.cells #[.int .i64 0, .string ⟨#[]⟩, .slice none 0 0] 57) := ⟨_, rfl⟩
  have hsW : W.heap.size = w.heap.size + 2 := by rw [hW]; simp
  have boxW : Own W w.heap.size 57 #[.int .i64 x.op, .string x.name, .slice A x.kids.length c] := by rw [hW]; exact (Own.new _ _ _).alloc _
  have hlW : Le w W := by rw [hW]; exact (Le.alloc _ _).trans (Le.alloc _ _)
  have resW : Own W (w.heap.size + 1) 57 #[.int .i64 0, .string ⟨#[]⟩, .slice none 0 0] := by
    have h := Own.new (w.alloc (.cells #[.int .i64 x.op, .string x.name, .slice A x.kids.length c] 57)) 57 #[.int .i64 0, .string ⟨#[]⟩, .slice none 0 0]
    rw [World.size_alloc, ← hW] at h
    exact h
  have mvW : Mv R w W := by rw [hW]; exact ((Mv.refl _ _).alloc _).alloc _
  have hR := hr.lt
  have hRW : W.heap[R]? = w.heap[R]? := by rw [hW, Go.Deep.blk_alloc_lt _ _ _ (by simp; omega), Go.Deep.blk_alloc_lt _ _ _ hR]
  have ResW := Lib.hid resW
  have MvW := Lib.hid mvW
  have HRW := Lib.hid hRW
  have Hr := Lib.hid hr
  clear resW mvW hRW
  have x0 := boxW.cell (i := 0) rfl
  have x1 := boxW.cell (i := 1) rfl
  have x2 := boxW.cell (i := 2) rfl
  have hl0 := boxW.lt
  go_enter Tryz.func91, Tryz.ntmps91
  go_wp2_with fail
  rw [← hW]
  have Hx := Lib.hid hx
  clear hW hr hx
  have own2 : Own (W.alloc (.cells #[] 57)) (w.heap.size + 2) 57 #[] := by rw [← hsW]; exact Own.new _ _ _
  have Own2 := Lib.hid own2
  have HlW := Lib.hid hlW
  have BoxW := Lib.hid boxW
  clear own2 hlW boxW
  have own3 : Own ((W.alloc (.cells #[] 57)).alloc (.cells #[.int .i64 0, .string ⟨#[]⟩, .slice none 0 0] 57)) (w.heap.size + 3) 57 #[.int .i64 0, .string ⟨#[]⟩, .slice none 0 0] := by
    have h := Own.new (W.alloc (.cells #[] 57)) 57 #[.int .i64 0, .string ⟨#[]⟩, .slice none 0 0]
    rw [World.size_alloc, hsW] at h
    exact h
  have Own3 := Lib.hid own3
  have own4 : Own ((W.alloc (.cells #[.int .i64 0, .string ⟨#[]⟩, .slice none 0 0] 57)).alloc (.cells #[] 57)) (w.heap.size + 3) 57 #[] := by
    have h := Own.new (W.alloc (.cells #[.int .i64 0, .string ⟨#[]⟩, .slice none 0 0] 57)) 57 #[]
    rw [World.size_alloc, hsW] at h
    exact h
  have Own4 := Lib.hid own4
  have own5 : Own (W.alloc (.cells #[.int .i64 0, .string ⟨#[]⟩, .slice none 0 0] 57)) (w.heap.size + 2) 57 #[.int .i64 0, .string ⟨#[]⟩, .slice none 0 0] := by rw [← hsW]; exact Own.new _ _ _
  have Own5 := Lib.hid own5
  clear own3 own4 own5
  refine Code.wp_mono (Q := MutQ Z w R p x (.agg #[.int .i64 x.op, .string x.name, .slice A x.kids.length c])) ?post ?reg
  case reg =>
    rcases Nat.eq_zero_or_pos x.kids.length with hk0 | hk0
    · rw [hk0] at x2 ⊢
      go_region_held3 (fun W => W.cell? ⟨w.heap.size, 0, none⟩ = some (.int .i64 x.op) ∧ W.cell? ⟨w.heap.size, 1, none⟩ = some (.string x.name) ∧ W.cell? ⟨w.heap.size, 2, none⟩ = some (.slice A 0 c)) (go_keep)
        (first
          | (refine step_append_empty _ (by rfl) _ _ _ (by rfl) 57 i0 Tryz.underlying55 hi0 (w.heap.size + 2) 0 0 0 (by omega) A c (by rfl) (by rfl) ?_)
          | (refine step_append_empty _ (by rfl) _ _ _ (by rfl) 57 i0 Tryz.underlying55 hi0 (w.heap.size + 3) 0 0 0 (by omega) A c (by rfl) (by rfl) ?_))
      · obtain ⟨O, hO⟩ : ∃ O, O = w.heap.size + 2 + 1 := ⟨_, rfl⟩
        obtain ⟨V, hV⟩ : ∃ V, V = ((W.alloc (.cells #[] 57)).alloc (.cells #[.int .i64 x.op, .string x.name, .slice (some ⟨w.heap.size + 2, 0, none⟩) 0 0] 57)).drew := ⟨_, rfl⟩
        have h1 := Own.new W 57 #[]
        rw [hsW] at h1
        have h2 := Own.new (W.alloc (.cells #[] 57)) 57 #[.int .i64 x.op, .string x.name, .slice (some ⟨w.heap.size + 2, 0, none⟩) 0 0]
        rw [World.size_alloc, hsW] at h2
        have ms : MutS Z w V R p O x (.slice (some ⟨w.heap.size + 2, 0, none⟩) 0 0) := by
          have hVm : Mv R w V := by rw [hV]; exact ((MvW.out.alloc _).alloc _).drew
          have hrW : Rd W R p := rd_mv Hr.out MvW.out HRW.out
          exact MutS.empty hZ hk0 (by rw [hV, hO]; exact h2.drew) (by rw [hV]; exact (h1.alloc _).drew) (by omega) (by omega) (by omega) (by rw [hV]; exact ((ResW.out.alloc _).alloc _).drew) hVm (by rw [hV]; exact ((hrW.alloc _).alloc _).drew) (by omega) hR hn
        rw [← hV, ← hO]
        exact ⟨rfl, O, _, _, _, _, _, _, _, _, _, _, ms, rfl⟩
      · obtain ⟨O, hO⟩ : ∃ O, O = w.heap.size + 2 + 1 := ⟨_, rfl⟩
        obtain ⟨V, hV⟩ : ∃ V, V = ((W.alloc (.cells #[] 57)).alloc (.cells #[.int .i64 x.op, .string x.name, .slice (some ⟨w.heap.size + 2, 0, none⟩) 0 0] 57)).drew := ⟨_, rfl⟩
        have h1 := Own.new W 57 #[]
        rw [hsW] at h1
        have h2 := Own.new (W.alloc (.cells #[] 57)) 57 #[.int .i64 x.op, .string x.name, .slice (some ⟨w.heap.size + 2, 0, none⟩) 0 0]
        rw [World.size_alloc, hsW] at h2
        have ms : MutS Z w V R p O x (.slice (some ⟨w.heap.size + 2, 0, none⟩) 0 0) := by
          have hVm : Mv R w V := by rw [hV]; exact ((MvW.out.alloc _).alloc _).drew
          have hrW : Rd W R p := rd_mv Hr.out MvW.out HRW.out
          exact MutS.empty hZ hk0 (by rw [hV, hO]; exact h2.drew) (by rw [hV]; exact (h1.alloc _).drew) (by omega) (by omega) (by omega) (by rw [hV]; exact ((ResW.out.alloc _).alloc _).drew) hVm (by rw [hV]; exact ((hrW.alloc _).alloc _).drew) (by omega) hR hn
        rw [← hV, ← hO]
        exact ⟨rfl, O, _, _, _, _, _, _, _, _, _, _, ms, rfl⟩
      · obtain ⟨O, hO⟩ : ∃ O, O = w.heap.size + 2 := ⟨_, rfl⟩
        obtain ⟨V, hV⟩ : ∃ V, V = ((W.alloc (.cells #[.int .i64 x.op, .string x.name, .slice (some ⟨w.heap.size + 3, 0, none⟩) 0 0] 57)).alloc (.cells #[] 57)).drew := ⟨_, rfl⟩
        have h1 := Own.new W 57 #[.int .i64 x.op, .string x.name, .slice (some ⟨w.heap.size + 3, 0, none⟩) 0 0]
        rw [hsW] at h1
        have h2 := Own.new (W.alloc (.cells #[.int .i64 x.op, .string x.name, .slice (some ⟨w.heap.size + 3, 0, none⟩) 0 0] 57)) 57 #[]
        rw [World.size_alloc, hsW] at h2
        have ms : MutS Z w V R p O x (.slice (some ⟨w.heap.size + 3, 0, none⟩) 0 0) := by
          have hVm : Mv R w V := by rw [hV]; exact ((MvW.out.alloc _).alloc _).drew
          have hrW : Rd W R p := rd_mv Hr.out MvW.out HRW.out
          exact MutS.empty hZ hk0 (by rw [hV, hO]; exact (h1.alloc _).drew) (by rw [hV]; exact h2.drew) (by omega) (by omega) (by omega) (by rw [hV]; exact ((ResW.out.alloc _).alloc _).drew) hVm (by rw [hV]; exact ((hrW.alloc _).alloc _).drew) (by omega) hR hn
        rw [← hV, ← hO]
        exact ⟨rfl, O, _, _, _, _, _, _, _, _, _, _, ms, rfl⟩
    · obtain ⟨b, o, rfl, news, hnl, hna, hre⟩ := SlR.news Hx.out.2 (by omega) hk0
      have hnaW : NewsAt W ⟨b, o, none⟩ news := (hna.le (fun a u hc => (of_cell_keepW hc).2)).le HlW.out
      have hone : ∀ u ∈ news, u.oneCell' = true := news_one (k := 3) (by omega) hnl fun i hi j hj => by
        obtain ⟨cs, h1, h2⟩ := hre i hi
        obtain ⟨A', c', e0, e1, e2, _⟩ := repE_K.1 h2
        rw [← h1 j hj]
        match j, hj with
        | 0, _ => rw [e0]; rfl
        | 1, _ => rw [e1]; rfl
        | 2, _ => rw [e2]; rfl
      have Hone := Lib.hid hone
      have Hre := Lib.hid hre
      have HnaW := Lib.hid hnaW
      clear hone hre hnaW hna
      go_region_held3 (fun W => W.cell? ⟨w.heap.size, 0, none⟩ = some (.int .i64 x.op) ∧ W.cell? ⟨w.heap.size, 1, none⟩ = some (.string x.name) ∧ W.cell? ⟨w.heap.size, 2, none⟩ = some (.slice (some ⟨b, o, none⟩) x.kids.length c))
        ((go_split_ands; refine ⟨?_, ?_, ?_⟩ <;> first | assumption | (simp only [World.cell?_drew]; assumption) | (simp only [World.cell?_drew]; rw [World.cell?_alloc_lt _ _ _ (by show w.heap.size < W.heap.size; omega)]; assumption) | (simp only [World.cell?_drew]; rw [World.cell?_alloc_lt _ _ _ (by simp; omega), World.cell?_alloc_lt _ _ _ (by simp; omega)]; assumption) | (rw [World.cell?_alloc_lt _ _ _ (by show w.heap.size < w1.heap.size; omega)]; assumption) | (rw [World.cell?_setCell_far _ _ _ _ (by show w.heap.size + 3 ≠ w.heap.size; omega), World.cell?_setCell_far _ _ _ _ (by show w.heap.size + 3 ≠ w.heap.size; omega), World.cell?_setCell_far _ _ _ _ (by show w.heap.size + 3 ≠ w.heap.size; omega)]; assumption) | (rw [World.cell?_setCell_far _ _ _ _ (by show w.heap.size + 2 ≠ w.heap.size; omega), World.cell?_setCell_far _ _ _ _ (by show w.heap.size + 2 ≠ w.heap.size; omega), World.cell?_setCell_far _ _ _ _ (by show w.heap.size + 2 ≠ w.heap.size; omega)]; assumption)))
        (first
          | (refine step_append_lies _ (by rfl) _ _ _ (by rfl) w.heap.size 57 i0 _ 3 48 Tryz.underlying55 hi0 hz0 hz1 hz2 rfl (by omega) (.slice (some ⟨w.heap.size + 2, 0, none⟩) 0 0) 0 [] (by rfl) (made_owns Own2.out.drew (by omega)) ⟨b, o, none⟩ x.kids.length c news (by rfl) hnl (HnaW.out.le ((Le.alloc _ _).to_drew)) Hone.out (by omega) (by simp [maxLen]; omega) (by omega) (by simp; omega) (w.heap.size + 3) (by simp; omega) ?_; intro gg cap w1 hown1 hgrow hat hlt; have hw1 : w.heap.size + 3 ≤ w1.heap.size := (by have := World.grownBy.size hgrow; simp at this; omega); have ygen : ∀ o : Nat, w1.cell? ⟨w.heap.size, o, none⟩ = W.cell? ⟨w.heap.size, o, none⟩ := (fun o => by rw [hgrow.cell_far _ (by simp; omega) (by simp [Value.ownBlock]), World.cell?_drew, World.cell?_alloc_lt _ _ _ (by simp; omega)]); have y0 := (ygen 0).trans x0; have y1 := (ygen 1).trans x1; have y2 := (ygen 2).trans x2; clear ygen)
          | (refine step_append_lies _ (by rfl) _ _ _ (by rfl) w.heap.size 57 i0 _ 3 48 Tryz.underlying55 hi0 hz0 hz1 hz2 rfl (by omega) (.slice (some ⟨w.heap.size + 2, 0, none⟩) 0 0) 0 [] (by rfl) (made_owns (Own2.out.alloc _).drew (by omega)) ⟨b, o, none⟩ x.kids.length c news (by rfl) hnl (HnaW.out.le (((Le.alloc _ _).to_alloc _).to_drew)) Hone.out (by omega) (by simp [maxLen]; omega) (by omega) (by simp; omega) (w.heap.size + 4) (by simp; omega) ?_; intro gg cap w1 hown1 hgrow hat hlt; have hw1 : w.heap.size + 4 ≤ w1.heap.size := (by have := World.grownBy.size hgrow; simp at this; omega); have ygen : ∀ o : Nat, w1.cell? ⟨w.heap.size, o, none⟩ = W.cell? ⟨w.heap.size, o, none⟩ := (fun o => by rw [hgrow.cell_far _ (by simp; omega) (by simp [Value.ownBlock]), World.cell?_drew, World.cell?_alloc_lt _ _ _ (by simp; omega), World.cell?_alloc_lt _ _ _ (by simp; omega)]); have y0 := (ygen 0).trans x0; have y1 := (ygen 1).trans x1; have y2 := (ygen 2).trans x2; clear ygen; have ownO := Own.of_block (Own3.out.drew) (hgrow.block (w.heap.size + 3) (by simp; omega) (by simp [Value.ownBlock])); obtain ⟨z0, z1, z2, f0, f1, f2, zl⟩ := Own.res' ownO; have OwnO := Lib.hid ownO; clear ownO)
          | (refine step_append_lies _ (by rfl) _ _ _ (by rfl) w.heap.size 57 i0 _ 3 48 Tryz.underlying55 hi0 hz0 hz1 hz2 rfl (by omega) (.slice (some ⟨w.heap.size + 3, 0, none⟩) 0 0) 0 [] (by rfl) (made_owns Own4.out.drew (by omega)) ⟨b, o, none⟩ x.kids.length c news (by rfl) hnl (HnaW.out.le (((Le.alloc _ _).to_alloc _).to_drew)) Hone.out (by omega) (by simp [maxLen]; omega) (by omega) (by simp; omega) (w.heap.size + 4) (by simp; omega) ?_; intro gg cap w1 hown1 hgrow hat hlt; have hw1 : w.heap.size + 4 ≤ w1.heap.size := (by have := World.grownBy.size hgrow; simp at this; omega); have ygen : ∀ o : Nat, w1.cell? ⟨w.heap.size, o, none⟩ = W.cell? ⟨w.heap.size, o, none⟩ := (fun o => by rw [hgrow.cell_far _ (by simp; omega) (by simp [Value.ownBlock]), World.cell?_drew, World.cell?_alloc_lt _ _ _ (by simp; omega), World.cell?_alloc_lt _ _ _ (by simp; omega)]); have y0 := (ygen 0).trans x0; have y1 := (ygen 1).trans x1; have y2 := (ygen 2).trans x2; clear ygen; have ownO := Own.of_block ((Own5.out.alloc _).drew) (hgrow.block (w.heap.size + 2) (by simp; omega) (by simp [Value.ownBlock])); obtain ⟨z0, z1, z2, f0, f1, f2, zl⟩ := Own.res' ownO; have OwnO := Lib.hid ownO; clear ownO))
      · have hg' := hgrow
        simp only [Value.ownBlock] at hg'
        have m1 : Mv R w w1 := mv_grown (X := (W.alloc (.cells #[] 57)).drew) ((MvW.out.alloc _).drew) hg' (by omega)
        have hRb : w1.heap[R]? = w.heap[R]? := (World.grownBy.block hg' R (by simp; omega) (by simp; omega)).trans ((Go.Deep.blk_alloc_lt _ _ _ (by omega)).trans HRW.out)
        have hres1 : Own w1 (w.heap.size + 1) 57 #[.int .i64 0, .string ⟨#[]⟩, .slice none 0 0] := Own.of_block ((ResW.out.alloc _).drew) (World.grownBy.block hg' (w.heap.size + 1) (by simp; omega) (by simp))
        have hgg : gg = w.heap.size + 2 ∨ gg = w.heap.size + 3 := by
          rcases hat with h | h
          · left; simp only [Value.ownBlock, Option.some.injEq] at h; omega
          · right; exact h
        have hown2 : w1.ownsRow w.heap.size 57 3 (.slice (some ⟨gg, 0, none⟩) x.kids.length cap) x.kids.length news := by simpa using hown1
        obtain ⟨O, hO⟩ : ∃ O, O = w1.heap.size := ⟨_, rfl⟩
        obtain ⟨V, hV⟩ : ∃ V, V = w1.alloc (.cells #[.int .i64 x.op, .string x.name, .slice (some ⟨gg, 0, none⟩) x.kids.length cap] 57) := ⟨_, rfl⟩
        have ms : MutS Z w V R p O x (.slice (some ⟨gg, 0, none⟩) x.kids.length cap) := by
          have hVm : Mv R w V := by rw [hV]; exact m1.alloc _
          exact mutS_start hZ hR Hr.out m1 hRb hn hnl Hre.out hown2 hVm (fun i hi hlt => by rw [hV]; exact Go.Deep.blk_alloc_lt _ _ _ hlt) (by omega) (by omega) (by omega) (by omega) hlt (by rw [hV, hO]; exact Own.new _ _ _) hres1
        rw [← hV, ← hO]
        exact ⟨rfl, O, _, _, _, _, _, _, _, _, _, _, ms, rfl⟩
      · have hg' := hgrow
        simp only [Value.ownBlock] at hg'
        have m1 : Mv R w w1 := mv_grown (X := ((W.alloc (.cells #[] 57)).alloc (.cells #[.int .i64 0, .string ⟨#[]⟩, .slice none 0 0] 57)).drew) (((MvW.out.alloc _).alloc _).drew) hg' (by omega)
        have hRb : w1.heap[R]? = w.heap[R]? := (World.grownBy.block hg' R (by simp; omega) (by simp; omega)).trans ((Go.Deep.blk_alloc_lt _ _ _ (by simp; omega)).trans ((Go.Deep.blk_alloc_lt _ _ _ (by omega)).trans HRW.out))
        have hres1 : Own w1 (w.heap.size + 1) 57 #[.int .i64 0, .string ⟨#[]⟩, .slice none 0 0] := Own.of_block (((ResW.out.alloc _).alloc _).drew) (World.grownBy.block hg' (w.heap.size + 1) (by simp; omega) (by simp))
        have hgg : gg = w.heap.size + 2 ∨ gg = w.heap.size + 4 := by
          rcases hat with h | h
          · left; simp only [Value.ownBlock, Option.some.injEq] at h; omega
          · right; exact h
        have hown2 : w1.ownsRow w.heap.size 57 3 (.slice (some ⟨gg, 0, none⟩) x.kids.length cap) x.kids.length news := by simpa using hown1
        obtain ⟨O, hO⟩ : ∃ O, O = w.heap.size + 2 + 1 := ⟨_, rfl⟩
        obtain ⟨V, hV⟩ : ∃ V, V = ((w1.setCell ⟨w.heap.size + 2 + 1, 0, none⟩ (.int .i64 x.op)).setCell ⟨w.heap.size + 2 + 1, 1, none⟩ (.string x.name)).setCell ⟨w.heap.size + 2 + 1, 2, none⟩ (.slice (some ⟨gg, 0, none⟩) x.kids.length cap) := ⟨_, rfl⟩
        have ms : MutS Z w V R p O x (.slice (some ⟨gg, 0, none⟩) x.kids.length cap) := by
          have hVm : Mv R w V := by rw [hV]; exact ((m1.setNew (by show w.heap.size ≤ w.heap.size + 2 + 1; omega) _).setNew (by show w.heap.size ≤ w.heap.size + 2 + 1; omega) _).setNew (by show w.heap.size ≤ w.heap.size + 2 + 1; omega) _
          exact mutS_start hZ hR Hr.out m1 hRb hn hnl Hre.out hown2 hVm (fun i hi hlt => by rw [hV]; exact (Below.heap_setCell _ _ _ _ (by show i ≠ w.heap.size + 2 + 1; omega)).trans ((Below.heap_setCell _ _ _ _ (by show i ≠ w.heap.size + 2 + 1; omega)).trans (Below.heap_setCell _ _ _ _ (by show i ≠ w.heap.size + 2 + 1; omega)))) (by omega) (by omega) (by omega) (by omega) hlt (by rw [hV, hO]; exact ((OwnO.out.set 0 _).set 1 _).set 2 _) hres1
        rw [← hV, ← hO]
        exact ⟨rfl, O, _, _, _, _, _, _, _, _, _, _, ms, rfl⟩
      · have hg' := hgrow
        simp only [Value.ownBlock] at hg'
        have m1 : Mv R w w1 := mv_grown (X := ((W.alloc (.cells #[.int .i64 0, .string ⟨#[]⟩, .slice none 0 0] 57)).alloc (.cells #[] 57)).drew) (((MvW.out.alloc _).alloc _).drew) hg' (by omega)
        have hRb : w1.heap[R]? = w.heap[R]? := (World.grownBy.block hg' R (by simp; omega) (by simp; omega)).trans ((Go.Deep.blk_alloc_lt _ _ _ (by simp; omega)).trans ((Go.Deep.blk_alloc_lt _ _ _ (by omega)).trans HRW.out))
        have hres1 : Own w1 (w.heap.size + 1) 57 #[.int .i64 0, .string ⟨#[]⟩, .slice none 0 0] := Own.of_block (((ResW.out.alloc _).alloc _).drew) (World.grownBy.block hg' (w.heap.size + 1) (by simp; omega) (by simp))
        have hgg : gg = w.heap.size + 3 ∨ gg = w.heap.size + 4 := by
          rcases hat with h | h
          · left; simp only [Value.ownBlock, Option.some.injEq] at h; omega
          · right; exact h
        have hown2 : w1.ownsRow w.heap.size 57 3 (.slice (some ⟨gg, 0, none⟩) x.kids.length cap) x.kids.length news := by simpa using hown1
        obtain ⟨O, hO⟩ : ∃ O, O = w.heap.size + 2 := ⟨_, rfl⟩
        obtain ⟨V, hV⟩ : ∃ V, V = ((w1.setCell ⟨w.heap.size + 2, 0, none⟩ (.int .i64 x.op)).setCell ⟨w.heap.size + 2, 1, none⟩ (.string x.name)).setCell ⟨w.heap.size + 2, 2, none⟩ (.slice (some ⟨gg, 0, none⟩) x.kids.length cap) := ⟨_, rfl⟩
        have ms : MutS Z w V R p O x (.slice (some ⟨gg, 0, none⟩) x.kids.length cap) := by
          have hVm : Mv R w V := by rw [hV]; exact ((m1.setNew (by show w.heap.size ≤ w.heap.size + 2; omega) _).setNew (by show w.heap.size ≤ w.heap.size + 2; omega) _).setNew (by show w.heap.size ≤ w.heap.size + 2; omega) _
          exact mutS_start hZ hR Hr.out m1 hRb hn hnl Hre.out hown2 hVm (fun i hi hlt => by rw [hV]; exact (Below.heap_setCell _ _ _ _ (by show i ≠ w.heap.size + 2; omega)).trans ((Below.heap_setCell _ _ _ _ (by show i ≠ w.heap.size + 2; omega)).trans (Below.heap_setCell _ _ _ _ (by show i ≠ w.heap.size + 2; omega)))) (by omega) (by omega) (by omega) (by omega) hlt (by rw [hV, hO]; exact ((OwnO.out.set 0 _).set 1 _).set 2 _) hres1
        rw [← hV, ← hO]
        exact ⟨rfl, O, _, _, _, _, _, _, _, _, _, _, ms, rfl⟩
  case post =>
    clear Own2 Own3 Own4 Own5 ResW MvW HRW Hr HlW BoxW x0 x1 x2 hl0 Hx hsW
    rintro e a V ⟨rfl, O, v, u7, u8, u9, u10, u11, u12, u13, u14, u15, ms, rfl⟩
    have hce : cntE x = 1 + cntL x.kids := by obtain ⟨op, name, kids⟩ := x; rw [cntE]; rfl
    go_wp2_with fail
    refine (pick_any V R p 24 (by omega) ms.rd).mono ?_
    rintro e2 V2 ⟨k, rfl, _, _, m2, rd2⟩
    have ms2 := ms.mv' m2 rd2
    clear ms m2 rd2
    by_cases c0 : k = 0
    · subst c0
      have il := Own.new V2 3 #[.int .i64 0, .int .i64 8, .int .i64 1, .int .i64 2, .int .i64 6]
      have hil : Ints (above (R + 1) (V2.alloc (.cells #[.int .i64 0, .int .i64 8, .int .i64 1, .int .i64 2, .int .i64 6] 3))) (some ⟨V2.heap.size, 0, none⟩) 5 [0, 8, 1, 2, 6] := ints_lit [0, 8, 1, 2, 6] il (by have := ms2.mv.size; omega) rfl (by omega) (fun i hi => by
        match i, hi with
        | 0, _ => rfl
        | 1, _ => rfl
        | 2, _ => rfl
        | 3, _ => rfl
        | 4, _ => rfl)
      have ms3 := ms2.alloc (.cells #[.int .i64 0, .int .i64 8, .int .i64 1, .int .i64 2, .int .i64 6] 3)
      have hnum := num_any (V2.alloc (.cells #[.int .i64 0, .int .i64 8, .int .i64 1, .int .i64 2, .int .i64 6] 3)) R (p + 1) _ 5 [0, 8, 1, 2, 6] (by omega) (ms2.rd.alloc _) hil (by simp)
      clear il hil ms2
      go_wp2_with fail
      refine hnum.mono ?_
      rintro e3 V3 ⟨op, rfl, _, m3, rd3⟩
      have ms4 := ms3.mv' m3 rd3
      have ms5 := ms4.setO 0 (.int .i64 op) (x' := .mk op x.name x.kids) rfl ms4.nm rfl
      clear ms3 hnum m3 rd3
      obtain ⟨A9, c9, rfl, _⟩ := ms4.rep
      obtain ⟨o0, o1, o2, of0, of1, of2, ol⟩ := ms4.out.res'
      obtain ⟨r0, r1, r2, g0, g1, g2, rl⟩ := ms4.res.res'
      have hOB : O ≠ w.heap.size + 1 := by have := ms4.hO; omega
      have hBO : w.heap.size + 1 ≠ O := by have := ms4.hO; omega
      have MSF := Lib.hid ms5
      clear ms4 ms5
      go_wp2_with fail
      refine bodyPost_ret (v := .agg #[.int .i64 op, .string x.name, .slice A9 x.kids.length c9]) (by simp [results, Tryz.results91, go_sem, r0, r1, r2]) rfl ?_
      exact MSF.out.fin (x := x) (by show x.kids.length ≤ _; omega) (by show 1 + cntL x.kids ≤ _; omega) (by omega)
    have bc0 : (k == 0) = false := by rw [beq_eq_false_iff_ne]; exact c0
    clear c0
    by_cases c1 : k = 1
    · subst c1
      have il := Own.new V2 9 #[.string ⟨#[]⟩, .string ⟨#[102, 111, 111]⟩, .string ⟨#[112, 111]⟩]
      have hil : Strs (above (R + 1) (V2.alloc (.cells #[.string ⟨#[]⟩, .string ⟨#[102, 111, 111]⟩, .string ⟨#[112, 111]⟩] 9))) (some ⟨V2.heap.size, 0, none⟩) 3 [⟨#[]⟩, ⟨#[102, 111, 111]⟩, ⟨#[112, 111]⟩] := strs_lit [⟨#[]⟩, ⟨#[102, 111, 111]⟩, ⟨#[112, 111]⟩] il (by have := ms2.mv.size; omega) rfl (by omega) (fun i hi => by
        match i, hi with
        | 0, _ => rfl
        | 1, _ => rfl
        | 2, _ => rfl)
      have ms3 := ms2.alloc (.cells #[.string ⟨#[]⟩, .string ⟨#[102, 111, 111]⟩, .string ⟨#[112, 111]⟩] 9)
      have hnum := of_any (V2.alloc (.cells #[.string ⟨#[]⟩, .string ⟨#[102, 111, 111]⟩, .string ⟨#[112, 111]⟩] 9)) R (p + 1) _ 3 [⟨#[]⟩, ⟨#[102, 111, 111]⟩, ⟨#[112, 111]⟩] (by omega) (ms2.rd.alloc _) hil (by simp)
      clear il hil ms2
      go_wp2_with fail
      refine hnum.mono ?_
      rintro e3 V3 ⟨nm1, rfl, hnm1, m3, rd3⟩
      have hsz1 : nm1.size ≤ 300 := by
        simp only [List.mem_cons, List.not_mem_nil, or_false] at hnm1
        rcases hnm1 with rfl | rfl | rfl <;> decide
      have ms4 := ms3.mv' m3 rd3
      have ms5 := ms4.setO 1 (.string nm1) (x' := .mk x.op nm1 x.kids) rfl hsz1 rfl
      clear ms3 hnum m3 rd3 hnm1
      obtain ⟨A9, c9, rfl, _⟩ := ms4.rep
      obtain ⟨o0, o1, o2, of0, of1, of2, ol⟩ := ms4.out.res'
      obtain ⟨r0, r1, r2, g0, g1, g2, rl⟩ := ms4.res.res'
      have hOB : O ≠ w.heap.size + 1 := by have := ms4.hO; omega
      have hBO : w.heap.size + 1 ≠ O := by have := ms4.hO; omega
      have MSF := Lib.hid ms5
      clear ms4 ms5
      go_wp2_with fail
      refine bodyPost_ret (v := .agg #[.int .i64 x.op, .string nm1, .slice A9 x.kids.length c9]) (by simp [results, Tryz.results91, go_sem, r0, r1, r2]) rfl ?_
      exact MSF.out.fin (x := x) (by show x.kids.length ≤ _; omega) (by show 1 + cntL x.kids ≤ _; omega) (by omega)
    have bc1 : (k == 1) = false := by rw [beq_eq_false_iff_ne]; exact c1
    clear c1
    by_cases c2 : k = 2
    · subst c2
      obtain ⟨A9, c9, rfl, _⟩ := ms2.rep
      obtain ⟨cs, hown, hq⟩ := ms2.row
      obtain ⟨o0, o1, o2, of0, of1, of2, ol⟩ := ms2.out.res'
      have hOR : R < O := by have := ms2.hO; omega
      have hdraw : ∀ W, Rd W R (p + 1) → Calls Tryz.prog 94 #[.pointer (some ⟨R, 0, none⟩), .int .i64 1] W (RetDraw W R (p + 1) 1) := fun W h => draw_any 1 (by omega) (by omega) W R (p + 1) (by omega) h
      have Hdraw := Lib.hid hdraw
      have Ms2 := Lib.hid ms2
      have Hown := Lib.hid hown
      have Hq := Lib.hid hq
      have Ol := Lib.hid ol
      have hsV2 := ms2.mv.size
      clear hdraw ms2 hown hq o0 o1
      go_wp2_with fail
      go_region_law (first
          | (go_simp; go_at_call 94; ((with_reducible refine (Hdraw.out _ ?_).mono ?_); (exact Ms2.out.rd.drew); rintro e5 V5 ⟨y, Ay, cy, Fy, p5, rfl, hoy, hFy, hshy, hcny, m5, rd5, hp5⟩; have y2 : V5.cell? ⟨O, 2, none⟩ = some (.slice A9 x.kids.length c9) := Mv.cell m5 o2 (by show O ≠ R; omega); have hs5 : V2.heap.size ≤ V5.heap.size := m5.size; have ol5 : O < V5.heap.size := Nat.lt_of_lt_of_le Ol.out hs5); go_wp2_with fail)
          | (refine step_append_lies _ (by rfl) _ _ _ (by rfl) w.heap.size 57 i0 _ 3 48 Tryz.underlying55 hi0 hz0 hz1 hz2 rfl (by omega) (.slice A9 x.kids.length c9) x.kids.length cs (by rfl) (owns_of_block Hown.out (fun g hv hb hlt => (Go.Deep.blk_alloc_lt _ _ _ (by omega)).trans (Mv.block m5 hlt (by omega))))
              ⟨V5.heap.size, 0, none⟩ 1 1 [.int .i64 y.op, .string y.name, .slice Ay y.kids.length cy] (by rfl) (by rfl) (World.news_of_block (cs := #[.int .i64 y.op, .string y.name, .slice Ay y.kids.length cy]) (t := 57) (fr := (0, 0)) (heap_alloc_new V5 _)) (by simp [Value.oneCell']) (by omega) (by simp [maxLen]; omega) (by omega) (by simp; omega) (V5.heap.size + 1) (by simp) ?_; intro gg cap w1 hown1 hgrow hat hlt; have q2 : w1.cell? ⟨O, 2, none⟩ = some (.slice A9 x.kids.length c9) := (by rw [hgrow.cell_far _ (by simp; omega) (fun e => Ms2.out.ne.1 e.symm), World.cell?_alloc_lt _ _ _ ol5]; exact y2); have qf : w1.frozen? ⟨O, 2, none⟩ = false := (by rw [hgrow.frozen_far _ (by simp; omega) (fun e => Ms2.out.ne.1 e.symm)]; exact (((Own.mv (b := O) Ms2.out.out.drew m5 (by have h1 := Ms2.out.hO; have h2 := Ms2.out.hR; omega)).alloc _).frozen 2))))
      all_goals
        have ms5 := MutS.push (y := y) Ms2.out Hown.out Hq.out (show Mv R V2 V5 from (Mv.refl R V2).drew.trans m5) rd5 hoy hFy hshy.name_le hgrow hown1 hat
        obtain ⟨V6, hV6⟩ : ∃ V6, V6 = w1.setCell ⟨O, 2, none⟩ (.slice (some ⟨gg, 0, none⟩) (x.kids.length + 1) cap) := ⟨_, rfl⟩
        obtain ⟨v6, hv6⟩ : ∃ v6, v6 = Value.slice (some ⟨gg, 0, none⟩) (x.kids.length + 1) cap := ⟨_, rfl⟩
        obtain ⟨x6, hx6⟩ : ∃ x6, x6 = RE.mk x.op x.name (x.kids ++ [y]) := ⟨_, rfl⟩
        have hk6 : x6.kids.length ≤ x.kids.length + 1 := by rw [hx6]; simp [RE.kids]
        have hc6 : cntE x6 ≤ cntE x + 12 := by rw [hx6, cntE, cntL_append, cntL, cntL]; omega
        rw [← hV6, ← hv6, ← hx6] at ms5
        rw [← hV6]
        clear y2 hown1 hgrow hat hlt q2 qf m5 rd5 hoy hFy hshy hcny hV6 hx6 hv6
        obtain ⟨A6, c6, rfl, _⟩ := ms5.rep
        obtain ⟨o0, o1, o2, of0, of1, of2, ol⟩ := ms5.out.res'
        obtain ⟨r0, r1, r2, g0, g1, g2, rl⟩ := ms5.res.res'
        have hOB : O ≠ w.heap.size + 1 := by have := ms5.hO; omega
        have hBO : w.heap.size + 1 ≠ O := by have := ms5.hO; omega
        have MSF := Lib.hid ms5
        clear ms5
        go_wp2_with fail
        refine bodyPost_ret (v := .agg #[.int .i64 x6.op, .string x6.name, .slice A6 x6.kids.length c6]) (by simp [results, Tryz.results91, go_sem, r0, r1, r2]) rfl ?_
        exact MSF.out.fin (x := x) hk6 hc6 (by omega)
    have bc2 : (k == 2) = false := by rw [beq_eq_false_iff_ne]; exact c2
    clear c2
    by_cases c3 : k = 3
    · subst c3
      obtain ⟨A9, c9, rfl, _⟩ := ms2.rep
      go_wp2_with fail
      go_loopg [6] 12 (fun g s6 wr => ∃ (i : Nat) (x' : RE) (A' : Option Addr) (c' : Nat), i ≤ 12 ∧ g = 12 - i ∧ s6 = .int .i64 i ∧ MutS Z w wr R (p + 1) O x' (.slice A' x'.kids.length c') ∧ cntE x' ≤ cntE x + i ∧ x'.kids.length ≤ x.kids.length + 1)
      case atStart => exact ⟨0, x, A9, c9, by omega, rfl, rfl, ms2, by omega, by omega⟩
      case round =>
        clear ms2
        obtain ⟨i, x', A', c', hi, rfl, rfl, ms2, hcx, hkx⟩ := hrel
        obtain ⟨o0, o1, o2, of0, of1, of2, ol⟩ := ms2.out.res'
        by_cases hlt : i < 12
        · have hlti : (i : Int) < 12 := by omega
          have ms5 := Lib.hid ms2.wrap
          clear ms2
          go_wp2_with fail
          go_roundg (12 - (i + 1))
          case measure => omega
          case rel => exact ⟨i + 1, .mk 6 ⟨#[]⟩ [x'], _, 1, by omega, rfl, by go_num, ms5.out, by rw [cntE, cntL, cntL]; omega, by show 1 ≤ _; omega⟩
        · obtain ⟨r0, r1, r2, g0, g1, g2, rl⟩ := ms2.res.res'
          have hOB : O ≠ w.heap.size + 1 := by have := ms2.hO; omega
          have hBO : w.heap.size + 1 ≠ O := by have := ms2.hO; omega
          have MSF := Lib.hid ms2
          clear ms2
          go_wp2_with fail
          refine bodyPost_ret (v := .agg #[.int .i64 x'.op, .string x'.name, .slice A' x'.kids.length c']) (by simp [results, Tryz.results91, go_sem, r0, r1, r2]) rfl ?_
          exact MSF.out.fin (x := x) (by omega) (by omega) (by omega)
    have bc3 : (k == 3) = false := by rw [beq_eq_false_iff_ne]; exact c3
    clear c3
    obtain ⟨A9, c9, rfl, _⟩ := ms2.rep
    obtain ⟨o0, o1, o2, of0, of1, of2, ol⟩ := ms2.out.res'
    obtain ⟨r0, r1, r2, g0, g1, g2, rl⟩ := ms2.res.res'
    have hOB : O ≠ w.heap.size + 1 := by have := ms2.hO; omega
    have hBO : w.heap.size + 1 ≠ O := by have := ms2.hO; omega
    have MSF := Lib.hid ms2
    clear ms2
    go_wp2_with fail
    refine bodyPost_ret (v := .agg #[.int .i64 x.op, .string x.name, .slice A9 x.kids.length c9]) (by simp [results, Tryz.results91, go_sem, r0, r1, r2]) rfl ?_
    exact MSF.out.fin (x := x) (by omega) (by omega) (by omega)

def RetMut (w : World) (R p : Nat) (x : RE) (e : Ending) (w' : World) : Prop :=
  ∃ (x' : RE) (A : Option Addr) (c p' : Nat), e = .returned (.agg #[.int .i64 x'.op, .string x'.name, .slice A x'.kids.length c]) ∧ RepK (above (R + 1) w') A c x' ∧ x'.name.size ≤ 300 ∧ x'.kids.length ≤ x.kids.length + 1 ∧ cntE x' ≤ cntE x + 12 ∧ Mv R w w' ∧ Rd w' R p' ∧ p' ≤ p + 100
theorem mutate_any (w : World) (R p : Nat) (x : RE) (A : Option Addr) (c : Nat) (hp : p ≤ 1000000) (hr : Rd w R p) (hx : RepK (above (R + 1) w) A c x) (hn : x.name.size ≤ 300) (hkl : x.kids.length ≤ 1000) :
    Calls Tryz.prog 91 #[.pointer (some ⟨R, 0, none⟩), .agg #[.int .i64 x.op, .string x.name, .slice A x.kids.length c]] w (RetMut w R p x) := by
  refine (mutateZ_any R w hr.lt R p x A c hp hr (hx.le fun a u hc => ?_) hn hkl).mono ?_
  · obtain ⟨h1, h2⟩ := cell_above_lt hc
    exact cell_keepW_of ⟨by omega, by omega⟩ h2
  · rintro e w' ⟨x', A', c', p', rfl, h1, h2⟩
    refine ⟨x', A', c', p', rfl, h1.le fun a u hc => ?_, h2⟩
    obtain ⟨h3, h4⟩ := of_cell_keepW hc
    exact cell_above_of (by have := h3.1; omega) h4

end Go.Proofs.YtfgpbnncdfcjjabGreatDoor

/-! The walks of DrawRelExprValid, DrawFormatRelExpr, DrawRelExprSame. -/
namespace Go.Proofs.YtfgpbnncdfcjjabGreatDoor
open Go.RowKit
set_option linter.unusedVariables false
set_option maxRecDepth 100000

/-- One expression that was drawn. -/
def RetDr (w : World) (e : Ending) (w' : World) : Prop :=
  ∃ (x : RE) (A : Option Addr) (c : Nat), e = .returned (.agg #[.int .i64 x.op, .string x.name, .slice A x.kids.length c]) ∧ RepK (above w.heap.size w') A c x ∧ cntE x ≤ 100 ∧ x.name.size ≤ 300 ∧ Below w.heap.size w w'

theorem le_res3 {V : World} {R B : Nat} (h : B ≤ R) (v0 v1 v2 : Value) (m : Nat) (hm : m ≤ R + 1) : Le (above (R + 1) V) (above m (((V.setCell ⟨B, 0, none⟩ v0).setCell ⟨B, 1, none⟩ v1).setCell ⟨B, 2, none⟩ v2)) :=
  (((Le.above_setCell _ _ (p := ⟨B, 0, none⟩) (by show B < R + 1; omega) _).trans (Le.above_setCell _ _ (p := ⟨B, 1, none⟩) (by show B < R + 1; omega) _)).trans (Le.above_setCell _ _ (p := ⟨B, 2, none⟩) (by show B < R + 1; omega) _)).trans (Le.above_mono hm _)
theorem cntE_kids' (e : RE) : cntE e = 1 + cntL e.kids := by obtain ⟨op, name, kids⟩ := e; rw [cntE]; rfl
theorem cnt_kids (xs : List RE) : xs.length ≤ cntL xs := by
  induction xs with
  | nil => simp [cntL]
  | cons e es ih => rw [cntL, List.length_cons]; have := cntE_kids' e; omega
theorem OwE.rep_above {w : World} {A : Option Addr} {c R : Nat} {x : RE} {F : List Nat} (h : OwE w (.slice A x.kids.length c) x.kids F) (hn : x.name.size ≤ 300) (hF : ∀ b ∈ F, R + 1 ≤ b) : RepK (above (R + 1) w) A c x := ⟨by omega, h.rep hF⟩

/-- Two expressions that were drawn. -/
def RetDr2 (w : World) (e : Ending) (w' : World) : Prop :=
  ∃ (x y : RE) (A A' : Option Addr) (c c' : Nat), e = .returned (.tuple #[.agg #[.int .i64 x.op, .string x.name, .slice A x.kids.length c], .agg #[.int .i64 y.op, .string y.name, .slice A' y.kids.length c']]) ∧ RepK (above w.heap.size w') A c x ∧ RepK (above w.heap.size w') A' c' y ∧ Below w.heap.size w w'

end Go.Proofs.YtfgpbnncdfcjjabGreatDoor
