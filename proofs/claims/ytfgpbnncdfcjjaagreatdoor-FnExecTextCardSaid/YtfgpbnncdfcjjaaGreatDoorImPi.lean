/-
  The walk of impl.product[int].
-/
import Derived.Test.YtfgpbnncdfcjjaaGreatDoorDel
import Derived.Test.YtfgpbnncdfcjjaaGreatDoorImOr
namespace Go.Proofs.YtfgpbnncdfcjjaaGreatDoor
open Go.RowKit
set_option linter.unusedVariables false
set_option maxRecDepth 100000

theorem rowsI_nil1 {w : World} {base b2 : Nat} (h : Own w b2 24 #[.slice none 0 0]) (h2 : base ≤ b2) : Intss (above base w) (some ⟨b2, 0, none⟩) 1 (prodL (List.take 0 ([] : List (List Int)))) := intss_nil1 h h2

theorem row_of_map' {w : World} {base n : Nat} {v : Value} {xs : List Int} (hn : n = xs.length) (h : w.ownsRow base 3 1 v n (xs.map (Value.int .i64))) : RowI w base v xs := by
  subst hn
  exact row_of_map h

set_option maxHeartbeats 8000000 in
theorem prodI_any (css : List (List Int)) (hcl : css.length ≤ 100) (hpr : ∀ i, i ≤ css.length → (prodL (css.take i)).length ≤ 3000) (hc1 : ∀ c ∈ css, c.length ≤ 3000) (w : World) (A : Option Addr) (c : Nat) (hr : Intss w A c css) : Calls Tryz.prog 161 #[.slice A css.length c] w (RetIntss w (prodL css)) := by
  obtain ⟨i0, hi0, hz0, hz1, hz2⟩ := info_parts Tryz.infoInt
  obtain ⟨i1, hi1, hy0, hy1, hy2⟩ := info_parts Tryz.infoInts
  have Hpr := Lib.hid hpr
  have Hc1 := Lib.hid hc1
  have Hall0 : Hid (Intss (above w.heap.size (w.alloc (.cells #[.slice none 0 0] 24))) (some ⟨w.heap.size, 0, none⟩) 1 [[]]) := intss_nil1 (Own.new _ _ _) (Nat.le_refl _)
  clear hpr hc1
  have hcm := hr.len
  go_enter Tryz.func161, Tryz.ntmps161
  go_wp2_with fail
  go_loopg [3, 14] css.length (fun g s3 s4 wr => ∃ (i : Nat) (all : List (List Int)) (A3 : Option Addr) (c3 : Nat), i ≤ css.length ∧ g = css.length - i ∧ s3 = .slice A3 all.length c3 ∧ s4 = .int .i64 i ∧ Hid (all = prodL (css.take i)) ∧ Hid (Intss (above w.heap.size wr) A3 c3 all) ∧ Below w.heap.size w wr)
  case atStart => exact ⟨0, [[]], _, _, Nat.zero_le _, rfl, rfl, rfl, by simp [Hid, prodL], Hall0.out, (Below.refl _ _).alloc (Nat.le_refl _) _⟩
  case round =>
    obtain ⟨wo, rfl⟩ : ∃ wo : World, wo = wr := ⟨_, rfl⟩
    obtain ⟨i, all, A3, c3, hi, rfl, rfl, rfl, hall, hia, hb⟩ := hrel
    by_cases hlt : i < css.length
    · obtain ⟨bi, oi, Ai, ci, rfl, hbi, k0, hq⟩ := hr.get hlt
      have k1 := Le.below hb _ _ k0
      have h3000 := Hc1.out _ (List.getElem_mem hlt)
      have Hnx := Lib.hid (prodL_take css i hlt)
      have Hp1 := Lib.hid (Hpr.out (i + 1) hlt)
      have hal : all.length ≤ 3000 := by rw [hall.out]; exact Hpr.out i hi
      have Hx15 : Hid (∀ x ∈ all, x.length ≤ 100) := fun x hx => by
        rw [hall.out] at hx
        have := prodL_each hx
        rw [List.length_take] at this
        omega
      have Hq : Hid (Ints wo Ai ci css[i]) := hq.le (Le.below hb)
      generalize css[i] = cl at k0 k1 hq Hq h3000 Hnx
      rw [← hall.out] at Hnx
      have Hia : Hid (Intss wo A3 c3 all) := hia.out.le (Le.above _ _)
      have hsw := hb.size
      have Hn3 : Hid ((prS all cl).length ≤ 3000) := by show _ ≤ _; rw [← Hnx.out]; exact Hp1.out
      clear hq k0 hall hia Hp1
      go_wp2_with fail
      go_loopg [6, 20] all.length (fun g s6 s20 wr => ∃ (j : Nat) (v : Value) (xss : List (List Int)) (cs : List Value) (Fs : Nat → List Nat), j ≤ all.length ∧ g = all.length - j ∧ v = s6 ∧ s20 = .int .i64 j ∧ Hid (RowsI wr wo.heap.size v xss cs Fs) ∧ Hid (xss = (all.take j).flatMap fun x => cl.map fun y => x ++ [y]) ∧ Below wo.heap.size wo wr)
      case atStart => exact ⟨0, _, [], [], _, Nat.zero_le _, rfl, rfl, rfl, (RowW.nil 1 _ _ _ _ : RowsI wo wo.heap.size (.slice none 0 0) [] [] (fun _ => [])), by simp [Hid], Below.refl _ _⟩
      case round =>
        obtain ⟨wi, rfl⟩ : ∃ wi : World, wi = wr := ⟨_, rfl⟩
        obtain ⟨j, v, xss, cs, Fs, hj, rfl, rfl, rfl, hrow, hxs, hbi2⟩ := hrel
        by_cases hjlt : j < all.length
        · obtain ⟨bj, oj, Aj, cj, rfl, hbj, j0, hxj⟩ := Hia.out.get hjlt
          have j1 := Le.below hbi2 _ _ j0
          have h100 := Hx15.out _ (List.getElem_mem hjlt)
          have Htk := Lib.hid (flatMap_take_succ (fun x => cl.map fun y => x ++ [y]) all j hjlt)
          have hPl : xss.length + cl.length ≤ 3000 := by
            have h1 := flatMap_take_le (fun x => cl.map fun y => x ++ [y]) all (j + 1)
            rw [Htk.out, ← hxs.out, List.length_append, List.length_map] at h1
            have h2 := Hn3.out
            unfold prS at h2
            omega
          have Hxj : Hid (Ints wi Aj cj all[j]) := hxj.le (Le.below hbi2)
          generalize all[j] = x at j0 j1 hxj Hxj h100 Htk
          have hsi := hbi2.size
          have Hxs := hxs
          have Hx0 : Hid (Ints wo Aj cj x) := Lib.hid hxj
          clear hxj j0
          go_wp2_with fail
          go_loopg [6, 26] cl.length (fun g s6 s26 wr => ∃ (m : Nat) (v : Value) (xss2 : List (List Int)) (cs : List Value) (Fs : Nat → List Nat), m ≤ cl.length ∧ g = cl.length - m ∧ v = s6 ∧ s26 = .int .i64 m ∧ Hid (RowsI wr wo.heap.size v xss2 cs Fs) ∧ Hid (xss2 = xss ++ (cl.take m).map fun y => x ++ [y]) ∧ Hid (xss2.length = xss.length + m) ∧ Below wo.heap.size wo wr)
          case atStart => exact ⟨0, v, xss, cs, Fs, Nat.zero_le _, rfl, rfl, rfl, hrow.out, by simp [Hid], rfl, hbi2⟩
          case round =>
            clear hrow hbi2
            obtain ⟨m, v, xss2, cs, Fs, hm, rfl, rfl, rfl, hrow, hys, hyl, hb2⟩ := hrel
            by_cases hmlt : m < cl.length
            · obtain ⟨by_, oy, rfl, hby, y0⟩ := Hq.out.get hmlt
              have y1 := Le.below hb2 _ _ y0
              have Htm := Lib.hid (List.take_succ_eq_append_getElem hmlt)
              generalize cl[m] = y at y0 y1 Htm
              have Hxr : Hid (Ints wr Aj cj x) := Hx0.out.le (Le.below hb2)
              have hs2 := hb2.size
              have hlx : xss2.length + 1 ≤ 3000 := by rw [hyl.out]; omega
              clear y0
              go_wp2_with fail
              refine (cloneI_any x _ _ _ Hxr.out (by omega)).mono ?_
              rintro e5 w5 ⟨A5, c5, rfl, hrow5, hb5⟩
              have hs5 := hb5.size
              have hm5 := row_to_map hrow5
              have Hm5 : Hid ((w5.alloc (.cells #[.int .i64 y] 3)).ownsRow wr.heap.size 3 1 (.slice A5 x.length c5) x.length (x.map (Value.int .i64))) := owns_alloc hm5 _
              have hv5 : ∀ g, (Value.slice A5 x.length c5).ownBlock = some g → wr.heap.size ≤ g := fun g e => (hrow5.blk e).1
              have Hb7 : Hid (∀ w7, (w5.alloc (.cells #[.int .i64 y] 3)).grownBy w7 (Value.slice A5 x.length c5).ownBlock → Below wr.heap.size wr w7) := fun w7 hg => below_of_grown (hb5.alloc hs5 _) hg (by simp; omega) hv5
              clear hm5
              go_wp2_with (at_builtin; first
                | (refine wpList_append_lies (o := ⟨some 35, _, _, _, _, _⟩) _ (by rfl) _ _ _ (by rfl) wr.heap.size 3 i0 _ 1 8 Tryz.underlying24 hi0 hz0 hz1 hz2 rfl (by omega) (.slice A5 x.length c5) x.length (x.map (Value.int .i64)) (by rfl) Hm5.out ⟨w5.heap.size, 0, none⟩ 1 1 [.int .i64 y] (by rfl) (by rfl) (World.news_of_block (cs := #[.int .i64 y]) (t := 3) (fr := (0, 0)) (heap_alloc_new w5 _)) (by simp [Value.oneCell']) (by omega) (by simp [maxLen]; omega) (by omega) (by simp; omega) (w5.heap.size + 1) (by simp) ?_; intro g7 cap7 w7 hown7 hgrow7 hat7 hlt7; have hB7 := Hb7.out w7 hgrow7; have hs7 := hB7.size)
                | (refine wpList_append_lies (o := ⟨some 37, _, _, _, _, _⟩) _ (by rfl) _ _ _ (by rfl) wo.heap.size 24 i1 _ 1 24 Tryz.underlying25 hi1 hy0 hy1 hy2 rfl (by omega) v xss2.length cs (by rfl) (owns_alloc (owns_of_block hrow.out.own (w' := w7) fun g _ _ hl => hB7.block g hl) _) ⟨w7.heap.size, 0, none⟩ 1 1 [.slice (some ⟨g7, 0, none⟩) (x.length + 1) cap7] (by rfl) (by rfl) (World.news_of_block (cs := #[.slice (some ⟨g7, 0, none⟩) (x.length + 1) cap7]) (t := 24) (fr := (0, 0)) (heap_alloc_new w7 _)) (by simp [Value.oneCell']) (by omega) (by simp [maxLen]; omega) (by omega) (by simp; omega) (w7.heap.size + 1) (by simp) ?_; intro gg cap w8 hown8 hgrow8 hat8 hlt8))
              have hr7 : RowI w7 wr.heap.size (.slice (some ⟨g7, 0, none⟩) (x.length + 1) cap7) (x ++ [y]) := row_of_map' (n := x.length + 1) (by simp) (by simpa using hown7)
              have hB8 : Below wo.heap.size wo w8 := below_of_grown ((hb2.trans (hB7.mono hs2)).alloc (by omega) (.cells #[.slice (some ⟨g7, 0, none⟩) (x.length + 1) cap7] 24)) hgrow8 (by simp; omega) (fun g hg => owns_base' hrow.out.own hg)
              obtain ⟨Fs8, hp8⟩ := RowW.pushRow' (t := x ++ [y]) (n := x.length + 1) (by simp) hrow.out (fun b _ hl => hB7.block b hl) (by omega) (by omega) hr7 hgrow8 hown8 hat8 rfl
              clear hgrow7 hgrow8 hown8 hown7 hrow5 hr7
              go_roundg (cl.length - (m + 1))
              case measure => omega
              case rel => exact ⟨m + 1, _, xss2 ++ [x ++ [y]], _, Fs8, by omega, rfl, rfl, by go_num, hp8, (by show _ = _; rw [Htm.out, List.map_append, ← List.append_assoc, ← hys.out]; rfl), by show _ = _; rw [List.length_append, List.length_singleton, hyl.out]; omega, hB8⟩
            · obtain rfl : m = cl.length := by omega
              rw [List.take_length] at hys
              go_wp2_with fail
              go_roundg (all.length - (j + 1))
              case measure => omega
              case rel => exact ⟨j + 1, v, xss2, cs, Fs, by omega, rfl, rfl, by go_num, hrow.out, (by show _ = _; rw [Htk.out, ← Hxs.out]; exact hys.out), hb2⟩
        · obtain rfl : j = all.length := by omega
          rw [List.take_length] at hxs
          obtain ⟨A9, c9, rfl, hI9⟩ := hrow.out.intss
          have Hn9 : Hid (xss = prodL (css.take (i + 1))) := by show _ = _; rw [Hnx.out]; exact hxs.out
          have HI9 : Hid (Intss (above w.heap.size wi) A9 c9 xss) := hI9.le (Le.above_mono hsw _)
          have hb9 := hb.trans (hbi2.mono hsw)
          clear hI9 hrow
          go_wp2_with fail
          go_roundg (css.length - (i + 1))
          case measure => omega
          case rel => exact ⟨i + 1, xss, A9, c9, by omega, rfl, rfl, by go_num, Hn9.out, HI9.out, hb9⟩
    · obtain rfl : i = css.length := by omega
      rw [List.take_length] at hall
      go_wp2_with fail
      go_ret
      rw [← hall.out]
      exact ⟨A3, c3, rfl, hia.out, hb⟩

end Go.Proofs.YtfgpbnncdfcjjaaGreatDoor
