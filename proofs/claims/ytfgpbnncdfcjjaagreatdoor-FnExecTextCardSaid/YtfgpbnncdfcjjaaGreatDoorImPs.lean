/-
  The walk of impl.product[[]int]: the elements of the rows are shared, the rows are the call's own.
-/
import Derived.Test.YtfgpbnncdfcjjaaGreatDoorImPi
import Derived.Test.YtfgpbnncdfcjjaaGreatDoorSpOA
namespace Go.Proofs.YtfgpbnncdfcjjaaGreatDoor
open Go.RowKit
set_option linter.unusedVariables false
set_option maxRecDepth 100000

/-- A row whose elements lead into a world that stands still; an empty one is nil. -/
def RN (W0 W : World) (cs : Nat → Value) (x : List (List Int)) : Prop := ∃ A c, cs 0 = .slice A x.length c ∧ SlR 1 (fun _ => QS W0) W (.slice A x.length c) x ∧ (x = [] → A = none)
theorem rn_le (W0 : World) : ∀ a a' (cs : Nat → Value) (x : List (List Int)), Le a a' → RN W0 a cs x → RN W0 a' cs x := fun _ _ _ _ h ⟨A, c, h1, h2, h3⟩ => ⟨A, c, h1, SlR.le (fun _ _ _ k => k) h2 h, h3⟩
abbrev I3s (W0 W : World) (A : Option Addr) (c : Nat) (xs : List (List (List Int))) : Prop := SlR 1 (RN W0) W (.slice A xs.length c) xs
theorem I3s.le {W0 w w' : World} {A : Option Addr} {c : Nat} {xs : List (List (List Int))} (h : I3s W0 w A c xs) (hl : Le w w') : I3s W0 w' A c xs := SlR.le' (rn_le W0) h hl
theorem I3s.i3 {W0 w w' : World} {A : Option Addr} {c : Nat} {xs : List (List (List Int))} (h : I3s W0 w A c xs) (h0 : Le W0 w') (hl : Le w w') : I3 w' A c xs := by
  obtain ⟨A1, c1, e, hm, h⟩ := h
  refine ⟨A1, c1, e, hm, fun i hi => ?_⟩
  obtain ⟨b, o, h1, cs, h2, A2, c2, h3, ⟨A3, c3, e3, hm3, h4⟩, _⟩ := h i hi
  refine ⟨b, o, h1, cs, fun j hj => hl _ _ (h2 j hj), A2, c2, h3, A3, c3, e3, hm3, fun k hk => ?_⟩
  obtain ⟨b', o', k1, cs', k2, k3⟩ := h4 k hk
  exact ⟨b', o', k1, cs', fun j hj => hl _ _ (k2 j hj), QS.le h0 _ _ k3⟩
theorem I3s.get {W0 w : World} {A : Option Addr} {c n : Nat} {xs : List (List (List Int))} (h : SlR 1 (RN W0) w (.slice A n c) xs) {i : Nat} (hi : i < xs.length) :
    ∃ b o A' c', A = some ⟨b, o, none⟩ ∧ b < w.heap.size ∧ w.cell? ⟨b, o + i, none⟩ = some (.slice A' xs[i].length c') ∧ SlR 1 (fun _ => QS W0) w (.slice A' xs[i].length c') xs[i] ∧ (xs[i] = [] → A' = none) := by
  obtain ⟨b, o, cs, h0, h1, A', c', h2, h3, h4⟩ := SlR.get1 h hi
  exact ⟨b, o, A', c', h0, World.block_lt_of_cell? _ _ h1, by rw [h1, h2], h3, h4⟩
theorem I3.get {w : World} {A : Option Addr} {c n : Nat} {xs : List (List (List Int))} (h : SlR 1 (RSub 1 (RSub 1 RInt)) w (.slice A n c) xs) {i : Nat} (hi : i < xs.length) :
    ∃ b o A' c', A = some ⟨b, o, none⟩ ∧ b < w.heap.size ∧ w.cell? ⟨b, o + i, none⟩ = some (.slice A' xs[i].length c') ∧ Intss w A' c' xs[i] := by
  obtain ⟨b, o, cs, h0, h1, A', c', h2, h3⟩ := SlR.get1 h hi
  exact ⟨b, o, A', c', h0, World.block_lt_of_cell? _ _ h1, by rw [h1, h2], h3⟩
theorem i3s_nil1 {W0 w : World} {base b : Nat} (h : Own w b 25 #[.slice none 0 0]) (hb : base ≤ b) : I3s W0 (above base w) (some ⟨b, 0, none⟩) 1 [[]] :=
  ⟨_, _, rfl, by simp, fun i hi => by
    obtain rfl : i = 0 := by simp at hi; omega
    exact ⟨b, 0, rfl, fun _ => .slice none 0 0, fun j hj => by
      obtain rfl : j = 0 := by omega
      exact cell_above_of hb (h.cell rfl), none, 0, rfl, ⟨none, 0, rfl, by simp, fun i hi => absurd hi (Nat.not_lt_zero _)⟩, fun _ => rfl⟩⟩
/-- slices.Clone of such a row. -/
theorem cloneS_any (W0 : World) (x : List (List Int)) (w : World) (A : Option Addr) (c : Nat) (h : SlR 1 (fun _ => QS W0) w (.slice A x.length c) x) (hn : x = [] → A = none) (hl : x.length ≤ 4000) :
    Calls Tryz.prog 207 #[.slice A x.length c] w (fun e w' => ∃ A' c', e = .returned (.slice A' x.length c') ∧ RowOf 1 (QS W0) w' w.heap.size 24 (.slice A' x.length c') x ∧ Below w.heap.size w w') := by
  rcases Nat.eq_zero_or_pos x.length with h0 | h0
  · obtain rfl : x = [] := List.length_eq_zero_iff.1 h0
    obtain rfl := hn rfl
    exact (Tryz.slices_Clone_nil_f207 0 c w).mono fun e w' ⟨h1, h2⟩ => ⟨none, 0, h1, by rw [h2]; exact RowOf.nil _ _ _ _ _, by rw [h2]; exact Below.refl _ _⟩
  · obtain ⟨i1, hi1, hy0, hy1, hy2⟩ := info_parts Tryz.infoInts
    obtain ⟨b, o, rfl, news, hnl, hat, hel⟩ := SlR.news h (by omega) h0
    refine (Tryz.slices_Clone_f207 i1 _ 1 24 hi1 hy0 hy1 hy2 rfl (by omega) (fun w => Tryz.sizeOf24 w) b o x.length c news w hnl (by simp only [maxLen]; omega) (by omega) (fun j u hj => by rw [← add_lit]; exact hat j u hj) (news_one (k := 1) (n := x.length) (by omega) hnl fun i hi j hj => ?_)).mono ?_
    · obtain ⟨cs, h1, h2⟩ := hel i hi
      rw [← h1 j hj]
      exact qs_one _ _ _ h2 j hj
    · rintro e w' ⟨v', rfl, hown, _, hb⟩
      have hrow : RowOf 1 (QS W0) w' w.heap.size 24 v' x := ⟨news, hown, fun i hi => by
        obtain ⟨cs, h1, h2⟩ := hel i hi
        exact qs_congr _ _ _ _ h1 h2⟩
      obtain ⟨A', c', rfl, _⟩ := hrow.slice
      exact ⟨A', c', rfl, hrow, hb⟩

abbrev RowsS (W0 w : World) (base : Nat) (v : Value) (xss : List (List (List Int))) (cs : List Value) (Fs : Nat → List Nat) : Prop := RowW 1 25 (rowP 1 24 (QS W0)) w base v xss cs Fs
theorem RowsS.i3s {W0 w : World} {base : Nat} {v : Value} {xss : List (List (List Int))} {cs : List Value} {Fs : Nat → List Nat} (h : RowsS W0 w base v xss cs Fs) (hne : ∀ x ∈ xss, x ≠ []) : ∃ A c, v = .slice A xss.length c ∧ I3s W0 (above base w) A c xss := by
  have hs := h.slR2 (R := fun _ => QS W0) (by omega) (fun _ _ _ h => h)
  obtain ⟨A, c, rfl, _⟩ := hs.slice
  obtain ⟨A1, c1, e, hm, hs⟩ := hs
  refine ⟨A, c, rfl, A1, c1, e, hm, fun i hi => ?_⟩
  obtain ⟨b, o, h1, cs, h2, A2, c2, h3, h4⟩ := hs i hi
  exact ⟨b, o, h1, cs, h2, A2, c2, h3, h4, fun e => absurd e (hne _ (List.getElem_mem hi))⟩
def RetI3s (W0 w : World) (xs : List (List (List Int))) (e : Ending) (w' : World) : Prop := ∃ A c, e = .returned (.slice A xs.length c) ∧ I3s W0 (above w.heap.size w') A c xs ∧ Below w.heap.size w w'
/-- Such a row, read in one world. -/
theorem i2s_intss {W0 w w' : World} {A : Option Addr} {c : Nat} {x : List (List Int)} (h : SlR 1 (fun _ => QS W0) w (.slice A x.length c) x) (h0 : Le W0 w') (hl : Le w w') : Intss w' A c x := by
  obtain ⟨A3, c3, e3, hm3, h4⟩ := h
  refine ⟨A3, c3, e3, hm3, fun k hk => ?_⟩
  obtain ⟨b', o', k1, cs', k2, k3⟩ := h4 k hk
  exact ⟨b', o', k1, cs', fun j hj => hl _ _ (k2 j hj), QS.le h0 _ _ k3⟩

set_option maxHeartbeats 8000000 in
theorem prodS_any (css : List (List (List Int))) (hcl : css.length ≤ 100) (hpr : ∀ i, i ≤ css.length → (prodL (css.take i)).length ≤ 3000) (hc1 : ∀ c ∈ css, c.length ≤ 3000) (W0 w : World) (hl0 : Le W0 w) (A : Option Addr) (c : Nat) (hr : I3 W0 A c css) : Calls Tryz.prog 162 #[.slice A css.length c] w (RetI3s W0 w (prodL css)) := by
  obtain ⟨i1, hi1, hy0, hy1, hy2⟩ := info_parts Tryz.infoInts
  obtain ⟨i2, hi2, hx0, hx1, hx2⟩ := info_parts Tryz.infoIntss
  have Hpr := Lib.hid hpr
  have Hc1 := Lib.hid hc1
  have Hall0 : Hid (I3s W0 (above w.heap.size (w.alloc (.cells #[.slice none 0 0] 25))) (some ⟨w.heap.size, 0, none⟩) 1 [[]]) := i3s_nil1 (Own.new _ _ _) (Nat.le_refl _)
  clear hpr hc1
  have hcm := I3.len hr
  go_enter Tryz.func162, Tryz.ntmps162
  go_wp2_with fail
  go_loopg [3, 14] css.length (fun g s3 s4 wr => ∃ (i : Nat) (all : List (List (List Int))) (A3 : Option Addr) (c3 : Nat), i ≤ css.length ∧ g = css.length - i ∧ s3 = .slice A3 all.length c3 ∧ s4 = .int .i64 i ∧ Hid (all = prodL (css.take i)) ∧ Hid (I3s W0 (above w.heap.size wr) A3 c3 all) ∧ Below w.heap.size w wr)
  case atStart => exact ⟨0, [[]], _, _, Nat.zero_le _, rfl, rfl, rfl, by simp [Hid, prodL], Hall0.out, (Below.refl _ _).alloc (Nat.le_refl _) _⟩
  case round =>
    obtain ⟨wo, rfl⟩ : ∃ wo : World, wo = wr := ⟨_, rfl⟩
    obtain ⟨i, all, A3, c3, hi, rfl, rfl, rfl, hall, hia, hb⟩ := hrel
    by_cases hlt : i < css.length
    · obtain ⟨bi, oi, Ai, ci, rfl, hbi, k0, hq⟩ := I3.get hr hlt
      have k0' := hl0 _ _ k0
      have k1 := Le.below hb _ _ k0'
      have hbi' : bi < w.heap.size := World.block_lt_of_cell? _ _ k0'
      have h3000 := Hc1.out _ (List.getElem_mem hlt)
      have Hnx := Lib.hid (prodL_take css i hlt)
      have Hp1 := Lib.hid (Hpr.out (i + 1) hlt)
      have hal : all.length ≤ 3000 := by rw [hall.out]; exact Hpr.out i hi
      have Hx15 : Hid (∀ x ∈ all, x.length ≤ 100) := fun x hx => by
        rw [hall.out] at hx
        have := prodL_each hx
        rw [List.length_take] at this
        omega
      have Hq0 : Hid (Intss W0 Ai ci css[i]) := hq
      generalize css[i] = cl at k0 k0' k1 hq Hq0 h3000 Hnx
      rw [← hall.out] at Hnx
      have Hia : Hid (I3s W0 wo A3 c3 all) := hia.out.le (Le.above _ _)
      have hsw := hb.size
      have Hn3 : Hid ((prS all cl).length ≤ 3000) := by show _ ≤ _; rw [← Hnx.out]; exact Hp1.out
      have Hle : Hid (Le W0 wo) := hl0.trans (Le.below hb)
      clear hq k0 k0' hall hia Hp1
      go_wp2_with fail
      go_loopg [6, 20] all.length (fun g s6 s20 wr => ∃ (j : Nat) (v : Value) (xss : List (List (List Int))) (cs : List Value) (Fs : Nat → List Nat), j ≤ all.length ∧ g = all.length - j ∧ v = s6 ∧ s20 = .int .i64 j ∧ Hid (RowsS W0 wr wo.heap.size v xss cs Fs) ∧ Hid (xss = (all.take j).flatMap fun x => cl.map fun y => x ++ [y]) ∧ Below wo.heap.size wo wr)
      case atStart => exact ⟨0, _, [], [], _, Nat.zero_le _, rfl, rfl, rfl, (RowW.nil 1 _ _ _ _ : RowsS W0 wo wo.heap.size (.slice none 0 0) [] [] (fun _ => [])), by simp [Hid], Below.refl _ _⟩
      case round =>
        obtain ⟨wi, rfl⟩ : ∃ wi : World, wi = wr := ⟨_, rfl⟩
        obtain ⟨j, v, xss, cs, Fs, hj, rfl, rfl, rfl, hrow, hxs, hbi2⟩ := hrel
        by_cases hjlt : j < all.length
        · obtain ⟨bj, oj, Aj, cj, rfl, hbj, j0, hxj, hnj⟩ := I3s.get Hia.out hjlt
          have j1 := Le.below hbi2 _ _ j0
          have h100 := Hx15.out _ (List.getElem_mem hjlt)
          have Htk := Lib.hid (flatMap_take_succ (fun x => cl.map fun y => x ++ [y]) all j hjlt)
          have hPl : xss.length + cl.length ≤ 3000 := by
            have h1 := flatMap_take_le (fun x => cl.map fun y => x ++ [y]) all (j + 1)
            rw [Htk.out, ← hxs.out, List.length_append, List.length_map] at h1
            have h2 := Hn3.out
            unfold prS at h2
            omega
          have Hx0 : Hid (SlR 1 (fun _ => QS W0) wo (.slice Aj all[j].length cj) all[j] ∧ (all[j] = [] → Aj = none)) := ⟨hxj, hnj⟩
          clear hxj hnj
          generalize all[j] = x at j0 j1 Hx0 h100 Htk
          have hsi := hbi2.size
          have Hxs := hxs
          clear j0
          go_wp2_with fail
          go_loopg [6, 26] cl.length (fun g s6 s26 wr => ∃ (m : Nat) (v : Value) (xss2 : List (List (List Int))) (cs : List Value) (Fs : Nat → List Nat), m ≤ cl.length ∧ g = cl.length - m ∧ v = s6 ∧ s26 = .int .i64 m ∧ Hid (RowsS W0 wr wo.heap.size v xss2 cs Fs) ∧ Hid (xss2 = xss ++ (cl.take m).map fun y => x ++ [y]) ∧ Hid (xss2.length = xss.length + m) ∧ Below wo.heap.size wo wr)
          case atStart => exact ⟨0, v, xss, cs, Fs, Nat.zero_le _, rfl, rfl, rfl, hrow.out, by simp [Hid], rfl, hbi2⟩
          case round =>
            clear hrow hbi2
            obtain ⟨m, v, xss2, cs, Fs, hm, rfl, rfl, rfl, hrow, hys, hyl, hb2⟩ := hrel
            by_cases hmlt : m < cl.length
            · obtain ⟨by_, oy, Ay, cy, rfl, hby, y0, hqy⟩ := Hq0.out.get hmlt
              have y1 := Le.below hb2 _ _ (Hle.out _ _ y0)
              have Htm := Lib.hid (List.take_succ_eq_append_getElem hmlt)
              have Hqy : Hid (QS W0 (fun j => [Value.slice Ay cl[m].length cy].getD j undef) cl[m]) := ⟨Ay, cy, rfl, hqy⟩
              generalize cl[m] = y at y0 y1 Htm Hqy hqy
              have Hxr : Hid (SlR 1 (fun _ => QS W0) wr (.slice Aj x.length cj) x) := SlR.le (fun _ _ _ k => k) Hx0.out.1 (Le.below hb2)
              have hs2 := hb2.size
              have hlx : xss2.length + 1 ≤ 3000 := by rw [hyl.out]; omega
              have hbyo : by_ < wo.heap.size := World.block_lt_of_cell? _ _ (Hle.out _ _ y0)
              clear y0 hqy
              go_wp2_with fail
              refine (cloneS_any W0 x _ _ _ Hxr.out Hx0.out.2 (by omega)).mono ?_
              rintro e5 w5 ⟨A5, c5, rfl, hrow5, hb5⟩
              have hs5 := hb5.size
              obtain ⟨cs5, hown5, hq5⟩ := hrow5
              have hv5 : ∀ g, (Value.slice A5 x.length c5).ownBlock = some g → wr.heap.size ≤ g := fun g e => owns_base' hown5 e
              have Hown5 : Hid (w5.ownsRow wr.heap.size 24 1 (.slice A5 x.length c5) x.length cs5) := hown5
              have Hq5 := Lib.hid hq5
              have Hm5 : Hid ((w5.alloc (.cells #[.slice Ay y.length cy] 24)).ownsRow wr.heap.size 24 1 (.slice A5 x.length c5) x.length cs5) := owns_alloc hown5 _
              have Hb7 : Hid (∀ w7, (w5.alloc (.cells #[.slice Ay y.length cy] 24)).grownBy w7 (Value.slice A5 x.length c5).ownBlock → Below wr.heap.size wr w7) := fun w7 hg => below_of_grown (hb5.alloc hs5 _) hg (by simp; omega) hv5
              clear hown5 hq5
              go_wp2_with (at_builtin; first
                | (refine wpList_append_lies (o := ⟨some 35, _, _, _, _, _⟩) _ (by rfl) _ _ _ (by rfl) wr.heap.size 24 i1 _ 1 24 Tryz.underlying25 hi1 hy0 hy1 hy2 rfl (by omega) (.slice A5 x.length c5) x.length cs5 (by rfl) Hm5.out ⟨w5.heap.size, 0, none⟩ 1 1 [.slice Ay y.length cy] (by rfl) (by rfl) (World.news_of_block (cs := #[.slice Ay y.length cy]) (t := 24) (fr := (0, 0)) (heap_alloc_new w5 _)) (by simp [Value.oneCell']) (by omega) (by simp [maxLen]; omega) (by omega) (by simp; omega) (w5.heap.size + 1) (by simp) ?_; intro g7 cap7 w7 hown7 hgrow7 hat7 hlt7; have hB7 := Hb7.out w7 hgrow7; have hs7 := hB7.size)
                | (refine wpList_append_lies (o := ⟨some 37, _, _, _, _, _⟩) _ (by rfl) _ _ _ (by rfl) wo.heap.size 25 i2 _ 1 24 Tryz.underlying160 hi2 hx0 hx1 hx2 rfl (by omega) v xss2.length cs (by rfl) (owns_alloc (owns_of_block hrow.out.own (w' := w7) fun g _ _ hl => hB7.block g hl) _) ⟨w7.heap.size, 0, none⟩ 1 1 [.slice (some ⟨g7, 0, none⟩) (x.length + 1) cap7] (by rfl) (by rfl) (World.news_of_block (cs := #[.slice (some ⟨g7, 0, none⟩) (x.length + 1) cap7]) (t := 25) (fr := (0, 0)) (heap_alloc_new w7 _)) (by simp [Value.oneCell']) (by omega) (by simp [maxLen]; omega) (by omega) (by simp; omega) (w7.heap.size + 1) (by simp) ?_; intro gg cap w8 hown8 hgrow8 hat8 hlt8))
              have hr7 : RowOf 1 (QS W0) w7 wr.heap.size 24 (.slice (some ⟨g7, 0, none⟩) (x.length + 1) cap7) (x ++ [y]) := RowOf.snoc (qs_congr _) Hown5.out Hq5.out rfl Hqy.out hown7
              have hB8 : Below wo.heap.size wo w8 := below_of_grown ((hb2.trans (hB7.mono hs2)).alloc (by omega) (.cells #[.slice (some ⟨g7, 0, none⟩) (x.length + 1) cap7] 25)) hgrow8 (by simp; omega) (fun g hg => owns_base' hrow.out.own hg)
              obtain ⟨Fs8, hp8⟩ := RowW.pushRow' (t := x ++ [y]) (n := x.length + 1) (by simp) hrow.out (fun b _ hl => hB7.block b hl) (by omega) (by omega) hr7 hgrow8 hown8 hat8 rfl
              clear hgrow7 hgrow8 hown8 hown7 hr7
              go_roundg (cl.length - (m + 1))
              case measure => omega
              case rel => exact ⟨m + 1, _, xss2 ++ [x ++ [y]], _, Fs8, by omega, rfl, rfl, by go_num, hp8, (by show _ = _; rw [Htm.out, List.map_append, ← List.append_assoc, ← hys.out]; rfl), by show _ = _; rw [List.length_append, List.length_singleton, hyl.out]; omega, hB8⟩
            · obtain rfl : m = cl.length := by omega
              rw [List.take_length] at hys
              go_wp2_with fail
              go_roundg (all.length - (j + 1))
              case measure => omega
              case rel => exact ⟨j + 1, v, xss2, cs, Fs, by omega, rfl, rfl, by go_num, hrow.out, (by show _ = _; rw [Htk.out, ← Hxs.out]; exact hys.out), hb2⟩
        · obtain rfl : j = all.length := by omega
          rw [List.take_length] at hxs
          have Hn9 : Hid (xss = prodL (css.take (i + 1))) := by show _ = _; rw [Hnx.out]; exact hxs.out
          obtain ⟨A9, c9, rfl, hI9⟩ := RowsS.i3s hrow.out (fun x hx e => by
            rw [Hn9.out] at hx
            have := prodL_each hx
            rw [List.length_take, e, List.length_nil] at this
            omega)
          have HI9 : Hid (I3s W0 (above w.heap.size wi) A9 c9 xss) := hI9.le (Le.above_mono hsw _)
          have hb9 := hb.trans (hbi2.mono hsw)
          clear hI9 hrow
          go_wp2_with fail
          go_roundg (css.length - (i + 1))
          case measure => omega
          case rel => exact ⟨i + 1, xss, A9, c9, by omega, rfl, rfl, by go_num, Hn9.out, HI9.out, hb9⟩
    · obtain rfl : i = css.length := by omega
      rw [List.take_length] at hall
      have HI := Lib.hid hia.out
      go_wp2_with fail
      go_ret
      rw [← hall.out]
      exact ⟨A3, c3, rfl, HI.out, hb⟩

end Go.Proofs.YtfgpbnncdfcjjaaGreatDoor
