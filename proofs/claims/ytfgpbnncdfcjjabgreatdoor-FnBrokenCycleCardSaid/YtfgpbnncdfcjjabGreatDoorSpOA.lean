/-
  The walk of spec.l6Orders. The walk of spec.l6Copy. The walks of spec.l6All and spec.AllExecs.
-/
import Derived.Test.YtfgpbnncdfcjjabGreatDoorRwS
import Derived.Test.YtfgpbnncdfcjjabGreatDoorSpFP
import Derived.Test.YtfgpbnncdfcjjabGreatDoorInts

/-! The walk of spec.l6Orders. -/
namespace Go.Proofs.YtfgpbnncdfcjjabGreatDoor
open Go.RowKit
set_option linter.unusedVariables false
set_option maxRecDepth 100000

theorem Tryz.infoIntss : (Tryz.prog.info? 24).map (fun i => (i.zero, i.size, i.bytes)) = some (some (.slice none 0 0), 1, 24) := by kernel_rfl

/-- With a location's order in front. -/
def ordG (x : Int) (rest : List (List (List Int))) (q : List Int) : List (List (List Int)) := rest.map ((x :: q) :: ·)
theorem ordersF_step (L : List Ev) (l : Nat) (hl : l ≤ 2) {r : List Int} (h : wrs L l = (l : Int) :: r) : ordersF L l = (perms (wrs L l).tail).flatMap (ordG l (ordersF L (l + 1))) := by
  have e : (List.range 3).drop l = l :: (List.range 3).drop (l + 1) := by
    have : l = 0 ∨ l = 1 ∨ l = 2 := by omega
    rcases this with rfl | rfl | rfl <;> rfl
  unfold ordersF
  rw [e, List.map_cons, prodL]
  show (ordC L l).flatMap _ = _
  unfold ordC
  rw [h, List.flatMap_map]
  rfl

theorem row_qs {W w : World} {g base : Nat} {u : Value} {x : List Int} (h : Own w g 23 #[u]) (hb : base ≤ g) (hq : QS W (fun _ => u) x) : RowOf 1 (QS W) w base 23 (.slice (some ⟨g, 0, none⟩) 1 1) [x] :=
  row_one h hb fun cs e => qs_congr W _ _ _ (fun j hj => by obtain rfl : j = 0 := by omega
                                                            exact e.symm) hq

set_option maxHeartbeats 16000000 in
theorem spOr_step (L : List Ev) (hF : Few3 L) (l : Nat) (hl2 : l ≤ 2)
    (ih : ∀ (w : World) (A : Option Addr) (c : Nat), EvS w (.slice A L.length c) L → Calls Tryz.prog 132 #[.slice A L.length c, .int .i64 ((l : Int) + 1)] w (RetI3 w (ordersF L (l + 1))))
    (w : World) (A : Option Addr) (c : Nat) (hr : EvS w (.slice A L.length c) L) : Calls Tryz.prog 132 #[.slice A L.length c, .int .i64 l] w (RetI3 w (ordersF L l)) := by
  obtain ⟨i0, hi0, hz0, hz1, hz2⟩ := info_parts Tryz.infoInt
  obtain ⟨i1, hi1, hy0, hy1, hy2⟩ := info_parts Tryz.infoInts
  obtain ⟨i2, hi2, hx0, hx1, hx2⟩ := info_parts Tryz.infoIntss
  have hL := hF.len
  have hle : ¬ (2 : Int) < (l : Int) := by omega
  obtain ⟨r, hwr⟩ := hF.hd l hl2
  have Hres := Lib.hid (ordersF_step L l hl2 hwr)
  have Htot : Hid ((ordersF L l).length ≤ 3000) := hF.od l (by omega)
  have Heach : Hid (∀ f ∈ ordersF L (l + 1), f.length ≤ 3) := fun f hf => by
    have := prodL_each hf
    rw [List.length_map, List.length_drop, List.length_range] at this
    omega
  have hpm := hF.pm l hl2
  have Hx : Hid ((wrs L l).length = r.length + 1 ∧ ∀ h : 0 < (wrs L l).length, (wrs L l)[0] = (l : Int)) := by
    show _ ∧ _
    rw [hwr]
    exact ⟨rfl, fun _ => rfl⟩
  clear hwr
  go_enter Tryz.func132, Tryz.ntmps132
  go_wp2_with fail
  refine (ih w A c hr).mono ?_
  rintro e1 w1 ⟨A1, c1, rfl, hrest, hb1⟩
  have hs1 := hb1.size
  have Hr1 : Hid (EvS w1 (.slice A L.length c) L) := EvS.le hr (Le.below hb1)
  have Hrest := Lib.hid hrest
  clear ih hr hrest
  generalize ordersF L (l + 1) = rest at Hrest Hres Heach
  go_wp2_with fail
  refine (spWr_any L l (by omega) _ _ Hr1.out).mono ?_
  rintro e2 w2 ⟨A2, c2, rfl, hrow2, hb2⟩
  have hs2 := hb2.size
  generalize wrs L l = wl at hrow2 hpm Hx Hres
  have hpos : 0 < wl.length := by rw [Hx.out.1]; omega
  have hI2 : Ints w2 A2 c2 wl := row_ints hrow2
  have hcap : wl.length ≤ c2 ∧ c2 ≤ 9223372036854775807 := by
    obtain ⟨A, c, e, h1, h2⟩ := hrow2.slice
    injection e with _ _ e
    rw [e]; exact ⟨h1, h2⟩
  obtain ⟨g, og, rfl, hg2, g0⟩ := hI2.get hpos
  rw [Hx.out.2 hpos, Nat.add_zero] at g0
  have hgb : w1.heap.size ≤ g := by
    obtain ⟨cs, h1, _⟩ := hrow2
    rcases h1.2 with ⟨e, _⟩ | ⟨g', cap, cur, e, hbb, _⟩
    · cases e
    · injection e with e; injection e with e; injection e with e; omega
  have h1 : (1 : Int) ≤ (wl.length : Int) := by omega
  have h2 : (1 : Int) ≤ (c2 : Int) := by omega
  have h3 : (wl.length : Int) ≤ (c2 : Int) := by omega
  have hB2 : Below w.heap.size w w2 := hb1.trans (hb2.mono hs1)
  have hsw2 := hB2.size
  have Hrest2 : Hid (I3 (above w.heap.size w2) A1 c1 rest) := Hrest.out.le (Le.above_le _ (Le.below hb2))
  have hsl := (hI2.drop 1 (c2 - 1) (by omega))
  rw [List.drop_one] at hsl
  have Hsl := Lib.hid hsl
  clear hrow2 hb1 hb2 Hrest hsl hI2 Hr1
  by_cases hc1 : c2 = 1
  case' pos =>
    have e0 : wl.length = 1 := by omega
    have et : wl.tail = [] := List.eq_nil_of_length_eq_zero (by rw [List.length_tail]; omega)
    have Hpm : Hid (Calls Tryz.prog 179 #[.slice (some ⟨g, og, none⟩) 0 0] w2 (RetIntss w2 (perms wl.tail))) := by
      show Calls _ _ _ _ _
      rw [et]
      exact spPm_any 0 [] rfl (by omega) w2 _ 0 (Ints.mk (by simp) fun i hi => absurd hi (Nat.not_lt_zero _)) (Nat.le_refl _) (by omega)
    subst hc1
    clear et
    go_wp2_with fail
  case' neg =>
    have hgt : 1 < c2 := by omega
    have hc1' : ¬ ((c2 : Int) = 1) := by omega
    have Hpm : Hid (Calls Tryz.prog 179 #[.slice (some ⟨g, og + 1, none⟩) (wl.length - 1) (c2 - 1)] w2 (RetIntss w2 (perms wl.tail))) := by
      have h := spPm_any wl.tail.length wl.tail rfl (by rw [List.length_tail]; omega) w2 _ _ Hsl.out (by rw [List.length_tail]; omega) (by omega)
      rw [List.length_tail] at h
      exact h
    go_wp2_with fail
  all_goals
    refine Hpm.out.mono ?_
    rintro e3 w3 ⟨A3, c3, rfl, hpms, hb3⟩
    have hs3 := hb3.size
    have hB3 : Below w.heap.size w w3 := hB2.trans (hb3.mono hsw2)
    have hsw3 := hB3.size
    have g3 := Le.below hb3 _ _ g0
    have hg3 : g < w3.heap.size := by omega
    have Hrest3 : Hid (I3 (above w.heap.size w3) A1 c1 rest) := Hrest2.out.le (Le.above_le _ (Le.below hb3))
    have hpms3 : Intss w3 A3 c3 (perms wl.tail) := hpms.le (Le.above _ _)
    have Hrow0 : Hid (Rows3 (w3.alloc (.cells #[] 24)) w3.heap.size w.heap.size (.slice (some ⟨w3.heap.size, 0, none⟩) 0 0) [] [] (fun _ => [])) := RowW.made 1 _ (Own.new _ _ _) (Nat.le_refl _)
    have Hpl : Hid (∀ q ∈ perms wl.tail, q.length ≤ 7) := fun q hq => by
      have := (mem_perms.1 hq).length_eq
      rw [List.length_tail] at this
      omega
    clear Hpm Hrest2 hb3 hpms hB2 Hsl g0 hgb
    generalize perms wl.tail = pm at hpms3 Hres Hpl
    have hpl := hpms3.len
    have hrl := Hrest3.out.len
    have Htot2 : Hid ((pm.flatMap (ordG l rest)).length ≤ 3000) := by show _ ≤ _; rw [← Hres.out]; exact Htot.out
    clear Htot
    go_wp2_with fail
    go_loopg [8, 9] pm.length (fun g s8 s9 wr => ∃ (i : Nat) (v : Value) (xss : List (List (List Int))) (cs : List Value) (Fs : Nat → List Nat), i ≤ pm.length ∧ g = pm.length - i ∧ v = s8 ∧ s9 = .int .i64 i ∧ Hid (Rows3 wr w3.heap.size w.heap.size v xss cs Fs) ∧ Hid (xss = (pm.take i).flatMap (ordG l rest)) ∧ Below w3.heap.size w3 wr)
    case atStart => exact ⟨0, _, [], [], _, Nat.zero_le _, rfl, rfl, rfl, Hrow0.out, by simp [Hid], (Below.refl _ _).alloc (Nat.le_refl _) _⟩
    case round =>
      obtain ⟨wo, rfl⟩ : ∃ wo : World, wo = wr := ⟨_, rfl⟩
      obtain ⟨i, v, xss, cs, Fs, hi, rfl, rfl, rfl, hrow, hxs, hb⟩ := hrel
      by_cases hlt : i < pm.length
      · obtain ⟨bi, oi, Ai, ci, rfl, hbi, k0, hq⟩ := hpms3.get hlt
        have h7 := Hpl.out _ (List.getElem_mem hlt)
        have Htk := Lib.hid (flatMap_take_succ (ordG l rest) pm i hlt)
        have hPl : xss.length + (ordG l rest pm[i]).length ≤ 3000 := by
          have h1 := flatMap_take_le (ordG l rest) pm (i + 1)
          rw [Htk.out, ← hxs.out, List.length_append] at h1
          have := Htot2.out
          omega
        have x1 := Le.below hb _ _ g3
        have k1 := Le.below hb _ _ k0
        have hso := hb.size
        have Hq : Hid (Ints wo Ai ci pm[i]) := hq.le (Le.below hb)
        generalize pm[i] = q at k0 k1 hq Hq h7 Htk hPl
        have Hold : Hid (∀ w5 : World, ((wo.alloc (.cells #[.int .i64 l] 3)).drew).grownBy w5 (Value.slice (some ⟨wo.heap.size, 0, none⟩) 1 1).ownBlock → ∀ b, b < wo.heap.size → w5.heap[b]? = wo.heap[b]?) := fun w5 hg b hb =>
          (World.grownBy.block hg b (by simp; omega) (fun e => by simp only [Value.ownBlock, Option.some.injEq] at e; omega)).trans (Go.Deep.blk_alloc_lt _ _ _ hb)
        have HK : Hid (∀ W : World, (∀ b, b < w3.heap.size → W.heap[b]? = wo.heap[b]?) → W.cell? ⟨g, og, none⟩ = some (.int .i64 l) ∧ W.cell? ⟨bi, oi + i, none⟩ = some (.slice Ai q.length ci)) := fun W hW =>
          ⟨(World.cell?_of_block (w := wo) (hW g hg3)).trans x1, (World.cell?_of_block (w := wo) (hW bi hbi)).trans k1⟩
        rw [ordG, List.length_map] at hPl
        clear hq k0
        go_wp2_with fail
        go_region_held3 (fun W => W.cell? ⟨g, og, none⟩ = some (.int .i64 l) ∧ W.cell? ⟨bi, oi + i, none⟩ = some (.slice Ai q.length ci))
          ((first | exact HK.out _ (fun b hb => rfl) | exact HK.out _ (fun b hb => Go.Deep.blk_alloc_lt _ _ _ (by omega)) | exact HK.out _ (fun b hb => Hold5 b (by omega))))
          (first | (refine step_append_list (by rfl) _ _ _ (by rfl) qint_congr (R := RInt) wo.heap.size 3 i0 _ 8 Tryz.underlying23 hi0 hz0 hz1 hz2 rfl (by omega) (.slice (some ⟨wo.heap.size, 0, none⟩) 1 1) [(l : Int)] (by rfl) (RowI.single (Own.new wo _ _).drew (Nat.le_refl _)) Ai ci q (by rfl) (Hq.out.le ((Le.alloc _ _).to_drew)) (fun cs y h => h) qint_one (by simp [maxLen]; omega) (by simp; omega) (by simp) (wo.heap.size + 1) (by simp) ?_; intro A5 c5 w5 hrow5 hgrow5 hat5; simp only [List.singleton_append, List.length_cons] at hrow5 hat5; have hs5 := World.grownBy.size hgrow5; simp only [World.size_alloc, World.size_drew] at hs5; have Hold5 := Hold.out w5 hgrow5))
        have hB5 : Below wo.heap.size wo w5 := below_of_grown (r := (Value.slice (some ⟨wo.heap.size, 0, none⟩) 1 1).ownBlock) ((Below.refl _ _).alloc (Nat.le_refl _) _).drew hgrow5 (by simp) (fun g hg => by simp only [Value.ownBlock, Option.some.injEq] at hg; omega)
        have Hrow5 := Lib.hid (hrow.out.below hB5)
        have hv5 : ∀ g, v.ownBlock = some g → w3.heap.size ≤ g ∧ g < wo.heap.size := fun g hg => owns_base hrow.out.own hg
        have Hfirst : Hid (SlR 1 RInt (far w.heap.size v.ownBlock w5) (.slice A5 ((l : Int) :: q).length c5) ((l : Int) :: q)) := by
          obtain ⟨A, c, e, h⟩ := RowI.ints hrow5
          injection e with e1 e2 e3
          subst e1 e3
          exact h.le (Le.above_far (by omega) fun g hg => (hv5 g hg).2)
        have Hrest5 : Hid (I3 (far w.heap.size v.ownBlock w5) A1 c1 rest) := Hrest3.out.le (Le.to_far (Le.above_le _ (Le.below (hb.trans (hB5.mono hso)))) fun g hg => by rw [above_size]; exact (hv5 g hg).1)
        have hb5 : Below w3.heap.size w3 w5 := hb.trans (hB5.mono hso)
        clear hrow5 hgrow5 hat5 Hold5 HK Hold hs5 x1 k1 Hq hb
        have hs5 := hB5.size
        go_wp2_with fail
        go_loopg [8, 11] rest.length (fun g s8 s11 wr => ∃ (j : Nat) (v' : Value) (xss2 : List (List (List Int))) (cs : List Value) (Fs : Nat → List Nat), j ≤ rest.length ∧ g = rest.length - j ∧ v' = s8 ∧ s11 = .int .i64 j ∧ Hid (Rows3 wr w3.heap.size w.heap.size v' xss2 cs Fs) ∧ Hid (xss2 = xss ++ (rest.take j).map (((l : Int) :: q) :: ·)) ∧ w5.grownBy wr v.ownBlock ∧ RowFrom v w5 v')
        case atStart => exact ⟨0, v, xss, cs, Fs, Nat.zero_le _, rfl, rfl, rfl, Hrow5.out, by simp [Hid], grown_refl _ _, RowFrom.refl _ _⟩
        case round =>
          obtain ⟨j, v2, xss2, cs, Fs, hj, rfl, rfl, rfl, hrow, hxs2, hgw, hfrom⟩ := hrel
          have hsr := World.grownBy.size hgw
          by_cases hjlt : j < rest.length
          · obtain ⟨bj, oj, Aj, cj, rfl, hbj, j0, hjl, hrj⟩ := SlR.getSub Hrest5.out hjlt
            obtain ⟨j1, j2, j3⟩ := of_far j0
            have hlen2 : xss2.length + 1 ≤ 3000 := by rw [hxs2.out, List.length_append, List.length_map, List.length_take]; omega
            have h3' := Heach.out _ (List.getElem_mem hjlt)
            have Htj := Lib.hid (List.take_succ_eq_append_getElem hjlt)
            have hfar := Le.far_grown (B := w.heap.size) hgw hfrom
            have Hrj : Hid (SlR 1 (RSub 1 RInt) (far w.heap.size v2.ownBlock wr) (.slice Aj rest[j].length cj) rest[j]) := SlR.le' rints_le hrj hfar
            have Hf2 : Hid (QS (far w.heap.size v2.ownBlock wr) (fun _ => .slice A5 (q.length + 1) c5) ((l : Int) :: q)) := ⟨A5, c5, rfl, SlR.le' rint_le Hfirst.out hfar⟩
            generalize rest[j] = rj at j0 j3 hrj Hrj h3' Htj
            have hbj6 : bj < w5.heap.size := World.block_lt_of_cell? _ _ j3
            have k3 : wr.cell? ⟨bj, oj + j, none⟩ = some (.slice Aj rj.length cj) := (World.cell?_of_block (w := w5) (World.grownBy.block hgw bj hbj6 (fun e => j2 e.symm))).trans j3
            have hbjr : bj < wr.heap.size := by omega
            have Hold : Hid (∀ w7 : World, (wr.alloc (.cells #[.slice A5 (q.length + 1) c5] 23)).grownBy w7 (Value.slice (some ⟨wr.heap.size, 0, none⟩) 1 1).ownBlock → ∀ b, b < wr.heap.size → w7.heap[b]? = wr.heap[b]?) := fun w7 hg b hb =>
              (World.grownBy.block hg b (by simp; omega) (fun e => by simp only [Value.ownBlock, Option.some.injEq] at e; omega)).trans (Go.Deep.blk_alloc_lt _ _ _ hb)
            clear hrj hfar
            go_wp2_with (at_builtin; first
              | (refine wpList_append_list (o := ⟨some 55, _, _, _, _, _⟩) (by rfl) _ _ _ (by rfl) (qs_congr (far w.heap.size v2.ownBlock wr)) (R := fun _ => QS (far w.heap.size v2.ownBlock wr)) wr.heap.size 23 i1 _ 24 Tryz.underlying24 hi1 hy0 hy1 hy2 rfl (by omega) (.slice (some ⟨wr.heap.size, 0, none⟩) 1 1) [(l : Int) :: q] (by rfl) (row_qs (Own.new wr _ _) (Nat.le_refl _) Hf2.out) Aj cj rj (by rfl) (i2_still Hrj.out ((Le.far _ _ _).trans (Le.alloc _ _))) (fun cs y h => h) (qs_one _) (by simp [maxLen]; omega) (by simp; omega) (by simp) (wr.heap.size + 1) (by simp) ?_; intro A7 c7 w7 hrow7 hgrow7 hat7; simp only [List.singleton_append, List.length_cons] at hrow7 hat7; have hs7 := World.grownBy.size hgrow7; simp only [World.size_alloc] at hs7; have Hold7 := Hold.out w7 hgrow7)
              | (refine wpList_append_lies (o := ⟨some 57, _, _, _, _, _⟩) _ (by rfl) _ _ _ (by rfl) w3.heap.size 24 i2 _ 1 24 Tryz.underlying149 hi2 hx0 hx1 hx2 rfl (by omega) v2 xss2.length cs (by rfl) (owns_alloc (owns_of_block hrow.out.own (w' := w7) fun g _ _ hl => Hold7 g hl) _) ⟨w7.heap.size, 0, none⟩ 1 1 [.slice A7 (rj.length + 1) c7] (by rfl) (by rfl) (World.news_of_block (cs := #[.slice A7 (rj.length + 1) c7]) (t := 24) (fr := (0, 0)) (heap_alloc_new w7 _)) (by simp [Value.oneCell']) (by omega) (by simp [maxLen]; omega) (by omega) (by simp; omega) (w7.heap.size + 1) (by simp) ?_; intro gg cap w8 hown8 hgrow8 hat8 hlt8))
            have hG7 : w5.grownBy w7 v.ownBlock := grown_next (grown_below hgw ((Below.refl _ _).alloc (Nat.le_refl _) _)) hgrow7 (fun g hg => by simp only [Value.ownBlock, Option.some.injEq] at hg; exact .inr (by omega))
            have hG8 : w5.grownBy w8 v.ownBlock := grown_next (grown_below hG7 ((Below.refl _ _).alloc (Nat.le_refl _) _)) hgrow8 (fun g hg => hfrom g hg)
            have hB7 : Below wr.heap.size wr w7 := below_of_grown (r := (Value.slice (some ⟨wr.heap.size, 0, none⟩) 1 1).ownBlock) ((Below.refl _ _).alloc (Nat.le_refl _) _) hgrow7 (by simp) (fun g hg => by simp only [Value.ownBlock, Option.some.injEq] at hg; omega)
            obtain ⟨Fs8, hp8⟩ := Rows3.push hrow.out hB7 (by omega) (t := ((l : Int) :: q) :: rj) (A := A7) (c := c7) hrow7 hgrow8 hown8 hat8 rfl
            have hfrom8 := hfrom.next hat8 (n := xss2.length + 1) (c := cap) (by omega)
            clear hgrow7 hgrow8 hown8 hrow7 hG7 hB7
            go_roundg (rest.length - (j + 1))
            case measure => omega
            case rel => exact ⟨j + 1, _, xss2 ++ [((l : Int) :: q) :: rj], _, Fs8, by omega, rfl, rfl, by go_num, hp8, (by show _ = _; rw [Htj.out, List.map_append, ← List.append_assoc, ← hxs2.out]; rfl), hG8, hfrom8⟩
          · obtain rfl : j = rest.length := by omega
            rw [List.take_length] at hxs2
            have hb8 : Below w3.heap.size w3 wr := below_of_grown hb5 hgw (by omega) (fun g hg => (hv5 g hg).1)
            go_wp2_with fail
            go_roundg (pm.length - (i + 1))
            case measure => omega
            case rel => exact ⟨i + 1, v2, xss2, cs, Fs, by omega, rfl, rfl, by go_num, hrow.out, (by show _ = _; rw [Htk.out, ← hxs.out]; exact hxs2.out), hb8⟩
      · obtain rfl : i = pm.length := by omega
        rw [List.take_length] at hxs
        obtain ⟨A9, c9, rfl, hI9⟩ := hrow.out.i3 hsw3
        have Hx9 : Hid (xss = ordersF L l) := by show _ = _; rw [Hres.out]; exact hxs.out
        have HI9 := Lib.hid hI9
        clear hI9 hrow
        go_wp2_with fail
        go_ret
        rw [← Hx9.out]
        exact ⟨A9, c9, rfl, HI9.out, hB3.trans (hb.mono hsw3)⟩

theorem i3_one {w : World} {base b1 b2 : Nat} (h1 : base ≤ b1) (h : Own w b2 24 #[.slice (some ⟨b1, 0, none⟩) 0 0]) (h2 : base ≤ b2) : I3 (above base w) (some ⟨b2, 0, none⟩) 1 [[]] :=
  ⟨_, _, rfl, by simp, fun i hi => by
    obtain rfl : i = 0 := by simp at hi; omega
    exact ⟨_, _, rfl, fun _ => .slice (some ⟨b1, 0, none⟩) 0 0, fun j hj => by
      obtain rfl : j = 0 := by omega
      exact cell_above_of h2 (h.cell rfl), ⟨_, _, rfl, _, _, rfl, by simp, fun i hi => absurd hi (Nat.not_lt_zero _)⟩⟩⟩

set_option maxHeartbeats 1000000 in
theorem spOr_any (L : List Ev) (hF : Few3 L) : ∀ (n l : Nat), l + n = 3 → ∀ (w : World) (A : Option Addr) (c : Nat), EvS w (.slice A L.length c) L → Calls Tryz.prog 132 #[.slice A L.length c, .int .i64 l] w (RetI3 w (ordersF L l)) := by
  intro n
  induction n with
  | zero =>
    intro l hl w A c hr
    obtain rfl : l = 3 := by omega
    have he : ordersF L 3 = [[]] := rfl
    have He := Lib.hid he
    clear he
    go_enter Tryz.func132, Tryz.ntmps132
    go_wp2_with fail
    go_ret
    rw [He.out]
    exact ⟨_, _, rfl, i3_one (Nat.le_refl _) (own_new2' _ _ _ _) (by omega), ((Below.refl _ _).alloc (Nat.le_refl _) _).alloc (by simp) _⟩
  | succ n ih =>
    intro l hl w A c hr
    refine spOr_step L hF l (by omega) (fun w A c hr => ?_) w A c hr
    have := ih (l + 1) (by omega) w A c hr
    rw [show ((l + 1 : Nat) : Int) = (l : Int) + 1 by omega] at this
    exact this

end Go.Proofs.YtfgpbnncdfcjjabGreatDoor

/-! The walk of spec.l6Copy. -/
namespace Go.Proofs.YtfgpbnncdfcjjabGreatDoor
open Go.RowKit
set_option linter.unusedVariables false
set_option maxRecDepth 100000

theorem MvO.grown' {F : List Nat} {a X w1 : World} {row : Option Nat} (h : MvO F a X) (hg : X.grownBy w1 row) (hr : ∀ g, row = some g → g ∈ F ∨ a.heap.size ≤ g) : MvO F a w1 :=
  ⟨(World.grownBy.os hg).trans h.os, (World.grownBy.tape hg).trans h.tape, (World.grownBy.output hg).trans h.output, Nat.le_trans h.size (World.grownBy.size hg), fun i hi hn =>
    (World.grownBy.block hg i (Nat.lt_of_lt_of_le hi h.size) (fun e => by
      rcases hr i e.symm with h | h
      · exact hn h
      · omega)).trans (h.block i hi hn)⟩
/-- In a world behind an append to a row that is new. -/
theorem hold_new {wr w6 : World} {o : Obj} {n c : Nat} (hg : (wr.drew.alloc o).grownBy w6 (Value.slice (some ⟨wr.heap.size, 0, none⟩) n c).ownBlock) : Below wr.heap.size wr w6 :=
  below_of_grown ((Below.refl _ _).drew.alloc (Nat.le_refl _) _) hg (by simp) (fun g hg => by simp only [Value.ownBlock, Option.some.injEq] at hg; omega)
theorem row_of_none {w : World} {base : Nat} : RowsI w base (.slice none 0 0) [] [] (fun _ => []) := RowW.nil 1 _ _ _ _
theorem cp_next {w3 wr w6 w8 : World} {T base gg cap H : Nat} {e : TypeId} {u v : Value} {xs : List (List Int)} {cs : List Value} {Fs : Nat → List Nat} {A : Option Addr} {c : Nat} {t : List Int}
    (hT : T < base) (hB : base ≤ wr.heap.size) (hw3 : w3.heap.size ≤ base) (hmv : MvO [T] w3 wr) (ho : Own wr T e #[u, v]) (h : RowsI wr base v xs cs Fs) (h6 : Below wr.heap.size wr w6) (ht : RowI w6 wr.heap.size (.slice A t.length c) t)
    (hg : (w6.alloc (.cells #[.slice A t.length c] 23)).grownBy w8 v.ownBlock) (hown : w8.ownsRow base 23 1 (.slice (some ⟨gg, 0, none⟩) (xs.length + 1) cap) (xs.length + 1) (cs ++ [.slice A t.length c])) (hat : v.ownBlock = some gg ∨ gg = H) (hH : w6.heap.size + 1 = H) :
    ∃ Fs', RowsI (w8.setCell ⟨T, 1, none⟩ (.slice (some ⟨gg, 0, none⟩) (xs.length + 1) cap)) base (.slice (some ⟨gg, 0, none⟩) (xs.length + 1) cap) (xs ++ [t]) (cs ++ [.slice A t.length c]) Fs' ∧
      Own (w8.setCell ⟨T, 1, none⟩ (.slice (some ⟨gg, 0, none⟩) (xs.length + 1) cap)) T e #[u, .slice (some ⟨gg, 0, none⟩) (xs.length + 1) cap] ∧ MvO [T] w3 (w8.setCell ⟨T, 1, none⟩ (.slice (some ⟨gg, 0, none⟩) (xs.length + 1) cap)) := by
  have hs6 := h6.size
  have hgw : wr.grownBy w8 v.ownBlock := grown_next (grown_below (grown_refl wr v.ownBlock) (h6.alloc hs6 _)) hg fun g e => .inl e
  have hv : ∀ g, v.ownBlock = some g → base ≤ g := fun g e => (owns_base h.own e).1
  obtain ⟨Fs', hp⟩ := h.pushRow (fun b _ hl => h6.block b hl) hs6 hB ht hg hown hat hH
  refine ⟨Fs', hp.move (rowP_loc _ _ _) fun b h1 _ => Below.heap_setCell _ _ _ _ (fun e => by simp only at e; omega), ?_, (hmv.grown' hgw fun g e => .inr (Nat.le_trans hw3 (hv g e))).set (by simp) _⟩
  have ho8 : Own w8 T e #[u, v] := ho.of_block (World.grownBy.block hgw T ho.lt fun e => by have := hv _ e.symm; omega)
  exact ho8.set 1 _

/-- A copy in rows of its own: the first one lies ahead of block T, the others behind it. -/
def RetCW (w : World) (x : Ex) (e : Ending) (w' : World) : Prop := ∃ A c B d T cs Fs, e = .returned (.agg #[.slice A x.from_.length c, .slice B x.order.length d]) ∧ RowI w' w.heap.size (.slice A x.from_.length c) x.from_ ∧ (∀ g, (Value.slice A x.from_.length c).ownBlock = some g → g < T) ∧ w.heap.size ≤ T ∧ RowsI w' (T + 1) (.slice B x.order.length d) x.order cs Fs ∧ T < w'.heap.size ∧ Below w.heap.size w w'

set_option maxHeartbeats 8000000 in
theorem spCpW_any (x : Ex) (h1 : x.from_.length ≤ 1000) (h2 : x.order.length ≤ 1000) (h3 : ∀ xs ∈ x.order, xs.length ≤ 1000) (w : World) (A B : Option Addr) (c d : Nat) (hr : RepX w A c B d x) :
    Calls Tryz.prog 95 #[.agg #[.slice A x.from_.length c, .slice B x.order.length d]] w (RetCW w x) := by
  obtain ⟨i0, hi0, hz0, hz1, hz2⟩ := info_parts Tryz.infoInt
  obtain ⟨i1, hi1, hy0, hy1, hy2⟩ := info_parts Tryz.infoInts
  have H3 := Lib.hid h3
  clear h3
  obtain ⟨hrf, hro⟩ := hr
  have Hf : Hid (Ints (((w.alloc (.cells #[.slice A x.from_.length c, .slice B x.order.length d] 34)).alloc (.cells #[.slice none 0 0, .slice none 0 0] 34)).alloc (.cells #[] 3)) A c x.from_) := hrf.le ((((Le.alloc _ _).to_alloc _)).to_alloc _)
  have he : Own (((w.alloc (.cells #[.slice A x.from_.length c, .slice B x.order.length d] 34)).alloc (.cells #[.slice none 0 0, .slice none 0 0] 34)).alloc (.cells #[] 3)) (w.heap.size + 1 + 1) 3 #[] := by simpa using Own.new ((w.alloc (.cells #[.slice A x.from_.length c, .slice B x.order.length d] 34)).alloc (.cells #[.slice none 0 0, .slice none 0 0] 34)) 3 #[]
  have HE := Lib.hid he
  clear he
  go_enter Tryz.func95, Tryz.ntmps95
  go_wp2_with (at_builtin; refine wpList_append_list (o := ⟨some 8, _, _, _, _, _⟩) (by rfl) _ _ _ (by rfl) qint_congr (R := RInt) (w.heap.size + 1 + 1) 3 i0 _ 8 Tryz.underlying23 hi0 hz0 hz1 hz2 rfl (by omega) (.slice (some ⟨w.heap.size + 1 + 1, 0, none⟩) 0 0) [] (by rfl) (RowOf.made _ HE.out (Nat.le_refl _)) A c x.from_ (by rfl) Hf.out (fun cs y h => h) qint_one (by simp [maxLen]; omega) (by simp; omega) (by simp) (w.heap.size + 1 + 1 + 1) (by simp) ?_; intro A5 c5 w5 hrow5 hgrow5 hat5; rw [List.nil_append] at hrow5 hat5; have hs5 := World.grownBy.size hgrow5; simp only [World.size_alloc] at hs5)
  have hB5 : Below w.heap.size w w5 := below_of_grown ((((Below.refl w.heap.size w).alloc (Nat.le_refl _) _).alloc (by simp) _).alloc (by simp <;> omega) _) hgrow5 (by simp <;> omega) (fun g hg => by simp only [Value.ownBlock, Option.some.injEq] at hg; omega)
  have oX : Own w5 w.heap.size 34 #[.slice A x.from_.length c, .slice B x.order.length d] := (((Own.new w _ _).alloc _).alloc _).of_block (World.grownBy.block hgrow5 _ (by simp <;> omega) (fun e => by simp only [Value.ownBlock, Option.some.injEq] at e; omega))
  have oR : Own w5 (w.heap.size + 1) 34 #[.slice none 0 0, .slice none 0 0] := by
    have h := ((Own.new (w.alloc (.cells #[.slice A x.from_.length c, .slice B x.order.length d] 34)) 34 #[.slice none 0 0, .slice none 0 0]).alloc (.cells #[] 3))
    exact (by simpa using h : Own _ (w.heap.size + 1) _ _).of_block (World.grownBy.block hgrow5 _ (by simp <;> omega) (fun e => by simp only [Value.ownBlock, Option.some.injEq] at e; omega))
  have hrow5' : RowI w5 (w.heap.size + 1 + 1) (.slice A5 x.from_.length c5) x.from_ := hrow5
  have Hfrom := Lib.hid hrow5'
  clear hrow5 hrow5' hgrow5 hat5 HE Hf
  obtain ⟨T, hT⟩ : ∃ T, T = w5.heap.size := ⟨_, rfl⟩
  obtain ⟨w3, hw3⟩ : ∃ w3, w3 = w5.alloc (.cells #[.slice A5 x.from_.length c5, .slice none 0 0] 34) := ⟨_, rfl⟩
  have hz3 : w3.heap.size = T + 1 := by rw [hw3, hT]; simp
  have oT : Own w3 T 34 #[.slice A5 x.from_.length c5, .slice none 0 0] := by rw [hw3, hT]; exact Own.new _ _ _
  have oX3 : Own w3 w.heap.size 34 #[.slice A x.from_.length c, .slice B x.order.length d] := by rw [hw3]; exact oX.alloc _
  have oR3 : Own w3 (w.heap.size + 1) 34 #[.slice none 0 0, .slice none 0 0] := by rw [hw3]; exact oR.alloc _
  have hB3 : Below w.heap.size w w3 := by rw [hw3]; exact hB5.alloc hB5.size _
  have hTw : w.heap.size + 1 < T := by rw [hT]; omega
  have hro3 : Intss w3 B d x.order := hro.le (Le.below hB3)
  have Hfrom3 : Hid ((∀ wr, MvO [T] w3 wr → RowI wr (w.heap.size + 1 + 1) (.slice A5 x.from_.length c5) x.from_) ∧ ∀ g, (Value.slice A5 x.from_.length c5).ownBlock = some g → g < T) :=
    ⟨fun wr hm => Hfrom.out.of_block fun g _ _ hl => (hm.block g (by omega) (by simp; omega)).trans (by rw [hw3]; exact Go.Deep.blk_alloc_lt _ _ _ hl), fun g e => by rw [hT]; exact (Hfrom.out.blk e).2⟩
  have OX := Lib.hid oX3
  have OR := Lib.hid oR3
  have OT := Lib.hid oT
  rw [← hw3, ← hT]
  clear hw3 hT oX oR oX3 oR3 oT hrf hB5 Hfrom hs5
  have hol := hro3.len
  go_loopg [4] x.order.length (fun g s4 wr => ∃ (i : Nat) (v : Value) (cs : List Value) (Fs : Nat → List Nat), i ≤ x.order.length ∧ g = x.order.length - i ∧ s4 = .int .i64 i ∧ Hid (RowsI wr (T + 1) v (x.order.take i) cs Fs) ∧ Hid (Own wr T 34 #[.slice A5 x.from_.length c5, v]) ∧ Hid (MvO [T] w3 wr))
  case atStart => exact ⟨0, _, [], _, Nat.zero_le _, rfl, rfl, row_of_none, OT.out, MvO.refl _ _⟩
  case round =>
    obtain ⟨wo, rfl⟩ : ∃ wo : World, wo = wr := ⟨_, rfl⟩
    obtain ⟨i, v, cs, Fs, hi, rfl, rfl, hrow, hoT, hmv⟩ := hrel
    have hsz := hmv.out.size
    have r1 := hmv.out.cell (OX.out.cell (i := 1) rfl) (by simp; omega)
    by_cases hlt : i < x.order.length
    · obtain ⟨bj, oj, Aj, cj, rfl, hbj, j0, hrj⟩ := hro.get hlt
      have hle0 : (x.order.take i).length = i := by rw [List.length_take]; omega
      have h1000 := H3.out _ (List.getElem_mem hlt)
      have Htk := Lib.hid (List.take_succ_eq_append_getElem hlt)
      have j1 := hmv.out.cell (Le.below hB3 _ _ j0) (by simp; omega)
      have hrow' : RowsI wo (T + 1) v (x.order.take i) cs Fs := hrow.out
      have Hrj : Hid (Ints (wo.drew.alloc (.cells #[] 3)) Aj cj x.order[i]) := hrj.le fun p u hc => Le.alloc _ _ _ _ (Le.drew _ _ _ (hmv.out.cell (Le.below hB3 _ _ hc) (by have := World.block_lt_of_cell? _ _ hc; simp; omega)))
      generalize x.order[i] = rj at j0 j1 hrj Hrj h1000 Htk
      have q1 := hoT.out.cell (i := 1) rfl
      have hTl := hoT.out.lt
      have hXl : w.heap.size < wo.heap.size := by omega
      have hbl : bj < wo.heap.size := by omega
      have HL : Hid (∀ W, Below wo.heap.size wo W → W.cell? ⟨T, 1, none⟩ = some v ∧ T < W.heap.size) := fun W hb => ⟨(hoT.out.of_block (hb.block T hTl)).cell (i := 1) rfl, Nat.lt_of_lt_of_le hTl hb.size⟩
      have HL8 : Hid (∀ (w6 w8 : World) (o : Obj), Below wo.heap.size wo w6 → (w6.alloc o).grownBy w8 v.ownBlock → w8.cell? ⟨T, 1, none⟩ = some v ∧ w8.frozen? ⟨T, 1, none⟩ = false) := fun w6 w8 o hb hg => by
        have h6 : Own w6 T _ _ := hoT.out.of_block (hb.block T hTl)
        have h8 : Own w8 T _ _ := (h6.alloc o).of_block (World.grownBy.block hg T (h6.alloc o).lt fun e => by have := (owns_base hrow.out.own e.symm).1; omega)
        exact ⟨h8.cell (i := 1) rfl, h8.frozen 1⟩
      obtain ⟨xs, hxs⟩ : ∃ xs, xs = x.order.take i := ⟨_, rfl⟩
      rw [← hxs] at hrow hle0
      have HH := Lib.hid hxs
      clear hrow' hrj j0 hxs
      go_wp2_with fail
      go_region_law (first
        | (refine step_append_list (o := ⟨some 25, _, _, _, _, _⟩) (by rfl) _ _ _ (by rfl) qint_congr (R := RInt) wo.heap.size 3 i0 _ 8 Tryz.underlying23 hi0 hz0 hz1 hz2 rfl (by omega) (.slice (some ⟨wo.heap.size, 0, none⟩) 0 0) [] (by rfl) (RowOf.made _ (Own.new wo.drew _ _) (Nat.le_refl _)) Aj cj rj (by rfl) Hrj.out (fun cs y h => h) qint_one (by simp [maxLen]; omega) (by simp; omega) (by simp) (wo.heap.size + 1) (by simp) ?_; intro A6 c6 w6 hrow6 hgrow6 hat6; rw [List.nil_append] at hrow6 hat6; have hB6 := hold_new hgrow6; obtain ⟨q6, l6⟩ := HL.out w6 hB6; have s6 := hB6.size)
        | (refine step_append_lies (o := ⟨some 27, _, _, _, _, _⟩) _ (by rfl) _ _ _ (by rfl) (T + 1) 23 i1 _ 1 24 Tryz.underlying24 hi1 hy0 hy1 hy2 rfl (by omega) v xs.length cs (by rfl) (owns_alloc (owns_of_block hrow.out.own (w' := w6) fun g _ _ hl => hB6.block g hl) _) ⟨w6.heap.size, 0, none⟩ 1 1 [.slice A6 rj.length c6] (by rfl) (by rfl) (World.news_of_block (cs := #[.slice A6 rj.length c6]) (t := 23) (fr := (0, 0)) (heap_alloc_new w6 _)) (by simp [Value.oneCell']) (by omega) (by simp [maxLen]; omega) (by omega) (by simp; omega) (w6.heap.size + 1) (by simp) ?_; intro gg cap w8 hown8 hgrow8 hat8 hlt8; obtain ⟨q8, f8⟩ := HL8.out w6 w8 _ hB6 hgrow8))
      all_goals
        obtain ⟨Fs8, hp8, ho8, hm8⟩ := cp_next (H := w6.heap.size + 1) (Nat.lt_succ_self T) (by omega) (by omega) hmv.out hoT.out hrow.out hB6 hrow6 hgrow8 hown8 hat8 rfl
        rw [hle0] at hp8 ho8 hm8
        go_wp2_with fail
        go_roundg (x.order.length - (i + 1))
        case measure => omega
        case rel => exact ⟨i + 1, _, _, Fs8, by omega, rfl, by go_num, (by rw [Htk.out, ← HH.out]; exact hp8), ho8, hm8⟩
    · obtain rfl : i = x.order.length := by omega
      rw [List.take_length] at hrow
      have q0 := hoT.out.cell (i := 0) rfl
      have q1 := hoT.out.cell (i := 1) rfl
      have oRr : Own wo (w.heap.size + 1) 34 #[.slice none 0 0, .slice none 0 0] := OR.out.of_block (hmv.out.block _ OR.out.lt (by simp; omega))
      have p0 := oRr.cell (i := 0) rfl
      have p1 := oRr.cell (i := 1) rfl
      have p2 := oRr.frozen 0
      have p3 := oRr.frozen 1
      clear oRr
      obtain ⟨A9, c9, rfl, _⟩ := hrow.out.intss
      have hT9 := hmv.out.size
      go_wp2_with fail
      refine bodyPost_ret (v := .agg #[.slice A5 x.from_.length c5, .slice A9 x.order.length c9]) (by simp [results, Tryz.results95, go_sem, p0, p1]) rfl ?_
      have hbf : Below w.heap.size w wo := hB3.trans (hmv.out.below (fun x hx => by simp at hx; omega) hB3.size)
      exact ⟨A5, c5, A9, c9, T, cs, Fs, rfl, ((Hfrom3.out.1 wo hmv.out).rebase fun g hg => by have := ((Hfrom3.out.1 wo hmv.out).blk hg).1; omega).of_block (fun g hg hv _ => (Below.heap_setCell _ _ _ _ (by show g ≠ w.heap.size + 1; have := ((Hfrom3.out.1 wo hmv.out).blk hv).1; omega)).trans (Below.heap_setCell _ _ _ _ (by show g ≠ w.heap.size + 1; have := ((Hfrom3.out.1 wo hmv.out).blk hv).1; omega))),
        Hfrom3.out.2, by omega, hrow.out.move (rowP_loc _ _ _) (fun b hb _ => (Below.heap_setCell _ _ _ _ (by show b ≠ w.heap.size + 1; omega)).trans (Below.heap_setCell _ _ _ _ (by show b ≠ w.heap.size + 1; omega))), by simp [World.setCell]; omega, (hbf.setCell (by simp) _).setCell (by simp) _⟩

theorem RetCW.retX {w : World} {x : Ex} {e : Ending} {w' : World} (h : RetCW w x e w') : RetX w x e w' := by
  obtain ⟨A, c, B, d, T, cs, Fs, rfl, hf, _, hT, ho, _, hb⟩ := h
  obtain ⟨A', c', e, hI⟩ := hf.ints
  injection e with e1 e2 e3
  subst e1 e3
  obtain ⟨B', d', e, hJ⟩ := ho.intss
  injection e with e1 e2 e3
  subst e1 e3
  exact ⟨A, c, B, d, rfl, ⟨hI, hJ.le (Le.above_mono (by omega) _)⟩, hb⟩
theorem spCp_any (x : Ex) (h1 : x.from_.length ≤ 1000) (h2 : x.order.length ≤ 1000) (h3 : ∀ xs ∈ x.order, xs.length ≤ 1000) (w : World) (A B : Option Addr) (c d : Nat) (hr : RepX w A c B d x) :
    Calls Tryz.prog 95 #[.agg #[.slice A x.from_.length c, .slice B x.order.length d]] w (RetX w x) := (spCpW_any x h1 h2 h3 w A B c d hr).mono fun _ _ h => h.retX

end Go.Proofs.YtfgpbnncdfcjjabGreatDoor

/-! The walks of spec.l6All and spec.AllExecs. -/
namespace Go.Proofs.YtfgpbnncdfcjjabGreatDoor
open Go.RowKit
set_option linter.unusedVariables false
set_option maxRecDepth 100000

def candG (os : List (List (List Int))) (f : List Int) : List Ex := os.map fun o => ⟨f, o⟩

set_option maxHeartbeats 16000000 in
theorem spAll_any (p : Prg) (hp : PrgOk p) (w : World) (v : Value) (hr : PrgS w v p) : Calls Tryz.prog 88 #[v] w (RetExS w (cands (evs p))) := by
  obtain ⟨i0, hi0, hz0, hz1, hz2⟩ := info_parts Tryz.infoEx
  have hF := few3 hp
  have HF := Lib.hid hF
  have Hres : Hid (cands (evs p) = (froms (evs p)).flatMap (candG (orders (evs p)))) := rfl
  have Htot : Hid ((cands (evs p)).length ≤ 3000) := by
    show _ ≤ _
    unfold cands
    rw [flatMap_len _ (orders (evs p)).length (fun f => by rw [List.length_map])]
    exact hF.all
  have Hf15 : Hid (∀ f ∈ froms (evs p), f.length ≤ 15) := fun f hf => by
    have := prodL_each hf
    rw [chF_length] at this
    have := hF.len
    omega
  have Ho3 : Hid (∀ o ∈ orders (evs p), o.length ≤ 3 ∧ ∀ q ∈ o, q.length ≤ 7) := fun o ho => by
    have h1 := prodL_each ho
    rw [List.length_map, List.length_drop, List.length_range] at h1
    refine ⟨by omega, fun q hq => ?_⟩
    obtain ⟨h0, h2⟩ := (mem_orders hF.hd).1 ho
    obtain ⟨l, hl, rfl⟩ := List.getElem_of_mem hq
    have h3 := (h2 l (by omega)).1.length_eq
    rw [show o.getD l [] = o[l] by simp [hl]] at h3
    have := hF.pm l (by omega)
    omega
  obtain ⟨A, c, rfl, _⟩ := hr.slice
  clear hF
  go_enter Tryz.func88, Tryz.ntmps88
  go_wp2_with fail
  refine (l6Events_any p hp.1 _ _ hr).mono ?_
  rintro e1 w1 ⟨v1, rfl, hrow1, hb1⟩
  have hev1 : EvS w1 v1 (evs p) := EvS.le (RowEv.evS hrow1) (Le.above _ _)
  obtain ⟨A1, c1, rfl, _⟩ := SlR.slice hev1
  have hs1 := hb1.size
  have Hev1 := Lib.hid hev1
  clear hev1 hrow1
  go_wp2_with fail
  refine (spFr_any (evs p) HF.out (evs p).length 0 (by omega) _ _ _ Hev1.out).mono ?_
  rintro e2 w2 ⟨A2, c2, rfl, hfr, hb2⟩
  have hs2 := hb2.size
  rw [show prodL (chF (evs p) 0 ((evs p).drop 0)) = froms (evs p) from rfl] at hfr ⊢
  have Hfr := Lib.hid hfr
  have Hev2 : Hid (EvS w2 (.slice A1 (evs p).length c1) (evs p)) := EvS.le Hev1.out (Le.below hb2)
  clear Hev1 hfr
  go_wp2_with fail
  refine (spOr_any (evs p) HF.out 3 0 (by omega) _ _ _ Hev2.out).mono ?_
  rintro e3 w3 ⟨A3, c3, rfl, hor, hb3⟩
  have hs3 := hb3.size
  rw [show ordersF (evs p) 0 = orders (evs p) from rfl] at hor ⊢
  have hB3 : Below w.heap.size w w3 := hb1.trans ((hb2.trans (hb3.mono hs2)).mono hs1)
  have hfr3 : Intss w3 A2 c2 (froms (evs p)) := (Hfr.out.le (Le.above _ _)).le (Le.below hb3)
  have hor3 : I3 w3 A3 c3 (orders (evs p)) := hor.le (Le.above _ _)
  clear Hev2 Hfr hor hb1 hb2 hb3
  generalize froms (evs p) = fs at hfr3 Hres Hf15
  generalize orders (evs p) = os at hor3 Hres Ho3
  have hfl := hfr3.len
  have hol := hor3.len
  have hrow0 : Hid (RowX (w3.alloc (.cells #[] 34)) w3.heap.size (.slice (some ⟨w3.heap.size, 0, none⟩) 0 0) []) := RowOf.made _ (Own.new _ _ _) (Nat.le_refl _)
  go_wp2_with fail
  go_loopg [6, 7] fs.length (fun g s6 s7 wr => ∃ (i : Nat) (v : Value) (xs : List Ex), i ≤ fs.length ∧ g = fs.length - i ∧ v = s6 ∧ s7 = .int .i64 i ∧ Hid (RowX wr w3.heap.size v xs) ∧ Hid (xs = (fs.take i).flatMap (candG os)) ∧ Below w3.heap.size w3 wr)
  case atStart => exact ⟨0, _, [], Nat.zero_le _, rfl, rfl, rfl, hrow0.out, by simp [Hid], (Below.refl _ _).alloc (Nat.le_refl _) _⟩
  case round =>
    obtain ⟨wo, rfl⟩ : ∃ wo : World, wo = wr := ⟨_, rfl⟩
    obtain ⟨i, v, xs, hi, rfl, rfl, rfl, hrow, hxs, hb⟩ := hrel
    by_cases hlt : i < fs.length
    · obtain ⟨bi, oi, Ai, ci, rfl, hbi, k0, hq⟩ := hfr3.get hlt
      have h15 := Hf15.out _ (List.getElem_mem hlt)
      have Htk := Lib.hid (flatMap_take_succ (candG os) fs i hlt)
      have hPl : xs.length + (candG os fs[i]).length ≤ 3000 := by
        have h1 := flatMap_take_le (candG os) fs (i + 1)
        rw [Htk.out, ← hxs.out, List.length_append, ← Hres.out] at h1
        have := Htot.out
        omega
      have Hq := Lib.hid hq
      generalize fs[i] = f at k0 hq Hq h15 Htk hPl
      rw [candG, List.length_map] at hPl
      clear hq
      go_wp2_with fail
      go_loopg [6, 8] os.length (fun g s6 s8 wr => ∃ (j : Nat) (v : Value) (ys : List Ex), j ≤ os.length ∧ g = os.length - j ∧ v = s6 ∧ s8 = .int .i64 j ∧ Hid (RowX wr w3.heap.size v ys) ∧ Hid (ys = xs ++ (os.take j).map fun o => ⟨f, o⟩) ∧ Below w3.heap.size w3 wr)
      case atStart => exact ⟨0, v, xs, Nat.zero_le _, rfl, rfl, rfl, hrow.out, by simp [Hid], hb⟩
      case round =>
        clear hb hrow
        obtain ⟨j, v, ys, hj, rfl, rfl, rfl, hrow, hys, hb⟩ := hrel
        by_cases hjlt : j < os.length
        · obtain ⟨bj, oj, Aj, cj, rfl, hbj, j0, hjl, hrj⟩ := SlR.getSub hor3 hjlt
          have h3' := Ho3.out _ (List.getElem_mem hjlt)
          have Htj := Lib.hid (List.take_succ_eq_append_getElem hjlt)
          have hlen2 : ys.length + 1 ≤ 3000 := by rw [hys.out, List.length_append, List.length_map, List.length_take]; omega
          have hsr := hb.size
          have k1 := Le.below hb _ _ k0
          have j1 := Le.below hb _ _ j0
          have Hrx : Hid (RepX wr.drew Ai ci Aj cj ⟨f, os[j]⟩) := ⟨Hq.out.le (Le.below hb).to_drew, SlR.le' rints_le hrj (Le.below hb).to_drew⟩
          have Hcp := Lib.hid (spCp_any ⟨f, os[j]⟩ (by show f.length ≤ 1000; omega) (by show os[j].length ≤ 1000; omega) (fun q hq => by have := h3'.2 q hq; omega) wr.drew Ai Aj ci cj Hrx.out)
          generalize os[j] = rj at j0 j1 hrj Hrx h3' Htj Hcp
          have hrow' : RowOf 2 (RX (far w3.heap.size v.ownBlock wr)) wr w3.heap.size 34 v ys := hrow.out
          obtain ⟨cs, hown, hqs⟩ := hrow'
          have Hown := Lib.hid hown
          have Hqs := Lib.hid hqs
          have HK : Hid (∀ W : World, (∀ b, b < w3.heap.size → W.heap[b]? = wr.heap[b]?) → W.cell? ⟨bi, oi + i, none⟩ = some (.slice Ai f.length ci) ∧ W.cell? ⟨bj, oj + j, none⟩ = some (.slice Aj rj.length cj)) := fun W hW =>
            ⟨(World.cell?_of_block (w := wr) (hW bi hbi)).trans k1, (World.cell?_of_block (w := wr) (hW bj hbj)).trans j1⟩
          clear hrj hown hqs Hrx
          go_wp2_with fail
          go_region_held3 (fun W => W.cell? ⟨bi, oi + i, none⟩ = some (.slice Ai f.length ci) ∧ W.cell? ⟨bj, oj + j, none⟩ = some (.slice Aj rj.length cj))
            ((first | exact HK.out _ (fun b hb => rfl) | exact HK.out _ (fun b hb => hb5.block b (by simp; omega)) | exact HK.out _ (fun b hb => (Go.Deep.blk_alloc_lt _ _ _ (by omega)).trans (hb5.block b (by simp; omega))) | exact HK.out _ Hbel6))
            (first
              | (go_at_call 95; ((with_reducible refine Hcp.out.mono ?_); rintro e5 w5 ⟨A5, c5, B5, d5, rfl, hx5, hb5⟩; have s5 : wr.heap.size ≤ w5.heap.size := hb5.size; have hb5' : Below wr.heap.size wr w5 := below_of_drew hb5))
              | (refine step_append_lies _ (by rfl) _ _ _ (by rfl) w3.heap.size 34 i0 _ 2 48 Tryz.underlying118 hi0 hz0 hz1 hz2 rfl (by omega) v ys.length cs (by rfl) (owns_alloc (owns_of_block Hown.out (w' := w5) fun g _ _ hl => hb5'.block g hl) _) ⟨w5.heap.size, 0, none⟩ 1 1 [.slice A5 f.length c5, .slice B5 rj.length d5] (by rfl) (by rfl) (World.news_of_block (cs := #[.slice A5 f.length c5, .slice B5 rj.length d5]) (t := 34) (fr := (0, 0)) (heap_alloc_new w5 _)) (by simp [Value.oneCell']) (by omega) (by simp [maxLen]; omega) (by omega) (by simp; omega) (w5.heap.size + 1) (by simp) ?_; intro gg cap w6 hown6 hgrow6 hat6 hlt6; have Hbel6 : ∀ b, b < w3.heap.size → w6.heap[b]? = wr.heap[b]? := (fun b hb => (World.grownBy.block hgrow6 b (by simp; omega) (fun e => by have := owns_base' Hown.out e.symm; omega)).trans ((Go.Deep.blk_alloc_lt _ _ _ (by omega)).trans (hb5'.block b (by omega))))))
          have hp6 : RowX w6 w3.heap.size (.slice (some ⟨gg, 0, none⟩) (ys.length + 1) cap) (ys ++ [Ex.mk f rj]) := RowX.push Hown.out Hqs.out hb5' (by omega) hx5 hgrow6 hown6 hat6 rfl
          have hB6 : Below w3.heap.size w3 w6 := below_of_grown (hb.trans ((hb5'.alloc s5 (.cells #[.slice A5 f.length c5, .slice B5 rj.length d5] 34)).mono hsr)) hgrow6 (by simp; omega) (fun g hg => owns_base' Hown.out hg)
          clear hgrow6 hown6 hb5 hx5
          go_wp2_with fail
          go_roundg (os.length - (j + 1))
          case measure => omega
          case rel => exact ⟨j + 1, _, ys ++ [Ex.mk f rj], by omega, rfl, rfl, by go_num, hp6, (by show _ = _; rw [Htj.out, List.map_append, ← List.append_assoc, ← hys.out]; rfl), hB6⟩
        · obtain rfl : j = os.length := by omega
          rw [List.take_length] at hys
          go_wp2_with fail
          go_roundg (fs.length - (i + 1))
          case measure => omega
          case rel => exact ⟨i + 1, v, ys, by omega, rfl, rfl, by go_num, hrow.out, (by show _ = _; rw [Htk.out, ← hxs.out]; exact hys.out), hb⟩
    · obtain rfl : i = fs.length := by omega
      rw [List.take_length] at hxs
      have hx9 : ExS (above w3.heap.size wo) v xs := RowX.exS hrow.out
      obtain ⟨A9, c9, rfl, _⟩ := SlR.slice hx9
      have Hx9 : Hid (xs = cands (evs p)) := by show _ = _; rw [Hres.out]; exact hxs.out
      have HI9 := Lib.hid hx9
      clear hx9 hrow
      go_wp2_with fail
      go_ret
      rw [← Hx9.out]
      exact ⟨A9, c9, rfl, ExS.le HI9.out (Le.above_mono hB3.size _), hB3.trans (hb.mono hB3.size)⟩

/-- What AllExecs answers. -/
noncomputable def allO (p : Prg) : List Ex := if prgB p = true then cands (evs p) else []

end Go.Proofs.YtfgpbnncdfcjjabGreatDoor
