/-
  The walk of spec.l6Orders.
-/
import Derived.Test.YtpadkallejfdlaaRwS
import Derived.Test.YtpadkallejfdlaaSpPm
namespace Go.Proofs.Ytpadkallejfdlaa
open Go.RowKit
set_option linter.unusedVariables false
set_option maxRecDepth 100000

theorem Try.infoIntss : (Try.prog.info? 45).map (fun i => (i.zero, i.size, i.bytes)) = some (some (.slice none 0 0), 1, 24) := by kernel_rfl

/-- With a location's order in front. -/
def ordG (x : Int) (rest : List (List (List Int))) (q : List Int) : List (List (List Int)) := rest.map ((x :: q) :: ·)
theorem ordersF_step (L : List Ev) (l : Nat) (hl : l ≤ 2) {r : List Int} (h : wrs L l = (l : Int) :: r) : ordersF L l = (perms (wrs L l).tail).flatMap (ordG l (ordersF L (l + 1))) := by
  have e : (List.range 3).drop l = l :: (List.range 3).drop (l + 1) := by
    have : l = 0 ∨ l = 1 ∨ l = 2 := by omega
    rcases this with rfl | rfl | rfl <;> rfl
  unfold ordersF
  rw [e, List.map_cons, prodL]
  show (ordC L l).flatMap _ = _
  unfold ordC
  rw [h, List.flatMap_map]
  rfl

theorem row_qs {W w : World} {g base : Nat} {u : Value} {x : List Int} (h : Own w g 44 #[u]) (hb : base ≤ g) (hq : QS W (fun _ => u) x) : RowOf 1 (QS W) w base 44 (.slice (some ⟨g, 0, none⟩) 1 1) [x] :=
  row_one h hb fun cs e => qs_congr W _ _ _ (fun j hj => by obtain rfl : j = 0 := by omega
                                                            exact e.symm) hq

set_option maxHeartbeats 16000000 in
theorem spOr_step (L : List Ev) (hF : Few3 L) (l : Nat) (hl2 : l ≤ 2)
    (ih : ∀ (w : World) (A : Option Addr) (c : Nat), EvS w (.slice A L.length c) L → Calls Try.prog 85 #[.slice A L.length c, .int .i64 ((l : Int) + 1)] w (RetI3 w (ordersF L (l + 1))))
    (w : World) (A : Option Addr) (c : Nat) (hr : EvS w (.slice A L.length c) L) : Calls Try.prog 85 #[.slice A L.length c, .int .i64 l] w (RetI3 w (ordersF L l)) := by
  obtain ⟨i0, hi0, hz0, hz1, hz2⟩ := info_parts Try.infoInt
  obtain ⟨i1, hi1, hy0, hy1, hy2⟩ := info_parts Try.infoInts
  obtain ⟨i2, hi2, hx0, hx1, hx2⟩ := info_parts Try.infoIntss
  have hL := hF.len
  have hle : ¬ (2 : Int) < (l : Int) := by omega
  obtain ⟨r, hwr⟩ := hF.hd l hl2
  have Hres := Lib.hid (ordersF_step L l hl2 hwr)
  have Htot : Hid ((ordersF L l).length ≤ 3000) := hF.od l (by omega)
  have Heach : Hid (∀ f ∈ ordersF L (l + 1), f.length ≤ 3) := fun f hf => by
    have := prodL_each hf
    rw [List.length_map, List.length_drop, List.length_range] at this
    omega
  have hpm := hF.pm l hl2
  have Hx : Hid ((wrs L l).length = r.length + 1 ∧ ∀ h : 0 < (wrs L l).length, (wrs L l)[0] = (l : Int)) := by
    show _ ∧ _
    rw [hwr]
    exact ⟨rfl, fun _ => rfl⟩
  clear hwr
  go_enter Try.func85, Try.ntmps85
  go_wp2_with fail
  refine (ih w A c hr).mono ?_
  rintro e1 w1 ⟨A1, c1, rfl, hrest, hb1⟩
  have hs1 := hb1.size
  have Hr1 : Hid (EvS w1 (.slice A L.length c) L) := EvS.le hr (Le.below hb1)
  have Hrest := Lib.hid hrest
  clear ih hr hrest
  generalize ordersF L (l + 1) = rest at Hrest Hres Heach
  go_wp2_with fail
  refine (spWr_any L l (by omega) _ _ Hr1.out).mono ?_
  rintro e2 w2 ⟨A2, c2, rfl, hrow2, hb2⟩
  have hs2 := hb2.size
  generalize wrs L l = wl at hrow2 hpm Hx Hres
  have hpos : 0 < wl.length := by rw [Hx.out.1]; omega
  have hI2 : Ints w2 A2 c2 wl := row_ints hrow2
  have hcap : wl.length ≤ c2 ∧ c2 ≤ 9223372036854775807 := by
    obtain ⟨A, c, e, h1, h2⟩ := hrow2.slice
    injection e with _ _ e
    rw [e]; exact ⟨h1, h2⟩
  obtain ⟨g, og, rfl, hg2, g0⟩ := hI2.get hpos
  rw [Hx.out.2 hpos, Nat.add_zero] at g0
  have hgb : w1.heap.size ≤ g := by
    obtain ⟨cs, h1, _⟩ := hrow2
    rcases h1.2 with ⟨e, _⟩ | ⟨g', cap, cur, e, hbb, _⟩
    · cases e
    · injection e with e; injection e with e; injection e with e; omega
  have h1 : (1 : Int) ≤ (wl.length : Int) := by omega
  have h2 : (1 : Int) ≤ (c2 : Int) := by omega
  have h3 : (wl.length : Int) ≤ (c2 : Int) := by omega
  have hB2 : Below w.heap.size w w2 := hb1.trans (hb2.mono hs1)
  have hsw2 := hB2.size
  have Hrest2 : Hid (I3 (above w.heap.size w2) A1 c1 rest) := Hrest.out.le (Le.above_le _ (Le.below hb2))
  have hsl := (hI2.drop 1 (c2 - 1) (by omega))
  rw [List.drop_one] at hsl
  have Hsl := Lib.hid hsl
  clear hrow2 hb1 hb2 Hrest hsl hI2 Hr1
  by_cases hc1 : c2 = 1
  case' pos =>
    have e0 : wl.length = 1 := by omega
    have et : wl.tail = [] := List.eq_nil_of_length_eq_zero (by rw [List.length_tail]; omega)
    have Hpm : Hid (Calls Try.prog 103 #[.slice (some ⟨g, og, none⟩) 0 0] w2 (RetIntss w2 (perms wl.tail))) := by
      show Calls _ _ _ _ _
      rw [et]
      exact spPm_any 0 [] rfl (by omega) w2 _ 0 (Ints.mk (by simp) fun i hi => absurd hi (Nat.not_lt_zero _)) (Nat.le_refl _) (by omega)
    subst hc1
    clear et
    go_wp2_with fail
  case' neg =>
    have hgt : 1 < c2 := by omega
    have hc1' : ¬ ((c2 : Int) = 1) := by omega
    have Hpm : Hid (Calls Try.prog 103 #[.slice (some ⟨g, og + 1, none⟩) (wl.length - 1) (c2 - 1)] w2 (RetIntss w2 (perms wl.tail))) := by
      have h := spPm_any wl.tail.length wl.tail rfl (by rw [List.length_tail]; omega) w2 _ _ Hsl.out (by rw [List.length_tail]; omega) (by omega)
      rw [List.length_tail] at h
      exact h
    go_wp2_with fail
  all_goals
    refine Hpm.out.mono ?_
    rintro e3 w3 ⟨A3, c3, rfl, hpms, hb3⟩
    have hs3 := hb3.size
    have hB3 : Below w.heap.size w w3 := hB2.trans (hb3.mono hsw2)
    have hsw3 := hB3.size
    have g3 := Le.below hb3 _ _ g0
    have hg3 : g < w3.heap.size := by omega
    have Hrest3 : Hid (I3 (above w.heap.size w3) A1 c1 rest) := Hrest2.out.le (Le.above_le _ (Le.below hb3))
    have hpms3 : Intss w3 A3 c3 (perms wl.tail) := hpms.le (Le.above _ _)
    have Hrow0 : Hid (Rows3 (w3.alloc (.cells #[] 45)) w3.heap.size w.heap.size (.slice (some ⟨w3.heap.size, 0, none⟩) 0 0) [] [] (fun _ => [])) := RowW.made 1 _ (Own.new _ _ _) (Nat.le_refl _)
    have Hpl : Hid (∀ q ∈ perms wl.tail, q.length ≤ 7) := fun q hq => by
      have := (mem_perms.1 hq).length_eq
      rw [List.length_tail] at this
      omega
    clear Hpm Hrest2 hb3 hpms hB2 Hsl g0 hgb
    generalize perms wl.tail = pm at hpms3 Hres Hpl
    have hpl := hpms3.len
    have hrl := Hrest3.out.len
    have Htot2 : Hid ((pm.flatMap (ordG l rest)).length ≤ 3000) := by show _ ≤ _; rw [← Hres.out]; exact Htot.out
    clear Htot
    go_wp2_with fail
    go_loopg [8, 9] pm.length (fun g s8 s9 wr => ∃ (i : Nat) (v : Value) (xss : List (List (List Int))) (cs : List Value) (Fs : Nat → List Nat), i ≤ pm.length ∧ g = pm.length - i ∧ v = s8 ∧ s9 = .int .i64 i ∧ Hid (Rows3 wr w3.heap.size w.heap.size v xss cs Fs) ∧ Hid (xss = (pm.take i).flatMap (ordG l rest)) ∧ Below w3.heap.size w3 wr)
    case atStart => exact ⟨0, _, [], [], _, Nat.zero_le _, rfl, rfl, rfl, Hrow0.out, by simp [Hid], (Below.refl _ _).alloc (Nat.le_refl _) _⟩
    case round =>
      obtain ⟨wo, rfl⟩ : ∃ wo : World, wo = wr := ⟨_, rfl⟩
      obtain ⟨i, v, xss, cs, Fs, hi, rfl, rfl, rfl, hrow, hxs, hb⟩ := hrel
      by_cases hlt : i < pm.length
      · obtain ⟨bi, oi, Ai, ci, rfl, hbi, k0, hq⟩ := hpms3.get hlt
        have h7 := Hpl.out _ (List.getElem_mem hlt)
        have Htk := Lib.hid (flatMap_take_succ (ordG l rest) pm i hlt)
        have hPl : xss.length + (ordG l rest pm[i]).length ≤ 3000 := by
          have h1 := flatMap_take_le (ordG l rest) pm (i + 1)
          rw [Htk.out, ← hxs.out, List.length_append] at h1
          have := Htot2.out
          omega
        have x1 := Le.below hb _ _ g3
        have k1 := Le.below hb _ _ k0
        have hso := hb.size
        have Hq : Hid (Ints wo Ai ci pm[i]) := hq.le (Le.below hb)
        generalize pm[i] = q at k0 k1 hq Hq h7 Htk hPl
        have Hold : Hid (∀ w5 : World, ((wo.alloc (.cells #[.int .i64 l] 3)).drew).grownBy w5 (Value.slice (some ⟨wo.heap.size, 0, none⟩) 1 1).ownBlock → ∀ b, b < wo.heap.size → w5.heap[b]? = wo.heap[b]?) := fun w5 hg b hb =>
          (World.grownBy.block hg b (by simp; omega) (fun e => by simp only [Value.ownBlock, Option.some.injEq] at e; omega)).trans (Go.Deep.blk_alloc_lt _ _ _ hb)
        have HK : Hid (∀ W : World, (∀ b, b < w3.heap.size → W.heap[b]? = wo.heap[b]?) → W.cell? ⟨g, og, none⟩ = some (.int .i64 l) ∧ W.cell? ⟨bi, oi + i, none⟩ = some (.slice Ai q.length ci)) := fun W hW =>
          ⟨(World.cell?_of_block (w := wo) (hW g hg3)).trans x1, (World.cell?_of_block (w := wo) (hW bi hbi)).trans k1⟩
        rw [ordG, List.length_map] at hPl
        clear hq k0
        go_wp2_with fail
        go_region_held3 (fun W => W.cell? ⟨g, og, none⟩ = some (.int .i64 l) ∧ W.cell? ⟨bi, oi + i, none⟩ = some (.slice Ai q.length ci))
          ((first | exact HK.out _ (fun b hb => rfl) | exact HK.out _ (fun b hb => Go.Deep.blk_alloc_lt _ _ _ (by omega)) | exact HK.out _ (fun b hb => Hold5 b (by omega))))
          (first | (refine step_append_list (by rfl) _ _ _ (by rfl) qint_congr (R := RInt) wo.heap.size 3 i0 _ 8 Try.underlying44 hi0 hz0 hz1 hz2 rfl (by omega) (.slice (some ⟨wo.heap.size, 0, none⟩) 1 1) [(l : Int)] (by rfl) (RowI.single (Own.new wo _ _).drew (Nat.le_refl _)) Ai ci q (by rfl) (Hq.out.le ((Le.alloc _ _).to_drew)) (fun cs y h => h) qint_one (by simp [maxLen]; omega) (by simp; omega) (by simp) (wo.heap.size + 1) (by simp) ?_; intro A5 c5 w5 hrow5 hgrow5 hat5; simp only [List.singleton_append, List.length_cons] at hrow5 hat5; have hs5 := World.grownBy.size hgrow5; simp only [World.size_alloc, World.size_drew] at hs5; have Hold5 := Hold.out w5 hgrow5))
        have hB5 : Below wo.heap.size wo w5 := below_of_grown (r := (Value.slice (some ⟨wo.heap.size, 0, none⟩) 1 1).ownBlock) ((Below.refl _ _).alloc (Nat.le_refl _) _).drew hgrow5 (by simp) (fun g hg => by simp only [Value.ownBlock, Option.some.injEq] at hg; omega)
        have Hrow5 := Lib.hid (hrow.out.below hB5)
        have hv5 : ∀ g, v.ownBlock = some g → w3.heap.size ≤ g ∧ g < wo.heap.size := fun g hg => owns_base hrow.out.own hg
        have Hfirst : Hid (SlR 1 RInt (far w.heap.size v.ownBlock w5) (.slice A5 ((l : Int) :: q).length c5) ((l : Int) :: q)) := by
          obtain ⟨A, c, e, h⟩ := RowI.ints hrow5
          injection e with e1 e2 e3
          subst e1 e3
          exact h.le (Le.above_far (by omega) fun g hg => (hv5 g hg).2)
        have Hrest5 : Hid (I3 (far w.heap.size v.ownBlock w5) A1 c1 rest) := Hrest3.out.le (Le.to_far (Le.above_le _ (Le.below (hb.trans (hB5.mono hso)))) fun g hg => by rw [above_size]; exact (hv5 g hg).1)
        have hb5 : Below w3.heap.size w3 w5 := hb.trans (hB5.mono hso)
        clear hrow5 hgrow5 hat5 Hold5 HK Hold hs5 x1 k1 Hq hb
        have hs5 := hB5.size
        go_wp2_with fail
        go_loopg [8, 11] rest.length (fun g s8 s11 wr => ∃ (j : Nat) (v' : Value) (xss2 : List (List (List Int))) (cs : List Value) (Fs : Nat → List Nat), j ≤ rest.length ∧ g = rest.length - j ∧ v' = s8 ∧ s11 = .int .i64 j ∧ Hid (Rows3 wr w3.heap.size w.heap.size v' xss2 cs Fs) ∧ Hid (xss2 = xss ++ (rest.take j).map (((l : Int) :: q) :: ·)) ∧ w5.grownBy wr v.ownBlock ∧ RowFrom v w5 v')
        case atStart => exact ⟨0, v, xss, cs, Fs, Nat.zero_le _, rfl, rfl, rfl, Hrow5.out, by simp [Hid], grown_refl _ _, RowFrom.refl _ _⟩
        case round =>
          obtain ⟨j, v2, xss2, cs, Fs, hj, rfl, rfl, rfl, hrow, hxs2, hgw, hfrom⟩ := hrel
          have hsr := World.grownBy.size hgw
          by_cases hjlt : j < rest.length
          · obtain ⟨bj, oj, Aj, cj, rfl, hbj, j0, hjl, hrj⟩ := SlR.getSub Hrest5.out hjlt
            obtain ⟨j1, j2, j3⟩ := of_far j0
            have hlen2 : xss2.length + 1 ≤ 3000 := by rw [hxs2.out, List.length_append, List.length_map, List.length_take]; omega
            have h3' := Heach.out _ (List.getElem_mem hjlt)
            have Htj := Lib.hid (List.take_succ_eq_append_getElem hjlt)
            have hfar := Le.far_grown (B := w.heap.size) hgw hfrom
            have Hrj : Hid (SlR 1 (RSub 1 RInt) (far w.heap.size v2.ownBlock wr) (.slice Aj rest[j].length cj) rest[j]) := SlR.le' rints_le hrj hfar
            have Hf2 : Hid (QS (far w.heap.size v2.ownBlock wr) (fun _ => .slice A5 (q.length + 1) c5) ((l : Int) :: q)) := ⟨A5, c5, rfl, SlR.le' rint_le Hfirst.out hfar⟩
            generalize rest[j] = rj at j0 j3 hrj Hrj h3' Htj
            have hbj6 : bj < w5.heap.size := World.block_lt_of_cell? _ _ j3
            have k3 : wr.cell? ⟨bj, oj + j, none⟩ = some (.slice Aj rj.length cj) := (World.cell?_of_block (w := w5) (World.grownBy.block hgw bj hbj6 (fun e => j2 e.symm))).trans j3
            have hbjr : bj < wr.heap.size := by omega
            have Hold : Hid (∀ w7 : World, (wr.alloc (.cells #[.slice A5 (q.length + 1) c5] 44)).grownBy w7 (Value.slice (some ⟨wr.heap.size, 0, none⟩) 1 1).ownBlock → ∀ b, b < wr.heap.size → w7.heap[b]? = wr.heap[b]?) := fun w7 hg b hb =>
              (World.grownBy.block hg b (by simp; omega) (fun e => by simp only [Value.ownBlock, Option.some.injEq] at e; omega)).trans (Go.Deep.blk_alloc_lt _ _ _ hb)
            clear hrj hfar
            go_wp2_with (at_builtin; first
              | (refine wpList_append_list (o := ⟨some 55, _, _, _, _, _⟩) (by rfl) _ _ _ (by rfl) (qs_congr (far w.heap.size v2.ownBlock wr)) (R := fun _ => QS (far w.heap.size v2.ownBlock wr)) wr.heap.size 44 i1 _ 24 Try.underlying45 hi1 hy0 hy1 hy2 rfl (by omega) (.slice (some ⟨wr.heap.size, 0, none⟩) 1 1) [(l : Int) :: q] (by rfl) (row_qs (Own.new wr _ _) (Nat.le_refl _) Hf2.out) Aj cj rj (by rfl) (i2_still Hrj.out ((Le.far _ _ _).trans (Le.alloc _ _))) (fun cs y h => h) (qs_one _) (by simp [maxLen]; omega) (by simp; omega) (by simp) (wr.heap.size + 1) (by simp) ?_; intro A7 c7 w7 hrow7 hgrow7 hat7; simp only [List.singleton_append, List.length_cons] at hrow7 hat7; have hs7 := World.grownBy.size hgrow7; simp only [World.size_alloc] at hs7; have Hold7 := Hold.out w7 hgrow7)
              | (refine wpList_append_lies (o := ⟨some 57, _, _, _, _, _⟩) _ (by rfl) _ _ _ (by rfl) w3.heap.size 45 i2 _ 1 24 Try.underlying90 hi2 hx0 hx1 hx2 rfl (by omega) v2 xss2.length cs (by rfl) (owns_alloc (owns_of_block hrow.out.own (w' := w7) fun g _ _ hl => Hold7 g hl) _) ⟨w7.heap.size, 0, none⟩ 1 1 [.slice A7 (rj.length + 1) c7] (by rfl) (by rfl) (World.news_of_block (cs := #[.slice A7 (rj.length + 1) c7]) (t := 45) (fr := (0, 0)) (heap_alloc_new w7 _)) (by simp [Value.oneCell']) (by omega) (by simp [maxLen]; omega) (by omega) (by simp; omega) (w7.heap.size + 1) (by simp) ?_; intro gg cap w8 hown8 hgrow8 hat8 hlt8))
            have hG7 : w5.grownBy w7 v.ownBlock := grown_next (grown_below hgw ((Below.refl _ _).alloc (Nat.le_refl _) _)) hgrow7 (fun g hg => by simp only [Value.ownBlock, Option.some.injEq] at hg; exact .inr (by omega))
            have hG8 : w5.grownBy w8 v.ownBlock := grown_next (grown_below hG7 ((Below.refl _ _).alloc (Nat.le_refl _) _)) hgrow8 (fun g hg => hfrom g hg)
            have hB7 : Below wr.heap.size wr w7 := below_of_grown (r := (Value.slice (some ⟨wr.heap.size, 0, none⟩) 1 1).ownBlock) ((Below.refl _ _).alloc (Nat.le_refl _) _) hgrow7 (by simp) (fun g hg => by simp only [Value.ownBlock, Option.some.injEq] at hg; omega)
            obtain ⟨Fs8, hp8⟩ := Rows3.push hrow.out hB7 (by omega) (t := ((l : Int) :: q) :: rj) (A := A7) (c := c7) hrow7 hgrow8 hown8 hat8 rfl
            have hfrom8 := hfrom.next hat8 (n := xss2.length + 1) (c := cap) (by omega)
            clear hgrow7 hgrow8 hown8 hrow7 hG7 hB7
            go_roundg (rest.length - (j + 1))
            case measure => omega
            case rel => exact ⟨j + 1, _, xss2 ++ [((l : Int) :: q) :: rj], _, Fs8, by omega, rfl, rfl, by go_num, hp8, (by show _ = _; rw [Htj.out, List.map_append, ← List.append_assoc, ← hxs2.out]; rfl), hG8, hfrom8⟩
          · obtain rfl : j = rest.length := by omega
            rw [List.take_length] at hxs2
            have hb8 : Below w3.heap.size w3 wr := below_of_grown hb5 hgw (by omega) (fun g hg => (hv5 g hg).1)
            go_wp2_with fail
            go_roundg (pm.length - (i + 1))
            case measure => omega
            case rel => exact ⟨i + 1, v2, xss2, cs, Fs, by omega, rfl, rfl, by go_num, hrow.out, (by show _ = _; rw [Htk.out, ← hxs.out]; exact hxs2.out), hb8⟩
      · obtain rfl : i = pm.length := by omega
        rw [List.take_length] at hxs
        obtain ⟨A9, c9, rfl, hI9⟩ := hrow.out.i3 hsw3
        have Hx9 : Hid (xss = ordersF L l) := by show _ = _; rw [Hres.out]; exact hxs.out
        have HI9 := Lib.hid hI9
        clear hI9 hrow
        go_wp2_with fail
        go_ret
        rw [← Hx9.out]
        exact ⟨A9, c9, rfl, HI9.out, hB3.trans (hb.mono hsw3)⟩

theorem i3_one {w : World} {base b1 b2 : Nat} (h1 : base ≤ b1) (h : Own w b2 45 #[.slice (some ⟨b1, 0, none⟩) 0 0]) (h2 : base ≤ b2) : I3 (above base w) (some ⟨b2, 0, none⟩) 1 [[]] :=
  ⟨_, _, rfl, by simp, fun i hi => by
    obtain rfl : i = 0 := by simp at hi; omega
    exact ⟨_, _, rfl, fun _ => .slice (some ⟨b1, 0, none⟩) 0 0, fun j hj => by
      obtain rfl : j = 0 := by omega
      exact cell_above_of h2 (h.cell rfl), ⟨_, _, rfl, _, _, rfl, by simp, fun i hi => absurd hi (Nat.not_lt_zero _)⟩⟩⟩

set_option maxHeartbeats 1000000 in
theorem spOr_any (L : List Ev) (hF : Few3 L) : ∀ (n l : Nat), l + n = 3 → ∀ (w : World) (A : Option Addr) (c : Nat), EvS w (.slice A L.length c) L → Calls Try.prog 85 #[.slice A L.length c, .int .i64 l] w (RetI3 w (ordersF L l)) := by
  intro n
  induction n with
  | zero =>
    intro l hl w A c hr
    obtain rfl : l = 3 := by omega
    have he : ordersF L 3 = [[]] := rfl
    have He := Lib.hid he
    clear he
    go_enter Try.func85, Try.ntmps85
    go_wp2_with fail
    go_ret
    rw [He.out]
    exact ⟨_, _, rfl, i3_one (Nat.le_refl _) (own_new2' _ _ _ _) (by omega), ((Below.refl _ _).alloc (Nat.le_refl _) _).alloc (by simp) _⟩
  | succ n ih =>
    intro l hl w A c hr
    refine spOr_step L hF l (by omega) (fun w A c hr => ?_) w A c hr
    have := ih (l + 1) (by omega) w A c hr
    rw [show ((l + 1 : Nat) : Int) = (l : Int) + 1 by omega] at this
    exact this

end Go.Proofs.Ytpadkallejfdlaa
