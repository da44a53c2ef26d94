/-
  The walk of impl.orders.
-/
import Derived.Test.YtfgpbnncdfcjjaaGreatDoorDel
import Derived.Test.YtfgpbnncdfcjjaaGreatDoorSpFP
namespace Go.Proofs.YtfgpbnncdfcjjaaGreatDoor
open Go.RowKit
set_option linter.unusedVariables false
set_option maxRecDepth 100000

theorem intss_nil1 {w : World} {base b2 : Nat} (h : Own w b2 24 #[.slice none 0 0]) (h2 : base ≤ b2) : Intss (above base w) (some ⟨b2, 0, none⟩) 1 [[]] :=
  Intss.mk (by simp) fun i hi => by
    obtain rfl : i = 0 := by simp at hi; omega
    exact ⟨_, _, cell_above_of h2 (h.cell rfl), ⟨_, _, rfl, by simp, fun i hi => absurd hi (Nat.not_lt_zero _)⟩⟩

set_option maxHeartbeats 8000000 in
theorem imOr_step (xs : List Int) (h7 : xs.length ≤ 7) (hpos : 0 < xs.length)
    (ih : ∀ ys : List Int, ys.length < xs.length → ∀ (w : World) (A : Option Addr) (c : Nat), Ints w A c ys → Calls Tryz.prog 160 #[.slice A ys.length c] w (RetIntss w (perms ys)))
    (w : World) (A : Option Addr) (c : Nat) (hr : Ints w A c xs) : Calls Tryz.prog 160 #[.slice A xs.length c] w (RetIntss w (perms xs)) := by
  obtain ⟨i0, hi0, hz0, hz1, hz2⟩ := info_parts Tryz.infoInt
  obtain ⟨i1, hi1, hy0, hy1, hy2⟩ := info_parts Tryz.infoInts
  have hne : ((xs.length : Int) == 0) = false := by rw [beq_eq_false_iff_ne]; omega
  have Hres : Hid (perms xs = (List.range xs.length).flatMap (permG xs)) := perms_cons hpos
  have Htot : Hid ((perms xs).length ≤ 5040) := by
    show _ ≤ _
    rw [perms_length]
    have : xs.length = 1 ∨ xs.length = 2 ∨ xs.length = 3 ∨ xs.length = 4 ∨ xs.length = 5 ∨ xs.length = 6 ∨ xs.length = 7 := by omega
    rcases this with e | e | e | e | e | e | e <;> rw [e] <;> decide
  obtain ⟨b, o, rfl, _⟩ := hr.get hpos
  have Hrow0 : Hid (RowsI w w.heap.size (.slice none 0 0) [] [] (fun _ => [])) := RowW.nil 1 _ _ _ _
  go_enter Tryz.func160, Tryz.ntmps160
  go_wp2_with fail
  go_loopg [3, 14] xs.length (fun g s3 s4 wr => ∃ (i : Nat) (v : Value) (xss : List (List Int)) (cs : List Value) (Fs : Nat → List Nat), i ≤ xs.length ∧ g = xs.length - i ∧ v = s3 ∧ s4 = .int .i64 i ∧ Hid (RowsI wr w.heap.size v xss cs Fs) ∧ Hid (xss = ((List.range xs.length).take i).flatMap (permG xs)) ∧ Below w.heap.size w wr)
  case atStart => exact ⟨0, _, [], [], _, Nat.zero_le _, rfl, rfl, rfl, Hrow0.out, by simp [Hid], Below.refl _ _⟩
  case round =>
    obtain ⟨wo, rfl⟩ : ∃ wo : World, wo = wr := ⟨_, rfl⟩
    obtain ⟨i, v, xss, cs, Fs, hi, rfl, rfl, rfl, hrow, hxs, hb⟩ := hrel
    by_cases hlt : i < xs.length
    · have hro := hr.le (Le.below hb)
      have hsw := hb.size
      obtain ⟨b', o', e, hbl, x0⟩ := hro.get hlt
      injection e with e
      injection e with e1 e2
      subst e1 e2
      have hw : IntKind.i64.wrap ((i : Int) + 1) = (i : Int) + 1 := IntWalk.i64_in _ ⟨by omega, by omega⟩
      obtain ⟨x, hx⟩ : ∃ x, x = xs[i] := ⟨_, rfl⟩
      rw [← hx] at x0
      have hxd : Hid (x = xs.getD i 0) := by show _ = _; rw [hx, List.getD_eq_getElem?_getD, List.getElem?_eq_getElem hlt]; rfl
      clear hx
      go_wp2_with fail
      refine (cloneI_any xs _ _ _ hro (by omega)).mono ?_
      rintro e4 w4 ⟨A4, c4, rfl, hrow4, hb4⟩
      go_wp2_with fail
      refine (delI_any xs i hlt w4 _ A4 c4 hrow4).mono ?_
      rintro e5 w5 ⟨rfl, hrow5, hgrow5⟩
      have hB5 : Below wo.heap.size wo w5 := below_of_grown hb4 hgrow5 hb4.size (fun g hg => (hrow4.blk hg).1)
      have hs5 := hB5.size
      have hlen : (xs.eraseIdx i).length = xs.length - 1 := List.length_eraseIdx_of_lt hlt
      have Hih := Lib.hid (ih (xs.eraseIdx i) (by omega) w5 A4 c4 (row_ints hrow5))
      have Hlen := Lib.hid hlen
      clear hrow4 hb4 hrow5 hgrow5 hlen
      go_wp2_with fail
      refine Hih.out.mono ?_
      rintro e6 w6 ⟨A6, c6, rfl, hrest, hb6⟩
      have hB6 : Below wo.heap.size wo w6 := hB5.trans (hb6.mono hs5)
      have hbw6 : Below w.heap.size w w6 := hb.trans (hB6.mono hb.size)
      have hs6 := hb6.size
      have hv5 : ∀ g, v.ownBlock = some g → w.heap.size ≤ g ∧ g < w5.heap.size := fun g hg => by
        have := owns_base hrow.out.own hg
        exact ⟨this.1, by omega⟩
      have Hrow6 := Lib.hid (hrow.out.below (rowP_loc _ _ _) hB6)
      have Htk := Lib.hid (flatMap_take_succ (permG xs) (List.range xs.length) i (by simpa using hlt))
      have Htk2 : Hid (((List.range xs.length).take (i + 1)).flatMap (permG xs) = xss ++ permG xs i) := by
        have h3 := Htk.out
        simp only [List.getElem_range] at h3
        show _ = _
        rw [h3, hxs.out]
      have hPl : (permG xs i).length ≤ 5040 ∧ xss.length + (permG xs i).length ≤ 5040 := by
        have h1 := flatMap_take_le (permG xs) (List.range xs.length) (i + 1)
        have h2 := Htot.out
        rw [Hres.out] at h2
        rw [Htk2.out, List.length_append] at h1
        omega
      have Hg : Hid (permG xs i = (perms (xs.eraseIdx i)).map (x :: ·)) := by show _ = _; rw [hxd.out]; rfl
      have Heach : Hid (∀ f ∈ perms (xs.eraseIdx i), f.length ≤ 7) := fun f hf => by
        have := (mem_perms.1 hf).length_eq
        have := Hlen.out
        omega
      clear Htk hxd hB5 hb6 hB6 ih Hih
      rw [Hg.out, List.length_map] at hPl
      generalize perms (xs.eraseIdx i) = rest at hrest Hg Heach hPl
      have hrl := hrest.len
      go_wp2_with fail
      go_loopg [3, 27] rest.length (fun g s3 s7 wr => ∃ (j : Nat) (v' : Value) (xss2 : List (List Int)) (cs : List Value) (Fs : Nat → List Nat), j ≤ rest.length ∧ g = rest.length - j ∧ v' = s3 ∧ s7 = .int .i64 j ∧ Hid (RowsI wr w.heap.size v' xss2 cs Fs) ∧ Hid (xss2 = xss ++ (rest.take j).map (x :: ·)) ∧ w6.grownBy wr v.ownBlock ∧ RowFrom v w6 v')
      case atStart => exact ⟨0, v, xss, cs, Fs, Nat.zero_le _, rfl, rfl, rfl, Hrow6.out, by simp [Hid], grown_refl _ _, RowFrom.refl _ _⟩
      case round =>
        obtain ⟨j, v2, xss2, cs, Fs, hj, rfl, rfl, rfl, hrow, hxs2, hgw, hfrom⟩ := hrel
        have hsr := World.grownBy.size hgw
        by_cases hjlt : j < rest.length
        · obtain ⟨bj, oj, Aj, cj, rfl, hbj, j0, hrj⟩ := hrest.get hjlt
          obtain ⟨j1, j2⟩ := cell_above_lt j0
          have hlen2 : xss2.length + 1 ≤ 5040 := by rw [hxs2.out, List.length_append, List.length_map, List.length_take]; omega
          have h7' := Heach.out _ (List.getElem_mem hjlt)
          have Htj := Lib.hid (List.take_succ_eq_append_getElem hjlt)
          have Hrj : Hid (Ints (wr.alloc (.cells #[.int .i64 x] 3)) Aj cj rest[j]) := ((hrj.le (Le.above_grown hgw fun g hg => (hv5 g hg).2)).le (Le.above _ _)).le (Le.alloc _ _)
          generalize rest[j] = rj at j0 j2 hrj Hrj h7' Htj
          have hbj6 : bj < w6.heap.size := World.block_lt_of_cell? _ _ j2
          have hbjv : v.ownBlock ≠ some bj := fun e => by have := (hv5 _ e).2; simp only at j1; omega
          have j3 : wr.cell? ⟨bj, oj + j, none⟩ = some (.slice Aj rj.length cj) := (World.cell?_of_block (w := w6) (World.grownBy.block hgw bj hbj6 (fun e => hbjv e.symm))).trans j2
          have Hold : Hid (∀ w7 : World, (wr.alloc (.cells #[.int .i64 x] 3)).grownBy w7 (Value.slice (some ⟨wr.heap.size, 0, none⟩) 1 1).ownBlock → ∀ b, b < wr.heap.size → w7.heap[b]? = wr.heap[b]?) := fun w7 hg b hb =>
            (World.grownBy.block hg b (by simp; omega) (fun e => by simp only [Value.ownBlock, Option.some.injEq] at e; omega)).trans (Go.Deep.blk_alloc_lt _ _ _ hb)
          clear hrj
          go_wp2_with (at_builtin; first
            | (refine wpList_append_list (o := ⟨some 35, _, _, _, _, _⟩) (by rfl) _ _ _ (by rfl) qint_congr (R := RInt) wr.heap.size 3 i0 _ 8 Tryz.underlying24 hi0 hz0 hz1 hz2 rfl (by omega) (.slice (some ⟨wr.heap.size, 0, none⟩) 1 1) [x] (by rfl) (RowI.single (Own.new wr _ _) (Nat.le_refl _)) Aj cj rj (by rfl) Hrj.out (fun cs y h => h) qint_one (by simp [maxLen]; omega) (by simp; omega) (by simp) (wr.heap.size + 1) (by simp) ?_; intro A7 c7 w7 hrow7 hgrow7 hat7; simp only [List.singleton_append, List.length_cons] at hrow7 hat7; have hs7 := World.grownBy.size hgrow7; simp only [World.size_alloc] at hs7; have Hold7 := Hold.out w7 hgrow7)
            | (refine wpList_append_lies (o := ⟨some 37, _, _, _, _, _⟩) _ (by rfl) _ _ _ (by rfl) w.heap.size 24 i1 _ 1 24 Tryz.underlying25 hi1 hy0 hy1 hy2 rfl (by omega) v2 xss2.length cs (by rfl) (owns_alloc (owns_of_block hrow.out.own (w' := w7) fun g _ _ hl => Hold7 g hl) _) ⟨w7.heap.size, 0, none⟩ 1 1 [.slice A7 (rj.length + 1) c7] (by rfl) (by rfl) (World.news_of_block (cs := #[.slice A7 (rj.length + 1) c7]) (t := 24) (fr := (0, 0)) (heap_alloc_new w7 _)) (by simp [Value.oneCell']) (by omega) (by simp [maxLen]; omega) (by omega) (by simp; omega) (w7.heap.size + 1) (by simp) ?_; intro gg cap w8 hown8 hgrow8 hat8 hlt8))
          have hG7 : w6.grownBy w7 v.ownBlock := grown_next (grown_below hgw ((Below.refl _ _).alloc (Nat.le_refl _) _)) hgrow7 (fun g hg => by simp only [Value.ownBlock, Option.some.injEq] at hg; exact .inr (by omega))
          have hG8 : w6.grownBy w8 v.ownBlock := grown_next (grown_below hG7 ((Below.refl _ _).alloc (Nat.le_refl _) _)) hgrow8 (fun g hg => hfrom g hg)
          obtain ⟨Fs8, hp8⟩ := hrow.out.pushRow (t := x :: rj) (A := A7) (c := c7) (wr := w7) (fun b _ hl => Hold7 b hl) (by omega) (by omega) hrow7 hgrow8 hown8 hat8 rfl
          have hfrom8 := hfrom.next hat8 (n := xss2.length + 1) (c := cap) (by omega)
          clear hgrow7 hgrow8 hown8 hrow7 hG7
          go_roundg (rest.length - (j + 1))
          case measure => omega
          case rel => exact ⟨j + 1, _, xss2 ++ [x :: rj], _, Fs8, by omega, rfl, rfl, by go_num, hp8, (by show _ = _; rw [Htj.out, List.map_append, ← List.append_assoc, ← hxs2.out]; rfl), hG8, hfrom8⟩
        · obtain rfl : j = rest.length := by omega
          rw [List.take_length] at hxs2
          have hb8 : Below w.heap.size w wr := below_of_grown hbw6 hgw (by omega) (fun g hg => (hv5 g hg).1)
          go_wp2_with fail
          go_roundg (xs.length - (i + 1))
          case measure => omega
          case rel => exact ⟨i + 1, v2, xss2, cs, Fs, by omega, rfl, rfl, by go_num, hrow.out, (by show _ = _; rw [Htk2.out, Hg.out]; exact hxs2.out), hb8⟩
    · obtain rfl : i = xs.length := by omega
      obtain ⟨A9, c9, rfl, hI9⟩ := hrow.out.intss
      have Hx9 : Hid (xss = perms xs) := by
        show _ = _
        rw [Hres.out, hxs.out]
        rw [List.take_of_length_le (Nat.le_of_eq (List.length_range (n := xs.length)))]
      have HI9 := Lib.hid hI9
      clear hI9 hrow
      go_wp2_with fail
      go_ret
      rw [← Hx9.out]
      exact ⟨A9, c9, rfl, HI9.out, hb⟩

set_option maxHeartbeats 1000000 in
theorem imOr_any : ∀ (n : Nat) (xs : List Int), xs.length = n → n ≤ 7 → ∀ (w : World) (A : Option Addr) (c : Nat), Ints w A c xs → Calls Tryz.prog 160 #[.slice A xs.length c] w (RetIntss w (perms xs)) := by
  intro n
  induction n using Nat.strongRecOn with
  | ind n ih =>
    intro xs hn h7 w A c hr
    by_cases h0 : xs.length = 0
    · obtain rfl : xs = [] := List.eq_nil_of_length_eq_zero h0
      have he : perms ([] : List Int) = [[]] := by simp [perms, permsN]
      have He := Lib.hid he
      clear he
      go_enter Tryz.func160, Tryz.ntmps160
      go_wp2_with fail
      go_ret
      rw [He.out]
      exact ⟨_, _, rfl, intss_nil1 (Own.new _ _ _) (Nat.le_refl _), (Below.refl _ _).alloc (Nat.le_refl _) _⟩
    · exact imOr_step xs (by omega) (by omega) (fun ys hl w A c hy => ih ys.length (by omega) ys rfl (by omega) w A c hy) w A c hr

end Go.Proofs.YtfgpbnncdfcjjaaGreatDoor
