/-
  The walk of spec.l6Froms. The walk of spec.l6Perms.
-/
import Derived.Test.YtfgpbnncdfcjjabGreatDoorRwS
import Derived.Test.YtfgpbnncdfcjjabGreatDoorCands
import Derived.Test.YtfgpbnncdfcjjabGreatDoorWrCV
import Derived.IntWalk

/-! The walk of spec.l6Froms. -/
namespace Go.Proofs.YtfgpbnncdfcjjabGreatDoor
open Go.RowKit
set_option linter.unusedVariables false
set_option maxRecDepth 100000

theorem flatMap_take_le {α β : Type} (f : α → List β) (l : List α) (k : Nat) : ((l.take k).flatMap f).length ≤ (l.flatMap f).length := by
  conv => rhs; rw [← List.take_append_drop k l, List.flatMap_append, List.length_append]
  omega
theorem flatMap_take_succ {α β : Type} (f : α → List β) (l : List α) (k : Nat) (h : k < l.length) : (l.take (k + 1)).flatMap f = (l.take k).flatMap f ++ f l[k] := by
  rw [List.take_succ_eq_append_getElem h, List.flatMap_append]
  simp
/-- With a source, and what follows. -/
def conG (i : Nat) (rest : List (List Int)) (x : Int) : List (List Int) := if x = (i : Int) then [] else rest.map (x :: ·)
theorem flatMap_conG (i : Nat) (rest : List (List Int)) (fl : List Int) : fl.flatMap (conG i rest) = (fl.filter fun n => decide (n ≠ (i : Int))).flatMap fun x => rest.map (x :: ·) := by
  induction fl with
  | nil => rfl
  | cons x fl ih =>
    rw [List.flatMap_cons, ih, List.filter_cons]
    unfold conG
    by_cases h : x = i
    · simp [h]
    · simp [h]
theorem intss_one {w : World} {base b1 b2 : Nat} (h1 : base ≤ b1) (h : Own w b2 23 #[.slice (some ⟨b1, 0, none⟩) 0 0]) (h2 : base ≤ b2) : Intss (above base w) (some ⟨b2, 0, none⟩) 1 [[]] :=
  Intss.mk (by simp) fun i hi => by
    obtain rfl : i = 0 := by simp at hi; omega
    exact ⟨_, _, cell_above_of h2 (h.cell rfl), ⟨_, _, rfl, by simp, fun i hi => absurd hi (Nat.not_lt_zero _)⟩⟩
theorem row_sing {w : World} {g base : Nat} {n : Int} (h : Own w g 3 #[.int .i64 n]) (hb : base ≤ g) : Ints (above base w) (some ⟨g, 0, none⟩) 1 [n] :=
  Ints.mk (by simp) fun i hi => by
    obtain rfl : i = 0 := by simp at hi; omega
    exact cell_above_of hb (h.cell rfl)

set_option maxHeartbeats 8000000 in
theorem spFr_step (L : List Ev) (hF : Few3 L) (k : Nat) (hk : k < L.length)
    (ih : ∀ (w : World) (A : Option Addr) (c : Nat), EvS w (.slice A L.length c) L → Calls Tryz.prog 131 #[.slice A L.length c, .int .i64 ((k : Int) + 1)] w (RetIntss w (prodL (chF L (k + 1) (L.drop (k + 1))))))
    (w : World) (A : Option Addr) (c : Nat) (hr : EvS w (.slice A L.length c) L) : Calls Tryz.prog 131 #[.slice A L.length c, .int .i64 k] w (RetIntss w (prodL (chF L k (L.drop k)))) := by
  obtain ⟨i0, hi0, hz0, hz1, hz2⟩ := info_parts Tryz.infoInt
  obtain ⟨i1, hi1, hy0, hy1, hy2⟩ := info_parts Tryz.infoInts
  have hL := hF.len
  have hne : ((k : Int) == (L.length : Int)) = false := by rw [beq_eq_false_iff_ne]; omega
  have Hres : Hid (prodL (chF L k (L.drop k)) = (frC L k L[k]).flatMap fun x => (prodL (chF L (k + 1) (L.drop (k + 1)))).map (x :: ·)) := by
    show _ = _
    rw [chF_drop L k hk, prodL]
  have Htot : Hid ((prodL (chF L k (L.drop k))).length ≤ 3000) := hF.fr k (by omega)
  have Heach : Hid (∀ f ∈ prodL (chF L (k + 1) (L.drop (k + 1))), f.length ≤ 15) := fun f hf => by
    have := prodL_each hf
    rw [chF_length, List.length_drop] at this
    omega
  go_enter Tryz.func131, Tryz.ntmps131
  go_wp2_with fail
  refine (ih w A c hr).mono ?_
  rintro e1 w1 ⟨A1, c1, rfl, hrest, hb1⟩
  have hr1 := EvS.le hr (Le.below hb1)
  have hrest1 : Intss w1 A1 c1 (prodL (chF L (k + 1) (L.drop (k + 1)))) := hrest.le (Le.above _ _)
  have hs1 := hb1.size
  clear ih hr hrest
  generalize prodL (chF L (k + 1) (L.drop (k + 1))) = rest at hrest1 Hres Heach
  obtain ⟨b, o, rfl, hbl, c0, c1', c2, c3, c4⟩ := EvS.get hr1 hk
  have hfrc : frC L k L[k] = (if L[k].rd = true then wrs L L[k].loc else [-1]).filter fun n => decide (n ≠ (k : Int)) := by
    unfold frC
    by_cases h : L[k].rd = true
    · rw [if_pos h, if_pos h]
    · rw [if_neg h, if_neg h]
      have : ¬ ((-1 : Int) = (k : Int)) := by omega
      simp [this]
  rw [hfrc] at Hres
  have Hr1 := Lib.hid hr1
  generalize L[k] = e at c0 c1' c2 c3 c4 Hres
  obtain ⟨thr, idx, lc, rd, wrt⟩ := e
  simp only at c0 c1' c2 c3 c4 Hres
  have Hres2 : Hid (prodL (chF L k (L.drop k)) = (if rd = true then wrs L lc else [-1]).flatMap (conG k rest)) := by
    show _ = _; rw [Hres.out, flatMap_conG]
  clear Hres hr1 hfrc
  cases rd
  case' false =>
    go_wp2_with fail
    obtain ⟨w3, hw3⟩ : ∃ w3, w3 = w1.alloc (.cells #[.int .i64 (-1)] 3) := ⟨_, rfl⟩
    obtain ⟨fl, hfl0⟩ : ∃ fl : List Int, fl = [-1] := ⟨_, rfl⟩
    obtain ⟨Af, hAf⟩ : ∃ Af : Option Addr, Af = some ⟨w1.heap.size, 0, none⟩ := ⟨_, rfl⟩
    obtain ⟨cf, hcf⟩ : ∃ cf : Nat, cf = 1 := ⟨_, rfl⟩
    have hfl : Ints w3 Af cf fl := by rw [hw3, hfl0, hAf, hcf]; exact (row_sing (base := w1.heap.size) (Own.new _ _ _) (Nat.le_refl _)).le (Le.above _ _)
    have hB3 : Below w1.heap.size w1 w3 := by rw [hw3]; exact (Below.refl _ _).alloc (Nat.le_refl _) _
    have hss : w3.heap.size = w1.heap.size + 1 := by rw [hw3]; simp
    have Hfl : Hid (prodL (chF L k (L.drop k)) = fl.flatMap (conG k rest)) := by show _ = _; rw [Hres2.out, hfl0]; rfl
    have hfl15 : fl.length ≤ 15 := by rw [hfl0]; simp
    rw [← hw3, ← hss, show Value.slice (some ⟨w1.heap.size, 0, none⟩) 1 1 = Value.slice Af fl.length cf by rw [hAf, hcf, hfl0]; rfl]
    clear hw3 hfl0 hAf hcf hss Hres2
  case' true =>
    go_wp2_with fail
    refine (spWr_any L lc (by omega) _ _ (EvS.le Hr1.out (Le.alloc _ _))).mono ?_
    rintro e5 w3 ⟨Af, cf, rfl, hrow5, hB3'⟩
    have hB3 : Below w1.heap.size w1 w3 := ((Below.refl _ _).alloc (Nat.le_refl _) _).trans (hB3'.mono (by simp))
    have hfl : Ints w3 Af cf (wrs L lc) := row_ints hrow5
    have Hfl : Hid (prodL (chF L k (L.drop k)) = (wrs L lc).flatMap (conG k rest)) := by show _ = _; rw [Hres2.out]; simp
    have hfl15 : (wrs L lc).length ≤ 15 := by have := wrs_length L lc; omega
    clear hrow5 Hres2 hB3'
    generalize wrs L lc = fl at hfl Hfl hfl15
    go_wp2_with fail
  all_goals
    have hrest3 : Intss w3 A1 c1 rest := hrest1.le (Le.below hB3)
    have hBw : Below w.heap.size w w3 := hb1.trans (hB3.mono hs1)
    have hsw := hBw.size
    have hrow0 : RowsI (w3.alloc (.cells #[] 23)) w3.heap.size (.slice (some ⟨w3.heap.size, 0, none⟩) 0 0) [] [] (fun _ => []) := RowW.made 1 _ (Own.new _ _ _) (Nat.le_refl _)
    have Hrow0 := Lib.hid hrow0
    have Htot2 : Hid ((fl.flatMap (conG k rest)).length ≤ 3000) := by show _ ≤ _; rw [← Hfl.out]; exact Htot.out
    clear hrow0 hrest1 hB3 Htot
    go_loopg [7, 8] fl.length (fun g s7 s8 wr => ∃ (m : Nat) (v : Value) (xss : List (List Int)) (cs : List Value) (Fs : Nat → List Nat), m ≤ fl.length ∧ g = fl.length - m ∧ v = s7 ∧ s8 = .int .i64 m ∧ Hid (RowsI wr w3.heap.size v xss cs Fs) ∧ Hid (xss = (fl.take m).flatMap (conG k rest)) ∧ Below w3.heap.size w3 wr)
    case atStart => exact ⟨0, _, [], [], _, Nat.zero_le _, rfl, rfl, rfl, Hrow0.out, by simp [Hid], (Below.refl _ _).alloc (Nat.le_refl _) _⟩
    case round =>
      obtain ⟨wo, rfl⟩ : ∃ wo : World, wo = wr := ⟨_, rfl⟩
      obtain ⟨m, v, xss, cs, Fs, hm, rfl, rfl, rfl, hrow, hxs, hb⟩ := hrel
      by_cases hmlt : m < fl.length
      · obtain ⟨bf, of, rfl, hbf, x0⟩ := (hfl.get hmlt)
        have Htk := Lib.hid (flatMap_take_succ (conG k rest) fl m hmlt)
        have hxle : xss.length ≤ 3000 := by rw [hxs.out]; exact Nat.le_trans (flatMap_take_le _ _ _) Htot2.out
        have hx1le : (xss ++ conG k rest fl[m]).length ≤ 3000 := by rw [hxs.out, ← Htk.out]; exact Nat.le_trans (flatMap_take_le _ _ _) Htot2.out
        have hxw := Le.below hb _ _ x0
        generalize fl[m] = x at x0 hxw Htk hx1le
        by_cases hxk : x = k
        · have hc : conG k rest x = [] := by unfold conG; rw [if_pos hxk]
          have bx : ((x : Int) != (k : Int)) = false := by simp [hxk]
          have Hc := Lib.hid hc
          have hrl := hrest3.len
          clear hc hxk hx1le
          go_wp2_with fail
          go_loopg [7, 9] rest.length (fun g s7 s9 wr => v = s7 ∧ s9 = .int .i64 0 ∧ wr = wo)
          case atStart => exact ⟨rfl, rfl, rfl⟩
          case round =>
            obtain ⟨rfl, rfl, rfl⟩ := hrel
            by_cases h0 : 0 < rest.length
            all_goals
              go_wp2_with fail
              go_roundg (fl.length - (m + 1))
              case measure => omega
              case rel => exact ⟨m + 1, v, xss, cs, Fs, by omega, rfl, rfl, by go_num, hrow.out, (by show _ = _; rw [Htk.out, Hc.out, List.append_nil]; exact hxs.out), hb⟩
        · have hc : conG k rest x = rest.map (x :: ·) := by unfold conG; rw [if_neg hxk]
          have bx : ((x : Int) != (k : Int)) = true := by simpa using hxk
          have Hc := Lib.hid hc
          have hrl := hrest3.len
          rw [hc, List.length_append, List.length_map] at hx1le
          clear hc hxk
          go_wp2_with fail
          go_loopg [7, 9] rest.length (fun g s7 s9 wr => ∃ (j : Nat) (v : Value) (xss2 : List (List Int)) (cs : List Value) (Fs : Nat → List Nat), j ≤ rest.length ∧ g = rest.length - j ∧ v = s7 ∧ s9 = .int .i64 j ∧ Hid (RowsI wr w3.heap.size v xss2 cs Fs) ∧ Hid (xss2 = xss ++ (rest.take j).map (x :: ·)) ∧ Below w3.heap.size w3 wr)
          case atStart => exact ⟨0, v, xss, cs, Fs, Nat.zero_le _, rfl, rfl, rfl, hrow.out, by simp [Hid], hb⟩
          case round =>
            obtain ⟨j, v, xss2, cs, Fs, hj, rfl, rfl, rfl, hrow, hxs2, hb⟩ := hrel
            by_cases hjlt : j < rest.length
            · obtain ⟨bj, oj, Aj, cj, rfl, hbj, j0, hrj⟩ := hrest3.get hjlt
              have hlen2 : xss2.length ≤ 3000 := by rw [hxs2.out, List.length_append, List.length_map, List.length_take]; omega
              have h15 := Heach.out _ (List.getElem_mem hjlt)
              have Htj := Lib.hid (List.take_succ_eq_append_getElem hjlt)
              have j1 := Le.below hb _ _ j0
              have Hrj : Hid (Ints wr Aj cj rest[j]) := hrj.le (Le.below hb)
              have x1 := Le.below hb _ _ x0
              generalize rest[j] = rj at j0 j1 hrj Hrj h15 Htj
              have hsr := hb.size
              have Hold : Hid (∀ w5 : World, ((wr.alloc (.cells #[.int .i64 x] 3)).drew).grownBy w5 (Value.slice (some ⟨wr.heap.size, 0, none⟩) 1 1).ownBlock → ∀ b, b < wr.heap.size → w5.heap[b]? = wr.heap[b]?) := fun w5 hg b hb =>
                (World.grownBy.block hg b (by simp; omega) (fun e => by simp only [Value.ownBlock, Option.some.injEq] at e; omega)).trans (Go.Deep.blk_alloc_lt _ _ _ hb)
              have HK : Hid (∀ W : World, (∀ b, b < w3.heap.size → W.heap[b]? = wr.heap[b]?) → W.cell? ⟨bf, of + m, none⟩ = some (.int .i64 x) ∧ W.cell? ⟨bj, oj + j, none⟩ = some (.slice Aj rj.length cj)) := fun W hW =>
                ⟨(World.cell?_of_block (w := wr) (hW bf hbf)).trans x1, (World.cell?_of_block (w := wr) (hW bj hbj)).trans j1⟩
              clear hrj
              go_wp2_with fail
              go_region_held3 (fun W => W.cell? ⟨bf, of + m, none⟩ = some (.int .i64 x) ∧ W.cell? ⟨bj, oj + j, none⟩ = some (.slice Aj rj.length cj))
                ((first | exact HK.out _ (fun b hb => rfl) | exact HK.out _ (fun b hb => Go.Deep.blk_alloc_lt _ _ _ (by omega)) | exact HK.out _ (fun b hb => Hold5 b (by omega)) | exact HK.out _ (fun b hb => (Go.Deep.blk_alloc_lt _ _ _ (by omega)).trans (Hold5 b (by omega))) | exact HK.out _ Hbel6))
                (first
                  | (refine step_append_list (by rfl) _ _ _ (by rfl) qint_congr (R := RInt) wr.heap.size 3 i0 _ 8 Tryz.underlying23 hi0 hz0 hz1 hz2 rfl (by omega) (.slice (some ⟨wr.heap.size, 0, none⟩) 1 1) [x] (by rfl) (RowI.single (Own.new wr _ _).drew (Nat.le_refl _)) Aj cj rj (by rfl) (Hrj.out.le ((Le.alloc _ _).to_drew)) (fun cs y h => h) qint_one (by simp [maxLen]; omega) (by simp; omega) (by simp) (wr.heap.size + 1) (by simp) ?_; intro A5 c5 w5 hrow5 hgrow5 hat5; simp only [List.singleton_append, List.length_cons] at hrow5 hat5; have hs5 := World.grownBy.size hgrow5; simp only [World.size_alloc, World.size_drew] at hs5; have Hold5 := Hold.out w5 hgrow5)
                  | (refine step_append_lies _ (by rfl) _ _ _ (by rfl) w3.heap.size 23 i1 _ 1 24 Tryz.underlying24 hi1 hy0 hy1 hy2 rfl (by omega) v xss2.length cs (by rfl) (owns_alloc (owns_of_block hrow.out.own (w' := w5) fun g _ _ hl => Hold5 g hl) _) ⟨w5.heap.size, 0, none⟩ 1 1 [.slice A5 (rj.length + 1) c5] (by rfl) (by rfl) (World.news_of_block (cs := #[.slice A5 (rj.length + 1) c5]) (t := 23) (fr := (0, 0)) (heap_alloc_new w5 _)) (by simp [Value.oneCell']) (by omega) (by simp [maxLen]; omega) (by omega) (by simp; omega) (w5.heap.size + 1) (by simp) ?_; intro gg cap w6 hown6 hgrow6 hat6 hlt6; have Hbel6 : ∀ b, b < w3.heap.size → w6.heap[b]? = wr.heap[b]? := (fun b hb => (World.grownBy.block hgrow6 b (by simp; omega) (fun e => by have := owns_base' hrow.out.own e.symm; omega)).trans ((Go.Deep.blk_alloc_lt _ _ _ (by omega)).trans (Hold5 b (by omega))))))
              have e1 : w5.os = wr.os := (World.grownBy.os hgrow5).trans rfl
              have e2 : w5.tape = wr.tape := (World.grownBy.tape hgrow5).trans rfl
              have e3 : w5.output = wr.output := (World.grownBy.output hgrow5).trans rfl
              have hB6 : Below w3.heap.size w3 w6 := hb.trans ⟨(World.grownBy.os hgrow6).trans e1, (World.grownBy.tape hgrow6).trans e2, (World.grownBy.output hgrow6).trans e3, (by have := World.grownBy.size hgrow6; simp at this; omega), Hbel6⟩
              obtain ⟨Fs6, hp6⟩ := hrow.out.pushRow (t := x :: rj) (A := A5) (c := c5) (wr := w5) (fun b _ hl => Hold5 b hl) (by omega) hsr hrow5 hgrow6 hown6 hat6 rfl
              clear e1 e2 e3 hgrow5 hgrow6 hown6 hrow5
              go_wp2_with fail
              go_roundg (rest.length - (j + 1))
              case measure => omega
              case rel => exact ⟨j + 1, _, xss2 ++ [x :: rj], _, Fs6, by omega, rfl, rfl, by go_num, hp6, (by show _ = _; rw [Htj.out, List.map_append, ← List.append_assoc, ← hxs2.out]; rfl), hB6⟩
            · obtain rfl : j = rest.length := by omega
              rw [List.take_length] at hxs2
              go_wp2_with fail
              go_roundg (fl.length - (m + 1))
              case measure => omega
              case rel => exact ⟨m + 1, v, xss2, cs, Fs, by omega, rfl, rfl, by go_num, hrow.out, (by show _ = _; rw [Htk.out, Hc.out, ← hxs.out]; exact hxs2.out), hb⟩
      · obtain rfl : m = fl.length := by omega
        rw [List.take_length] at hxs
        obtain ⟨A9, c9, rfl, hI9⟩ := hrow.out.intss
        have Hx9 : Hid (xss = prodL (chF L k (L.drop k))) := by show _ = _; rw [Hfl.out]; exact hxs.out
        have HI9 := Lib.hid hI9
        clear hI9 hrow
        go_wp2_with fail
        go_ret
        rw [← Hx9.out]
        exact ⟨A9, c9, rfl, HI9.out.le (Le.above_mono hsw _), hBw.trans (hb.mono hsw)⟩

set_option maxHeartbeats 1000000 in
theorem spFr_any (L : List Ev) (hF : Few3 L) : ∀ (n k : Nat), k + n = L.length → ∀ (w : World) (A : Option Addr) (c : Nat), EvS w (.slice A L.length c) L → Calls Tryz.prog 131 #[.slice A L.length c, .int .i64 k] w (RetIntss w (prodL (chF L k (L.drop k)))) := by
  intro n
  induction n with
  | zero =>
    intro k hk w A c hr
    obtain rfl : k = L.length := by omega
    have he : prodL (chF L L.length (L.drop L.length)) = [[]] := by rw [List.drop_length]; rfl
    have He := Lib.hid he
    have hb : ((L.length : Int) == (L.length : Int)) = true := by simp
    have hlen := hF.len
    clear he
    go_enter Tryz.func131, Tryz.ntmps131
    go_wp2_with fail
    go_ret
    rw [He.out]
    exact ⟨_, _, rfl, intss_one (Nat.le_refl _) (own_new2' _ _ _ _) (by omega), ((Below.refl _ _).alloc (Nat.le_refl _) _).alloc (by simp) _⟩
  | succ n ih =>
    intro k hk w A c hr
    refine spFr_step L hF k (by omega) (fun w A c hr => ?_) w A c hr
    have := ih (k + 1) (by omega) w A c hr
    rw [show ((k + 1 : Nat) : Int) = (k : Int) + 1 by omega] at this
    exact this

end Go.Proofs.YtfgpbnncdfcjjabGreatDoor

/-! The walk of spec.l6Perms. -/
namespace Go.Proofs.YtfgpbnncdfcjjabGreatDoor
open Go.RowKit
set_option linter.unusedVariables false
set_option maxRecDepth 100000

/-- With the i-th one in front. -/
def permG (xs : List Int) (i : Nat) : List (List Int) := (perms (xs.eraseIdx i)).map (xs.getD i 0 :: ·)

set_option maxHeartbeats 16000000 in
theorem spPm_step (xs : List Int) (h7 : xs.length ≤ 7) (hpos : 0 < xs.length)
    (ih : ∀ ys : List Int, ys.length < xs.length → ∀ (w : World) (A : Option Addr) (c : Nat), Ints w A c ys → ys.length ≤ c → c ≤ 9223372036854775807 → Calls Tryz.prog 179 #[.slice A ys.length c] w (RetIntss w (perms ys)))
    (w : World) (A : Option Addr) (c : Nat) (hr : Ints w A c xs) (hc : xs.length ≤ c) (hc' : c ≤ 9223372036854775807) : Calls Tryz.prog 179 #[.slice A xs.length c] w (RetIntss w (perms xs)) := by
  obtain ⟨i0, hi0, hz0, hz1, hz2⟩ := info_parts Tryz.infoInt
  obtain ⟨i1, hi1, hy0, hy1, hy2⟩ := info_parts Tryz.infoInts
  have hne : ((xs.length : Int) == 0) = false := by rw [beq_eq_false_iff_ne]; omega
  have Hres : Hid (perms xs = (List.range xs.length).flatMap (permG xs)) := perms_cons hpos
  have Htot : Hid ((perms xs).length ≤ 5040) := by
    show _ ≤ _
    rw [perms_length]
    have : xs.length = 1 ∨ xs.length = 2 ∨ xs.length = 3 ∨ xs.length = 4 ∨ xs.length = 5 ∨ xs.length = 6 ∨ xs.length = 7 := by omega
    rcases this with e | e | e | e | e | e | e <;> rw [e] <;> decide
  obtain ⟨b, o, rfl, _⟩ := hr.get hpos
  have hrow0 : RowsI (w.alloc (.cells #[] 23)) w.heap.size (.slice (some ⟨w.heap.size, 0, none⟩) 0 0) [] [] (fun _ => []) := RowW.made 1 _ (Own.new _ _ _) (Nat.le_refl _)
  have Hrow0 := Lib.hid hrow0
  clear hrow0
  go_enter Tryz.func179, Tryz.ntmps179
  go_wp2_with fail
  go_loopg [3, 4] xs.length (fun g s3 s4 wr => ∃ (i : Nat) (v : Value) (xss : List (List Int)) (cs : List Value) (Fs : Nat → List Nat), i ≤ xs.length ∧ g = xs.length - i ∧ v = s3 ∧ s4 = .int .i64 i ∧ Hid (RowsI wr w.heap.size v xss cs Fs) ∧ Hid (xss = ((List.range xs.length).take i).flatMap (permG xs)) ∧ Below w.heap.size w wr)
  case atStart => exact ⟨0, _, [], [], _, Nat.zero_le _, rfl, rfl, rfl, Hrow0.out, by simp [Hid], (Below.refl _ _).alloc (Nat.le_refl _) _⟩
  case round =>
    obtain ⟨wo, rfl⟩ : ∃ wo : World, wo = wr := ⟨_, rfl⟩
    obtain ⟨i, v, xss, cs, Fs, hi, rfl, rfl, rfl, hrow, hxs, hb⟩ := hrel
    by_cases hlt : i < xs.length
    · have hro := hr.le (Le.below hb)
      have h1 : (i : Int) ≤ (c : Int) := by omega
      have h2 : (i : Int) + 1 ≤ (xs.length : Int) := by omega
      have h3 : (xs.length : Int) ≤ (c : Int) := by omega
      have Hl1 : Hid ((xs.take i).length = i) := by show _ = _; rw [List.length_take]; omega
      have Hl2 : Hid ((xs.drop (i + 1)).length = xs.length - (i + 1)) := by show _ = _; rw [List.length_drop]
      have Hle : Hid ((xs.eraseIdx i).length = i + (xs.length - (i + 1))) := by show _ = _; rw [List.length_eraseIdx_of_lt hlt]; omega
      have Hte : Hid (xs.take i ++ xs.drop (i + 1) = xs.eraseIdx i) := (List.eraseIdx_eq_take_drop_succ _ _).symm
      have Ht1 : Hid (Ints wo (some ⟨b, o, none⟩) c (xs.take i)) := hro.take i hi
      have Hold : Hid (∀ w4 : World, ((wo.alloc (.cells #[] 3)).drew).grownBy w4 (Value.slice (some ⟨wo.heap.size, 0, none⟩) 0 0).ownBlock → ∀ b, b < wo.heap.size → w4.heap[b]? = wo.heap[b]?) := fun w4 hg b hb =>
        (World.grownBy.block hg b (by simp; omega) (fun e => by simp only [Value.ownBlock, Option.some.injEq] at e; omega)).trans (Go.Deep.blk_alloc_lt _ _ _ hb)
      have HK4 : Hid (∀ (w4 : World) (o' c' : Nat), ((wo.alloc (.cells #[] 3)).drew).grownBy w4 (Value.slice (some ⟨wo.heap.size, 0, none⟩) 0 0).ownBlock → o' = o + (i + 1) ∨ xs.length = i + 1 → Ints w4 (some ⟨b, o', none⟩) c' (xs.drop (i + 1))) := fun w4 o' c' hg ho => by
        have h := (hro.drop (i + 1) c' hlt).le (w' := w4) fun a v hc => by rw [World.cell?_of_block (w := wo) (Hold.out w4 hg a.block (World.block_lt_of_cell? _ _ hc))]; exact hc
        rcases ho with rfl | ho
        · exact h
        · rw [show xs.drop (i + 1) = [] by rw [← ho]; exact List.drop_length]
          exact Ints.mk (by simp) fun j hj => absurd hj (Nat.not_lt_zero _)
      have hxi : ((i : Int) < (xs.length : Int)) = True := by simpa using hlt
      have hw : IntKind.i64.wrap ((i : Int) + 1) = (i : Int) + 1 := IntWalk.i64_in _ ⟨by omega, by omega⟩
      have hz : (0 : Int) ≤ (i : Int) + 1 := by omega
      have ht : ((i : Int) + 1).toNat = i + 1 := by omega
      by_cases hcap : c = i + 1
      case' pos =>
        have hgt : ¬ i + 1 < c := by omega
        subst hcap
        have Hle : Hid ((xs.eraseIdx i).length = i) := by have := Hle.out; show _ = _; omega
        have Hl2 : Hid ((xs.drop (i + 1)).length = 0) := by have := Hl2.out; show _ = _; omega
        have h1' : (i : Int) ≤ (i : Int) + 1 := by omega
        have h1'' : (i : Int) < (i : Int) + 1 := by omega
        have h3' : (xs.length : Int) ≤ (i : Int) + 1 := by omega
        have Hor : Hid (∀ o' : Nat, o' = o + (i + 1) ∨ xs.length = i + 1) := fun _ => .inr (by omega)
        clear hxi
      case' neg =>
        have hgt : i + 1 < c := by omega
        have hcap' : ¬ ((c : Int) = (i : Int) + 1) := by omega
        have Hor : Hid (∀ o' : Nat, o' = o + (i + 1) → o' = o + (i + 1) ∨ xs.length = i + 1) := fun _ h => .inl h
        clear hxi
      all_goals
        go_wp2_with fail
        go_region_held3 (fun W => True) (trivial)
          (first
            | (refine step_append_list (o := ⟨some 24, _, _, _, _, _⟩) (by rfl) _ _ _ (by rfl) qint_congr (R := RInt) wo.heap.size 3 i0 _ 8 Tryz.underlying23 hi0 hz0 hz1 hz2 rfl (by omega) (.slice (some ⟨wo.heap.size, 0, none⟩) 0 0) [] (by rfl) (RowOf.made _ (Own.new wo _ _).drew (Nat.le_refl _)) (some ⟨b, o, none⟩) _ (xs.take i) (by exact congrArg (fun n => Value.slice (some ⟨b, o, none⟩) n _) Hl1.out.symm) (Ht1.out.le ((Le.alloc _ _).to_drew)) (fun cs y h => h) qint_one (by simp [maxLen]; omega) (by simp; omega) (by simp) (wo.heap.size + 1) (by simp) ?_; intro A4 c4 w4 hrow4 hgrow4 hat4; rw [List.nil_append] at hrow4 hat4; have hs4 := World.grownBy.size hgrow4; simp only [World.size_alloc, World.size_drew] at hs4)
            | (refine step_append_list (o := ⟨some 29, _, _, _, _, _⟩) (by rfl) _ _ _ (by rfl) qint_congr (R := RInt) wo.heap.size 3 i0 _ 8 Tryz.underlying23 hi0 hz0 hz1 hz2 rfl (by omega) (.slice A4 (xs.take i).length c4) (xs.take i) (by rfl) hrow4 (some ⟨b, _, none⟩) _ (xs.drop (i + 1)) (by exact congrArg (fun n => Value.slice (some ⟨b, _, none⟩) n _) Hl2.out.symm) (by first | exact HK4.out w4 _ _ hgrow4 (Hor.out _) | exact HK4.out w4 _ _ hgrow4 (Hor.out _ rfl)) (fun cs y h => h) qint_one (by simp [maxLen]; omega) (by simp; omega) (by omega) w4.heap.size rfl ?_; intro A5 c5 w5 hrow5 hgrow5 hat5))
        rw [Hte.out] at hrow5
        have hB5 : Below wo.heap.size wo w5 := below_of_grown (r := (Value.slice A4 (xs.take i).length c4).ownBlock) (below_of_grown (r := (Value.slice (some ⟨wo.heap.size, 0, none⟩) 0 0).ownBlock) ((Below.refl _ _).alloc (Nat.le_refl _) _).drew hgrow4 (by simp) (fun g hg => by simp only [Value.ownBlock, Option.some.injEq] at hg; omega)) hgrow5 (by omega) (fun g hg => (hrow4.blk hg).1)
        have hlen5 : (xs.eraseIdx i).length ≤ c5 ∧ c5 ≤ 9223372036854775807 := by
          obtain ⟨A, c, e, h1, h2⟩ := hrow5.slice
          injection e with _ _ e
          rw [e]; exact ⟨h1, h2⟩
        have hI5 : Ints w5 A5 c5 (xs.eraseIdx i) := (row_ints hrow5)
        have hih := ih (xs.eraseIdx i) (by have := Hle.out; omega) w5 A5 c5 hI5 hlen5.1 hlen5.2
        rw [Hle.out] at hih
        have Hih := Lib.hid hih
        have hs5 := hB5.size
        clear hgrow4 hgrow5 hrow4 hrow5 hat4 hat5 hs4 Hor HK4 Ht1 Hl1 Hl2 Hte hgt hI5 hlen5 hih Hle
        go_wp2_with fail
        refine Hih.out.mono ?_
        rintro e6 w6 ⟨A6, c6, rfl, hrest, hb6⟩
        clear Hih
        have hB6 : Below wo.heap.size wo w6 := hB5.trans (hb6.mono hs5)
        have hbw6 : Below w.heap.size w w6 := hb.trans (hB6.mono hb.size)
        have hs6 := hb6.size
        have hsw := hb.size
        have hv5 : ∀ g, v.ownBlock = some g → w.heap.size ≤ g ∧ g < w5.heap.size := fun g hg => by
          have := owns_base hrow.out.own hg
          exact ⟨this.1, by omega⟩
        have Hrow6 := Lib.hid (hrow.out.below (rowP_loc _ _ _) hB6)
        have hx : ∃ x, x = xs.getD i 0 ∧ w.cell? ⟨b, o + i, none⟩ = some (.int .i64 x) ∧ b < w.heap.size := by
          obtain ⟨b', o', e, hbl, hcl⟩ := hr.get hlt
          injection e with e
          injection e with e1 e2
          subst e1 e2
          exact ⟨_, rfl, by rw [List.getD_eq_getElem?_getD, List.getElem?_eq_getElem hlt]; exact hcl, hbl⟩
        obtain ⟨x, hx, x0, hbl⟩ := hx
        have Htk := Lib.hid (flatMap_take_succ (permG xs) (List.range xs.length) i (by simpa using hlt))
        have hPl : (permG xs i).length ≤ 5040 ∧ xss.length + (permG xs i).length ≤ 5040 := by
          have h1 := flatMap_take_le (permG xs) (List.range xs.length) (i + 1)
          have h2 := Htot.out
          rw [Hres.out] at h2
          have h3 := Htk.out
          simp only [List.getElem_range] at h3
          rw [h3, ← hxs.out, List.length_append] at h1
          omega
        have Htk2 : Hid (((List.range xs.length).take (i + 1)).flatMap (permG xs) = xss ++ permG xs i) := by
          have h3 := Htk.out
          simp only [List.getElem_range] at h3
          show _ = _
          rw [h3, hxs.out]
        have Hg : Hid (permG xs i = (perms (xs.eraseIdx i)).map (x :: ·)) := by show _ = _; rw [hx]; rfl
        have Heach : Hid (∀ f ∈ perms (xs.eraseIdx i), f.length ≤ 7) := fun f hf => by
          have := (mem_perms.1 hf).length_eq
          rw [List.length_eraseIdx_of_lt hlt] at this
          omega
        clear Htk hx hB5 hb6 hB6 ih
        rw [Hg.out, List.length_map] at hPl
        generalize perms (xs.eraseIdx i) = rest at hrest Hg Heach hPl
        have hrl := hrest.len
        go_wp2_with fail
        go_loopg [3, 7] rest.length (fun g s3 s7 wr => ∃ (j : Nat) (v' : Value) (xss2 : List (List Int)) (cs : List Value) (Fs : Nat → List Nat), j ≤ rest.length ∧ g = rest.length - j ∧ v' = s3 ∧ s7 = .int .i64 j ∧ Hid (RowsI wr w.heap.size v' xss2 cs Fs) ∧ Hid (xss2 = xss ++ (rest.take j).map (x :: ·)) ∧ w6.grownBy wr v.ownBlock ∧ RowFrom v w6 v')
        case atStart => exact ⟨0, v, xss, cs, Fs, Nat.zero_le _, rfl, rfl, rfl, Hrow6.out, by simp [Hid], grown_refl _ _, RowFrom.refl _ _⟩
        case round =>
          obtain ⟨j, v2, xss2, cs, Fs, hj, rfl, rfl, rfl, hrow, hxs2, hgw, hfrom⟩ := hrel
          have hsr := World.grownBy.size hgw
          by_cases hjlt : j < rest.length
          · obtain ⟨bj, oj, Aj, cj, rfl, hbj, j0, hrj⟩ := hrest.get hjlt
            obtain ⟨j1, j2⟩ := cell_above_lt j0
            have hlen2 : xss2.length + 1 ≤ 5040 := by rw [hxs2.out, List.length_append, List.length_map, List.length_take]; omega
            have h7' := Heach.out _ (List.getElem_mem hjlt)
            have Htj := Lib.hid (List.take_succ_eq_append_getElem hjlt)
            have Hrj : Hid (Ints wr Aj cj rest[j]) := (hrj.le (Le.above_grown hgw fun g hg => (hv5 g hg).2)).le (Le.above _ _)
            generalize rest[j] = rj at j0 j2 hrj Hrj h7' Htj
            have hbj6 : bj < w6.heap.size := World.block_lt_of_cell? _ _ j2
            have hbjv : v.ownBlock ≠ some bj := fun e => by have := (hv5 _ e).2; simp only at j1; omega
            have hbv : v.ownBlock ≠ some b := fun e => by have := (hv5 _ e).1; omega
            have x1 : wr.cell? ⟨b, o + i, none⟩ = some (.int .i64 x) := (World.cell?_of_block (w := w6) (World.grownBy.block hgw b (by omega) (fun e => hbv e.symm))).trans (Le.below hbw6 _ _ x0)
            have j3 : wr.cell? ⟨bj, oj + j, none⟩ = some (.slice Aj rj.length cj) := (World.cell?_of_block (w := w6) (World.grownBy.block hgw bj hbj6 (fun e => hbjv e.symm))).trans j2
            have Hold : Hid (∀ w7 : World, ((wr.alloc (.cells #[.int .i64 x] 3)).drew).grownBy w7 (Value.slice (some ⟨wr.heap.size, 0, none⟩) 1 1).ownBlock → ∀ b, b < wr.heap.size → w7.heap[b]? = wr.heap[b]?) := fun w7 hg b hb =>
              (World.grownBy.block hg b (by simp; omega) (fun e => by simp only [Value.ownBlock, Option.some.injEq] at e; omega)).trans (Go.Deep.blk_alloc_lt _ _ _ hb)
            have HK : Hid (∀ W : World, (∀ k, k < w6.heap.size → v.ownBlock ≠ some k → W.heap[k]? = wr.heap[k]?) → W.cell? ⟨b, o + i, none⟩ = some (.int .i64 x) ∧ W.cell? ⟨bj, oj + j, none⟩ = some (.slice Aj rj.length cj)) := fun W hW =>
              ⟨(World.cell?_of_block (w := wr) (hW b (by omega) hbv)).trans x1, (World.cell?_of_block (w := wr) (hW bj hbj6 hbjv)).trans j3⟩
            clear hrj
            go_wp2_with fail
            go_region_held3 (fun W => W.cell? ⟨b, o + i, none⟩ = some (.int .i64 x) ∧ W.cell? ⟨bj, oj + j, none⟩ = some (.slice Aj rj.length cj))
              ((first | exact HK.out _ (fun b hb _ => rfl) | exact HK.out _ (fun b hb _ => Go.Deep.blk_alloc_lt _ _ _ (by omega)) | exact HK.out _ (fun b hb _ => Hold7 b (by omega)) | exact HK.out _ (fun b hb _ => (Go.Deep.blk_alloc_lt _ _ _ (by omega)).trans (Hold7 b (by omega))) | exact HK.out _ Hbel8))
              (first
                | (refine step_append_list (by rfl) _ _ _ (by rfl) qint_congr (R := RInt) wr.heap.size 3 i0 _ 8 Tryz.underlying23 hi0 hz0 hz1 hz2 rfl (by omega) (.slice (some ⟨wr.heap.size, 0, none⟩) 1 1) [x] (by rfl) (RowI.single (Own.new wr _ _).drew (Nat.le_refl _)) Aj cj rj (by rfl) (Hrj.out.le ((Le.alloc _ _).to_drew)) (fun cs y h => h) qint_one (by simp [maxLen]; omega) (by simp; omega) (by simp) (wr.heap.size + 1) (by simp) ?_; intro A7 c7 w7 hrow7 hgrow7 hat7; simp only [List.singleton_append, List.length_cons] at hrow7 hat7; have hs7 := World.grownBy.size hgrow7; simp only [World.size_alloc, World.size_drew] at hs7; have Hold7 := Hold.out w7 hgrow7)
                | (refine step_append_lies _ (by rfl) _ _ _ (by rfl) w.heap.size 23 i1 _ 1 24 Tryz.underlying24 hi1 hy0 hy1 hy2 rfl (by omega) v2 xss2.length cs (by rfl) (owns_alloc (owns_of_block hrow.out.own (w' := w7) fun g _ _ hl => Hold7 g hl) _) ⟨w7.heap.size, 0, none⟩ 1 1 [.slice A7 (rj.length + 1) c7] (by rfl) (by rfl) (World.news_of_block (cs := #[.slice A7 (rj.length + 1) c7]) (t := 23) (fr := (0, 0)) (heap_alloc_new w7 _)) (by simp [Value.oneCell']) (by omega) (by simp [maxLen]; omega) (by omega) (by simp; omega) (w7.heap.size + 1) (by simp) ?_; intro gg cap w8 hown8 hgrow8 hat8 hlt8; have Hbel8 : ∀ k, k < w6.heap.size → v.ownBlock ≠ some k → w8.heap[k]? = wr.heap[k]? := (fun k hk hn => (World.grownBy.block hgrow8 k (by simp; omega) (fun e => by rcases hfrom k e.symm with h | h; exact hn h; omega)).trans ((Go.Deep.blk_alloc_lt _ _ _ (by omega)).trans (Hold7 k (by omega))))))
            have hG7 : w6.grownBy w7 v.ownBlock := grown_next (grown_below hgw (((Below.refl _ _).alloc (Nat.le_refl _) _).drew)) hgrow7 (fun g hg => by simp only [Value.ownBlock, Option.some.injEq] at hg; exact .inr (by omega))
            have hG8 : w6.grownBy w8 v.ownBlock := grown_next (grown_below hG7 ((Below.refl _ _).alloc (Nat.le_refl _) _)) hgrow8 (fun g hg => hfrom g hg)
            obtain ⟨Fs8, hp8⟩ := hrow.out.pushRow (t := x :: rj) (A := A7) (c := c7) (wr := w7) (fun b _ hl => Hold7 b hl) (by omega) (by omega) hrow7 hgrow8 hown8 hat8 rfl
            have hfrom8 := hfrom.next hat8 (n := xss2.length + 1) (c := cap) (by omega)
            clear hgrow7 hgrow8 hown8 hrow7 hG7
            go_wp2_with fail
            go_roundg (rest.length - (j + 1))
            case measure => omega
            case rel => exact ⟨j + 1, _, xss2 ++ [x :: rj], _, Fs8, by omega, rfl, rfl, by go_num, hp8, (by show _ = _; rw [Htj.out, List.map_append, ← List.append_assoc, ← hxs2.out]; rfl), hG8, hfrom8⟩
          · obtain rfl : j = rest.length := by omega
            rw [List.take_length] at hxs2
            have hb8 : Below w.heap.size w wr := below_of_grown hbw6 hgw (by omega) (fun g hg => (hv5 g hg).1)
            go_wp2_with fail
            go_roundg (xs.length - (i + 1))
            case measure => omega
            case rel => exact ⟨i + 1, v2, xss2, cs, Fs, by omega, rfl, rfl, by go_num, hrow.out, (by show _ = _; rw [Htk2.out, Hg.out]; exact hxs2.out), hb8⟩
    · obtain rfl : i = xs.length := by omega
      obtain ⟨A9, c9, rfl, hI9⟩ := hrow.out.intss
      have Hx9 : Hid (xss = perms xs) := by
        show _ = _
        rw [Hres.out, hxs.out]
        rw [List.take_of_length_le (Nat.le_of_eq (List.length_range (n := xs.length)))]
      have HI9 := Lib.hid hI9
      clear hI9 hrow
      go_wp2_with fail
      go_ret
      rw [← Hx9.out]
      exact ⟨A9, c9, rfl, HI9.out, hb⟩

set_option maxHeartbeats 1000000 in
theorem spPm_any : ∀ (n : Nat) (xs : List Int), xs.length = n → n ≤ 7 → ∀ (w : World) (A : Option Addr) (c : Nat), Ints w A c xs → xs.length ≤ c → c ≤ 9223372036854775807 → Calls Tryz.prog 179 #[.slice A xs.length c] w (RetIntss w (perms xs)) := by
  intro n
  induction n using Nat.strongRecOn with
  | ind n ih =>
    intro xs hn h7 w A c hr hc hc'
    by_cases h0 : xs.length = 0
    · obtain rfl : xs = [] := List.eq_nil_of_length_eq_zero h0
      have he : perms ([] : List Int) = [[]] := by simp [perms, permsN]
      have He := Lib.hid he
      clear he
      go_enter Tryz.func179, Tryz.ntmps179
      go_wp2_with fail
      go_ret
      rw [He.out]
      exact ⟨_, _, rfl, intss_one (Nat.le_refl _) (own_new2' _ _ _ _) (by omega), ((Below.refl _ _).alloc (Nat.le_refl _) _).alloc (by simp) _⟩
    · exact spPm_step xs (by omega) (by omega) (fun ys hl w A c hy h1 h2 => ih ys.length (by omega) ys rfl (by omega) w A c hy h1 h2) w A c hr hc hc'

end Go.Proofs.YtfgpbnncdfcjjabGreatDoor
