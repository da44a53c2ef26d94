/-
  The walk of spec.l6Froms.
-/
import Derived.Test.YtpadkallejfdlaaRwS
import Derived.Test.YtpadkallejfdlaaCands
import Derived.Test.YtpadkallejfdlaaWr
import Derived.Test.YtpadkallejfdlaaSpCV
namespace Go.Proofs.Ytpadkallejfdlaa
open Go.RowKit
set_option linter.unusedVariables false
set_option maxRecDepth 100000

theorem flatMap_take_le {α β : Type} (f : α → List β) (l : List α) (k : Nat) : ((l.take k).flatMap f).length ≤ (l.flatMap f).length := by
  conv => rhs; rw [← List.take_append_drop k l, List.flatMap_append, List.length_append]
  omega
theorem flatMap_take_succ {α β : Type} (f : α → List β) (l : List α) (k : Nat) (h : k < l.length) : (l.take (k + 1)).flatMap f = (l.take k).flatMap f ++ f l[k] := by
  rw [List.take_succ_eq_append_getElem h, List.flatMap_append]
  simp
/-- With a source, and what follows. -/
def conG (i : Nat) (rest : List (List Int)) (x : Int) : List (List Int) := if x = (i : Int) then [] else rest.map (x :: ·)
theorem flatMap_conG (i : Nat) (rest : List (List Int)) (fl : List Int) : fl.flatMap (conG i rest) = (fl.filter fun n => decide (n ≠ (i : Int))).flatMap fun x => rest.map (x :: ·) := by
  induction fl with
  | nil => rfl
  | cons x fl ih =>
    rw [List.flatMap_cons, ih, List.filter_cons]
    unfold conG
    by_cases h : x = i
    · simp [h]
    · simp [h]
theorem intss_one {w : World} {base b1 b2 : Nat} (h1 : base ≤ b1) (h : Own w b2 44 #[.slice (some ⟨b1, 0, none⟩) 0 0]) (h2 : base ≤ b2) : Intss (above base w) (some ⟨b2, 0, none⟩) 1 [[]] :=
  Intss.mk (by simp) fun i hi => by
    obtain rfl : i = 0 := by simp at hi; omega
    exact ⟨_, _, cell_above_of h2 (h.cell rfl), ⟨_, _, rfl, by simp, fun i hi => absurd hi (Nat.not_lt_zero _)⟩⟩
theorem row_sing {w : World} {g base : Nat} {n : Int} (h : Own w g 3 #[.int .i64 n]) (hb : base ≤ g) : Ints (above base w) (some ⟨g, 0, none⟩) 1 [n] :=
  Ints.mk (by simp) fun i hi => by
    obtain rfl : i = 0 := by simp at hi; omega
    exact cell_above_of hb (h.cell rfl)

set_option maxHeartbeats 8000000 in
theorem spFr_step (L : List Ev) (hF : Few3 L) (k : Nat) (hk : k < L.length)
    (ih : ∀ (w : World) (A : Option Addr) (c : Nat), EvS w (.slice A L.length c) L → Calls Try.prog 84 #[.slice A L.length c, .int .i64 ((k : Int) + 1)] w (RetIntss w (prodL (chF L (k + 1) (L.drop (k + 1))))))
    (w : World) (A : Option Addr) (c : Nat) (hr : EvS w (.slice A L.length c) L) : Calls Try.prog 84 #[.slice A L.length c, .int .i64 k] w (RetIntss w (prodL (chF L k (L.drop k)))) := by
  obtain ⟨i0, hi0, hz0, hz1, hz2⟩ := info_parts Try.infoInt
  obtain ⟨i1, hi1, hy0, hy1, hy2⟩ := info_parts Try.infoInts
  have hL := hF.len
  have hne : ((k : Int) == (L.length : Int)) = false := by rw [beq_eq_false_iff_ne]; omega
  have Hres : Hid (prodL (chF L k (L.drop k)) = (frC L k L[k]).flatMap fun x => (prodL (chF L (k + 1) (L.drop (k + 1)))).map (x :: ·)) := by
    show _ = _
    rw [chF_drop L k hk, prodL]
  have Htot : Hid ((prodL (chF L k (L.drop k))).length ≤ 3000) := hF.fr k (by omega)
  have Heach : Hid (∀ f ∈ prodL (chF L (k + 1) (L.drop (k + 1))), f.length ≤ 15) := fun f hf => by
    have := prodL_each hf
    rw [chF_length, List.length_drop] at this
    omega
  go_enter Try.func84, Try.ntmps84
  go_wp2_with fail
  refine (ih w A c hr).mono ?_
  rintro e1 w1 ⟨A1, c1, rfl, hrest, hb1⟩
  have hr1 := EvS.le hr (Le.below hb1)
  have hrest1 : Intss w1 A1 c1 (prodL (chF L (k + 1) (L.drop (k + 1)))) := hrest.le (Le.above _ _)
  have hs1 := hb1.size
  clear ih hr hrest
  generalize prodL (chF L (k + 1) (L.drop (k + 1))) = rest at hrest1 Hres Heach
  obtain ⟨b, o, rfl, hbl, c0, c1', c2, c3, c4⟩ := EvS.get hr1 hk
  have hfrc : frC L k L[k] = (if L[k].rd = true then wrs L L[k].loc else [-1]).filter fun n => decide (n ≠ (k : Int)) := by
    unfold frC
    by_cases h : L[k].rd = true
    · rw [if_pos h, if_pos h]
    · rw [if_neg h, if_neg h]
      have : ¬ ((-1 : Int) = (k : Int)) := by omega
      simp [this]
  rw [hfrc] at Hres
  have Hr1 := Lib.hid hr1
  generalize L[k] = e at c0 c1' c2 c3 c4 Hres
  obtain ⟨thr, idx, lc, rd, wrt⟩ := e
  simp only at c0 c1' c2 c3 c4 Hres
  have Hres2 : Hid (prodL (chF L k (L.drop k)) = (if rd = true then wrs L lc else [-1]).flatMap (conG k rest)) := by
    show _ = _; rw [Hres.out, flatMap_conG]
  clear Hres hr1 hfrc
  cases rd
  case' false =>
    go_wp2_with fail
    obtain ⟨w3, hw3⟩ : ∃ w3, w3 = w1.alloc (.cells #[.int .i64 (-1)] 3) := ⟨_, rfl⟩
    obtain ⟨fl, hfl0⟩ : ∃ fl : List Int, fl = [-1] := ⟨_, rfl⟩
    obtain ⟨Af, hAf⟩ : ∃ Af : Option Addr, Af = some ⟨w1.heap.size, 0, none⟩ := ⟨_, rfl⟩
    obtain ⟨cf, hcf⟩ : ∃ cf : Nat, cf = 1 := ⟨_, rfl⟩
    have hfl : Ints w3 Af cf fl := by rw [hw3, hfl0, hAf, hcf]; exact (row_sing (base := w1.heap.size) (Own.new _ _ _) (Nat.le_refl _)).le (Le.above _ _)
    have hB3 : Below w1.heap.size w1 w3 := by rw [hw3]; exact (Below.refl _ _).alloc (Nat.le_refl _) _
    have hss : w3.heap.size = w1.heap.size + 1 := by rw [hw3]; simp
    have Hfl : Hid (prodL (chF L k (L.drop k)) = fl.flatMap (conG k rest)) := by show _ = _; rw [Hres2.out, hfl0]; rfl
    have hfl15 : fl.length ≤ 15 := by rw [hfl0]; simp
    rw [← hw3, ← hss, show Value.slice (some ⟨w1.heap.size, 0, none⟩) 1 1 = Value.slice Af fl.length cf by rw [hAf, hcf, hfl0]; rfl]
    clear hw3 hfl0 hAf hcf hss Hres2
  case' true =>
    go_wp2_with fail
    refine (spWr_any L lc (by omega) _ _ (EvS.le Hr1.out (Le.alloc _ _))).mono ?_
    rintro e5 w3 ⟨Af, cf, rfl, hrow5, hB3'⟩
    have hB3 : Below w1.heap.size w1 w3 := ((Below.refl _ _).alloc (Nat.le_refl _) _).trans (hB3'.mono (by simp))
    have hfl : Ints w3 Af cf (wrs L lc) := row_ints hrow5
    have Hfl : Hid (prodL (chF L k (L.drop k)) = (wrs L lc).flatMap (conG k rest)) := by show _ = _; rw [Hres2.out]; simp
    have hfl15 : (wrs L lc).length ≤ 15 := by have := wrs_length L lc; omega
    clear hrow5 Hres2 hB3'
    generalize wrs L lc = fl at hfl Hfl hfl15
    go_wp2_with fail
  all_goals
    have hrest3 : Intss w3 A1 c1 rest := hrest1.le (Le.below hB3)
    have hBw : Below w.heap.size w w3 := hb1.trans (hB3.mono hs1)
    have hsw := hBw.size
    have hrow0 : RowsI (w3.alloc (.cells #[] 44)) w3.heap.size (.slice (some ⟨w3.heap.size, 0, none⟩) 0 0) [] [] (fun _ => []) := RowW.made 1 _ (Own.new _ _ _) (Nat.le_refl _)
    have Hrow0 := Lib.hid hrow0
    have Htot2 : Hid ((fl.flatMap (conG k rest)).length ≤ 3000) := by show _ ≤ _; rw [← Hfl.out]; exact Htot.out
    clear hrow0 hrest1 hB3 Htot
    go_loopg [7, 8] fl.length (fun g s7 s8 wr => ∃ (m : Nat) (v : Value) (xss : List (List Int)) (cs : List Value) (Fs : Nat → List Nat), m ≤ fl.length ∧ g = fl.length - m ∧ v = s7 ∧ s8 = .int .i64 m ∧ Hid (RowsI wr w3.heap.size v xss cs Fs) ∧ Hid (xss = (fl.take m).flatMap (conG k rest)) ∧ Below w3.heap.size w3 wr)
    case atStart => exact ⟨0, _, [], [], _, Nat.zero_le _, rfl, rfl, rfl, Hrow0.out, by simp [Hid], (Below.refl _ _).alloc (Nat.le_refl _) _⟩
    case round =>
      obtain ⟨wo, rfl⟩ : ∃ wo : World, wo = wr := ⟨_, rfl⟩
      obtain ⟨m, v, xss, cs, Fs, hm, rfl, rfl, rfl, hrow, hxs, hb⟩ := hrel
      by_cases hmlt : m < fl.length
      · obtain ⟨bf, of, rfl, hbf, x0⟩ := (hfl.get hmlt)
        have Htk := Lib.hid (flatMap_take_succ (conG k rest) fl m hmlt)
        have hxle : xss.length ≤ 3000 := by rw [hxs.out]; exact Nat.le_trans (flatMap_take_le _ _ _) Htot2.out
        have hx1le : (xss ++ conG k rest fl[m]).length ≤ 3000 := by rw [hxs.out, ← Htk.out]; exact Nat.le_trans (flatMap_take_le _ _ _) Htot2.out
        have hxw := Le.below hb _ _ x0
        generalize fl[m] = x at x0 hxw Htk hx1le
        by_cases hxk : x = k
        · have hc : conG k rest x = [] := by unfold conG; rw [if_pos hxk]
          have bx : ((x : Int) != (k : Int)) = false := by simp [hxk]
          have Hc := Lib.hid hc
          have hrl := hrest3.len
          clear hc hxk hx1le
          go_wp2_with fail
          go_loopg [7, 9] rest.length (fun g s7 s9 wr => v = s7 ∧ s9 = .int .i64 0 ∧ wr = wo)
          case atStart => exact ⟨rfl, rfl, rfl⟩
          case round =>
            obtain ⟨rfl, rfl, rfl⟩ := hrel
            by_cases h0 : 0 < rest.length
            all_goals
              go_wp2_with fail
              go_roundg (fl.length - (m + 1))
              case measure => omega
              case rel => exact ⟨m + 1, v, xss, cs, Fs, by omega, rfl, rfl, by go_num, hrow.out, (by show _ = _; rw [Htk.out, Hc.out, List.append_nil]; exact hxs.out), hb⟩
        · have hc : conG k rest x = rest.map (x :: ·) := by unfold conG; rw [if_neg hxk]
          have bx : ((x : Int) != (k : Int)) = true := by simpa using hxk
          have Hc := Lib.hid hc
          have hrl := hrest3.len
          rw [hc, List.length_append, List.length_map] at hx1le
          clear hc hxk
          go_wp2_with fail
          go_loopg [7, 9] rest.length (fun g s7 s9 wr => ∃ (j : Nat) (v : Value) (xss2 : List (List Int)) (cs : List Value) (Fs : Nat → List Nat), j ≤ rest.length ∧ g = rest.length - j ∧ v = s7 ∧ s9 = .int .i64 j ∧ Hid (RowsI wr w3.heap.size v xss2 cs Fs) ∧ Hid (xss2 = xss ++ (rest.take j).map (x :: ·)) ∧ Below w3.heap.size w3 wr)
          case atStart => exact ⟨0, v, xss, cs, Fs, Nat.zero_le _, rfl, rfl, rfl, hrow.out, by simp [Hid], hb⟩
          case round =>
            obtain ⟨j, v, xss2, cs, Fs, hj, rfl, rfl, rfl, hrow, hxs2, hb⟩ := hrel
            by_cases hjlt : j < rest.length
            · obtain ⟨bj, oj, Aj, cj, rfl, hbj, j0, hrj⟩ := hrest3.get hjlt
              have hlen2 : xss2.length ≤ 3000 := by rw [hxs2.out, List.length_append, List.length_map, List.length_take]; omega
              have h15 := Heach.out _ (List.getElem_mem hjlt)
              have Htj := Lib.hid (List.take_succ_eq_append_getElem hjlt)
              have j1 := Le.below hb _ _ j0
              have Hrj : Hid (Ints wr Aj cj rest[j]) := hrj.le (Le.below hb)
              have x1 := Le.below hb _ _ x0
              generalize rest[j] = rj at j0 j1 hrj Hrj h15 Htj
              have hsr := hb.size
              have Hold : Hid (∀ w5 : World, ((wr.alloc (.cells #[.int .i64 x] 3)).drew).grownBy w5 (Value.slice (some ⟨wr.heap.size, 0, none⟩) 1 1).ownBlock → ∀ b, b < wr.heap.size → w5.heap[b]? = wr.heap[b]?) := fun w5 hg b hb =>
                (World.grownBy.block hg b (by simp; omega) (fun e => by simp only [Value.ownBlock, Option.some.injEq] at e; omega)).trans (Go.Deep.blk_alloc_lt _ _ _ hb)
              have HK : Hid (∀ W : World, (∀ b, b < w3.heap.size → W.heap[b]? = wr.heap[b]?) → W.cell? ⟨bf, of + m, none⟩ = some (.int .i64 x) ∧ W.cell? ⟨bj, oj + j, none⟩ = some (.slice Aj rj.length cj)) := fun W hW =>
                ⟨(World.cell?_of_block (w := wr) (hW bf hbf)).trans x1, (World.cell?_of_block (w := wr) (hW bj hbj)).trans j1⟩
              clear hrj
              go_wp2_with fail
              go_region_held3 (fun W => W.cell? ⟨bf, of + m, none⟩ = some (.int .i64 x) ∧ W.cell? ⟨bj, oj + j, none⟩ = some (.slice Aj rj.length cj))
                ((first | exact HK.out _ (fun b hb => rfl) | exact HK.out _ (fun b hb => Go.Deep.blk_alloc_lt _ _ _ (by omega)) | exact HK.out _ (fun b hb => Hold5 b (by omega)) | exact HK.out _ (fun b hb => (Go.Deep.blk_alloc_lt _ _ _ (by omega)).trans (Hold5 b (by omega))) | exact HK.out _ Hbel6))
                (first
                  | (refine step_append_list (by rfl) _ _ _ (by rfl) qint_congr (R := RInt) wr.heap.size 3 i0 _ 8 Try.underlying44 hi0 hz0 hz1 hz2 rfl (by omega) (.slice (some ⟨wr.heap.size, 0, none⟩) 1 1) [x] (by rfl) (RowI.single (Own.new wr _ _).drew (Nat.le_refl _)) Aj cj rj (by rfl) (Hrj.out.le ((Le.alloc _ _).to_drew)) (fun cs y h => h) qint_one (by simp [maxLen]; omega) (by simp; omega) (by simp) (wr.heap.size + 1) (by simp) ?_; intro A5 c5 w5 hrow5 hgrow5 hat5; simp only [List.singleton_append, List.length_cons] at hrow5 hat5; have hs5 := World.grownBy.size hgrow5; simp only [World.size_alloc, World.size_drew] at hs5; have Hold5 := Hold.out w5 hgrow5)
                  | (refine step_append_lies _ (by rfl) _ _ _ (by rfl) w3.heap.size 44 i1 _ 1 24 Try.underlying45 hi1 hy0 hy1 hy2 rfl (by omega) v xss2.length cs (by rfl) (owns_alloc (owns_of_block hrow.out.own (w' := w5) fun g _ _ hl => Hold5 g hl) _) ⟨w5.heap.size, 0, none⟩ 1 1 [.slice A5 (rj.length + 1) c5] (by rfl) (by rfl) (World.news_of_block (cs := #[.slice A5 (rj.length + 1) c5]) (t := 44) (fr := (0, 0)) (heap_alloc_new w5 _)) (by simp [Value.oneCell']) (by omega) (by simp [maxLen]; omega) (by omega) (by simp; omega) (w5.heap.size + 1) (by simp) ?_; intro gg cap w6 hown6 hgrow6 hat6 hlt6; have Hbel6 : ∀ b, b < w3.heap.size → w6.heap[b]? = wr.heap[b]? := (fun b hb => (World.grownBy.block hgrow6 b (by simp; omega) (fun e => by have := owns_base' hrow.out.own e.symm; omega)).trans ((Go.Deep.blk_alloc_lt _ _ _ (by omega)).trans (Hold5 b (by omega))))))
              have e1 : w5.os = wr.os := (World.grownBy.os hgrow5).trans rfl
              have e2 : w5.tape = wr.tape := (World.grownBy.tape hgrow5).trans rfl
              have e3 : w5.output = wr.output := (World.grownBy.output hgrow5).trans rfl
              have hB6 : Below w3.heap.size w3 w6 := hb.trans ⟨(World.grownBy.os hgrow6).trans e1, (World.grownBy.tape hgrow6).trans e2, (World.grownBy.output hgrow6).trans e3, (by have := World.grownBy.size hgrow6; simp at this; omega), Hbel6⟩
              obtain ⟨Fs6, hp6⟩ := hrow.out.pushRow (t := x :: rj) (A := A5) (c := c5) (wr := w5) (fun b _ hl => Hold5 b hl) (by omega) hsr hrow5 hgrow6 hown6 hat6 rfl
              clear e1 e2 e3 hgrow5 hgrow6 hown6 hrow5
              go_wp2_with fail
              go_roundg (rest.length - (j + 1))
              case measure => omega
              case rel => exact ⟨j + 1, _, xss2 ++ [x :: rj], _, Fs6, by omega, rfl, rfl, by go_num, hp6, (by show _ = _; rw [Htj.out, List.map_append, ← List.append_assoc, ← hxs2.out]; rfl), hB6⟩
            · obtain rfl : j = rest.length := by omega
              rw [List.take_length] at hxs2
              go_wp2_with fail
              go_roundg (fl.length - (m + 1))
              case measure => omega
              case rel => exact ⟨m + 1, v, xss2, cs, Fs, by omega, rfl, rfl, by go_num, hrow.out, (by show _ = _; rw [Htk.out, Hc.out, ← hxs.out]; exact hxs2.out), hb⟩
      · obtain rfl : m = fl.length := by omega
        rw [List.take_length] at hxs
        obtain ⟨A9, c9, rfl, hI9⟩ := hrow.out.intss
        have Hx9 : Hid (xss = prodL (chF L k (L.drop k))) := by show _ = _; rw [Hfl.out]; exact hxs.out
        have HI9 := Lib.hid hI9
        clear hI9 hrow
        go_wp2_with fail
        go_ret
        rw [← Hx9.out]
        exact ⟨A9, c9, rfl, HI9.out.le (Le.above_mono hsw _), hBw.trans (hb.mono hsw)⟩

set_option maxHeartbeats 1000000 in
theorem spFr_any (L : List Ev) (hF : Few3 L) : ∀ (n k : Nat), k + n = L.length → ∀ (w : World) (A : Option Addr) (c : Nat), EvS w (.slice A L.length c) L → Calls Try.prog 84 #[.slice A L.length c, .int .i64 k] w (RetIntss w (prodL (chF L k (L.drop k)))) := by
  intro n
  induction n with
  | zero =>
    intro k hk w A c hr
    obtain rfl : k = L.length := by omega
    have he : prodL (chF L L.length (L.drop L.length)) = [[]] := by rw [List.drop_length]; rfl
    have He := Lib.hid he
    have hb : ((L.length : Int) == (L.length : Int)) = true := by simp
    have hlen := hF.len
    clear he
    go_enter Try.func84, Try.ntmps84
    go_wp2_with fail
    go_ret
    rw [He.out]
    exact ⟨_, _, rfl, intss_one (Nat.le_refl _) (own_new2' _ _ _ _) (by omega), ((Below.refl _ _).alloc (Nat.le_refl _) _).alloc (by simp) _⟩
  | succ n ih =>
    intro k hk w A c hr
    refine spFr_step L hF k (by omega) (fun w A c hr => ?_) w A c hr
    have := ih (k + 1) (by omega) w A c hr
    rw [show ((k + 1 : Nat) : Int) = (k : Int) + 1 by omega] at this
    exact this

end Go.Proofs.Ytpadkallejfdlaa
