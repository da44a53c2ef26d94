/-
  The walk of spec.l6Copy.
-/
import Derived.Test.YtpadkallejfdlaaRwS
import Derived.Test.YtpadkallejfdlaaSpFr
import Derived.Test.YtpadkallejfdlaaExec
namespace Go.Proofs.Ytpadkallejfdlaa
open Go.RowKit
set_option linter.unusedVariables false
set_option maxRecDepth 100000

theorem MvO.grown' {F : List Nat} {a X w1 : World} {row : Option Nat} (h : MvO F a X) (hg : X.grownBy w1 row) (hr : ∀ g, row = some g → g ∈ F ∨ a.heap.size ≤ g) : MvO F a w1 :=
  ⟨(World.grownBy.os hg).trans h.os, (World.grownBy.tape hg).trans h.tape, (World.grownBy.output hg).trans h.output, Nat.le_trans h.size (World.grownBy.size hg), fun i hi hn =>
    (World.grownBy.block hg i (Nat.lt_of_lt_of_le hi h.size) (fun e => by
      rcases hr i e.symm with h | h
      · exact hn h
      · omega)).trans (h.block i hi hn)⟩
/-- In a world behind an append to a row that is new. -/
theorem hold_new {wr w6 : World} {o : Obj} {n c : Nat} (hg : (wr.drew.alloc o).grownBy w6 (Value.slice (some ⟨wr.heap.size, 0, none⟩) n c).ownBlock) : Below wr.heap.size wr w6 :=
  below_of_grown ((Below.refl _ _).drew.alloc (Nat.le_refl _) _) hg (by simp) (fun g hg => by simp only [Value.ownBlock, Option.some.injEq] at hg; omega)
theorem row_of_none {w : World} {base : Nat} : RowsI w base (.slice none 0 0) [] [] (fun _ => []) := RowW.nil 1 _ _ _ _
theorem cp_next {w3 wr w6 w8 : World} {T base gg cap H : Nat} {e : TypeId} {u v : Value} {xs : List (List Int)} {cs : List Value} {Fs : Nat → List Nat} {A : Option Addr} {c : Nat} {t : List Int}
    (hT : T < base) (hB : base ≤ wr.heap.size) (hw3 : w3.heap.size ≤ base) (hmv : MvO [T] w3 wr) (ho : Own wr T e #[u, v]) (h : RowsI wr base v xs cs Fs) (h6 : Below wr.heap.size wr w6) (ht : RowI w6 wr.heap.size (.slice A t.length c) t)
    (hg : (w6.alloc (.cells #[.slice A t.length c] 44)).grownBy w8 v.ownBlock) (hown : w8.ownsRow base 44 1 (.slice (some ⟨gg, 0, none⟩) (xs.length + 1) cap) (xs.length + 1) (cs ++ [.slice A t.length c])) (hat : v.ownBlock = some gg ∨ gg = H) (hH : w6.heap.size + 1 = H) :
    ∃ Fs', RowsI (w8.setCell ⟨T, 1, none⟩ (.slice (some ⟨gg, 0, none⟩) (xs.length + 1) cap)) base (.slice (some ⟨gg, 0, none⟩) (xs.length + 1) cap) (xs ++ [t]) (cs ++ [.slice A t.length c]) Fs' ∧
      Own (w8.setCell ⟨T, 1, none⟩ (.slice (some ⟨gg, 0, none⟩) (xs.length + 1) cap)) T e #[u, .slice (some ⟨gg, 0, none⟩) (xs.length + 1) cap] ∧ MvO [T] w3 (w8.setCell ⟨T, 1, none⟩ (.slice (some ⟨gg, 0, none⟩) (xs.length + 1) cap)) := by
  have hs6 := h6.size
  have hgw : wr.grownBy w8 v.ownBlock := grown_next (grown_below (grown_refl wr v.ownBlock) (h6.alloc hs6 _)) hg fun g e => .inl e
  have hv : ∀ g, v.ownBlock = some g → base ≤ g := fun g e => (owns_base h.own e).1
  obtain ⟨Fs', hp⟩ := h.pushRow (fun b _ hl => h6.block b hl) hs6 hB ht hg hown hat hH
  refine ⟨Fs', hp.move (rowP_loc _ _ _) fun b h1 _ => Below.heap_setCell _ _ _ _ (fun e => by simp only at e; omega), ?_, (hmv.grown' hgw fun g e => .inr (Nat.le_trans hw3 (hv g e))).set (by simp) _⟩
  have ho8 : Own w8 T e #[u, v] := ho.of_block (World.grownBy.block hgw T ho.lt fun e => by have := hv _ e.symm; omega)
  exact ho8.set 1 _

/-- A copy in rows of its own: the first one lies ahead of block T, the others behind it. -/
def RetCW (w : World) (x : Ex) (e : Ending) (w' : World) : Prop := ∃ A c B d T cs Fs, e = .returned (.agg #[.slice A x.from_.length c, .slice B x.order.length d]) ∧ RowI w' w.heap.size (.slice A x.from_.length c) x.from_ ∧ (∀ g, (Value.slice A x.from_.length c).ownBlock = some g → g < T) ∧ w.heap.size ≤ T ∧ RowsI w' (T + 1) (.slice B x.order.length d) x.order cs Fs ∧ T < w'.heap.size ∧ Below w.heap.size w w'

set_option maxHeartbeats 8000000 in
theorem spCpW_any (x : Ex) (h1 : x.from_.length ≤ 1000) (h2 : x.order.length ≤ 1000) (h3 : ∀ xs ∈ x.order, xs.length ≤ 1000) (w : World) (A B : Option Addr) (c d : Nat) (hr : RepX w A c B d x) :
    Calls Try.prog 86 #[.agg #[.slice A x.from_.length c, .slice B x.order.length d]] w (RetCW w x) := by
  obtain ⟨i0, hi0, hz0, hz1, hz2⟩ := info_parts Try.infoInt
  obtain ⟨i1, hi1, hy0, hy1, hy2⟩ := info_parts Try.infoInts
  have H3 := Lib.hid h3
  clear h3
  obtain ⟨hrf, hro⟩ := hr
  have Hf : Hid (Ints (((w.alloc (.cells #[.slice A x.from_.length c, .slice B x.order.length d] 50)).alloc (.cells #[.slice none 0 0, .slice none 0 0] 50)).alloc (.cells #[] 3)) A c x.from_) := hrf.le ((((Le.alloc _ _).to_alloc _)).to_alloc _)
  have he : Own (((w.alloc (.cells #[.slice A x.from_.length c, .slice B x.order.length d] 50)).alloc (.cells #[.slice none 0 0, .slice none 0 0] 50)).alloc (.cells #[] 3)) (w.heap.size + 1 + 1) 3 #[] := by simpa using Own.new ((w.alloc (.cells #[.slice A x.from_.length c, .slice B x.order.length d] 50)).alloc (.cells #[.slice none 0 0, .slice none 0 0] 50)) 3 #[]
  have HE := Lib.hid he
  clear he
  go_enter Try.func86, Try.ntmps86
  go_wp2_with (at_builtin; refine wpList_append_list (o := ⟨some 8, _, _, _, _, _⟩) (by rfl) _ _ _ (by rfl) qint_congr (R := RInt) (w.heap.size + 1 + 1) 3 i0 _ 8 Try.underlying44 hi0 hz0 hz1 hz2 rfl (by omega) (.slice (some ⟨w.heap.size + 1 + 1, 0, none⟩) 0 0) [] (by rfl) (RowOf.made _ HE.out (Nat.le_refl _)) A c x.from_ (by rfl) Hf.out (fun cs y h => h) qint_one (by simp [maxLen]; omega) (by simp; omega) (by simp) (w.heap.size + 1 + 1 + 1) (by simp) ?_; intro A5 c5 w5 hrow5 hgrow5 hat5; rw [List.nil_append] at hrow5 hat5; have hs5 := World.grownBy.size hgrow5; simp only [World.size_alloc] at hs5)
  have hB5 : Below w.heap.size w w5 := below_of_grown ((((Below.refl w.heap.size w).alloc (Nat.le_refl _) _).alloc (by simp) _).alloc (by simp <;> omega) _) hgrow5 (by simp <;> omega) (fun g hg => by simp only [Value.ownBlock, Option.some.injEq] at hg; omega)
  have oX : Own w5 w.heap.size 50 #[.slice A x.from_.length c, .slice B x.order.length d] := (((Own.new w _ _).alloc _).alloc _).of_block (World.grownBy.block hgrow5 _ (by simp <;> omega) (fun e => by simp only [Value.ownBlock, Option.some.injEq] at e; omega))
  have oR : Own w5 (w.heap.size + 1) 50 #[.slice none 0 0, .slice none 0 0] := by
    have h := ((Own.new (w.alloc (.cells #[.slice A x.from_.length c, .slice B x.order.length d] 50)) 50 #[.slice none 0 0, .slice none 0 0]).alloc (.cells #[] 3))
    exact (by simpa using h : Own _ (w.heap.size + 1) _ _).of_block (World.grownBy.block hgrow5 _ (by simp <;> omega) (fun e => by simp only [Value.ownBlock, Option.some.injEq] at e; omega))
  have hrow5' : RowI w5 (w.heap.size + 1 + 1) (.slice A5 x.from_.length c5) x.from_ := hrow5
  have Hfrom := Lib.hid hrow5'
  clear hrow5 hrow5' hgrow5 hat5 HE Hf
  obtain ⟨T, hT⟩ : ∃ T, T = w5.heap.size := ⟨_, rfl⟩
  obtain ⟨w3, hw3⟩ : ∃ w3, w3 = w5.alloc (.cells #[.slice A5 x.from_.length c5, .slice none 0 0] 50) := ⟨_, rfl⟩
  have hz3 : w3.heap.size = T + 1 := by rw [hw3, hT]; simp
  have oT : Own w3 T 50 #[.slice A5 x.from_.length c5, .slice none 0 0] := by rw [hw3, hT]; exact Own.new _ _ _
  have oX3 : Own w3 w.heap.size 50 #[.slice A x.from_.length c, .slice B x.order.length d] := by rw [hw3]; exact oX.alloc _
  have oR3 : Own w3 (w.heap.size + 1) 50 #[.slice none 0 0, .slice none 0 0] := by rw [hw3]; exact oR.alloc _
  have hB3 : Below w.heap.size w w3 := by rw [hw3]; exact hB5.alloc hB5.size _
  have hTw : w.heap.size + 1 < T := by rw [hT]; omega
  have hro3 : Intss w3 B d x.order := hro.le (Le.below hB3)
  have Hfrom3 : Hid ((∀ wr, MvO [T] w3 wr → RowI wr (w.heap.size + 1 + 1) (.slice A5 x.from_.length c5) x.from_) ∧ ∀ g, (Value.slice A5 x.from_.length c5).ownBlock = some g → g < T) :=
    ⟨fun wr hm => Hfrom.out.of_block fun g _ _ hl => (hm.block g (by omega) (by simp; omega)).trans (by rw [hw3]; exact Go.Deep.blk_alloc_lt _ _ _ hl), fun g e => by rw [hT]; exact (Hfrom.out.blk e).2⟩
  have OX := Lib.hid oX3
  have OR := Lib.hid oR3
  have OT := Lib.hid oT
  rw [← hw3, ← hT]
  clear hw3 hT oX oR oX3 oR3 oT hrf hB5 Hfrom hs5
  have hol := hro3.len
  go_loopg [4] x.order.length (fun g s4 wr => ∃ (i : Nat) (v : Value) (cs : List Value) (Fs : Nat → List Nat), i ≤ x.order.length ∧ g = x.order.length - i ∧ s4 = .int .i64 i ∧ Hid (RowsI wr (T + 1) v (x.order.take i) cs Fs) ∧ Hid (Own wr T 50 #[.slice A5 x.from_.length c5, v]) ∧ Hid (MvO [T] w3 wr))
  case atStart => exact ⟨0, _, [], _, Nat.zero_le _, rfl, rfl, row_of_none, OT.out, MvO.refl _ _⟩
  case round =>
    obtain ⟨wo, rfl⟩ : ∃ wo : World, wo = wr := ⟨_, rfl⟩
    obtain ⟨i, v, cs, Fs, hi, rfl, rfl, hrow, hoT, hmv⟩ := hrel
    have hsz := hmv.out.size
    have r1 := hmv.out.cell (OX.out.cell (i := 1) rfl) (by simp; omega)
    by_cases hlt : i < x.order.length
    · obtain ⟨bj, oj, Aj, cj, rfl, hbj, j0, hrj⟩ := hro.get hlt
      have hle0 : (x.order.take i).length = i := by rw [List.length_take]; omega
      have h1000 := H3.out _ (List.getElem_mem hlt)
      have Htk := Lib.hid (List.take_succ_eq_append_getElem hlt)
      have j1 := hmv.out.cell (Le.below hB3 _ _ j0) (by simp; omega)
      have hrow' : RowsI wo (T + 1) v (x.order.take i) cs Fs := hrow.out
      have Hrj : Hid (Ints (wo.drew.alloc (.cells #[] 3)) Aj cj x.order[i]) := hrj.le fun p u hc => Le.alloc _ _ _ _ (Le.drew _ _ _ (hmv.out.cell (Le.below hB3 _ _ hc) (by have := World.block_lt_of_cell? _ _ hc; simp; omega)))
      generalize x.order[i] = rj at j0 j1 hrj Hrj h1000 Htk
      have q1 := hoT.out.cell (i := 1) rfl
      have hTl := hoT.out.lt
      have hXl : w.heap.size < wo.heap.size := by omega
      have hbl : bj < wo.heap.size := by omega
      have HL : Hid (∀ W, Below wo.heap.size wo W → W.cell? ⟨T, 1, none⟩ = some v ∧ T < W.heap.size) := fun W hb => ⟨(hoT.out.of_block (hb.block T hTl)).cell (i := 1) rfl, Nat.lt_of_lt_of_le hTl hb.size⟩
      have HL8 : Hid (∀ (w6 w8 : World) (o : Obj), Below wo.heap.size wo w6 → (w6.alloc o).grownBy w8 v.ownBlock → w8.cell? ⟨T, 1, none⟩ = some v ∧ w8.frozen? ⟨T, 1, none⟩ = false) := fun w6 w8 o hb hg => by
        have h6 : Own w6 T _ _ := hoT.out.of_block (hb.block T hTl)
        have h8 : Own w8 T _ _ := (h6.alloc o).of_block (World.grownBy.block hg T (h6.alloc o).lt fun e => by have := (owns_base hrow.out.own e.symm).1; omega)
        exact ⟨h8.cell (i := 1) rfl, h8.frozen 1⟩
      obtain ⟨xs, hxs⟩ : ∃ xs, xs = x.order.take i := ⟨_, rfl⟩
      rw [← hxs] at hrow hle0
      have HH := Lib.hid hxs
      clear hrow' hrj j0 hxs
      go_wp2_with fail
      go_region_law (first
        | (refine step_append_list (o := ⟨some 25, _, _, _, _, _⟩) (by rfl) _ _ _ (by rfl) qint_congr (R := RInt) wo.heap.size 3 i0 _ 8 Try.underlying44 hi0 hz0 hz1 hz2 rfl (by omega) (.slice (some ⟨wo.heap.size, 0, none⟩) 0 0) [] (by rfl) (RowOf.made _ (Own.new wo.drew _ _) (Nat.le_refl _)) Aj cj rj (by rfl) Hrj.out (fun cs y h => h) qint_one (by simp [maxLen]; omega) (by simp; omega) (by simp) (wo.heap.size + 1) (by simp) ?_; intro A6 c6 w6 hrow6 hgrow6 hat6; rw [List.nil_append] at hrow6 hat6; have hB6 := hold_new hgrow6; obtain ⟨q6, l6⟩ := HL.out w6 hB6; have s6 := hB6.size)
        | (refine step_append_lies (o := ⟨some 27, _, _, _, _, _⟩) _ (by rfl) _ _ _ (by rfl) (T + 1) 44 i1 _ 1 24 Try.underlying45 hi1 hy0 hy1 hy2 rfl (by omega) v xs.length cs (by rfl) (owns_alloc (owns_of_block hrow.out.own (w' := w6) fun g _ _ hl => hB6.block g hl) _) ⟨w6.heap.size, 0, none⟩ 1 1 [.slice A6 rj.length c6] (by rfl) (by rfl) (World.news_of_block (cs := #[.slice A6 rj.length c6]) (t := 44) (fr := (0, 0)) (heap_alloc_new w6 _)) (by simp [Value.oneCell']) (by omega) (by simp [maxLen]; omega) (by omega) (by simp; omega) (w6.heap.size + 1) (by simp) ?_; intro gg cap w8 hown8 hgrow8 hat8 hlt8; obtain ⟨q8, f8⟩ := HL8.out w6 w8 _ hB6 hgrow8))
      all_goals
        obtain ⟨Fs8, hp8, ho8, hm8⟩ := cp_next (H := w6.heap.size + 1) (Nat.lt_succ_self T) (by omega) (by omega) hmv.out hoT.out hrow.out hB6 hrow6 hgrow8 hown8 hat8 rfl
        rw [hle0] at hp8 ho8 hm8
        go_wp2_with fail
        go_roundg (x.order.length - (i + 1))
        case measure => omega
        case rel => exact ⟨i + 1, _, _, Fs8, by omega, rfl, by go_num, (by rw [Htk.out, ← HH.out]; exact hp8), ho8, hm8⟩
    · obtain rfl : i = x.order.length := by omega
      rw [List.take_length] at hrow
      have q0 := hoT.out.cell (i := 0) rfl
      have q1 := hoT.out.cell (i := 1) rfl
      have oRr : Own wo (w.heap.size + 1) 50 #[.slice none 0 0, .slice none 0 0] := OR.out.of_block (hmv.out.block _ OR.out.lt (by simp; omega))
      have p0 := oRr.cell (i := 0) rfl
      have p1 := oRr.cell (i := 1) rfl
      have p2 := oRr.frozen 0
      have p3 := oRr.frozen 1
      clear oRr
      obtain ⟨A9, c9, rfl, _⟩ := hrow.out.intss
      have hT9 := hmv.out.size
      go_wp2_with fail
      refine bodyPost_ret (v := .agg #[.slice A5 x.from_.length c5, .slice A9 x.order.length c9]) (by simp [results, Try.results86, go_sem, p0, p1]) rfl ?_
      have hbf : Below w.heap.size w wo := hB3.trans (hmv.out.below (fun x hx => by simp at hx; omega) hB3.size)
      exact ⟨A5, c5, A9, c9, T, cs, Fs, rfl, ((Hfrom3.out.1 wo hmv.out).rebase fun g hg => by have := ((Hfrom3.out.1 wo hmv.out).blk hg).1; omega).of_block (fun g hg hv _ => (Below.heap_setCell _ _ _ _ (by show g ≠ w.heap.size + 1; have := ((Hfrom3.out.1 wo hmv.out).blk hv).1; omega)).trans (Below.heap_setCell _ _ _ _ (by show g ≠ w.heap.size + 1; have := ((Hfrom3.out.1 wo hmv.out).blk hv).1; omega))),
        Hfrom3.out.2, by omega, hrow.out.move (rowP_loc _ _ _) (fun b hb _ => (Below.heap_setCell _ _ _ _ (by show b ≠ w.heap.size + 1; omega)).trans (Below.heap_setCell _ _ _ _ (by show b ≠ w.heap.size + 1; omega))), by simp [World.setCell]; omega, (hbf.setCell (by simp) _).setCell (by simp) _⟩

theorem RetCW.retX {w : World} {x : Ex} {e : Ending} {w' : World} (h : RetCW w x e w') : RetX w x e w' := by
  obtain ⟨A, c, B, d, T, cs, Fs, rfl, hf, _, hT, ho, _, hb⟩ := h
  obtain ⟨A', c', e, hI⟩ := hf.ints
  injection e with e1 e2 e3
  subst e1 e3
  obtain ⟨B', d', e, hJ⟩ := ho.intss
  injection e with e1 e2 e3
  subst e1 e3
  exact ⟨A, c, B, d, rfl, ⟨hI, hJ.le (Le.above_mono (by omega) _)⟩, hb⟩
theorem spCp_any (x : Ex) (h1 : x.from_.length ≤ 1000) (h2 : x.order.length ≤ 1000) (h3 : ∀ xs ∈ x.order, xs.length ≤ 1000) (w : World) (A B : Option Addr) (c d : Nat) (hr : RepX w A c B d x) :
    Calls Try.prog 86 #[.agg #[.slice A x.from_.length c, .slice B x.order.length d]] w (RetX w x) := (spCpW_any x h1 h2 h3 w A B c d hr).mono fun _ _ h => h.retX

end Go.Proofs.Ytpadkallejfdlaa
