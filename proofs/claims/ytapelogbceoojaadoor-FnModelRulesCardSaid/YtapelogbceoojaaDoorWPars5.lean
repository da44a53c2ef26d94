/-
  The walk of impl.ParseRelExpr.
-/
import Derived.Test.YtapelogbceoojaaDoorWPars4
import Derived.Test.YtapelogbceoojaaDoorWText
namespace Go.Proofs.YtapelogbceoojaaDoor
open Go.RowKit
set_option linter.unusedVariables false
set_option maxRecDepth 100000

/-- What reading a text comes to: the valid expression with that text, or nothing. -/
def Read (t : ByteArray) (x : RE) (b : Bool) : Prop := (b = true ∧ Val x ∧ ct x = t) ∨ (b = false ∧ x = .mk 0 ⟨#[]⟩ [] ∧ ∀ y, Val y → ct y ≠ t)
theorem Read.uniq {t : ByteArray} {x y : RE} {a b : Bool} (h : Read t x a) (k : Read t y b) : x = y ∧ a = b := by
  rcases h with ⟨rfl, h1, h2⟩ | ⟨rfl, rfl, h2⟩ <;> rcases k with ⟨rfl, k1, k2⟩ | ⟨rfl, rfl, k2⟩
  · exact ⟨ct_inj h1 k1 (h2.trans k2.symm), rfl⟩
  · exact absurd h2 (k2 _ h1)
  · exact absurd k2 (h2 _ k1)
  · exact ⟨rfl, rfl⟩
def RetRead (w : World) (t : ByteArray) (e : Ending) (w' : World) : Prop :=
  ∃ (x : RE) (b : Bool) (A : Option Addr) (k : Nat) (F : List Nat), e = .returned (.tuple #[.agg #[.int .i64 x.op, .string x.name, .slice A x.kids.length k], .bool b]) ∧ Read t x b ∧ OwE w' (.slice A x.kids.length k) x.kids F ∧ F.Nodup ∧ (∀ b ∈ F, w.heap.size ≤ b) ∧ x.name.size ≤ 300 ∧ Below w.heap.size w w'

/-- A valid expression's text is short. -/
theorem size_tx4 (m : Nat) : ∀ e : RE, Shp m e → ∀ most : Int, 0 ≤ most → (tx e most).size ≤ 4 * cntE e + 1 ∧ (ct e).size + (if 0 < lvl e.op then 2 else 0) ≤ 4 * cntE e + 1 := by
  have key : ∀ e : RE, (ct e).size + (if 0 < lvl e.op then 2 else 0) ≤ 4 * cntE e + 1 → ∀ most : Int, 0 ≤ most → (tx e most).size ≤ 4 * cntE e + 1 := by
    intro e h most hm
    by_cases hl : most < lvl e.op
    · rw [if_pos (by omega)] at h
      rw [tx_pos hl]
      simp only [ByteArray.size_append, ByteArray.size_mk']
      simp
      omega
    · rw [tx_neg hl]
      omega
  induction m with
  | zero => intro e h; exact h.elim
  | succ m ih =>
    intro e h most hm
    suffices hc : (ct e).size + (if 0 < lvl e.op then 2 else 0) ≤ 4 * cntE e + 1 from ⟨key e hc most hm, hc⟩
    obtain ⟨op, name, kids⟩ := e
    obtain ⟨⟨h1, h2, h3⟩, h4⟩ := h
    simp only [RE.op, RE.name, RE.kids] at h1 h2 h3 h4 ⊢
    match kids, h1, h4 with
    | [], h1, _ =>
      have ho : op = 1 := by rcases kidsI_cases h1 with ⟨h, _⟩ | ⟨_, h⟩ | ⟨_, h⟩ <;> first | exact h | simp at h
      subst ho
      have hn := size_nm (h2.1 rfl)
      rw [cntE, cntL, ct]
      show name.size + (if 0 < lvl 1 then 2 else 0) ≤ _
      rw [if_neg (by decide)]
      omega
    | [a], h1, h4 =>
      have ho : op = 6 ∨ op = 7 := by rcases kidsI_cases h1 with ⟨_, h⟩ | ⟨h, _⟩ | ⟨_, h⟩ <;> first | exact h | simp at h
      have ha := (ih a (h4 a (by simp)) 0 (by omega)).1
      have e1 : ct (.mk op name [a]) = sgn op ++ tx a 0 := by rw [ct]; rfl
      have hs := size_sgn op
      have hl0 : ¬ 0 < lvl op := by rcases ho with h | h <;> (rw [h]; decide)
      show (ct (.mk op name [a])).size + (if 0 < lvl op then 2 else 0) ≤ _
      rw [cntE, cntL, cntL, e1, ByteArray.size_append, if_neg hl0]
      omega
    | [a, b], h1, h4 =>
      have ho : op = 2 ∨ op = 3 ∨ op = 4 ∨ op = 5 := by rcases kidsI_cases h1 with ⟨_, h⟩ | ⟨_, h⟩ | ⟨h, _⟩ <;> first | exact h | simp at h
      have hl : 1 ≤ lvl op := by rcases ho with rfl | rfl | rfl | rfl <;> decide
      have ha := (ih a (h4 a (by simp)) (lvl op) (by omega)).1
      have hb := (ih b (h4 b (by simp)) (lvl op - 1) (by omega)).1
      have e1 : ct (.mk op name [a, b]) = tx a (lvl op) ++ sgn op ++ tx b (lvl op - 1) := by rw [ct]; rfl
      have hs := size_sgn op
      have hl0 : 0 < lvl op := by omega
      show (ct (.mk op name [a, b])).size + (if 0 < lvl op then 2 else 0) ≤ _
      rw [cntE, cntL, cntL, cntL, e1, ByteArray.size_append, ByteArray.size_append, if_pos hl0]
      omega
    | _ :: _ :: _ :: _, h1, _ =>
      simp only [List.length_cons] at h1
      rcases kidsI_cases h1 with ⟨_, h⟩ | ⟨_, h⟩ | ⟨_, h⟩ <;> omega
theorem ct_size {x : RE} (h : Val x) : (ct x).size ≤ 161 := by
  have h1 := (size_tx4 12 x h.1 0 (by omega)).2
  have h2 := h.2
  omega

theorem ct_ne {y : RE} (h : Val y) : ct y ≠ ⟨#[]⟩ := fun e => by
  have h1 := read_back h
  rw [e] at h1
  obtain ⟨e1, u1, h2, _⟩ := h1.lev_succ
  obtain ⟨e2, u2, h3, _⟩ := h2.lev_succ
  obtain ⟨e3, u3, h4, _⟩ := h3.lev_succ
  obtain ⟨c, t', h5, _⟩ := h4.lev_zero.atom_none
  cases h5
theorem RetRead.fail {w W : World} {t : ByteArray} (hb : Below w.heap.size w W) (hn : ∀ y, Val y → ct y ≠ t) : RetRead w t (.returned (.tuple #[.agg #[.int .i64 0, .string ⟨#[]⟩, .slice none 0 0], .bool false])) W :=
  ⟨.mk 0 ⟨#[]⟩ [], false, none, 0, [], rfl, Or.inr ⟨rfl, rfl, hn⟩, .nil, List.nodup_nil, (fun b hb => by cases hb), (by show ByteArray.size ⟨#[]⟩ ≤ 300; decide), hb⟩

set_option maxHeartbeats 2000000 in
theorem parse_any (t : ByteArray) (w : World) (hg : GN w) : Calls Tryd.prog 29 #[.string t] w (RetRead w t) := by
  have rb := Own.new w 29 #[.int .i64 0, .string ByteArray.empty, .slice none 0 0]
  go_enter Tryd.func29, Tryd.ntmps29
  by_cases hsz : (300 : Int) < (t.size : Int)
  · have hd : decide ((t.size : Int) > 300) = true := by simpa using hsz
    go_wp2_with fail
    refine bodyPost_ret (v := .tuple #[.agg #[.int .i64 0, .string ⟨#[]⟩, .slice none 0 0], .bool false]) (by simp [results, Tryd.results29, go_sem]) rfl ?_
    refine ⟨.mk 0 ⟨#[]⟩ [], false, none, 0, [], rfl, Or.inr ⟨rfl, rfl, fun y hy e => ?_⟩, .nil, List.nodup_nil, (fun b hb => by cases hb), (by show ByteArray.size ⟨#[]⟩ ≤ 300; decide), (Below.refl _ _).alloc (Nat.le_refl _) _⟩
    have := ct_size hy
    rw [e] at this
    omega
  · have hd : decide ((t.size : Int) > 300) = false := by simpa using hsz
    have pr := Own.new (w.alloc (.cells #[.int .i64 0, .string ByteArray.empty, .slice none 0 0] 29)) 82 #[.string t, .bool false]
    rw [World.size_alloc] at pr
    have hp := (pars_all t.size t rfl (by omega)).2 3 (by omega) _ _ false pr
    have rb1 := rb.alloc (.cells #[.string t, .bool false] 82)
    go_wp2_with fail
    refine hp.mono ?_
    rintro e1 w1 ⟨x, A, c, F, s1, fl1, rfl, ho, hnd, hF, hnm, h1, m1, hsz1, hps⟩
    have hb1 : Below w.heap.size w w1 := (((Below.refl _ _).alloc (Nat.le_refl _) _).alloc (by simp) _).trans (m1.below (by omega) (by simp; omega))
    have rb2 := rb1.mv m1 (by omega)
    have hkey : ∀ y, Val y → ct y = t → y = x ∧ s1 = ⟨#[]⟩ ∧ fl1 = false := fun y hy e => by
      have h2 := read_back hy
      rw [e] at h2
      obtain ⟨h3, h4, h5⟩ := hps (by first | rfl | trivial) _ _ h2
      exact ⟨h3, ByteArray.ext (by rw [← Array.toList_inj, h4]), h5⟩
    have Hkey := Lib.hid hkey
    have hgb := hg.le (Le.below hb1)
    clear hkey hps hp rb rb1 pr m1
    have p0 := h1.cell (i := 0) rfl
    have p1 := h1.cell (i := 1) rfl
    have plt := h1.lt
    obtain ⟨r0, r1, r2, g0, g1, g2, rl⟩ := rb2.res
    cases fl1
    case true =>
      go_wp2_with fail
      refine bodyPost_ret (v := .tuple #[.agg #[.int .i64 0, .string ⟨#[]⟩, .slice none 0 0], .bool false]) (by simp [results, Tryd.results29, go_sem, r0, r1, r2, rl, World.cell?_alloc_lt]) rfl ?_
      refine RetRead.fail ?_ (fun y hy e => by have := (Hkey.out y hy e).2.2; cases this)
      repeat (first | exact hb1 | refine Below.alloc ?_ (by simp <;> omega) _ | refine Below.setCell ?_ (by simp <;> omega) _)
    case false =>
      by_cases hs1 : s1 = ⟨#[]⟩
      · subst hs1
        by_cases ht : t = ⟨#[]⟩
        · subst ht
          go_wp2_with fail
          refine bodyPost_ret (v := .tuple #[.agg #[.int .i64 0, .string ⟨#[]⟩, .slice none 0 0], .bool false]) (by simp [results, Tryd.results29, go_sem, r0, r1, r2, rl, World.cell?_alloc_lt]) rfl ?_
          refine RetRead.fail ?_ (fun y hy e => ct_ne hy e)
          repeat (first | exact hb1 | refine Below.alloc ?_ (by simp <;> omega) _ | refine Below.setCell ?_ (by simp <;> omega) _)
        · have hne := str_ne_nil ht
          have hrep : RepK w1 A c x := ⟨by omega, RepEs.le (ho.rep (B := 0) (fun b hb => Nat.zero_le _)) (Le.above _ _)⟩
          go_wp2_with fail
          refine (format_any x _ A c (hgb.le (Le.alloc _ _)) (hrep.le (Le.alloc _ _))).mono ?_
          rintro e2 w2 ⟨rfl, hb2⟩
          have B2 : Below w.heap.size w w2 := (hb1.alloc hb1.size _).trans (hb2.mono (by have := hb1.size; simp; omega))
          have eb2 := ((Own.new w1 29 #[.int .i64 x.op, .string x.name, .slice A x.kids.length c]).under hb2).res
          obtain ⟨x0, x1, x2, _, _, _, xl⟩ := eb2
          obtain ⟨q0, q1, q2, f0, f1, f2, ql⟩ := ((rb2.alloc (.cells #[.int .i64 x.op, .string x.name, .slice A x.kids.length c] 29)).under hb2).res
          have ho2 := (ho.alloc (.cells #[.int .i64 x.op, .string x.name, .slice A x.kids.length c] 29)).of_blocks (fun b hb => hb2.block b ((ho.alloc (.cells #[.int .i64 x.op, .string x.name, .slice A x.kids.length c] 29)).lt b hb))
          have hFlt : ∀ b ∈ F, w.heap.size < b := fun b hb => by have := hF b hb; simp at this; omega
          have hFne : ∀ b ∈ F, b ≠ w.heap.size := fun b hb => by have := hFlt b hb; omega
          clear hrep hb2 r0 r1 r2 g0 g1 g2 rl p0 p1 plt
          by_cases hfm : fmt x = t
          · have hsb := str_eq_true hfm
            have hv : Val x := by
              cases hvb : valB x
              · rw [fmt_false hvb] at hfm
                exact absurd hfm.symm ht
              · exact valB_iff.1 hvb
            have hct : ct x = t := by rw [← fmt_true (valB_iff.2 hv)]; exact hfm
            have Hfm := Lib.hid hct
            clear hfm hct
            go_wp2_with fail
            refine bodyPost_ret (v := .tuple #[.agg #[.int .i64 x.op, .string x.name, .slice A x.kids.length c], .bool true]) (by simp [results, Tryd.results29, go_sem, q0, q1, q2]) rfl ?_
            refine ⟨x, true, A, c, F, rfl, Or.inl ⟨rfl, hv, Hfm.out⟩, ((ho2.setCell _ _ hFne).setCell _ _ hFne).setCell _ _ hFne, hnd, (fun b hb => Nat.le_of_lt (hFlt b hb)), hnm, ?_⟩
            repeat (first | exact B2 | refine Below.setCell ?_ (by simp <;> omega) _)
          · have hsb := str_eq_false hfm
            have Hn : Hid (∀ y, Val y → ct y ≠ t) := fun y hy e => by
              have h5 := (Hkey.out y hy e).1
              subst h5
              exact hfm (by rw [fmt_true (valB_iff.2 hy), e])
            go_wp2_with fail
            refine bodyPost_ret (v := .tuple #[.agg #[.int .i64 0, .string ⟨#[]⟩, .slice none 0 0], .bool false]) (by simp [results, Tryd.results29, go_sem, q0, q1, q2]) rfl ?_
            refine RetRead.fail ?_ Hn.out
            repeat (first | exact B2 | refine Below.setCell ?_ (by simp <;> omega) _)
      · have hne := str_ne_nil hs1
        go_wp2_with fail
        refine bodyPost_ret (v := .tuple #[.agg #[.int .i64 0, .string ⟨#[]⟩, .slice none 0 0], .bool false]) (by simp [results, Tryd.results29, go_sem, r0, r1, r2, rl, World.cell?_alloc_lt]) rfl ?_
        refine RetRead.fail ?_ (fun y hy e => hs1 (Hkey.out y hy e).2.1)
        repeat (first | exact hb1 | refine Below.alloc ?_ (by simp <;> omega) _ | refine Below.setCell ?_ (by simp <;> omega) _)

end Go.Proofs.YtapelogbceoojaaDoor
