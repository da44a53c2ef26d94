/-
  The walks of szRelExpr, szRelExprS: what is left of a budget behind an expression's weight. An expression as it lies in memory; nothing that was there turns. The walks of toRelExpr, toRelExprS: a copy of an expression, in memory of the call's own. The walks of impl.RelExprSame and slices.EqualFunc at it: structural equality. The walks of eqRelExpr, eqRelExprS: structural equality. The walk of spec.RelExprSame: structural equality. The walks of szRule, szRuleS, toRule, toRuleS, eqRule, eqRuleS.
-/
import Derived.Test.YtfgpbnncdfcjjabGreatDoorRE
import Derived.StillTailTactics

/-! The walks of szRelExpr, szRelExprS: what is left of a budget behind an expression's weight. An expression as it lies in memory; nothing that was there turns. -/
namespace Go.Proofs.YtfgpbnncdfcjjabGreatDoor
open Go.RowKit
set_option linter.unusedVariables false
set_option maxRecDepth 100000

set_option maxHeartbeats 400000 in
theorem szS_any (es : List RE)
    (ih : ∀ e ∈ es, ∀ (w : World) (A : Option Addr) (c : Nat) (l : Int), RepK w A c e → 0 ≤ l → l ≤ 1048576 →
      Calls Tryz.prog 74 #[.agg #[.int .i64 e.op, .string e.name, .slice A e.kids.length c], .int .i64 l] w fun e' w' => e' = .returned (.int .i64 (restI l (wE e))) ∧ Below w.heap.size w w')
    (w : World) (v : Value) (l : Int) (hr : SlR 3 RepE w v es) (h0 : 0 ≤ l) (h1 : l ≤ 1048576) :
    Calls Tryz.prog 123 #[v, .int .i64 l] w fun e' w' => e' = .returned (.int .i64 (restI l (es.length + wL es))) ∧ Below w.heap.size w w' := by
  obtain ⟨A, c, rfl, hlen⟩ := hr.slice
  go_enter Tryz.func123, Tryz.ntmps123
  by_cases hl : l < es.length
  · go_wp2_with fail
    go_ret
    exact ⟨ret_int (restI_gt (by omega)).symm, Below.refl _ _⟩
  · go_wp2_with fail
    go_loopg [1, 5] es.length (fun g s1 s5 wr => ∃ (k : Nat) (l' : Int), k ≤ es.length ∧ g = es.length - k ∧ s5 = .int .i64 k ∧ s1 = .int .i64 l' ∧ 0 ≤ l' ∧ l' ≤ 1048576 ∧ Hid (l' + wL (es.take k) + es.length = l) ∧ Below w.heap.size w wr)
    case atStart => exact ⟨0, _, Nat.zero_le _, rfl, rfl, rfl, by omega, by omega, by show _ = _; simp [wL], Below.refl _ _⟩
    case round =>
      obtain ⟨k, l', hk, rfl, rfl, rfl, hl0, hl1, hsum, hb⟩ := hrel
      by_cases hlt : k < es.length
      · obtain ⟨b, o, A', c', rfl, hbl, c0, c1, c2, hre⟩ := RepEs.get (RepEs.le hr (Le.below hb)) hlt
        clear hr
        have hw := wL_take_succ es k hlt
        by_cases hfit : (wE es[k] : Int) ≤ l'
        · have Hr : Hid _ := restI_le hfit
          have Hw := Lib.hid hw
          clear hw
          go_wp2_with fail
          refine (ih es[k] (List.getElem_mem hlt) _ _ _ l' hre hl0 hl1).mono ?_
          rintro e' w' ⟨rfl, hb'⟩
          rw [Hr.out]
          go_wp2_with fail
          go_roundg (es.length - (k + 1))
          case measure => omega
          case rel => exact ⟨k + 1, _, by omega, rfl, by go_num, rfl, by omega, by omega, by have h1 := hsum.out; have h2 := Hw.out; show _ = _; omega, hb.trans (hb'.mono hb.size)⟩
        · have Hr : Hid _ := restI_gt (Int.not_le.1 hfit)
          have Hw := Lib.hid hw
          clear hw
          go_wp2_with fail
          refine (ih es[k] (List.getElem_mem hlt) _ _ _ l' hre hl0 hl1).mono ?_
          rintro e' w' ⟨rfl, hb'⟩
          rw [Hr.out]
          go_wp2_with fail
          go_ret
          refine ⟨ret_int (restI_gt ?_).symm, hb.trans (hb'.mono hb.size)⟩
          have h1 := hsum.out
          have h2 := Hw.out
          have h3 := wL_take_le es (k + 1)
          omega
      · go_wp2_with fail
        go_ret
        obtain rfl : k = es.length := by omega
        refine ⟨ret_int ?_, hb⟩
        have h1 := hsum.out
        rw [List.take_length] at h1
        rw [restI_le (by omega)]
        omega

set_option maxHeartbeats 400000 in
theorem szE_any (e : RE) : ∀ (w : World) (A : Option Addr) (c : Nat) (l : Int), RepK w A c e → 0 ≤ l → l ≤ 1048576 →
    Calls Tryz.prog 74 #[.agg #[.int .i64 e.op, .string e.name, .slice A e.kids.length c], .int .i64 l] w fun e' w' => e' = .returned (.int .i64 (restI l (wE e))) ∧ Below w.heap.size w w' := by
  induction e using RE.ind with | h op name kids ih => ?_
  intro w A c l ⟨hn, e2⟩ h0 h1
  simp only [RE.op, RE.name, RE.kids] at hn e2 ⊢
  have hwe : wE (.mk op name kids) = name.size + (kids.length + wL kids) := by rw [wE]
  have Hwe := Lib.hid hwe
  clear hwe
  have hb := fun (W : World) (hl : Le w W) => szS_any kids ih W (.slice A kids.length c) (l - name.size) (RepEs.le e2 hl)
  clear ih
  go_enter Tryz.func74, Tryz.ntmps74
  by_cases hl : l < name.size
  · go_wp2_with fail
    go_ret
    exact ⟨ret_int (by rw [Hwe.out, restI_gt (by omega)]), (Below.refl _ _).alloc (Nat.le_refl _) _⟩
  · by_cases hfit : ((kids.length + wL kids : Nat) : Int) ≤ l - name.size
    · have Hr : Hid _ := restI_le hfit
      go_wp2_with fail
      refine (hb _ (Le.alloc _ _) (by omega) (by omega)).mono ?_
      rintro e' w' ⟨rfl, hb'⟩
      rw [Hr.out]
      go_wp2_with fail
      go_ret
      exact ⟨ret_int (by rw [Hwe.out, restI_le (by omega)]; omega), ((Below.refl _ _).alloc (Nat.le_refl _) _).trans (hb'.mono (by simp))⟩
    · have Hr : Hid _ := restI_gt (Int.not_le.1 hfit)
      go_wp2_with fail
      refine (hb _ (Le.alloc _ _) (by omega) (by omega)).mono ?_
      rintro e' w' ⟨rfl, hb'⟩
      rw [Hr.out]
      go_wp2_with fail
      go_ret
      exact ⟨ret_int (by rw [Hwe.out, restI_gt (by omega)]), ((Below.refl _ _).alloc (Nat.le_refl _) _).trans (hb'.mono (by simp))⟩
end Go.Proofs.YtfgpbnncdfcjjabGreatDoor

/-! The walks of toRelExpr, toRelExprS: a copy of an expression, in memory of the call's own. -/
namespace Go.Proofs.YtfgpbnncdfcjjabGreatDoor
open Go.RowKit
set_option linter.unusedVariables false
set_option maxRecDepth 100000

def RetE (w : World) (x : RE) (e : Ending) (w' : World) : Prop := ∃ A c, e = .returned (.agg #[.int .i64 x.op, .string x.name, .slice A x.kids.length c]) ∧ RepK (above w.heap.size w') A c x ∧ Below w.heap.size w w'
def RetEs (w : World) (xs : List RE) (e : Ending) (w' : World) : Prop := ∃ v, e = .returned v ∧ SlR 3 RepE (above w.heap.size w') v xs ∧ Below w.heap.size w w'

theorem Tryz.infoE : (Tryz.prog.info? 57).map (fun i => (i.zero, i.size, i.bytes)) = some (some (.agg #[.int .i64 0, .string ByteArray.empty, .slice none 0 0]), 3, 48) := by kernel_rfl

set_option maxHeartbeats 400000 in
theorem toS_any (es : List RE) (hlen : es.length ≤ 1048576)
    (ih : ∀ e ∈ es, ∀ (w : World) (A : Option Addr) (c : Nat), RepK w A c e → Calls Tryz.prog 84 #[.agg #[.int .i64 e.op, .string e.name, .slice A e.kids.length c]] w (RetE w e))
    (w : World) (v : Value) (hr : SlR 3 RepE w v es) :
    Calls Tryz.prog 126 #[v] w (RetEs w es) := by
  obtain ⟨A, c, rfl, _⟩ := hr.slice
  have hmk := run_make_any (P := Tryz.prog) 55 57 _ 3 48 Tryz.underlying55 Tryz.infoE es.length (by omega) (by omega)
  go_enter Tryz.func126, Tryz.ntmps126
  go_wp2_with fail
  clear hmk
  go_loopg [4] es.length (fun g s4 wr => ∃ (k : Nat) (F : Nat → Value), k ≤ es.length ∧ g = es.length - k ∧ s4 = .int .i64 k ∧ Below w.heap.size w wr ∧
    wr.rowIs w.heap.size 57 (es.length * 3) F ∧ ∀ i (h : i < k) (h' : i < es.length), RepE (above (w.heap.size + 1) wr) (fun j => F (i * 3 + j)) es[i])
  case atStart =>
    obtain ⟨F, hF⟩ := rowIs_made_any w #[.int .i64 0, .string ByteArray.empty, .slice none 0 0] (es.length * 3) 57
    exact ⟨0, F, Nat.zero_le _, rfl, rfl, (Below.refl _ _).alloc (Nat.le_refl _) _, hF, fun i h => absurd h (Nat.not_lt_zero _)⟩
  case round =>
    obtain ⟨k, F, hk, rfl, rfl, hb, hF, hall⟩ := hrel
    by_cases hlt : k < es.length
    · obtain ⟨b, o, A0, c0, rfl, hbl, k0, k1, k2, hre⟩ := RepEs.get (RepEs.le hr (Le.below hb)) hlt
      clear hr
      have Hall := Lib.hid hall
      clear hall
      go_wp2_with fail
      refine (ih es[k] (List.getElem_mem hlt) _ _ _ hre).mono ?_
      rintro e' w' ⟨A', c', rfl, hrep, hb'⟩
      have hF' : w'.rowIs w.heap.size 57 (es.length * 3) F := hF.of_block (hb'.block _ hF.lt)
      have f0 := hF'.cell (i := k * 3) (by omega)
      have f1 := hF'.cell (i := k * 3 + 1) (by omega)
      have f2 := hF'.cell (i := k * 3 + 2) (by omega)
      have g0 := hF'.frozen (k * 3)
      have g1 := hF'.frozen (k * 3 + 1)
      have g2 := hF'.frozen (k * 3 + 2)
      clear k0 k1 k2 hre
      go_wp2_with fail
      go_roundg (es.length - (k + 1))
      case measure => omega
      case rel =>
        refine ⟨k + 1, _, by omega, rfl, by go_num, below_set3 (hb.trans (hb'.mono hb.size)) (Nat.le_refl _) _ _ _, rowIs_set3 hF' k _ _ _, fun i hi hi' => ?_⟩
        have hle := above_set3 (w.heap.size + 1) w' (b := w.heap.size) (o0 := k * 3) (o1 := k * 3 + 1) (o2 := k * 3 + 2) (by omega) (.int .i64 es[k].op) (.string es[k].name) (.slice A' es[k].kids.length c')
        by_cases e : i = k
        · subst e
          refine RepK.toE ((hrep.le (Le.above_mono (by have := hF.lt; omega) _)).le hle) fun j hj => ?_
          match j, hj with
          | 0, _ => exact upd3_0 _ _ _ _ _
          | 1, _ => exact upd3_1 _ _ _ _ _
          | 2, _ => exact upd3_2 _ _ _ _ _
        · exact RepE.congr (RepE.le hle _ _ (RepE.le (Le.above_le _ (Le.below hb')) _ _ (Hall.out i (by omega) hi'))) fun j hj => (upd3_other _ _ _ _ hj e).symm
    · go_wp2_with fail
      go_ret
      obtain rfl : k = es.length := by omega
      refine ⟨_, rfl, ⟨_, _, rfl, by omega, fun i hi => ⟨w.heap.size, 0, rfl, fun j => F (i * 3 + j), fun j hj => ?_, RepE.le (Le.above_mono (by omega) _) _ _ (hall i hi hi)⟩⟩, hb⟩
      rw [Nat.zero_add]
      exact cell_above_of (Nat.le_refl _) (hF.cell (by omega))

set_option maxHeartbeats 400000 in
theorem toE_any (e : RE) : wE e ≤ 1048576 → ∀ (w : World) (A : Option Addr) (c : Nat), RepK w A c e → Calls Tryz.prog 84 #[.agg #[.int .i64 e.op, .string e.name, .slice A e.kids.length c]] w (RetE w e) := by
  induction e using RE.ind with | h op name kids ih => ?_
  intro hw w A c ⟨hn, e2⟩
  have hwe : wE (.mk op name kids) = name.size + (kids.length + wL kids) := by rw [wE]
  simp only [RE.op, RE.name, RE.kids] at hn e2 ⊢
  have hS := fun (W : World) (hl : Le w W) => toS_any kids (by omega) (fun e he => ih e he (by have := wE_mem he; omega)) W (.slice A kids.length c) (RepEs.le e2 hl)
  clear ih hwe hw
  go_enter Tryz.func84, Tryz.ntmps84
  go_wp2_with fail
  refine (hS _ (((Le.alloc _ _).to_alloc _).to_alloc _)).mono ?_
  rintro e' w' ⟨v, rfl, hrep, hb⟩
  obtain ⟨A', c', rfl, _⟩ := hrep.slice
  obtain ⟨hc, hf⟩ := bcell hb
  have hz : w.heap.size + 3 ≤ w'.heap.size := by have := hb.size; simp at this; omega
  go_wp2_with fail
  refine bodyPost_ret (v := .agg #[.int .i64 op, .string name, .slice A' kids.length c']) (by simp [results, Tryz.results84, go_sem, hc]) rfl ?_
  refine ⟨A', c', rfl, ⟨hn, ?_⟩, ?_⟩
  · refine RepEs.le hrep (Le.trans ?_ (Le.above_mono (show w.heap.size ≤ w.heap.size + 3 by omega) _))
    repeat (refine Le.to_above_setCell ?_ (by simp))
    exact Le.above_mono (by simp) _
  · repeat (refine Below.setCell ?_ (by simp <;> omega) _)
    refine Below.trans ?_ (hb.mono (B' := w.heap.size) (by simp <;> omega))
    repeat (refine Below.alloc ?_ (by simp <;> omega) _)
    exact Below.refl _ _
end Go.Proofs.YtfgpbnncdfcjjabGreatDoor

/-! The walks of impl.RelExprSame and slices.EqualFunc at it: structural equality. -/
namespace Go.Proofs.YtfgpbnncdfcjjabGreatDoor
open Go.RowKit
set_option linter.unusedVariables false
set_option maxRecDepth 100000

theorem take_eq_of {xs ys : List RE} {k : Nat} (hx : k < xs.length) (hy : k < ys.length) (h : xs.take k = ys.take k) (he : xs[k] = ys[k]) : xs.take (k + 1) = ys.take (k + 1) := by
  rw [List.take_succ_eq_append_getElem hx, List.take_succ_eq_append_getElem hy, h, he]

theorem re_ext {a b : RE} : a = b ↔ a.op = b.op ∧ a.name = b.name ∧ a.kids = b.kids := by
  obtain ⟨o1, n1, k1⟩ := a
  obtain ⟨o2, n2, k2⟩ := b
  simp [RE.op, RE.name, RE.kids]

end Go.Proofs.YtfgpbnncdfcjjabGreatDoor

/-! The walks of eqRelExpr, eqRelExprS: structural equality. -/
namespace Go.Proofs.YtfgpbnncdfcjjabGreatDoor
open Go.RowKit
set_option linter.unusedVariables false
set_option maxRecDepth 100000

set_option maxHeartbeats 400000 in
theorem eqEs_any (xs : List RE)
    (ih : ∀ e ∈ xs, ∀ (w : World) (A A' : Option Addr) (c c' : Nat) (y : RE), RepK w A c e → RepK w A' c' y → Calls Tryz.prog 86 #[.agg #[.int .i64 e.op, .string e.name, .slice A e.kids.length c], .agg #[.int .i64 y.op, .string y.name, .slice A' y.kids.length c']] w (RetB w (sameB e y)))
    (w : World) (v u : Value) (ys : List RE) (hr : SlR 3 RepE w v xs) (hr' : SlR 3 RepE w u ys) :
    Calls Tryz.prog 127 #[v, u] w (RetB w (samesB xs ys)) := by
  obtain ⟨A, c, rfl, hm⟩ := hr.slice
  obtain ⟨A', c', rfl, hm'⟩ := hr'.slice
  go_enter Tryz.func127, Tryz.ntmps127
  by_cases hlen : xs.length = ys.length
  · have hne : ((xs.length : Int) != (ys.length : Int)) = false := by simp [hlen]
    have Hlen := Lib.hid hlen
    clear hlen
    go_wp2_with fail
    go_loopg [5] xs.length (fun g s17 wr => ∃ k : Nat, k ≤ xs.length ∧ g = xs.length - k ∧ s17 = .int .i64 k ∧ Hid (xs.take k = ys.take k) ∧ Below w.heap.size w wr)
    case atStart => exact ⟨0, Nat.zero_le _, rfl, rfl, rfl, Below.refl _ _⟩
    case round =>
      obtain ⟨k, hk, rfl, rfl, hpre, hb⟩ := hrel
      by_cases hlt : k < xs.length
      · have hlt' : k < ys.length := by have := Hlen.out; omega
        obtain ⟨b, o, A0, c0, rfl, hbl, k0, k1, k2, hre⟩ := RepEs.get (RepEs.le hr (Le.below hb)) hlt
        obtain ⟨b', o', A1, c1, rfl, hbl', d0, d1, d2, hre'⟩ := RepEs.get (RepEs.le hr' (Le.below hb)) hlt'
        clear hr hr'
        go_wp2_with fail
        go_still_tail 8, (by kernel_rfl)
        go_wp2_with fail
        refine (ih xs[k] (List.getElem_mem hlt) _ _ _ _ _ ys[k] (hre.le (Le.drew _)) (hre'.le (Le.drew _))).mono ?_
        rintro e' w' ⟨rfl, hb'⟩
        have hb'' := hb.drew.trans (hb'.mono hb.size)
        clear k0 k1 k2 d0 d1 d2 hre hre' hbl hbl'
        go_wp2_with fail
        · go_ret
          refine ⟨ret_bool ?_, hb''⟩
          have hs : sameB xs[k] ys[k] = false := by simpa using ‹(!sameB xs[k] ys[k]) = true›
          rw [eq_comm, samesB_false]
          intro he
          rw [sameB_false] at hs
          exact hs (by simp only [he])
        · go_roundg (xs.length - (k + 1))
          case measure => omega
          case rel =>
            have hs : sameB xs[k] ys[k] = true := by simpa using ‹(!sameB xs[k] ys[k]) = false›
            exact ⟨k + 1, by omega, rfl, by go_num, take_eq_of hlt hlt' hpre.out (sameB_iff.1 hs), hb''⟩
      · go_wp2_with fail
        go_ret
        refine ⟨ret_bool ?_, hb⟩
        obtain rfl : k = xs.length := by omega
        rw [eq_comm, samesB_iff]
        have h := hpre.out
        rw [List.take_length, Hlen.out, List.take_length] at h
        exact h
  · have hne : ((xs.length : Int) != (ys.length : Int)) = true := by simp; omega
    go_wp2_with fail
    go_ret
    refine ⟨ret_bool ?_, Below.refl _ _⟩
    rw [eq_comm, samesB_false]
    rintro rfl
    exact hlen rfl

set_option maxHeartbeats 400000 in
theorem eqE_any (x : RE) : ∀ (w : World) (A A' : Option Addr) (c c' : Nat) (y : RE), RepK w A c x → RepK w A' c' y →
    Calls Tryz.prog 86 #[.agg #[.int .i64 x.op, .string x.name, .slice A x.kids.length c], .agg #[.int .i64 y.op, .string y.name, .slice A' y.kids.length c']] w (RetB w (sameB x y)) := by
  induction x using RE.ind with | h op name kids ih => ?_
  intro w A A' c c' y hx hy
  have hS := fun (W : World) (hl : Le w W) => eqEs_any kids ih W _ _ y.kids (RepEs.le hx.2 hl) (RepEs.le hy.2 hl)
  clear ih hx hy
  obtain ⟨op', name', kids'⟩ := y
  simp only [RE.op, RE.name, RE.kids] at hS ⊢
  have hb2 : Below w.heap.size w ((w.alloc (.cells #[.int .i64 op, .string name, .slice A kids.length c] 57)).alloc (.cells #[.int .i64 op', .string name', .slice A' kids'.length c'] 57)) :=
    (((Below.refl _ _).alloc (Nat.le_refl _) _).alloc (by simp) _)
  have Hb2 := Lib.hid hb2
  clear hb2
  go_enter Tryz.func86, Tryz.ntmps86
  by_cases ho : op = op'
  · subst ho
    by_cases hn : name = name'
    · subst hn
      go_wp2_with fail
      refine (hS _ (((Le.refl _).to_alloc _).to_alloc _)).mono ?_
      rintro e' w' ⟨rfl, hb'⟩
      have hs : sameB (.mk op name kids) (.mk op name kids') = samesB kids kids' := by
        rw [Bool.eq_iff_iff, sameB_iff, samesB_iff]
        simp
      have Hs := Lib.hid hs
      clear hs
      cases h : samesB kids kids' <;> (go_wp2_with fail; go_ret; exact ⟨ret_bool (by rw [Hs.out, h]), Hb2.out.trans (hb'.mono (by simp; omega))⟩)
    · have hnb := str_eq_false hn
      clear hS
      go_wp2_with fail
      go_ret
      refine ⟨ret_bool ?_, Hb2.out⟩
      rw [eq_comm, sameB_false]
      simp [hn]
  · have hob : ((op : Int) != op') = true := by simpa using ho
    clear hS
    go_wp2_with fail
    go_ret
    refine ⟨ret_bool ?_, Hb2.out⟩
    rw [eq_comm, sameB_false]
    simp [ho]
end Go.Proofs.YtfgpbnncdfcjjabGreatDoor

/-! The walk of spec.RelExprSame: structural equality. -/
namespace Go.Proofs.YtfgpbnncdfcjjabGreatDoor
open Go.RowKit
set_option linter.unusedVariables false
set_option maxRecDepth 100000

end Go.Proofs.YtfgpbnncdfcjjabGreatDoor

/-! The walks of szRule, szRuleS, toRule, toRuleS, eqRule, eqRuleS. -/
namespace Go.Proofs.YtfgpbnncdfcjjabGreatDoor
open Go.RowKit
set_option linter.unusedVariables false
set_option maxRecDepth 100000

set_option maxHeartbeats 400000 in
theorem szU_any (r : RU) (w : World) (A : Option Addr) (c : Nat) (l : Int) (hr : RepK w A c r.e) (h0 : 0 ≤ l) (h1 : l ≤ 1048576) :
    Calls Tryz.prog 36 #[.agg #[.int .i64 r.kind, .int .i64 r.e.op, .string r.e.name, .slice A r.e.kids.length c], .int .i64 l] w fun e' w' => e' = .returned (.int .i64 (restI l (wU r))) ∧ Below w.heap.size w w' := by
  have hb0 : Below w.heap.size w (w.alloc (.cells #[.int .i64 r.kind, .int .i64 r.e.op, .string r.e.name, .slice A r.e.kids.length c] 70)) := (Below.refl _ _).alloc (Nat.le_refl _) _
  have Hb0 := Lib.hid hb0
  clear hb0
  have hd := szE_any r.e _ A c l (hr.le (Le.below Hb0.out)) h0 h1
  clear hr
  go_enter Tryz.func36, Tryz.ntmps36
  by_cases hfit : (wE r.e : Int) ≤ l
  · have Hr : Hid _ := restI_le hfit
    go_wp2_with fail
    refine hd.mono ?_
    rintro e' w' ⟨rfl, hb'⟩
    rw [Hr.out]
    go_wp2_with fail
    go_ret
    exact ⟨ret_int (by unfold wU; rw [Hr.out]), Hb0.out.trans (hb'.mono (by simp))⟩
  · have Hr : Hid _ := restI_gt (Int.not_le.1 hfit)
    go_wp2_with fail
    refine hd.mono ?_
    rintro e' w' ⟨rfl, hb'⟩
    rw [Hr.out]
    go_wp2_with fail
    go_ret
    exact ⟨ret_int (by unfold wU; rw [Hr.out]), Hb0.out.trans (hb'.mono (by simp))⟩

set_option maxHeartbeats 400000 in
theorem szUs_any (rs : List RU) (w : World) (v : Value) (l : Int) (hr : SlR 4 RepU w v rs) (h0 : 0 ≤ l) (h1 : l ≤ 1048576) :
    Calls Tryz.prog 9 #[v, .int .i64 l] w fun e' w' => e' = .returned (.int .i64 (restI l (rs.length + wSum wU rs))) ∧ Below w.heap.size w w' := by
  obtain ⟨A, c, rfl, hlen⟩ := hr.slice
  go_enter Tryz.func9, Tryz.ntmps9
  by_cases hl : l < rs.length
  · go_wp2_with fail
    go_ret
    exact ⟨ret_int (restI_gt (by omega)).symm, Below.refl _ _⟩
  · go_wp2_with fail
    go_loopg [1, 5] rs.length (fun g s1 s5 wr => ∃ (k : Nat) (l' : Int), k ≤ rs.length ∧ g = rs.length - k ∧ s5 = .int .i64 k ∧ s1 = .int .i64 l' ∧ 0 ≤ l' ∧ l' ≤ 1048576 ∧ Hid (l' + wSum wU (rs.take k) + rs.length = l) ∧ Below w.heap.size w wr)
    case atStart => exact ⟨0, _, Nat.zero_le _, rfl, rfl, rfl, by omega, by omega, by show _ = _; simp [wSum], Below.refl _ _⟩
    case round =>
      obtain ⟨k, l', hk, rfl, rfl, rfl, hl0, hl1, hsum, hb⟩ := hrel
      by_cases hlt : k < rs.length
      · obtain ⟨b, o, A', c', rfl, hbl, c0, c1, c2, c3, hre⟩ := RepUs.get (RepUs.le hr (Le.below hb)) hlt
        clear hr
        have hw := wSum_take_succ wU rs k hlt
        by_cases hfit : (wU rs[k] : Int) ≤ l'
        · have Hr : Hid _ := restI_le hfit
          have Hw := Lib.hid hw
          clear hw
          go_wp2_with fail
          refine (szU_any rs[k] _ _ _ l' hre hl0 hl1).mono ?_
          rintro e' w' ⟨rfl, hb'⟩
          rw [Hr.out]
          go_wp2_with fail
          go_roundg (rs.length - (k + 1))
          case measure => omega
          case rel => exact ⟨k + 1, _, by omega, rfl, by go_num, rfl, by omega, by omega, by have h1 := hsum.out; have h2 := Hw.out; show _ = _; omega, hb.trans (hb'.mono hb.size)⟩
        · have Hr : Hid _ := restI_gt (Int.not_le.1 hfit)
          have Hw := Lib.hid hw
          clear hw
          go_wp2_with fail
          refine (szU_any rs[k] _ _ _ l' hre hl0 hl1).mono ?_
          rintro e' w' ⟨rfl, hb'⟩
          rw [Hr.out]
          go_wp2_with fail
          go_ret
          refine ⟨ret_int (restI_gt ?_).symm, hb.trans (hb'.mono hb.size)⟩
          have h1 := hsum.out
          have h2 := Hw.out
          have h3 := wSum_take_le wU rs (k + 1)
          omega
      · go_wp2_with fail
        go_ret
        obtain rfl : k = rs.length := by omega
        refine ⟨ret_int ?_, hb⟩
        have h1 := hsum.out
        rw [List.take_length] at h1
        rw [restI_le (by omega)]
        omega

theorem takeU_eq_of {α : Type} {xs ys : List α} {k : Nat} (hx : k < xs.length) (hy : k < ys.length) (h : xs.take k = ys.take k) (he : xs[k] = ys[k]) : xs.take (k + 1) = ys.take (k + 1) := by
  rw [List.take_succ_eq_append_getElem hx, List.take_succ_eq_append_getElem hy, h, he]

def RetU (w : World) (x : RU) (e : Ending) (w' : World) : Prop := ∃ A c, e = .returned (.agg #[.int .i64 x.kind, .int .i64 x.e.op, .string x.e.name, .slice A x.e.kids.length c]) ∧ RepK (above w.heap.size w') A c x.e ∧ Below w.heap.size w w'
def RetUs (w : World) (xs : List RU) (e : Ending) (w' : World) : Prop := ∃ v, e = .returned v ∧ SlR 4 RepU (above w.heap.size w') v xs ∧ Below w.heap.size w w'

theorem Tryz.infoU : (Tryz.prog.info? 59).map (fun i => (i.zero, i.size, i.bytes)) = some (some (.agg #[.int .i64 0, .int .i64 0, .string ByteArray.empty, .slice none 0 0]), 4, 56) := by kernel_rfl

set_option maxHeartbeats 400000 in
theorem toU_any (r : RU) (hw : wE r.e ≤ 1048576) (w : World) (A : Option Addr) (c : Nat) (hr : RepK w A c r.e) :
    Calls Tryz.prog 42 #[.agg #[.int .i64 r.kind, .int .i64 r.e.op, .string r.e.name, .slice A r.e.kids.length c]] w (RetU w r) := by
  have hS := fun (W : World) (hl : Le w W) => toE_any r.e hw W A c (hr.le hl)
  clear hr
  go_enter Tryz.func42, Tryz.ntmps42
  go_wp2_with fail
  refine (hS _ (((Le.alloc _ _).to_alloc _).to_alloc _)).mono ?_
  rintro e' w' ⟨A', c', rfl, hrep, hb⟩
  obtain ⟨hc, hf⟩ := bcell hb
  have hz : w.heap.size + 3 ≤ w'.heap.size := by have := hb.size; simp at this; omega
  go_wp2_with fail
  refine bodyPost_ret (v := .agg #[.int .i64 r.kind, .int .i64 r.e.op, .string r.e.name, .slice A' r.e.kids.length c']) (by simp [results, Tryz.results42, go_sem, hc]) rfl ?_
  refine ⟨A', c', rfl, hrep.le ?_, ?_⟩
  · refine Le.trans ?_ (Le.above_mono (show w.heap.size ≤ w.heap.size + 3 by omega) _)
    repeat (refine Le.to_above_setCell ?_ (by simp))
    exact Le.above_mono (by simp) _
  · repeat (refine Below.setCell ?_ (by simp <;> omega) _)
    refine Below.trans ?_ (hb.mono (B' := w.heap.size) (by simp <;> omega))
    repeat (refine Below.alloc ?_ (by simp <;> omega) _)
    exact Below.refl _ _

set_option maxHeartbeats 800000 in
theorem toUs_any (rs : List RU) (hlen : rs.length ≤ 1048576) (hw : ∀ r ∈ rs, wE r.e ≤ 1048576) (w : World) (v : Value) (hr : SlR 4 RepU w v rs) :
    Calls Tryz.prog 13 #[v] w (RetUs w rs) := by
  obtain ⟨A, c, rfl, _⟩ := hr.slice
  have hmk := run_make_any (P := Tryz.prog) 36 59 _ 4 56 Tryz.underlying36 Tryz.infoU rs.length (by omega) (by omega)
  go_enter Tryz.func13, Tryz.ntmps13
  go_wp2_with fail
  clear hmk
  go_loopg [4] rs.length (fun g s4 wr => ∃ (k : Nat) (F : Nat → Value), k ≤ rs.length ∧ g = rs.length - k ∧ s4 = .int .i64 k ∧ Below w.heap.size w wr ∧
    wr.rowIs w.heap.size 59 (rs.length * 4) F ∧ ∀ i (h : i < k) (h' : i < rs.length), RepU (above (w.heap.size + 1) wr) (fun j => F (i * 4 + j)) rs[i])
  case atStart =>
    obtain ⟨F, hF⟩ := rowIs_made_any w #[.int .i64 0, .int .i64 0, .string ByteArray.empty, .slice none 0 0] (rs.length * 4) 59
    exact ⟨0, F, Nat.zero_le _, rfl, rfl, (Below.refl _ _).alloc (Nat.le_refl _) _, hF, fun i h => absurd h (Nat.not_lt_zero _)⟩
  case round =>
    obtain ⟨k, F, hk, rfl, rfl, hb, hF, hall⟩ := hrel
    by_cases hlt : k < rs.length
    · obtain ⟨b, o, A0, c0, rfl, hbl, k0, k1, k2, k3, hre⟩ := RepUs.get (RepUs.le hr (Le.below hb)) hlt
      clear hr
      have Hall := Lib.hid hall
      clear hall
      go_wp2_with fail
      refine (toU_any rs[k] (hw _ (List.getElem_mem hlt)) _ _ _ hre).mono ?_
      rintro e' w' ⟨A', c', rfl, hrep, hb'⟩
      have hF' : w'.rowIs w.heap.size 59 (rs.length * 4) F := hF.of_block (hb'.block _ hF.lt)
      have f0 := hF'.cell (i := k * 4) (by omega)
      have f1 := hF'.cell (i := k * 4 + 1) (by omega)
      have f2 := hF'.cell (i := k * 4 + 2) (by omega)
      have f3 := hF'.cell (i := k * 4 + 3) (by omega)
      have g0 := hF'.frozen (k * 4)
      have g1 := hF'.frozen (k * 4 + 1)
      have g2 := hF'.frozen (k * 4 + 2)
      have g3 := hF'.frozen (k * 4 + 3)
      clear k0 k1 k2 k3 hre
      go_wp2_with fail
      go_roundg (rs.length - (k + 1))
      case measure => omega
      case rel =>
        refine ⟨k + 1, _, by omega, rfl, by go_num, below_set4 (hb.trans (hb'.mono hb.size)) (Nat.le_refl _) _ _ _ _, rowIs_set4 hF' k _ _ _ _, fun i hi hi' => ?_⟩
        have hle := above_set4 (w.heap.size + 1) w' (b := w.heap.size) (o0 := k * 4) (o1 := k * 4 + 1) (o2 := k * 4 + 2) (o3 := k * 4 + 3) (by omega) (.int .i64 rs[k].kind) (.int .i64 rs[k].e.op) (.string rs[k].e.name) (.slice A' rs[k].e.kids.length c')
        by_cases e : i = k
        · subst e
          exact repU_K.2 ⟨A', c', upd4_0 _ _ _ _ _ _, upd4_1 _ _ _ _ _ _, upd4_2 _ _ _ _ _ _, upd4_3 _ _ _ _ _ _, (hrep.le (Le.above_mono (by have := hF.lt; omega) _)).le hle⟩
        · exact RepU.congr (RepU.le hle (RepU.le (Le.above_le _ (Le.below hb')) (Hall.out i (by omega) hi'))) fun j hj => (upd4_other _ _ _ _ _ hj e).symm
    · go_wp2_with fail
      go_ret
      obtain rfl : k = rs.length := by omega
      refine ⟨_, rfl, ⟨_, _, rfl, by omega, fun i hi => ⟨w.heap.size, 0, rfl, fun j => F (i * 4 + j), fun j hj => ?_, RepU.le (Le.above_mono (by omega) _) (hall i hi hi)⟩⟩, hb⟩
      rw [Nat.zero_add]
      exact cell_above_of (Nat.le_refl _) (hF.cell (by omega))

set_option maxHeartbeats 400000 in
theorem eqU_any (x y : RU) (w : World) (A A' : Option Addr) (c c' : Nat) (hx : RepK w A c x.e) (hy : RepK w A' c' y.e) :
    Calls Tryz.prog 46 #[.agg #[.int .i64 x.kind, .int .i64 x.e.op, .string x.e.name, .slice A x.e.kids.length c], .agg #[.int .i64 y.kind, .int .i64 y.e.op, .string y.e.name, .slice A' y.e.kids.length c']] w (RetB w (sameU x y)) := by
  have hb2 : Below w.heap.size w ((w.alloc (.cells #[.int .i64 x.kind, .int .i64 x.e.op, .string x.e.name, .slice A x.e.kids.length c] 59)).alloc (.cells #[.int .i64 y.kind, .int .i64 y.e.op, .string y.e.name, .slice A' y.e.kids.length c'] 59)) :=
    (((Below.refl _ _).alloc (Nat.le_refl _) _).alloc (by simp) _)
  have Hb2 := Lib.hid hb2
  clear hb2
  have hd := fun (W : World) (hl : Le w W) => eqE_any x.e W A A' c c' y.e (hx.le hl) (hy.le hl)
  clear hx hy
  have hs := Lib.hid (sameU_eq x y)
  go_enter Tryz.func46, Tryz.ntmps46
  by_cases hk : x.kind = y.kind
  · have hkb : ((x.kind : Int) != y.kind) = false := by simp [hk]
    have Hk := Lib.hid hk
    clear hk
    go_wp2_with fail
    refine (hd _ (((Le.alloc _ _).to_alloc _))).mono ?_
    rintro e' w' ⟨rfl, hb'⟩
    have hs' : sameU x y = sameB x.e y.e := by rw [hs.out, Hk.out]; simp
    have Hs := Lib.hid hs'
    clear hs'
    have hb3 := Lib.hid (Hb2.out.trans (hb'.mono (by simp; omega)))
    cases h : sameB x.e y.e <;> (go_wp2_with fail; go_ret; exact ⟨ret_bool (by rw [Hs.out, h]), hb3.out⟩)
  · have hkb : ((x.kind : Int) != y.kind) = true := by simpa using hk
    clear hd
    go_wp2_with fail
    go_ret
    refine ⟨ret_bool ?_, Hb2.out⟩
    rw [hs.out]
    simp [hk]

set_option maxHeartbeats 400000 in
theorem eqUs_any (xs ys : List RU) (w : World) (v u : Value) (hr : SlR 4 RepU w v xs) (hr' : SlR 4 RepU w u ys) :
    Calls Tryz.prog 18 #[v, u] w (RetB w (sameUs xs ys)) := by
  obtain ⟨A, c, rfl, hm⟩ := hr.slice
  obtain ⟨A', c', rfl, hm'⟩ := hr'.slice
  go_enter Tryz.func18, Tryz.ntmps18
  by_cases hlen : xs.length = ys.length
  · have hne : ((xs.length : Int) != (ys.length : Int)) = false := by simp [hlen]
    have Hlen := Lib.hid hlen
    clear hlen
    go_wp2_with fail
    go_loopg [5] xs.length (fun g s17 wr => ∃ k : Nat, k ≤ xs.length ∧ g = xs.length - k ∧ s17 = .int .i64 k ∧ Hid (xs.take k = ys.take k) ∧ Below w.heap.size w wr)
    case atStart => exact ⟨0, Nat.zero_le _, rfl, rfl, rfl, Below.refl _ _⟩
    case round =>
      obtain ⟨k, hk, rfl, rfl, hpre, hb⟩ := hrel
      by_cases hlt : k < xs.length
      · have hlt' : k < ys.length := by have := Hlen.out; omega
        obtain ⟨b, o, A0, c0, rfl, hbl, k0, k1, k2, k3, hre⟩ := RepUs.get (RepUs.le hr (Le.below hb)) hlt
        obtain ⟨b', o', A1, c1, rfl, hbl', d0, d1, d2, d3, hre'⟩ := RepUs.get (RepUs.le hr' (Le.below hb)) hlt'
        clear hr hr'
        go_wp2_with fail
        go_still_tail 8, (by kernel_rfl)
        go_wp2_with fail
        refine (eqU_any xs[k] ys[k] _ _ _ _ _ (hre.le (Le.drew _)) (hre'.le (Le.drew _))).mono ?_
        rintro e' w' ⟨rfl, hb'⟩
        have hb'' := hb.drew.trans (hb'.mono hb.size)
        clear k0 k1 k2 k3 d0 d1 d2 d3 hre hre' hbl hbl'
        go_wp2_with fail
        · go_ret
          refine ⟨ret_bool ?_, hb''⟩
          have hs : sameU xs[k] ys[k] = false := by simpa using ‹(!sameU xs[k] ys[k]) = true›
          rw [eq_comm, sameUs_false]
          intro he
          rw [sameU_false] at hs
          exact hs (by simp only [he])
        · go_roundg (xs.length - (k + 1))
          case measure => omega
          case rel =>
            have hs : sameU xs[k] ys[k] = true := by simpa using ‹(!sameU xs[k] ys[k]) = false›
            exact ⟨k + 1, by omega, rfl, by go_num, takeU_eq_of hlt hlt' hpre.out (sameU_iff.1 hs), hb''⟩
      · go_wp2_with fail
        go_ret
        refine ⟨ret_bool ?_, hb⟩
        obtain rfl : k = xs.length := by omega
        rw [eq_comm, sameUs_iff]
        have h := hpre.out
        rw [List.take_length, Hlen.out, List.take_length] at h
        exact h
  · have hne : ((xs.length : Int) != (ys.length : Int)) = true := by simp; omega
    go_wp2_with fail
    go_ret
    refine ⟨ret_bool ?_, Below.refl _ _⟩
    rw [eq_comm, sameUs_false]
    rintro rfl
    exact hlen rfl
end Go.Proofs.YtfgpbnncdfcjjabGreatDoor
