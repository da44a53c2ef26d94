/-
  The walks of toRelExpr, toRelExprS: a copy of an expression, in memory of the call's own.
-/
import Derived.Test.YtapelogbceoojaaDoorRE
namespace Go.Proofs.YtapelogbceoojaaDoor
open Go.RowKit
set_option linter.unusedVariables false
set_option maxRecDepth 100000

def RetE (w : World) (x : RE) (e : Ending) (w' : World) : Prop := ∃ A c, e = .returned (.agg #[.int .i64 x.op, .string x.name, .slice A x.kids.length c]) ∧ RepK (above w.heap.size w') A c x ∧ Below w.heap.size w w'
def RetEs (w : World) (xs : List RE) (e : Ending) (w' : World) : Prop := ∃ v, e = .returned v ∧ SlR 3 RepE (above w.heap.size w') v xs ∧ Below w.heap.size w w'

theorem Tryd.infoE : (Tryd.prog.info? 29).map (fun i => (i.zero, i.size, i.bytes)) = some (some (.agg #[.int .i64 0, .string ByteArray.empty, .slice none 0 0]), 3, 48) := by kernel_rfl

set_option maxHeartbeats 400000 in
theorem toS_any (es : List RE) (hlen : es.length ≤ 1048576)
    (ih : ∀ e ∈ es, ∀ (w : World) (A : Option Addr) (c : Nat), RepK w A c e → Calls Tryd.prog 15 #[.agg #[.int .i64 e.op, .string e.name, .slice A e.kids.length c]] w (RetE w e))
    (w : World) (v : Value) (hr : SlR 3 RepE w v es) :
    Calls Tryd.prog 46 #[v] w (RetEs w es) := by
  obtain ⟨A, c, rfl, _⟩ := hr.slice
  have hmk := run_make_any (P := Tryd.prog) 27 29 _ 3 48 Tryd.underlying27 Tryd.infoE es.length (by omega) (by omega)
  go_enter Tryd.func46, Tryd.ntmps46
  go_wp2_with fail
  clear hmk
  go_loopg [4] es.length (fun g s4 wr => ∃ (k : Nat) (F : Nat → Value), k ≤ es.length ∧ g = es.length - k ∧ s4 = .int .i64 k ∧ Below w.heap.size w wr ∧
    wr.rowIs w.heap.size 29 (es.length * 3) F ∧ ∀ i (h : i < k) (h' : i < es.length), RepE (above (w.heap.size + 1) wr) (fun j => F (i * 3 + j)) es[i])
  case atStart =>
    obtain ⟨F, hF⟩ := rowIs_made_any w #[.int .i64 0, .string ByteArray.empty, .slice none 0 0] (es.length * 3) 29
    exact ⟨0, F, Nat.zero_le _, rfl, rfl, (Below.refl _ _).alloc (Nat.le_refl _) _, hF, fun i h => absurd h (Nat.not_lt_zero _)⟩
  case round =>
    obtain ⟨k, F, hk, rfl, rfl, hb, hF, hall⟩ := hrel
    by_cases hlt : k < es.length
    · obtain ⟨b, o, A0, c0, rfl, hbl, k0, k1, k2, hre⟩ := RepEs.get (RepEs.le hr (Le.below hb)) hlt
      clear hr
      have Hall := Lib.hid hall
      clear hall
      go_wp2_with fail
      refine (ih es[k] (List.getElem_mem hlt) _ _ _ hre).mono ?_
      rintro e' w' ⟨A', c', rfl, hrep, hb'⟩
      have hF' : w'.rowIs w.heap.size 29 (es.length * 3) F := hF.of_block (hb'.block _ hF.lt)
      have f0 := hF'.cell (i := k * 3) (by omega)
      have f1 := hF'.cell (i := k * 3 + 1) (by omega)
      have f2 := hF'.cell (i := k * 3 + 2) (by omega)
      have g0 := hF'.frozen (k * 3)
      have g1 := hF'.frozen (k * 3 + 1)
      have g2 := hF'.frozen (k * 3 + 2)
      clear k0 k1 k2 hre
      go_wp2_with fail
      go_roundg (es.length - (k + 1))
      case measure => omega
      case rel =>
        refine ⟨k + 1, _, by omega, rfl, by go_num, below_set3 (hb.trans (hb'.mono hb.size)) (Nat.le_refl _) _ _ _, rowIs_set3 hF' k _ _ _, fun i hi hi' => ?_⟩
        have hle := above_set3 (w.heap.size + 1) w' (b := w.heap.size) (o0 := k * 3) (o1 := k * 3 + 1) (o2 := k * 3 + 2) (by omega) (.int .i64 es[k].op) (.string es[k].name) (.slice A' es[k].kids.length c')
        by_cases e : i = k
        · subst e
          refine RepK.toE ((hrep.le (Le.above_mono (by have := hF.lt; omega) _)).le hle) fun j hj => ?_
          match j, hj with
          | 0, _ => exact upd3_0 _ _ _ _ _
          | 1, _ => exact upd3_1 _ _ _ _ _
          | 2, _ => exact upd3_2 _ _ _ _ _
        · exact RepE.congr (RepE.le hle _ _ (RepE.le (Le.above_le _ (Le.below hb')) _ _ (Hall.out i (by omega) hi'))) fun j hj => (upd3_other _ _ _ _ hj e).symm
    · go_wp2_with fail
      go_ret
      obtain rfl : k = es.length := by omega
      refine ⟨_, rfl, ⟨_, _, rfl, by omega, fun i hi => ⟨w.heap.size, 0, rfl, fun j => F (i * 3 + j), fun j hj => ?_, RepE.le (Le.above_mono (by omega) _) _ _ (hall i hi hi)⟩⟩, hb⟩
      rw [Nat.zero_add]
      exact cell_above_of (Nat.le_refl _) (hF.cell (by omega))

set_option maxHeartbeats 400000 in
theorem toE_any (e : RE) : wE e ≤ 1048576 → ∀ (w : World) (A : Option Addr) (c : Nat), RepK w A c e → Calls Tryd.prog 15 #[.agg #[.int .i64 e.op, .string e.name, .slice A e.kids.length c]] w (RetE w e) := by
  induction e using RE.ind with | h op name kids ih => ?_
  intro hw w A c ⟨hn, e2⟩
  have hwe : wE (.mk op name kids) = name.size + (kids.length + wL kids) := by rw [wE]
  simp only [RE.op, RE.name, RE.kids] at hn e2 ⊢
  have hS := fun (W : World) (hl : Le w W) => toS_any kids (by omega) (fun e he => ih e he (by have := wE_mem he; omega)) W (.slice A kids.length c) (RepEs.le e2 hl)
  clear ih hwe hw
  go_enter Tryd.func15, Tryd.ntmps15
  go_wp2_with fail
  refine (hS _ (((Le.alloc _ _).to_alloc _).to_alloc _)).mono ?_
  rintro e' w' ⟨v, rfl, hrep, hb⟩
  obtain ⟨A', c', rfl, _⟩ := hrep.slice
  obtain ⟨hc, hf⟩ := bcell hb
  have hz : w.heap.size + 3 ≤ w'.heap.size := by have := hb.size; simp at this; omega
  go_wp2_with fail
  refine bodyPost_ret (v := .agg #[.int .i64 op, .string name, .slice A' kids.length c']) (by simp [results, Tryd.results15, go_sem, hc]) rfl ?_
  refine ⟨A', c', rfl, ⟨hn, ?_⟩, ?_⟩
  · refine RepEs.le hrep (Le.trans ?_ (Le.above_mono (show w.heap.size ≤ w.heap.size + 3 by omega) _))
    repeat (refine Le.to_above_setCell ?_ (by simp))
    exact Le.above_mono (by simp) _
  · repeat (refine Below.setCell ?_ (by simp <;> omega) _)
    refine Below.trans ?_ (hb.mono (B' := w.heap.size) (by simp <;> omega))
    repeat (refine Below.alloc ?_ (by simp <;> omega) _)
    exact Below.refl _ _
end Go.Proofs.YtapelogbceoojaaDoor
