/-
  The walks of szRelExpr, szRelExprS: what is left of a budget behind an expression's weight. An expression as it lies in memory; nothing that was there turns.
-/
import Derived.Test.YtapelogbceoojaaDoorRE
namespace Go.Proofs.YtapelogbceoojaaDoor
open Go.RowKit
set_option linter.unusedVariables false
set_option maxRecDepth 100000

set_option maxHeartbeats 400000 in
theorem szS_any (es : List RE)
    (ih : ∀ e ∈ es, ∀ (w : World) (A : Option Addr) (c : Nat) (l : Int), RepK w A c e → 0 ≤ l → l ≤ 1048576 →
      Calls Tryd.prog 13 #[.agg #[.int .i64 e.op, .string e.name, .slice A e.kids.length c], .int .i64 l] w fun e' w' => e' = .returned (.int .i64 (restI l (wE e))) ∧ Below w.heap.size w w')
    (w : World) (v : Value) (l : Int) (hr : SlR 3 RepE w v es) (h0 : 0 ≤ l) (h1 : l ≤ 1048576) :
    Calls Tryd.prog 43 #[v, .int .i64 l] w fun e' w' => e' = .returned (.int .i64 (restI l (es.length + wL es))) ∧ Below w.heap.size w w' := by
  obtain ⟨A, c, rfl, hlen⟩ := hr.slice
  go_enter Tryd.func43, Tryd.ntmps43
  by_cases hl : l < es.length
  · go_wp2_with fail
    go_ret
    exact ⟨ret_int (restI_gt (by omega)).symm, Below.refl _ _⟩
  · go_wp2_with fail
    go_loopg [1, 5] es.length (fun g s1 s5 wr => ∃ (k : Nat) (l' : Int), k ≤ es.length ∧ g = es.length - k ∧ s5 = .int .i64 k ∧ s1 = .int .i64 l' ∧ 0 ≤ l' ∧ l' ≤ 1048576 ∧ Hid (l' + wL (es.take k) + es.length = l) ∧ Below w.heap.size w wr)
    case atStart => exact ⟨0, _, Nat.zero_le _, rfl, rfl, rfl, by omega, by omega, by show _ = _; simp [wL], Below.refl _ _⟩
    case round =>
      obtain ⟨k, l', hk, rfl, rfl, rfl, hl0, hl1, hsum, hb⟩ := hrel
      by_cases hlt : k < es.length
      · obtain ⟨b, o, A', c', rfl, hbl, c0, c1, c2, hre⟩ := RepEs.get (RepEs.le hr (Le.below hb)) hlt
        clear hr
        have hw := wL_take_succ es k hlt
        by_cases hfit : (wE es[k] : Int) ≤ l'
        · have Hr : Hid _ := restI_le hfit
          have Hw := Lib.hid hw
          clear hw
          go_wp2_with fail
          refine (ih es[k] (List.getElem_mem hlt) _ _ _ l' hre hl0 hl1).mono ?_
          rintro e' w' ⟨rfl, hb'⟩
          rw [Hr.out]
          go_wp2_with fail
          go_roundg (es.length - (k + 1))
          case measure => omega
          case rel => exact ⟨k + 1, _, by omega, rfl, by go_num, rfl, by omega, by omega, by have h1 := hsum.out; have h2 := Hw.out; show _ = _; omega, hb.trans (hb'.mono hb.size)⟩
        · have Hr : Hid _ := restI_gt (Int.not_le.1 hfit)
          have Hw := Lib.hid hw
          clear hw
          go_wp2_with fail
          refine (ih es[k] (List.getElem_mem hlt) _ _ _ l' hre hl0 hl1).mono ?_
          rintro e' w' ⟨rfl, hb'⟩
          rw [Hr.out]
          go_wp2_with fail
          go_ret
          refine ⟨ret_int (restI_gt ?_).symm, hb.trans (hb'.mono hb.size)⟩
          have h1 := hsum.out
          have h2 := Hw.out
          have h3 := wL_take_le es (k + 1)
          omega
      · go_wp2_with fail
        go_ret
        obtain rfl : k = es.length := by omega
        refine ⟨ret_int ?_, hb⟩
        have h1 := hsum.out
        rw [List.take_length] at h1
        rw [restI_le (by omega)]
        omega

set_option maxHeartbeats 400000 in
theorem szE_any (e : RE) : ∀ (w : World) (A : Option Addr) (c : Nat) (l : Int), RepK w A c e → 0 ≤ l → l ≤ 1048576 →
    Calls Tryd.prog 13 #[.agg #[.int .i64 e.op, .string e.name, .slice A e.kids.length c], .int .i64 l] w fun e' w' => e' = .returned (.int .i64 (restI l (wE e))) ∧ Below w.heap.size w w' := by
  induction e using RE.ind with | h op name kids ih => ?_
  intro w A c l ⟨hn, e2⟩ h0 h1
  simp only [RE.op, RE.name, RE.kids] at hn e2 ⊢
  have hwe : wE (.mk op name kids) = name.size + (kids.length + wL kids) := by rw [wE]
  have Hwe := Lib.hid hwe
  clear hwe
  have hb := fun (W : World) (hl : Le w W) => szS_any kids ih W (.slice A kids.length c) (l - name.size) (RepEs.le e2 hl)
  clear ih
  go_enter Tryd.func13, Tryd.ntmps13
  by_cases hl : l < name.size
  · go_wp2_with fail
    go_ret
    exact ⟨ret_int (by rw [Hwe.out, restI_gt (by omega)]), (Below.refl _ _).alloc (Nat.le_refl _) _⟩
  · by_cases hfit : ((kids.length + wL kids : Nat) : Int) ≤ l - name.size
    · have Hr : Hid _ := restI_le hfit
      go_wp2_with fail
      refine (hb _ (Le.alloc _ _) (by omega) (by omega)).mono ?_
      rintro e' w' ⟨rfl, hb'⟩
      rw [Hr.out]
      go_wp2_with fail
      go_ret
      exact ⟨ret_int (by rw [Hwe.out, restI_le (by omega)]; omega), ((Below.refl _ _).alloc (Nat.le_refl _) _).trans (hb'.mono (by simp))⟩
    · have Hr : Hid _ := restI_gt (Int.not_le.1 hfit)
      go_wp2_with fail
      refine (hb _ (Le.alloc _ _) (by omega) (by omega)).mono ?_
      rintro e' w' ⟨rfl, hb'⟩
      rw [Hr.out]
      go_wp2_with fail
      go_ret
      exact ⟨ret_int (by rw [Hwe.out, restI_gt (by omega)]), ((Below.refl _ _).alloc (Nat.le_refl _) _).trans (hb'.mono (by simp))⟩
end Go.Proofs.YtapelogbceoojaaDoor
