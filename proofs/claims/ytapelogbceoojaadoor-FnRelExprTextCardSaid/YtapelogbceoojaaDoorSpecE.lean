/-
  The walk of spec.RelExprSame: structural equality.
-/
import Derived.Test.YtapelogbceoojaaDoorSameE
import Derived.StillTailTactics
namespace Go.Proofs.YtapelogbceoojaaDoor
open Go.RowKit
set_option linter.unusedVariables false
set_option maxRecDepth 100000

set_option maxHeartbeats 400000 in
theorem specSame_any (x : RE) : ∀ (w : World) (A A' : Option Addr) (c c' : Nat) (y : RE), RepK w A c x → RepK w A' c' y →
    Calls Tryd.prog 20 #[.agg #[.int .i64 x.op, .string x.name, .slice A x.kids.length c], .agg #[.int .i64 y.op, .string y.name, .slice A' y.kids.length c']] w (RetB w (sameB x y)) := by
  induction x using RE.ind with | h op name kids ih => ?_
  intro w A A' c c' y hx hy
  obtain ⟨op', name', kids'⟩ := y
  have hxs := hx.2
  have hys := hy.2
  have hk := hx.kids_le
  have hk' := hy.kids_le
  clear hx hy
  simp only [RE.op, RE.name, RE.kids] at hxs hys hk hk' ⊢
  go_enter Tryd.func20, Tryd.ntmps20
  have hb2 : Below w.heap.size w ((w.alloc (.cells #[.int .i64 op, .string name, .slice A kids.length c] 29)).alloc (.cells #[.int .i64 op', .string name', .slice A' kids'.length c'] 29)) :=
    (((Below.refl _ _).alloc (Nat.le_refl _) _).alloc (by simp) _)
  by_cases ho : op = op'
  · subst ho
    by_cases hn : name = name'
    · subst hn
      by_cases hl : kids.length = kids'.length
      · have hln : ((kids.length : Int) != (kids'.length : Int)) = false := by simp [hl]
        have Hl := Lib.hid hl
        clear hl
        have Hb2 := Lib.hid hb2
        clear hb2
        go_wp2_with fail
        go_loopg [5] kids.length (fun g s5 wr => ∃ k : Nat, k ≤ kids.length ∧ g = kids.length - k ∧ s5 = .int .i64 k ∧ Hid (kids.take k = kids'.take k) ∧
          Below (w.heap.size + 2) ((w.alloc (.cells #[.int .i64 op, .string name, .slice A kids.length c] 29)).alloc (.cells #[.int .i64 op, .string name, .slice A' kids'.length c'] 29)) wr)
        case atStart => exact ⟨0, Nat.zero_le _, rfl, rfl, rfl, Below.refl _ _⟩
        case round =>
          obtain ⟨k, hk1, rfl, rfl, hpre, hb⟩ := hrel
          have hw := Hb2.out.trans (hb.mono (by omega))
          have hsz := hb.size
          simp only [World.size_alloc] at hsz
          have p2 : wr.cell? ⟨w.heap.size, 2, none⟩ = some (.slice A kids.length c) := by
            rw [hb.cell (p := ⟨w.heap.size, 2, none⟩) (by simp)]; go_simp
          have q2 : wr.cell? ⟨w.heap.size + 1, 2, none⟩ = some (.slice A' kids'.length c') := by
            rw [hb.cell (p := ⟨w.heap.size + 1, 2, none⟩) (by simp)]; go_simp
          by_cases hlt : k < kids.length
          · have hlt' : k < kids'.length := by have := Hl.out; omega
            obtain ⟨b, o, A0, c0, rfl, hbl, k0, k1, k2, hre⟩ := RepEs.get (RepEs.le hxs (Le.below hw)) hlt
            obtain ⟨b', o', A1, c1, rfl, hbl', d0, d1, d2, hre'⟩ := RepEs.get (RepEs.le hys (Le.below hw)) hlt'
            clear hxs hys
            go_wp2_with fail
            go_still_tail 10, (by kernel_rfl)
            go_wp2_with fail
            refine (ih kids[k] (List.getElem_mem hlt) _ _ _ _ _ kids'[k] (hre.le (Le.drew _)) (hre'.le (Le.drew _))).mono ?_
            rintro e' w' ⟨rfl, hb'⟩
            have hb'' := hb.drew.trans (hb'.mono (by simp; omega))
            have hbw := hw.drew.trans (hb'.mono (by simp; omega))
            clear k0 k1 k2 d0 d1 d2 hre hre' hbl hbl' p2 q2
            go_wp2_with fail
            · go_ret
              refine ⟨ret_bool ?_, hbw⟩
              have hs : sameB kids[k] kids'[k] = false := by simpa using ‹(!sameB kids[k] kids'[k]) = true›
              rw [eq_comm, sameB_false]
              simp only [ne_eq, RE.mk.injEq, true_and]
              intro he
              rw [sameB_false] at hs
              exact hs (by simp only [he])
            · go_roundg (kids.length - (k + 1))
              case measure => omega
              case rel =>
                have hs : sameB kids[k] kids'[k] = true := by simpa using ‹(!sameB kids[k] kids'[k]) = false›
                exact ⟨k + 1, by omega, rfl, by go_num, take_eq_of hlt hlt' hpre.out (sameB_iff.1 hs), hb''⟩
          · go_wp2_with fail
            go_ret
            refine ⟨ret_bool ?_, hw⟩
            obtain rfl : k = kids.length := by omega
            rw [eq_comm, sameB_iff]
            have h := hpre.out
            rw [List.take_length, Hl.out, List.take_length] at h
            rw [h]
      · have hln : ((kids.length : Int) != (kids'.length : Int)) = true := by simp; omega
        go_wp2_with fail
        go_ret
        refine ⟨ret_bool ?_, hb2⟩
        rw [eq_comm, sameB_false]
        simp only [ne_eq, RE.mk.injEq, true_and]
        rintro rfl
        exact hl rfl
    · have hnb := str_eq_false hn
      go_wp2_with fail
      go_ret
      refine ⟨ret_bool ?_, hb2⟩
      rw [eq_comm, sameB_false]
      simp [hn]
  · have hob : ((op : Int) != op') = true := by simpa using ho
    go_wp2_with fail
    go_ret
    refine ⟨ret_bool ?_, hb2⟩
    rw [eq_comm, sameB_false]
    simp [ho]
end Go.Proofs.YtapelogbceoojaaDoor
