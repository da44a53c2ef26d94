/-
  What a valid expression means for a valid candidate; the walks of spec.l7Eval and impl.evalRel. The walks of spec.EvalRelExpr and impl.EvalRelExpr. How many pairs a relation has: the library's count of bits, and the walk of CountRel. The first broken rule: plainly, and the walks of fulfilled, brokenRule, BrokenRule and of l7Holds, l7Broken, spec.BrokenRule. The walks of spec.BrokenRule and impl.BrokenRule.
-/
import Derived.Test.YtfgpbnncdfcjjabGreatDoorRelA
import Derived.Test.YtfgpbnncdfcjjabGreatDoorWVal
import Derived.Test.YtfgpbnncdfcjjabGreatDoorRlA
import Derived.StillTailTactics

/-! What a valid expression means for a valid candidate; the walks of spec.l7Eval and impl.evalRel. The walks of spec.EvalRelExpr and impl.EvalRelExpr. -/
/-! What a valid expression means for a valid candidate; the walks of spec.l7Eval and impl.evalRel. -/
namespace Go.Proofs.YtfgpbnncdfcjjabGreatDoor
open Go.RowKit
set_option linter.unusedVariables false
set_option maxRecDepth 100000

def evR (p : Prg) (x : Ex) (n : Nat) : RE → Rel
  | .mk op name [] => pairB p x (evs p) (nmI name)
  | .mk op name [a] => if op = 6 then inR (evR p x n a) else clR n (evR p x n a)
  | .mk op name [a, b] => if op = 2 then unR (evR p x n a) (evR p x n b) else if op = 3 then meR (evR p x n a) (evR p x n b) else if op = 4 then miR (evR p x n a) (evR p x n b) else coR n (evR p x n a) (evR p x n b)
  | .mk op name (_ :: _ :: _ :: _) => fun _ _ => false
theorem RetRel.push {w w1 w2 : World} {R : Rel} {n : Nat} {A : Option Addr} {c : Nat} (h : RowI w2 w1.heap.size (.slice A n c) (relN R n)) (hb : Below w.heap.size w w1) (hb2 : Below w1.heap.size w1 w2) : RetRel w R n (.returned (.slice A n c)) w2 :=
  ⟨A, c, rfl, h.rebase fun g hg => Nat.le_trans hb.size (h.blk hg).1, hb.trans (hb2.mono hb.size)⟩

set_option maxHeartbeats 8000000 in
theorem l7Eval_any (p : Prg) (x : Ex) (hok : CandOk p x) (n : Nat) (hnn : (evs p).length = n) (m : Nat) : ∀ (e : RE) (w : World) (vp : Value) (A B A' : Option Addr) (c d c' : Nat), Shp m e → PrgS w vp p → RepX w A c B d x → RepK w A' c' e →
    Calls Tryz.prog 38 #[vp, .agg #[.slice A x.from_.length c, .slice B x.order.length d], .agg #[.int .i64 e.op, .string e.name, .slice A' e.kids.length c']] w (RetRel w (evR p x n e) n) := by
  have hn16 : n ≤ 16 := by have := cand_len hok.1; omega
  have HrelO := Lib.hid (fun (j : Nat) (hj : j < 10) W vp A B c d hp hx => (specRel_any p x hok j hj W vp A B c d hp hx).mono fun e w' h => RetRel.of (n := n) (R := pairB p x (evs p) j) (by rw [← hnn]; exact h))
  induction m with
  | zero => intro e w vp A B A' c d c' h; exact h.elim
  | succ m ih =>
    intro e w vp A B A' c d c' hv hp hx he
    obtain ⟨op, name, kids⟩ := e
    have hks := he.2
    have hnm := he.1
    clear he
    obtain ⟨⟨h1, h2, h3⟩, h4⟩ := hv
    simp only [RE.op, RE.name, RE.kids] at h1 h2 h3 h4 hks hnm ⊢
    obtain ⟨Ap, cp, rfl, _⟩ := SlR.slice hp
    have hIH := Lib.hid ih
    clear ih
    obtain ⟨w0, hw0⟩ : ∃ w0, w0 = (w.alloc (.cells #[.slice A x.from_.length c, .slice B x.order.length d] 34)).alloc (.cells #[.int .i64 op, .string name, .slice A' kids.length c'] 57) := ⟨_, rfl⟩
    have bx0 : Box2 w0 w.heap.size (.slice A x.from_.length c) (.slice B x.order.length d) := by rw [hw0]; exact (Box2.new _ _ _ _).le (Le.alloc _ _)
    have be0 : Box3 w0 (w.heap.size + 1) (.int .i64 op) (.string name) (.slice A' kids.length c') := by rw [hw0]; simpa using Box3.new (w.alloc (.cells #[.slice A x.from_.length c, .slice B x.order.length d] 34)) (.int .i64 op) (.string name) (.slice A' kids.length c') 57
    have hB0 : Below w.heap.size w w0 := by rw [hw0]; exact ((Below.refl _ _).alloc (Nat.le_refl _) _).alloc (by simp) _
    have hp0 := PrgS.le hp (Le.below hB0)
    have hx0 := hx.le (Le.below hB0)
    have hk0 := RepEs.le hks (Le.below hB0)
    have hlf := hx.1.len
    have hlo := hx.2.len
    obtain ⟨x0, x1, _⟩ := bx0.all
    obtain ⟨e0, e1, e2, _⟩ := be0.all
    clear hp hx hks
    rcases kids with _ | ⟨a, _ | ⟨a', _ | ⟨a'', tl⟩⟩⟩
    · obtain ⟨rfl, _⟩ | ⟨_, h⟩ | ⟨_, h⟩ := kidsI_cases h1
      case inr.inl => simp at h
      case inr.inr => simp at h
      obtain ⟨hj, hnme⟩ := nmI_at (h2.1 rfl)
      have hc := HrelO.out (nmI name) hj w0 _ A B c d hp0 hx0
      rw [← hnme] at hc
      have Hev : Hid (evR p x n (.mk 1 name []) = pairB p x (evs p) (nmI name)) := by show _ = _; rw [evR]
      clear h2 h3 hnme
      simp only [List.length_nil] at hw0
      go_enter Tryz.func38, Tryz.ntmps38
      go_wp2_with fail
      rw [← hw0]
      clear hw0
      go_wp2_with fail
      refine hc.mono ?_
      rintro f1 w1 ⟨A1, c1, rfl, hr1, hb1⟩
      go_wp2_with fail
      go_ret
      rw [Hev.out]
      exact RetRel.push hr1 hB0 hb1
    · have hop : op = 6 ∨ op = 7 := by
        rcases kidsI_cases h1 with ⟨_, h⟩ | ⟨h, _⟩ | ⟨_, h⟩
        · simp at h
        · exact h
        · simp at h
      obtain ⟨b, o, A0, c0, rfl, hbl, k0, k1, k2, hre⟩ := RepEs.get hk0 (i := 0) (by simp)
      simp only [Nat.zero_mul, Nat.add_zero, List.getElem_cons_zero] at k0 k1 k2 hre
      have hc := fun W (hl : Le w0 W) => hIH.out a W _ A B A0 c d c0 (h4 a (by simp)) (PrgS.le hp0 hl) (hx0.le hl) (hre.le hl)
      have Hc := Lib.hid hc
      have Hev : Hid (evR p x n (.mk op name [a]) = if op = 6 then inR (evR p x n a) else clR n (evR p x n a)) := by show _ = _; rw [evR]
      generalize evR p x n a = Ra at Hev Hc
      have Hbe := Lib.hid be0
      have HB0 := Lib.hid hB0
      clear hc h1 h2 h3 h4 hIH HrelO be0 bx0 hB0 hre hp0 hx0 hk0
      simp only [List.length_cons, List.length_nil, Nat.zero_add] at hw0
      rcases hop with rfl | rfl
      all_goals
        go_enter Tryz.func38, Tryz.ntmps38
        go_wp2_with fail
        rw [← hw0]
        clear hw0
        go_wp2_with fail
        go_still_tail 6, (by kernel_rfl)
        go_wp2_with fail
        refine (Hc.out _ (Le.drew _)).mono ?_
        rintro f1 w1 ⟨A1, c1, rfl, hr1, hb1⟩
        have hb1' := below_of_drew hb1
        have hB1 := HB0.out.trans (hb1'.mono HB0.out.size)
        have hI1 := row_rel hr1
        obtain ⟨q0, _⟩ := (Hbe.out.le (Le.below hb1')).all
        clear x0 x1 e0 e1 e2 k0 k1 k2
        go_wp2_with fail
        first
          | refine (l2Inverse_any _ n hn16 w1 A1 c1 hI1).mono ?_
          | refine (l2Closure_any _ n hn16 w1 A1 c1 hI1).mono ?_
        rintro f2 w2 ⟨A2, c2, rfl, hr2, hb2⟩
        go_wp2_with fail
        go_ret
        rw [Hev.out]
        try simp only [if_true]
        exact RetRel.push hr2 hB1 hb2
    · have hop : op = 2 ∨ op = 3 ∨ op = 4 ∨ op = 5 := by
        rcases kidsI_cases h1 with ⟨_, h⟩ | ⟨_, h⟩ | ⟨h, _⟩
        · simp at h
        · simp at h
        · exact h
      obtain ⟨b, o, A0, c0, e9, hbl, k0, k1, k2, hre⟩ := RepEs.get hk0 (i := 0) (by simp)
      subst e9
      obtain ⟨b', o', A9, c9, e9, hbl', l0, l1, l2, hre'⟩ := RepEs.get hk0 (i := 1) (by simp)
      injection e9 with e9
      injection e9 with e9 e10
      subst e9 e10
      simp only [Nat.zero_mul, Nat.one_mul, Nat.add_zero, List.getElem_cons_zero, List.getElem_cons_succ] at k0 k1 k2 hre l0 l1 l2 hre'
      have hc := fun W (hl : Le w0 W) => hIH.out a W _ A B A0 c d c0 (h4 a (by simp)) (PrgS.le hp0 hl) (hx0.le hl) (hre.le hl)
      have hc' := fun W (hl : Le w0 W) => hIH.out a' W _ A B A9 c d c9 (h4 a' (by simp)) (PrgS.le hp0 hl) (hx0.le hl) (hre'.le hl)
      have Hc := Lib.hid hc
      have Hc' := Lib.hid hc'
      have Hev : Hid (evR p x n (.mk op name [a, a']) = if op = 2 then unR (evR p x n a) (evR p x n a') else if op = 3 then meR (evR p x n a) (evR p x n a') else if op = 4 then miR (evR p x n a) (evR p x n a') else coR n (evR p x n a) (evR p x n a')) := by show _ = _; rw [evR]
      generalize evR p x n a = Ra at Hev Hc
      generalize evR p x n a' = Rb at Hev Hc'
      have Hbe := Lib.hid be0
      have Hbx := Lib.hid bx0
      have HB0 := Lib.hid hB0
      have Hl := Lib.hid (And.intro l0 (And.intro l1 l2))
      clear hc hc' h1 h2 h3 h4 hIH HrelO be0 bx0 hB0 hre hre' hp0 hx0 hk0 l0 l1 l2
      simp only [List.length_cons, List.length_nil, Nat.zero_add, Nat.reduceAdd] at hw0
      rcases hop with rfl | rfl | rfl | rfl
      all_goals
        go_enter Tryz.func38, Tryz.ntmps38
        go_wp2_with fail
        rw [← hw0]
        clear hw0
        go_wp2_with fail
        go_still_tail 6, (by kernel_rfl)
        go_wp2_with fail
        refine (Hc.out _ (Le.drew _)).mono ?_
        rintro f1 w1 ⟨A1, c1, rfl, hr1, hb1⟩
        have hb1' := below_of_drew hb1
        have hB1 := HB0.out.trans (hb1'.mono HB0.out.size)
        have HI1 := Lib.hid (row_rel hr1)
        obtain ⟨q0, q1, q2, _⟩ := (Hbe.out.le (Le.below hb1')).all
        obtain ⟨y0, y1, _⟩ := (Hbx.out.le (Le.below hb1')).all
        have l0 := Le.below hb1' _ _ Hl.out.1
        have l1 := Le.below hb1' _ _ Hl.out.2.1
        have l2 := Le.below hb1' _ _ Hl.out.2.2
        have hbw : b < w1.heap.size := Nat.lt_of_lt_of_le hbl hb1'.size
        clear x0 x1 e0 e1 e2 k0 k1 k2
        go_wp2_with fail
        go_still_tail 6, (by kernel_rfl)
        go_wp2_with fail
        refine (Hc'.out _ ((Le.below hb1').trans (Le.drew _))).mono ?_
        rintro f2 w2 ⟨A2, c2, rfl, hr2, hb2⟩
        have hb2' := below_of_drew hb2
        have hB2 := hB1.trans (hb2'.mono hB1.size)
        have hI2 := row_rel hr2
        have hI12 := HI1.out.le (Le.below hb2')
        obtain ⟨r0, _⟩ := (Hbe.out.le ((Le.below hb1').trans (Le.below hb2'))).all
        clear q0 q1 q2 y0 y1 l0 l1 l2
        go_wp2_with fail
        first
          | refine (l2Union_any _ _ n hn16 w2 A1 A2 c1 c2 hI12 hI2).mono ?_
          | refine (l2Meet_any _ _ n hn16 w2 A1 A2 c1 c2 hI12 hI2).mono ?_
          | refine (l2Minus_any _ _ n hn16 w2 A1 A2 c1 c2 hI12 hI2).mono ?_
          | refine (l2Compose_any _ _ n hn16 w2 A1 A2 c1 c2 hI12 hI2).mono ?_
        rintro f3 w3 ⟨A3, c3, rfl, hr3, hb3⟩
        go_wp2_with fail
        go_ret
        rw [Hev.out]
        try simp only [if_true]
        exact RetRel.push hr3 hB2 hb3
    · rcases kidsI_cases h1 with ⟨_, h⟩ | ⟨_, h⟩ | ⟨_, h⟩
      · simp at h
      · simp at h
      · simp at h

set_option maxHeartbeats 8000000 in
theorem evalRel_any (p : Prg) (x : Ex) (hok : CandOk p x) (n : Nat) (hnn : (evs p).length = n) (m : Nat) : ∀ (e : RE) (w : World) (vp : Value) (A B A' : Option Addr) (c d c' : Nat), Shp m e → PrgS w vp p → Room w vp p → RepX w A c B d x → RepK w A' c' e →
    Calls Tryz.prog 71 #[vp, .agg #[.slice A x.from_.length c, .slice B x.order.length d], .agg #[.int .i64 e.op, .string e.name, .slice A' e.kids.length c']] w (RetRel w (evR p x n e) n) := by
  have hn16 : n ≤ 16 := by have := cand_len hok.1; omega
  have HrelO := Lib.hid (fun (j : Nat) (hj : j < 10) W vp A B c d hp hr hx => (relOf_any p x hok j hj W vp A B c d hp hr hx).mono fun e w' h => RetRel.of (n := n) (R := pairB p x (evs p) j) (by rw [← hnn]; exact h))
  induction m with
  | zero => intro e w vp A B A' c d c' h; exact h.elim
  | succ m ih =>
    intro e w vp A B A' c d c' hv hp hr hx he
    obtain ⟨op, name, kids⟩ := e
    have hks := he.2
    have hnm := he.1
    clear he
    obtain ⟨⟨h1, h2, h3⟩, h4⟩ := hv
    simp only [RE.op, RE.name, RE.kids] at h1 h2 h3 h4 hks hnm ⊢
    obtain ⟨Ap, cp, rfl, _⟩ := SlR.slice hp
    have hIH := Lib.hid ih
    clear ih
    obtain ⟨w0, hw0⟩ : ∃ w0, w0 = (w.alloc (.cells #[.slice A x.from_.length c, .slice B x.order.length d] 34)).alloc (.cells #[.int .i64 op, .string name, .slice A' kids.length c'] 57) := ⟨_, rfl⟩
    have bx0 : Box2 w0 w.heap.size (.slice A x.from_.length c) (.slice B x.order.length d) := by rw [hw0]; exact (Box2.new _ _ _ _).le (Le.alloc _ _)
    have be0 : Box3 w0 (w.heap.size + 1) (.int .i64 op) (.string name) (.slice A' kids.length c') := by rw [hw0]; simpa using Box3.new (w.alloc (.cells #[.slice A x.from_.length c, .slice B x.order.length d] 34)) (.int .i64 op) (.string name) (.slice A' kids.length c') 57
    have hB0 : Below w.heap.size w w0 := by rw [hw0]; exact ((Below.refl _ _).alloc (Nat.le_refl _) _).alloc (by simp) _
    have hp0 := PrgS.le hp (Le.below hB0)
    have hr0 := hr.le hp (Le.below hB0)
    have hx0 := hx.le (Le.below hB0)
    have hk0 := RepEs.le hks (Le.below hB0)
    have hlf := hx.1.len
    have hlo := hx.2.len
    obtain ⟨x0, x1, _⟩ := bx0.all
    obtain ⟨e0, e1, e2, _⟩ := be0.all
    clear hp hx hks hr
    rcases kids with _ | ⟨a, _ | ⟨a', _ | ⟨a'', tl⟩⟩⟩
    · obtain ⟨rfl, _⟩ | ⟨_, h⟩ | ⟨_, h⟩ := kidsI_cases h1
      case inr.inl => simp at h
      case inr.inr => simp at h
      obtain ⟨hj, hnme⟩ := nmI_at (h2.1 rfl)
      have hc := HrelO.out (nmI name) hj w0 _ A B c d hp0 hr0 hx0
      rw [← hnme] at hc
      have Hev : Hid (evR p x n (.mk 1 name []) = pairB p x (evs p) (nmI name)) := by show _ = _; rw [evR]
      clear h2 h3 hnme
      simp only [List.length_nil] at hw0
      go_enter Tryz.func71, Tryz.ntmps71
      go_wp2_with fail
      rw [← hw0]
      clear hw0
      go_wp2_with fail
      refine hc.mono ?_
      rintro f1 w1 ⟨A1, c1, rfl, hr1, hb1⟩
      go_wp2_with fail
      go_ret
      rw [Hev.out]
      exact RetRel.push hr1 hB0 hb1
    · have hop : op = 6 ∨ op = 7 := by
        rcases kidsI_cases h1 with ⟨_, h⟩ | ⟨h, _⟩ | ⟨_, h⟩
        · simp at h
        · exact h
        · simp at h
      obtain ⟨b, o, A0, c0, rfl, hbl, k0, k1, k2, hre⟩ := RepEs.get hk0 (i := 0) (by simp)
      simp only [Nat.zero_mul, Nat.add_zero, List.getElem_cons_zero] at k0 k1 k2 hre
      have hc := fun W (hl : Le w0 W) => hIH.out a W _ A B A0 c d c0 (h4 a (by simp)) (PrgS.le hp0 hl) (hr0.le hp0 hl) (hx0.le hl) (hre.le hl)
      have Hc := Lib.hid hc
      have Hev : Hid (evR p x n (.mk op name [a]) = if op = 6 then inR (evR p x n a) else clR n (evR p x n a)) := by show _ = _; rw [evR]
      generalize evR p x n a = Ra at Hev Hc
      have Hbe := Lib.hid be0
      have HB0 := Lib.hid hB0
      clear hc h1 h2 h3 h4 hIH HrelO be0 bx0 hB0 hre hp0 hx0 hk0 hr0
      simp only [List.length_cons, List.length_nil, Nat.zero_add] at hw0
      rcases hop with rfl | rfl
      all_goals
        go_enter Tryz.func71, Tryz.ntmps71
        go_wp2_with fail
        rw [← hw0]
        clear hw0
        go_wp2_with fail
        go_still_tail 6, (by kernel_rfl)
        go_wp2_with fail
        refine (Hc.out _ (Le.drew _)).mono ?_
        rintro f1 w1 ⟨A1, c1, rfl, hr1, hb1⟩
        have hb1' := below_of_drew hb1
        have hB1 := HB0.out.trans (hb1'.mono HB0.out.size)
        have hI1 := row_rel hr1
        obtain ⟨q0, _⟩ := (Hbe.out.le (Le.below hb1')).all
        clear x0 x1 e0 e1 e2 k0 k1 k2
        go_wp2_with fail
        first
          | refine (imInverse_any _ n hn16 w1 A1 c1 hI1).mono ?_
          | refine (imClosure_any _ n hn16 w1 A1 c1 hI1).mono ?_
        rintro f2 w2 ⟨A2, c2, rfl, hr2, hb2⟩
        go_wp2_with fail
        go_ret
        rw [Hev.out]
        try simp only [if_true]
        exact RetRel.push hr2 hB1 hb2
    · have hop : op = 2 ∨ op = 3 ∨ op = 4 ∨ op = 5 := by
        rcases kidsI_cases h1 with ⟨_, h⟩ | ⟨_, h⟩ | ⟨h, _⟩
        · simp at h
        · simp at h
        · exact h
      obtain ⟨b, o, A0, c0, e9, hbl, k0, k1, k2, hre⟩ := RepEs.get hk0 (i := 0) (by simp)
      subst e9
      obtain ⟨b', o', A9, c9, e9, hbl', l0, l1, l2, hre'⟩ := RepEs.get hk0 (i := 1) (by simp)
      injection e9 with e9
      injection e9 with e9 e10
      subst e9 e10
      simp only [Nat.zero_mul, Nat.one_mul, Nat.add_zero, List.getElem_cons_zero, List.getElem_cons_succ] at k0 k1 k2 hre l0 l1 l2 hre'
      have hc := fun W (hl : Le w0 W) => hIH.out a W _ A B A0 c d c0 (h4 a (by simp)) (PrgS.le hp0 hl) (hr0.le hp0 hl) (hx0.le hl) (hre.le hl)
      have hc' := fun W (hl : Le w0 W) => hIH.out a' W _ A B A9 c d c9 (h4 a' (by simp)) (PrgS.le hp0 hl) (hr0.le hp0 hl) (hx0.le hl) (hre'.le hl)
      have Hc := Lib.hid hc
      have Hc' := Lib.hid hc'
      have Hev : Hid (evR p x n (.mk op name [a, a']) = if op = 2 then unR (evR p x n a) (evR p x n a') else if op = 3 then meR (evR p x n a) (evR p x n a') else if op = 4 then miR (evR p x n a) (evR p x n a') else coR n (evR p x n a) (evR p x n a')) := by show _ = _; rw [evR]
      generalize evR p x n a = Ra at Hev Hc
      generalize evR p x n a' = Rb at Hev Hc'
      have Hbe := Lib.hid be0
      have Hbx := Lib.hid bx0
      have HB0 := Lib.hid hB0
      have Hl := Lib.hid (And.intro l0 (And.intro l1 l2))
      clear hc hc' h1 h2 h3 h4 hIH HrelO be0 bx0 hB0 hre hre' hp0 hx0 hk0 l0 l1 l2 hr0
      simp only [List.length_cons, List.length_nil, Nat.zero_add, Nat.reduceAdd] at hw0
      rcases hop with rfl | rfl | rfl | rfl
      all_goals
        go_enter Tryz.func71, Tryz.ntmps71
        go_wp2_with fail
        rw [← hw0]
        clear hw0
        go_wp2_with fail
        go_still_tail 6, (by kernel_rfl)
        go_wp2_with fail
        refine (Hc.out _ (Le.drew _)).mono ?_
        rintro f1 w1 ⟨A1, c1, rfl, hr1, hb1⟩
        have hb1' := below_of_drew hb1
        have hB1 := HB0.out.trans (hb1'.mono HB0.out.size)
        have HI1 := Lib.hid (row_rel hr1)
        obtain ⟨q0, q1, q2, _⟩ := (Hbe.out.le (Le.below hb1')).all
        obtain ⟨y0, y1, _⟩ := (Hbx.out.le (Le.below hb1')).all
        have l0 := Le.below hb1' _ _ Hl.out.1
        have l1 := Le.below hb1' _ _ Hl.out.2.1
        have l2 := Le.below hb1' _ _ Hl.out.2.2
        have hbw : b < w1.heap.size := Nat.lt_of_lt_of_le hbl hb1'.size
        clear x0 x1 e0 e1 e2 k0 k1 k2
        go_wp2_with fail
        go_still_tail 6, (by kernel_rfl)
        go_wp2_with fail
        refine (Hc'.out _ ((Le.below hb1').trans (Le.drew _))).mono ?_
        rintro f2 w2 ⟨A2, c2, rfl, hr2, hb2⟩
        have hb2' := below_of_drew hb2
        have hB2 := hB1.trans (hb2'.mono hB1.size)
        have hI2 := row_rel hr2
        have hI12 := HI1.out.le (Le.below hb2')
        obtain ⟨r0, _⟩ := (Hbe.out.le ((Le.below hb1').trans (Le.below hb2'))).all
        clear q0 q1 q2 y0 y1 l0 l1 l2
        go_wp2_with fail
        first
          | refine (imUnion_any _ _ n hn16 w2 A1 A2 c1 c2 hI12 hI2).mono ?_
          | refine (imMeet_any _ _ n hn16 w2 A1 A2 c1 c2 hI12 hI2).mono ?_
          | refine (imMinus_any _ _ n hn16 w2 A1 A2 c1 c2 hI12 hI2).mono ?_
          | refine (imCompose_any _ _ n hn16 w2 A1 A2 c1 c2 hI12 hI2).mono ?_
        rintro f3 w3 ⟨A3, c3, rfl, hr3, hb3⟩
        go_wp2_with fail
        go_ret
        rw [Hev.out]
        try simp only [if_true]
        exact RetRel.push hr3 hB2 hb3
    · rcases kidsI_cases h1 with ⟨_, h⟩ | ⟨_, h⟩ | ⟨_, h⟩
      · simp at h
      · simp at h
      · simp at h

end Go.Proofs.YtfgpbnncdfcjjabGreatDoor

/-! The walks of spec.EvalRelExpr and impl.EvalRelExpr. -/
namespace Go.Proofs.YtfgpbnncdfcjjabGreatDoor
open Go.RowKit
set_option linter.unusedVariables false
set_option maxRecDepth 100000

/-- What EvalRelExpr answers. -/
noncomputable def evB (p : Prg) (x : Ex) (e : RE) : List Int := if candB p x = true ∧ valB e = true then relN (evR p x (evs p).length e) (evs p).length else []
theorem evB_not {p : Prg} {x : Ex} {e : RE} (h : ¬ (candB p x = true ∧ valB e = true)) : evB p x e = [] := if_neg h
theorem evB_len {p : Prg} {x : Ex} {e : RE} : (evB p x e).length ≤ 15 := by
  unfold evB
  by_cases h : candB p x = true ∧ valB e = true
  · rw [if_pos h, relN_length]
    exact cand_len (candB_iff.1 h.1).1
  · rw [if_neg h]; simp
theorem RetRel.rowI {w w' : World} {R : Rel} {n : Nat} {e : Ending} (h : RetRel w R n e w') : RetRowI w (relN R n) e w' := by
  obtain ⟨A, c, he, hr, hb⟩ := h
  exact ⟨A, c, by rw [relN_length]; exact he, by rw [relN_length]; exact hr, hb⟩
theorem RetRowI.push {w w1 w2 : World} {xs : List Int} {A : Option Addr} {c n : Nat} (h : RowI w2 w1.heap.size (.slice A n c) xs) (hb : Below w.heap.size w w1) (hb2 : Below w1.heap.size w1 w2) : RetRowI w xs (.returned (.slice A n c)) w2 :=
  RetRowI.mk (h.rebase fun g hg => Nat.le_trans hb.size (h.blk hg).1) (hb.trans (hb2.mono hb.size))

set_option maxHeartbeats 4000000 in
theorem implEval_any (p : Prg) (hl : p.length ≤ 1048576) (hls : ∀ t ∈ p, t.length ≤ 1048576) (x : Ex) (hbig : wX x ≤ 1048576) (e : RE) (w : World) (vp : Value) (A B A' : Option Addr) (c d c' : Nat) (hg : GN w) (hp : PrgS w vp p) (hr : Room w vp p) (hx : RepX w A c B d x) (he : RepK w A' c' e) :
    Calls Tryz.prog 31 #[vp, .agg #[.slice A x.from_.length c, .slice B x.order.length d], .agg #[.int .i64 e.op, .string e.name, .slice A' e.kids.length c']] w (RetRowI w (evB p x e)) := by
  obtain ⟨Ap, cp, rfl, _⟩ := SlR.slice hp
  obtain ⟨w0, hw0⟩ : ∃ w0, w0 = (w.alloc (.cells #[.slice A x.from_.length c, .slice B x.order.length d] 34)).alloc (.cells #[.int .i64 e.op, .string e.name, .slice A' e.kids.length c'] 57) := ⟨_, rfl⟩
  have bx0 : Box2 w0 w.heap.size (.slice A x.from_.length c) (.slice B x.order.length d) := by rw [hw0]; exact (Box2.new _ _ _ _).le (Le.alloc _ _)
  have be0 : Box3 w0 (w.heap.size + 1) (.int .i64 e.op) (.string e.name) (.slice A' e.kids.length c') := by rw [hw0]; simpa using Box3.new (w.alloc (.cells #[.slice A x.from_.length c, .slice B x.order.length d] 34)) (.int .i64 e.op) (.string e.name) (.slice A' e.kids.length c') 57
  have hB0 : Below w.heap.size w w0 := by rw [hw0]; exact ((Below.refl _ _).alloc (Nat.le_refl _) _).alloc (by simp) _
  have hp0 := PrgS.le hp (Le.below hB0)
  have hr0 := hr.le hp (Le.below hB0)
  have hg0 := hg.le (Le.below hB0)
  have hx0 := hx.le (Le.below hB0)
  have he0 := he.le (Le.below hB0)
  have hlf := hx.1.len
  have hlo := hx.2.len
  obtain ⟨x0, x1, x2⟩ := bx0.all
  have hc := implCand_any p hl hls x w0 _ A B c d hp0 hx0 hbig
  have Hok : Hid (candB p x = true → CandOk p x) := candB_iff.1
  have Hnot : Hid (candB p x = false ∨ valB e = false → evB p x e = []) := fun h => evB_not fun h' => by rcases h with h | h <;> rw [h] at h' <;> simp at h'
  have Hyes : Hid (candB p x = true → valB e = true → evB p x e = relN (evR p x (evs p).length e) (evs p).length) := fun h1 h2 => if_pos ⟨h1, h2⟩
  have Hp0 := Lib.hid hp0
  have Hx0 := Lib.hid hx0
  have He0 := Lib.hid he0
  have Hr0 := Lib.hid hr0
  have Hg0 := Lib.hid hg0
  clear hp hx he hp0 hx0 he0 hr hr0 hg hg0 hls
  go_enter Tryz.func31, Tryz.ntmps31
  go_wp2_with fail
  rw [← hw0]
  clear hw0
  go_wp2_with fail
  cases hv : candB p x
  · rw [hv] at hc
    have Hn := Lib.hid (Hnot.out (.inl hv))
    clear hv
    refine hc.mono ?_
    rintro f1 w1 ⟨rfl, hb1⟩
    clear hc
    go_wp2_with fail
    go_ret
    rw [Hn.out]
    have hB1 := hB0.trans (hb1.mono hB0.size)
    first | exact RetRowI.mk (RowOf.nil _ _ _ _ _) hB1 | exact RetRowI.mk (RowOf.made _ (Own.new _ _ _) hB1.size) (hB1.alloc hB1.size _)
  rw [hv] at hc
  have Hv := Lib.hid hv
  clear hv
  refine hc.mono ?_
  rintro f1 w1 ⟨rfl, hb1⟩
  have hB1 := hB0.trans (hb1.mono hB0.size)
  have hl1 := Le.below hb1
  have hve := valid_any e w1 A' c' (Hg0.out.le hl1) (He0.out.le hl1)
  obtain ⟨y0, y1, y2, y3⟩ := (be0.le hl1).all
  clear x0 x1 x2 hc
  go_wp2_with fail
  cases hw : valB e
  · rw [hw] at hve
    have Hn := Lib.hid (Hnot.out (.inr hw))
    clear hw
    refine hve.mono ?_
    rintro f2 w2 ⟨rfl, hb2⟩
    have hB2 := hB1.trans (hb2.mono hB1.size)
    clear hve
    go_wp2_with fail
    go_ret
    rw [Hn.out]
    first | exact RetRowI.mk (RowOf.nil _ _ _ _ _) hB2 | exact RetRowI.mk (RowOf.made _ (Own.new _ _ _) hB2.size) (hB2.alloc hB2.size _)
  rw [hw] at hve
  have Hr := Lib.hid (Hyes.out Hv.out hw)
  have Hsh := Lib.hid (valB_iff.1 hw).1
  clear hw
  refine hve.mono ?_
  rintro f2 w2 ⟨rfl, hb2⟩
  have hB2 := hB1.trans (hb2.mono hB1.size)
  have hl2 := hl1.trans (Le.below hb2)
  obtain ⟨z0, z1, z2, z3⟩ := (be0.le hl2).all
  obtain ⟨x0, x1, x2⟩ := (bx0.le hl2).all
  have hev := evalRel_any p x (Hok.out Hv.out) (evs p).length rfl 12 e w2 _ A B A' c d c' Hsh.out (PrgS.le Hp0.out hl2) (Hr0.out.le Hp0.out hl2) (Hx0.out.le hl2) (He0.out.le hl2)
  clear y0 y1 y2 y3 hve
  go_wp2_with fail
  refine hev.mono ?_
  intro f3 w3 h3
  obtain ⟨A3, c3, rfl, hr3, hb3⟩ := h3.rowI
  go_wp2_with fail
  go_ret
  rw [Hr.out]
  exact RetRowI.push hr3 hB2 hb3

end Go.Proofs.YtfgpbnncdfcjjabGreatDoor

/-! How many pairs a relation has: the library's count of bits, and the walk of CountRel. The first broken rule: plainly, and the walks of fulfilled, brokenRule, BrokenRule and of l7Holds, l7Broken, spec.BrokenRule. The walks of spec.BrokenRule and impl.BrokenRule. -/
/-! How many pairs a relation has: the library's count of bits, and the walk of CountRel. -/
namespace Go.Proofs.YtfgpbnncdfcjjabGreatDoor
open Go.RowKit
set_option linter.unusedVariables false
set_option maxRecDepth 100000

def pcN : Nat → Nat → Nat
  | 0, _ => 0
  | k + 1, x => Nat.add (pcN k (Nat.div x 2)) (Nat.mod x 2)
def ocA (x : Nat) : Nat := Nat.add (Nat.land (Nat.div x 2) 6148914691236517205) (Nat.land x 6148914691236517205)
def ocB (x : Nat) : Nat := Nat.add (Nat.land (Nat.div x 4) 3689348814741910323) (Nat.land x 3689348814741910323)
def ocC (x : Nat) : Nat := Nat.land (Nat.add (Nat.div x 16) x) 1085102592571150095
def ocD (x : Nat) : Nat := Nat.add x (Nat.div x 256)
def ocE (x : Nat) : Nat := Nat.add x (Nat.div x 65536)
def ocF (x : Nat) : Nat := Nat.add x (Nat.div x 4294967296)
def ocN (x : Nat) : Nat := Nat.land (ocF (ocE (ocD (ocC (ocB (ocA x)))))) 127
def ocT : Nat → Nat → Bool
  | 0, x => Nat.beq (ocN x) (pcN 16 x)
  | d + 1, x => and (ocT d (Nat.mul 2 x)) (ocT d (Nat.add (Nat.mul 2 x) 1))
set_option maxHeartbeats 4000000 in
theorem oc_all : ocT 16 0 = true := by decide +kernel
theorem ocT_at : ∀ (d x y : Nat), ocT d x = true → y < 2 ^ d → ocN (x * 2 ^ d + y) = pcN 16 (x * 2 ^ d + y)
  | 0, x, y, h, hy => by
    obtain rfl : y = 0 := by simp at hy; exact hy
    have h1 := Nat.eq_of_beq_eq_true (show Nat.beq (ocN x) (pcN 16 x) = true from h)
    simpa using h1
  | d + 1, x, y, h, hy => by
    have h' : (ocT d (2 * x) && ocT d (2 * x + 1)) = true := h
    rw [Bool.and_eq_true] at h'
    rw [Nat.pow_succ] at hy ⊢
    by_cases hlt : y < 2 ^ d
    · have := ocT_at d (2 * x) y h'.1 hlt
      rw [show x * (2 ^ d * 2) + y = 2 * x * 2 ^ d + y by rw [Nat.mul_comm (2 ^ d) 2, ← Nat.mul_assoc, Nat.mul_comm x 2]]
      exact this
    · have := ocT_at d (2 * x + 1) (y - 2 ^ d) h'.2 (by omega)
      rw [show x * (2 ^ d * 2) + y = (2 * x + 1) * 2 ^ d + (y - 2 ^ d) by rw [Nat.mul_comm (2 ^ d) 2, ← Nat.mul_assoc, Nat.mul_comm x 2, Nat.add_mul, Nat.one_mul]; omega]
      exact this
theorem oc_pc {x : Nat} (h : x < 65536) : ocN x = pcN 16 x := by
  have := ocT_at 16 0 x oc_all h
  simpa using this
theorem cntN_low (f : Nat → Bool) : ∀ k, cntN f (k + 1) = (if f 0 = true then 1 else 0) + cntN (fun j => f (j + 1)) k
  | 0 => by simp [cntN]
  | k + 1 => by
    rw [cntN, cntN_low f k, cntN]
    omega
theorem pc_cnt : ∀ (k x : Nat), pcN k x = cntN x.testBit k
  | 0, _ => rfl
  | k + 1, x => by
    rw [cntN_low]
    show pcN k (x / 2) + x % 2 = _
    rw [pc_cnt k (x / 2)]
    have h1 : (fun j => x.testBit (j + 1)) = (x / 2).testBit := by funext j; rw [Nat.testBit_succ]
    rw [h1, Nat.testBit_zero]
    have h2 : x % 2 = 0 ∨ x % 2 = 1 := by omega
    rcases h2 with h2 | h2 <;> rw [h2] <;> simp <;> omega
theorem cntN_trunc (f : Nat → Bool) (n : Nat) : ∀ k, cntN (fun j => decide (j < n) && f j) k = cntN f (min n k)
  | 0 => by simp [cntN]
  | k + 1 => by
    rw [cntN, cntN_trunc f n k]
    by_cases h : k < n
    · rw [show min n k = k by omega, show min n (k + 1) = k + 1 by omega, cntN]
      simp [h]
    · rw [show min n k = n by omega, show min n (k + 1) = n by omega]
      simp [h]
theorem oc_bitN (f : Nat → Bool) {n : Nat} (hn : n ≤ 16) : ocN (bitN f n) = cntN f n := by
  rw [oc_pc (bitN_small f hn), pc_cnt, show (bitN f n).testBit = fun j => decide (j < n) && f j from funext fun j => bitN_bit f n j, cntN_trunc, show min n 16 = n by omega]

theorem ofInt64u (a : Nat) (ha : a < 18446744073709551616) : (BitVec.ofInt 64 (a : Int)).toNat = a := by
  rw [BitVec.ofInt_natCast, BitVec.toNat_ofNat]; exact Nat.mod_eq_of_lt (by omega)
theorem wrap_u64_nat (a : Nat) (h : a < 2 ^ 63) : IntKind.u64.wrap (a : Int) = (a : Int) := IntWalk.u64_in _ ⟨by omega, by omega⟩
theorem bits_and_u64 (a b : Nat) (ha : a < 9223372036854775808) (hb : b < 9223372036854775808) : bits .and .u64 (a : Int) (b : Int) = ((Nat.land a b : Nat) : Int) := by
  have hx : a &&& b < 2 ^ 63 := Nat.and_lt_two_pow _ (by omega)
  show IntKind.u64.wrap ((BitVec.ofInt 64 (a : Int) &&& BitVec.ofInt 64 (b : Int)).toNat : Int) = _
  rw [BitVec.toNat_and, ofInt64 a ha, ofInt64 b hb]
  exact wrap_u64_nat _ hx
theorem land_le (a b : Nat) : Nat.land a b ≤ a := Nat.and_le_left

set_option maxHeartbeats 2000000 in
theorem oc64_any (x : Nat) (hx : x < 65536) (w : World) : Calls Tryz.prog 207 #[.int .u64 (x : Nat)] w (RetQI w (ocN x : Nat)) := by
  obtain ⟨a1, h1⟩ : ∃ a, a = Nat.land (Nat.div x 2) 6148914691236517205 := ⟨_, rfl⟩
  obtain ⟨a2, h2⟩ : ∃ a, a = Nat.land x 6148914691236517205 := ⟨_, rfl⟩
  obtain ⟨s1, k1⟩ : ∃ a, a = a1 + a2 := ⟨_, rfl⟩
  have l1 : a1 ≤ 65536 := by rw [h1]; exact Nat.le_trans (land_le _ _) (Nat.le_trans (Nat.div_le_self _ _) (by omega))
  have l2 : a2 ≤ 65536 := by rw [h2]; exact Nat.le_trans (land_le _ _) (by omega)
  obtain ⟨b1, h3⟩ : ∃ a, a = Nat.land (Nat.div s1 4) 3689348814741910323 := ⟨_, rfl⟩
  obtain ⟨b2, h4⟩ : ∃ a, a = Nat.land s1 3689348814741910323 := ⟨_, rfl⟩
  obtain ⟨s2, k2⟩ : ∃ a, a = b1 + b2 := ⟨_, rfl⟩
  have l3 : b1 ≤ 131072 := by rw [h3]; exact Nat.le_trans (land_le _ _) (Nat.le_trans (Nat.div_le_self _ _) (by omega))
  have l4 : b2 ≤ 131072 := by rw [h4]; exact Nat.le_trans (land_le _ _) (by omega)
  obtain ⟨c1, k3⟩ : ∃ a, a = Nat.div s2 16 + s2 := ⟨_, rfl⟩
  have l5 : Nat.div s2 16 ≤ s2 := Nat.div_le_self _ _
  obtain ⟨s3, h5⟩ : ∃ a, a = Nat.land c1 1085102592571150095 := ⟨_, rfl⟩
  have l6 : s3 ≤ c1 := by rw [h5]; exact land_le _ _
  obtain ⟨s4, k4⟩ : ∃ a, a = s3 + Nat.div s3 256 := ⟨_, rfl⟩
  have l7 : Nat.div s3 256 ≤ s3 := Nat.div_le_self _ _
  obtain ⟨s5, k5⟩ : ∃ a, a = s4 + Nat.div s4 65536 := ⟨_, rfl⟩
  have l8 : Nat.div s4 65536 ≤ s4 := Nat.div_le_self _ _
  obtain ⟨s6, k6⟩ : ∃ a, a = s5 + Nat.div s5 4294967296 := ⟨_, rfl⟩
  have l9 : Nat.div s5 4294967296 ≤ s5 := Nat.div_le_self _ _
  have hr : Hid (ocN x = Nat.land s6 127) := by
    show _ = _
    rw [k6, k5, k4, h5, k3, k2, h3, h4, k1, h1, h2]
    rfl
  have d1 : ∀ a b : Nat, ((a : Int) / (b : Int)) = ((Nat.div a b : Nat) : Int) := fun a b => by rw [← Int.natCast_ediv]; rfl
  have e1 : bits .and .u64 ((x : Int) / 2) 6148914691236517205 = ((a1 : Nat) : Int) := by
    rw [h1, show (2 : Int) = ((2 : Nat) : Int) from rfl, d1]
    exact bits_and_u64 _ _ (Nat.lt_of_le_of_lt (Nat.div_le_self _ _) (by omega)) (by decide)
  have e2 : bits .and .u64 (x : Int) 6148914691236517205 = ((a2 : Nat) : Int) := by rw [h2]; exact bits_and_u64 _ _ (by omega) (by decide)
  have e3 : IntKind.u64.wrap ((a1 : Int) + (a2 : Int)) = ((s1 : Nat) : Int) := by rw [k1, ← Int.natCast_add]; exact wrap_u64_nat _ (by omega)
  have e4 : bits .and .u64 ((s1 : Int) / 4) 3689348814741910323 = ((b1 : Nat) : Int) := by
    rw [h3, show (4 : Int) = ((4 : Nat) : Int) from rfl, d1]
    exact bits_and_u64 _ _ (Nat.lt_of_le_of_lt (Nat.div_le_self _ _) (by omega)) (by decide)
  have e5 : bits .and .u64 (s1 : Int) 3689348814741910323 = ((b2 : Nat) : Int) := by rw [h4]; exact bits_and_u64 _ _ (by omega) (by decide)
  have e6 : IntKind.u64.wrap ((b1 : Int) + (b2 : Int)) = ((s2 : Nat) : Int) := by rw [k2, ← Int.natCast_add]; exact wrap_u64_nat _ (by omega)
  have e7 : IntKind.u64.wrap ((s2 : Int) / 16 + (s2 : Int)) = ((c1 : Nat) : Int) := by rw [k3, show (16 : Int) = ((16 : Nat) : Int) from rfl, d1, ← Int.natCast_add]; exact wrap_u64_nat _ (by omega)
  have e8 : bits .and .u64 (c1 : Int) 1085102592571150095 = ((s3 : Nat) : Int) := by rw [h5]; exact bits_and_u64 _ _ (by omega) (by decide)
  have e9 : IntKind.u64.wrap ((s3 : Int) + (s3 : Int) / 256) = ((s4 : Nat) : Int) := by rw [k4, show (256 : Int) = ((256 : Nat) : Int) from rfl, d1, ← Int.natCast_add]; exact wrap_u64_nat _ (by omega)
  have e10 : IntKind.u64.wrap ((s4 : Int) + (s4 : Int) / 65536) = ((s5 : Nat) : Int) := by rw [k5, show (65536 : Int) = ((65536 : Nat) : Int) from rfl, d1, ← Int.natCast_add]; exact wrap_u64_nat _ (by omega)
  have e11 : IntKind.u64.wrap ((s5 : Int) + (s5 : Int) / 4294967296) = ((s6 : Nat) : Int) := by rw [k6, show (4294967296 : Int) = ((4294967296 : Nat) : Int) from rfl, d1, ← Int.natCast_add]; exact wrap_u64_nat _ (by omega)
  have e12 : IntKind.i64.wrap (s6 : Int) = ((s6 : Nat) : Int) := IntWalk.i64_in _ ⟨by omega, by omega⟩
  have e13 : bits .and .i64 (s6 : Int) 127 = ((Nat.land s6 127 : Nat) : Int) := bits_and_nat s6 127 (by omega) (by decide)
  generalize Nat.land s6 127 = r at hr e13
  clear h1 h2 h3 h4 h5 k1 k2 k3 k4 k5 k6 l1 l2 l3 l4 l5 l6 l7 l8 l9 d1
  go_enter Tryz.func207, Tryz.ntmps207
  go_wp2_with fail
  go_ret
  exact ⟨by rw [hr.out]; rfl, rfl⟩
theorem oc_any (x : Nat) (hx : x < 65536) (w : World) : Calls Tryz.prog 183 #[.int .u64 (x : Nat)] w (RetQI w (ocN x : Nat)) := by
  go_enter Tryz.func183, Tryz.ntmps183
  go_wp2_with fail
  refine (oc64_any x hx _).mono ?_
  rintro e w' ⟨rfl, rfl⟩
  go_wp2_with fail
  go_ret
  exact ⟨rfl, rfl⟩
set_option maxHeartbeats 1000000 in
theorem imCount_any (a : Rel) (n : Nat) (hn : n ≤ 16) (w : World) (A : Option Addr) (c : Nat) (ha : Ints w A c (relN a n)) :
    Calls Tryz.prog 141 #[.slice A n c] w (RetI w (cntR a n n : Nat)) := by
  go_enter Tryz.func141, Tryz.ntmps141
  go_wp2_with fail
  refine (relValid_any a n hn w A c ha).mono ?_
  rintro e0 w0 ⟨rfl, hb0⟩
  have ha0 := ha.le (Le.below hb0)
  go_wp2_with fail
  go_loopg [3, 5, 11] n (fun g s3 s5 s11 wr => ∃ i : Nat, i ≤ n ∧ g = n - i ∧ s3 = .int .i64 ((cntR a n i : Nat) : Int) ∧ s11 = .int .i64 i ∧ w0 = wr)
  case atStart => exact ⟨0, Nat.zero_le _, rfl, rfl, rfl, rfl⟩
  case round =>
    obtain ⟨i, hin, rfl, rfl, rfl, rfl⟩ := hrel
    by_cases hlt : i < n
    · have hci : cntR a n i ≤ 256 := by
        have h1 := cntR_le a n i
        have h2 : i * n ≤ 16 * 16 := Nat.mul_le_mul (by omega) hn
        omega
      have Hci : Hid (cntR a n (i + 1) = cntR a n i + ocN (bitN (a i) n)) := by show _ = _; rw [oc_bitN _ hn]; rfl
      have hoc : ocN (bitN (a i) n) ≤ 16 := by rw [oc_bitN _ hn]; have := cntN_le (a i) n; omega
      obtain ⟨b, o, rfl, hbl, k0⟩ := relN_ints ha0 hlt
      have hc := oc_any (bitN (a i) n) (bitN_small _ hn) w0
      have hbs := bitN_small (a i) hn
      generalize cntR a n i = ci at hci Hci
      generalize bitN (a i) n = x at k0 hc Hci hoc hbs
      generalize ocN x = y at hc Hci hoc
      go_wp2_with fail
      refine hc.mono ?_
      rintro e5 w5 ⟨rfl, rfl⟩
      go_wp2_with fail
      go_roundg (n - (i + 1))
      case measure => omega
      case rel => exact ⟨i + 1, by omega, rfl, by rw [Hci.out]; go_num, by go_num, rfl⟩
    · obtain rfl : i = n := by omega
      go_wp2_with fail
      go_ret
      exact ⟨rfl, hb0⟩

end Go.Proofs.YtfgpbnncdfcjjabGreatDoor

/-! The first broken rule: plainly, and the walks of fulfilled, brokenRule, BrokenRule and of l7Holds, l7Broken, spec.BrokenRule. -/
namespace Go.Proofs.YtfgpbnncdfcjjabGreatDoor
open Go.RowKit
set_option linter.unusedVariables false
set_option maxRecDepth 100000

def holdR (k : Int) (R : Rel) (n : Nat) : Bool := if k = 1 then acB R n else if k = 2 then irB R n else decide (cntR R n n = 0)
/-- The first rule from number i on that is not fulfilled. -/
def brkN (p : Prg) (x : Ex) (n : Nat) : List RU → Nat → Int
  | [], _ => -1
  | r :: rs, i => if holdR r.kind (evR p x n r.e) n = true then brkN p x n rs (i + 1) else i
theorem brkN_cases (p : Prg) (x : Ex) (n : Nat) : ∀ (rs : List RU) (i : Nat), (brkN p x n rs i = -1 ∧ ∀ r ∈ rs, holdR r.kind (evR p x n r.e) n = true) ∨ ∃ k : Nat, ∃ h : k < rs.length, brkN p x n rs i = ((i + k : Nat) : Int) ∧ holdR rs[k].kind (evR p x n rs[k].e) n = false ∧ ∀ j (hj : j < k), holdR rs[j].kind (evR p x n rs[j].e) n = true
  | [], i => .inl ⟨rfl, fun r h => by cases h⟩
  | r :: rs, i => by
    by_cases hc : holdR r.kind (evR p x n r.e) n = true
    · rw [brkN, if_pos hc]
      rcases brkN_cases p x n rs (i + 1) with ⟨h1, h2⟩ | ⟨k, hk, h1, h2, h3⟩
      · exact .inl ⟨h1, fun s hs => by
          rcases List.mem_cons.1 hs with rfl | hs
          · exact hc
          · exact h2 s hs⟩
      · refine .inr ⟨k + 1, by simpa using hk, by rw [h1]; congr 1; omega, by simpa using h2, fun j hj => ?_⟩
        cases j with
        | zero => exact hc
        | succ j => simpa using h3 j (by omega)
    · rw [brkN, if_neg hc]
      exact .inr ⟨0, by simp, by simp, by simpa using hc, fun j hj => absurd hj (Nat.not_lt_zero _)⟩
theorem brkN_drop {p : Prg} {x : Ex} {n : Nat} {rs : List RU} {i : Nat} (h : i < rs.length) (hh : holdR rs[i].kind (evR p x n rs[i].e) n = true) : brkN p x n (rs.drop i) i = brkN p x n (rs.drop (i + 1)) (i + 1) := by
  rw [List.drop_eq_getElem_cons h, brkN, if_pos hh]
theorem brkN_stop {p : Prg} {x : Ex} {n : Nat} {rs : List RU} {i : Nat} (h : i < rs.length) (hh : holdR rs[i].kind (evR p x n rs[i].e) n = false) : brkN p x n (rs.drop i) i = i := by
  rw [List.drop_eq_getElem_cons h, brkN, if_neg (by rw [hh]; decide)]

set_option maxHeartbeats 1000000 in
theorem fulfil_any (k : Int) (R : Rel) (n : Nat) (hn : n ≤ 16) (w : World) (A : Option Addr) (c : Nat) (h : Ints w A c (relN R n)) :
    Calls Tryz.prog 96 #[.int .i64 k, .slice A n c] w (RetB w (holdR k R n)) := by
  have Hh : Hid (holdR k R n = if k = 1 then acB R n else if k = 2 then irB R n else decide (cntR R n n = 0)) := rfl
  by_cases h1 : k = 1
  · have b1 : (k == 1) = true := by rw [beq_iff_eq]; exact h1
    have Hr : Hid (holdR k R n = acB R n) := by show _ = _; rw [Hh.out, if_pos h1]
    clear h1
    go_enter Tryz.func96, Tryz.ntmps96
    go_wp2_with fail
    refine (imAcyclic_any R n hn w A c h).mono ?_
    rintro e1 w1 ⟨rfl, hb1⟩
    go_wp2_with fail
    go_ret
    exact ⟨ret_bool Hr.out.symm, hb1⟩
  have b1 : (k == 1) = false := by rw [beq_eq_false_iff_ne]; exact h1
  by_cases h2 : k = 2
  · have b2 : (k == 2) = true := by rw [beq_iff_eq]; exact h2
    have Hr : Hid (holdR k R n = irB R n) := by show _ = _; rw [Hh.out, if_neg h1, if_pos h2]
    clear h1 h2
    go_enter Tryz.func96, Tryz.ntmps96
    go_wp2_with fail
    refine (imLoose_any R n hn w A c h).mono ?_
    rintro e1 w1 ⟨rfl, rfl⟩
    go_wp2_with fail
    go_ret
    exact ⟨ret_bool Hr.out.symm, Below.refl _ _⟩
  have b2 : (k == 2) = false := by rw [beq_eq_false_iff_ne]; exact h2
  have Hr : Hid (holdR k R n = decide (cntR R n n = 0)) := by show _ = _; rw [Hh.out, if_neg h1, if_neg h2]
  have hc := imCount_any R n hn w A c h
  generalize cntR R n n = ct at hc Hr
  clear h1 h2
  go_enter Tryz.func96, Tryz.ntmps96
  go_wp2_with fail
  refine hc.mono ?_
  rintro e1 w1 ⟨rfl, hb1⟩
  go_wp2_with fail
  go_ret
  refine ⟨ret_bool ?_, by first | exact hb1 | (rw [← hb1]; exact Below.refl _ _)⟩
  rw [Hr.out, Bool.eq_iff_iff, beq_iff_eq, decide_eq_true_iff]
  omega

set_option maxHeartbeats 1000000 in
theorem holds7_any (k : Int) (R : Rel) (n : Nat) (hn : n ≤ 16) (w : World) (A : Option Addr) (c : Nat) (h : Ints w A c (relN R n)) :
    Calls Tryz.prog 103 #[.int .i64 k, .slice A n c] w (RetB w (holdR k R n)) := by
  have Hh : Hid (holdR k R n = if k = 1 then acB R n else if k = 2 then irB R n else decide (cntR R n n = 0)) := rfl
  by_cases h1 : k = 1
  · have b1 : (k == 1) = true := by rw [beq_iff_eq]; exact h1
    have Hr : Hid (holdR k R n = acB R n) := by show _ = _; rw [Hh.out, if_pos h1]
    clear h1
    go_enter Tryz.func103, Tryz.ntmps103
    go_wp2_with fail
    refine (l2Acyclic_any R n hn w A c h).mono ?_
    rintro e1 w1 ⟨rfl, hb1⟩
    go_wp2_with fail
    go_ret
    exact ⟨ret_bool Hr.out.symm, hb1⟩
  have b1 : (k == 1) = false := by rw [beq_eq_false_iff_ne]; exact h1
  by_cases h2 : k = 2
  · have b2 : (k == 2) = true := by rw [beq_iff_eq]; exact h2
    have Hr : Hid (holdR k R n = irB R n) := by show _ = _; rw [Hh.out, if_neg h1, if_pos h2]
    clear h1 h2
    go_enter Tryz.func103, Tryz.ntmps103
    go_wp2_with fail
    refine (l2Loose_any R n hn w A c h).mono ?_
    rintro e1 w1 ⟨rfl, rfl⟩
    go_wp2_with fail
    go_ret
    exact ⟨ret_bool Hr.out.symm, Below.refl _ _⟩
  have b2 : (k == 2) = false := by rw [beq_eq_false_iff_ne]; exact h2
  have Hr : Hid (holdR k R n = decide (cntR R n n = 0)) := by show _ = _; rw [Hh.out, if_neg h1, if_neg h2]
  have hc := l2Count_any R n hn w A c h
  generalize cntR R n n = ct at hc Hr
  clear h1 h2
  go_enter Tryz.func103, Tryz.ntmps103
  go_wp2_with fail
  refine hc.mono ?_
  rintro e1 w1 ⟨rfl, hb1⟩
  go_wp2_with fail
  go_ret
  refine ⟨ret_bool ?_, by first | exact hb1 | (rw [← hb1]; exact Below.refl _ _)⟩
  rw [Hr.out, Bool.eq_iff_iff, beq_iff_eq, decide_eq_true_iff]
  omega

/-- What brokenRule hands back: the rule's number, and its relation. -/
def RetBrk (w : World) (p : Prg) (x : Ex) (n : Nat) (rs : List RU) (e : Ending) (w' : World) : Prop := ∃ A m c, e = .returned (.tuple #[.int .i64 (brkN p x n rs 0), .slice A m c]) ∧ (∀ k (h : k < rs.length), brkN p x n rs 0 = (k : Int) → m = n ∧ RowI w' w.heap.size (.slice A n c) (relN (evR p x n rs[k].e) n)) ∧ Below w.heap.size w w'
set_option maxHeartbeats 4000000 in
theorem imBroken_any (p : Prg) (x : Ex) (hok : CandOk p x) (n : Nat) (hnn : (evs p).length = n) (rs : List RU) (hval : ∀ r ∈ rs, Shp 12 r.e) (w : World) (vp vm : Value) (A B : Option Addr) (c d : Nat) (hp : PrgS w vp p) (hr : Room w vp p) (hx : RepX w A c B d x) (hm : SlR 4 RepU w vm rs) :
    Calls Tryz.prog 56 #[vp, .agg #[.slice A x.from_.length c, .slice B x.order.length d], vm] w (RetBrk w p x n rs) := by
  obtain ⟨Ap, cp, rfl, _⟩ := SlR.slice hp
  obtain ⟨Am, cm, rfl, hml⟩ := SlR.slice hm
  have hn16 : n ≤ 16 := by have := cand_len hok.1; omega
  obtain ⟨w0, hw0⟩ : ∃ w0, w0 = w.alloc (.cells #[.slice A x.from_.length c, .slice B x.order.length d] 34) := ⟨_, rfl⟩
  have bx0 : Box2 w0 w.heap.size (.slice A x.from_.length c) (.slice B x.order.length d) := by rw [hw0]; exact Box2.new _ _ _ _
  have hB0 : Below w.heap.size w w0 := by rw [hw0]; exact (Below.refl _ _).alloc (Nat.le_refl _) _
  have hp0 := PrgS.le hp (Le.below hB0)
  have hr0 := hr.le hp (Le.below hB0)
  have hx0 := hx.le (Le.below hB0)
  have hm0 := RepUs.le hm (Le.below hB0)
  have hlf := hx.1.len
  have hlo := hx.2.len
  have HS := Lib.hid (And.intro hp0 (And.intro hr0 (And.intro hx0 (And.intro hm0 bx0))))
  have Hval := Lib.hid hval
  have Hb : Hid (brkN p x n (rs.drop 0) 0 = brkN p x n rs 0) := rfl
  clear hp hr hx hm hp0 hr0 hx0 hm0 hval
  go_enter Tryz.func56, Tryz.ntmps56
  go_wp2_with fail
  rw [← hw0]
  clear hw0
  go_wp2_with fail
  go_loopg [8, 9, 10, 13] rs.length (fun g s8 s9 s10 s13 wr => ∃ i : Nat, i ≤ rs.length ∧ g = rs.length - i ∧ s13 = .int .i64 i ∧ Hid (brkN p x n (rs.drop i) i = brkN p x n rs 0) ∧ Below w0.heap.size w0 wr)
  case atStart => exact ⟨0, Nat.zero_le _, rfl, rfl, Hb.out, Below.refl _ _⟩
  case round =>
    obtain ⟨i, hi, rfl, rfl, hbk, hb⟩ := hrel
    have hl0 := Le.below hb
    by_cases hlt : i < rs.length
    · obtain ⟨b, o, A1, c1, e9, hbl, k0, k1, k2, k3, he⟩ := RepUs.get (RepUs.le HS.out.2.2.2.1 hl0) hlt
      subst e9
      have hc := fun W (hl : Le wr W) => evalRel_any p x hok n hnn 12 rs[i].e W _ A B A1 c d c1 (Hval.out _ (List.getElem_mem hlt)) (PrgS.le HS.out.1 (hl0.trans hl)) (HS.out.2.1.le HS.out.1 (hl0.trans hl)) (HS.out.2.2.1.le (hl0.trans hl)) (he.le hl)
      obtain ⟨x0, x1, x2⟩ := (HS.out.2.2.2.2.le hl0).all
      have Hgo := fun h => (brkN_drop (p := p) (x := x) (n := n) hlt h).symm.trans hbk.out
      have Hst := fun h => (brkN_stop (p := p) (x := x) (n := n) hlt h).symm.trans hbk.out
      have hRe : Hid (∀ (k : Nat) (hk : k < rs.length), (i : Int) = (k : Int) → evR p x n rs[k].e = evR p x n rs[i].e) := fun k hk e => by
        have : k = i := by omega
        subst this; rfl
      generalize evR p x n rs[i].e = Re at hc Hgo Hst hRe
      obtain ⟨q, hq⟩ : ∃ q, q = rs[i] := ⟨_, rfl⟩
      rw [← hq] at k0 k1 k2 k3 hc Hgo Hst
      clear hq he
      have Hc := Lib.hid hc
      have HGo := Lib.hid Hgo
      have HSt := Lib.hid Hst
      obtain ⟨kd, qe⟩ := q
      simp only at k0 k1 k2 k3
      clear hc Hgo Hst hl0
      go_wp2_with fail
      refine (Hc.out _ (Le.alloc _ _)).mono ?_
      rintro f1 w1 ⟨A2, c2, rfl, hr2, hb2⟩
      have bq : Own w1 wr.heap.size 59 #[.int .i64 kd, .int .i64 qe.op, .string qe.name, .slice A1 qe.kids.length c1] := (Own.new _ _ _).under hb2
      have q0 := bq.cell (i := 0) rfl
      have hB2 : Below w0.heap.size w0 w1 := (hb.alloc hb.size _).trans (hb2.mono (by have := hb.size; simp; omega))
      have hI2 := row_rel hr2
      have hf := fulfil_any kd Re n hn16 w1 A2 c2 hI2
      clear k0 k1 k2 k3 x0 x1 x2
      go_wp2_with fail
      refine hf.mono ?_
      rintro f2 w2 ⟨rfl, hb3⟩
      have hB3 := hB2.trans (hb3.mono hB2.size)
      cases hh : holdR kd Re n
      · have Hs := Lib.hid (HSt.out hh)
        clear hh
        go_wp2_with fail
        refine bodyPost_ret (v := .tuple #[.int .i64 (i : Int), .slice A2 n c2]) (by simp [results, Tryz.results56, go_sem]) rfl ?_
        refine ⟨A2, n, c2, by rw [← Hs.out], fun k hk hke => ⟨rfl, ?_⟩, hB0.trans (hB3.mono hB0.size)⟩
        rw [hRe.out k hk (by rw [Hs.out]; exact hke)]
        exact (hr2.below hb3).rebase fun g hg => by have h1 := ((hr2.below hb3).blk hg).1; have h2 := hb.size; have h3 := hB0.size; simp at h1; omega
      · have Hg := Lib.hid (HGo.out hh)
        clear hh
        go_wp2_with fail
        go_roundg (rs.length - (i + 1))
        case measure => omega
        case rel => exact ⟨i + 1, by omega, rfl, by go_num, Hg.out, hB3⟩
    · obtain rfl : i = rs.length := by omega
      rw [List.drop_length] at hbk
      have Hn : Hid (brkN p x n rs 0 = -1) := by show _ = _; rw [← hbk.out]; rfl
      go_wp2_with fail
      refine bodyPost_ret (v := .tuple #[.int .i64 (-1), .slice none 0 0]) (by simp [results, Tryz.results56, go_sem]) rfl ?_
      refine ⟨none, 0, 0, by rw [Hn.out], fun k hk hke => ?_, hB0.trans (hb.mono hB0.size)⟩
      rw [Hn.out] at hke
      omega

set_option maxHeartbeats 4000000 in
theorem spBroken_any (p : Prg) (x : Ex) (hok : CandOk p x) (n : Nat) (hnn : (evs p).length = n) (rs : List RU) (hval : ∀ r ∈ rs, Shp 12 r.e) (w : World) (vp vm : Value) (A B : Option Addr) (c d : Nat) (hp : PrgS w vp p) (hx : RepX w A c B d x) (hm : SlR 4 RepU w vm rs) :
    Calls Tryz.prog 59 #[vp, .agg #[.slice A x.from_.length c, .slice B x.order.length d], vm] w (RetI w (brkN p x n rs 0)) := by
  obtain ⟨Ap, cp, rfl, _⟩ := SlR.slice hp
  obtain ⟨Am, cm, rfl, hml⟩ := SlR.slice hm
  have hn16 : n ≤ 16 := by have := cand_len hok.1; omega
  obtain ⟨w0, hw0⟩ : ∃ w0, w0 = w.alloc (.cells #[.slice A x.from_.length c, .slice B x.order.length d] 34) := ⟨_, rfl⟩
  have bx0 : Box2 w0 w.heap.size (.slice A x.from_.length c) (.slice B x.order.length d) := by rw [hw0]; exact Box2.new _ _ _ _
  have hB0 : Below w.heap.size w w0 := by rw [hw0]; exact (Below.refl _ _).alloc (Nat.le_refl _) _
  have hlf := hx.1.len
  have hlo := hx.2.len
  have HS := Lib.hid (And.intro (PrgS.le hp (Le.below hB0)) (And.intro (hx.le (Le.below hB0)) (And.intro (RepUs.le hm (Le.below hB0)) bx0)))
  have Hval := Lib.hid hval
  have Hb : Hid (brkN p x n (rs.drop 0) 0 = brkN p x n rs 0) := rfl
  clear hp hx hm hval
  go_enter Tryz.func59, Tryz.ntmps59
  go_wp2_with fail
  rw [← hw0]
  clear hw0
  go_wp2_with fail
  go_loopg [7] rs.length (fun g s7 wr => ∃ i : Nat, i ≤ rs.length ∧ g = rs.length - i ∧ s7 = .int .i64 i ∧ Hid (brkN p x n (rs.drop i) i = brkN p x n rs 0) ∧ Below w0.heap.size w0 wr)
  case atStart => exact ⟨0, Nat.zero_le _, rfl, rfl, Hb.out, Below.refl _ _⟩
  case round =>
    obtain ⟨i, hi, rfl, rfl, hbk, hb⟩ := hrel
    have hl0 := Le.below hb
    by_cases hlt : i < rs.length
    · obtain ⟨b, o, A1, c1, e9, hbl, k0, k1, k2, k3, he⟩ := RepUs.get (RepUs.le HS.out.2.2.1 hl0) hlt
      subst e9
      have hc := fun W (hl : Le wr W) => l7Eval_any p x hok n hnn 12 rs[i].e W _ A B A1 c d c1 (Hval.out _ (List.getElem_mem hlt)) (PrgS.le HS.out.1 (hl0.trans hl)) (HS.out.2.1.le (hl0.trans hl)) (he.le hl)
      have bxr := HS.out.2.2.2.le hl0
      have Hgo := fun h => (brkN_drop (p := p) (x := x) (n := n) hlt h).symm.trans hbk.out
      have Hst := fun h => (brkN_stop (p := p) (x := x) (n := n) hlt h).symm.trans hbk.out
      generalize evR p x n rs[i].e = Re at hc Hgo Hst
      obtain ⟨q, hq⟩ : ∃ q, q = rs[i] := ⟨_, rfl⟩
      rw [← hq] at k0 k1 k2 k3 hc Hgo Hst
      clear hq he
      have Hc := Lib.hid hc
      have HGo := Lib.hid Hgo
      have HSt := Lib.hid Hst
      obtain ⟨kd, qe⟩ := q
      simp only at k0 k1 k2 k3
      have K := Lib.hid (And.intro k0 (And.intro k1 (And.intro k2 (And.intro k3 bxr))))
      clear hc Hgo Hst hl0 k0 k1 k2 k3 bxr
      cases hh : holdR kd Re n
      all_goals
        have HH := Lib.hid hh
        have h7 := fun W A c h => holds7_any kd Re n hn16 W A c h
        simp only [hh] at h7
        have H7 := Lib.hid h7
        clear hh h7
        go_wp2_with fail
        go_region_held3 (fun W => W.cell? ⟨w.heap.size, 0, none⟩ = some (.slice A x.from_.length c) ∧ W.cell? ⟨w.heap.size, 1, none⟩ = some (.slice B x.order.length d) ∧ W.cell? ⟨b, o + i * 4, none⟩ = some (.int .i64 kd) ∧ W.cell? ⟨b, o + i * 4 + 1, none⟩ = some (.int .i64 qe.op) ∧ W.cell? ⟨b, o + i * 4 + 2, none⟩ = some (.string qe.name) ∧ W.cell? ⟨b, o + i * 4 + 3, none⟩ = some (.slice A1 qe.kids.length c1))
          ((first | exact ⟨K.out.2.2.2.2.c0, K.out.2.2.2.2.c1, K.out.1, K.out.2.1, K.out.2.2.1, K.out.2.2.2.1⟩ | exact ⟨L1 _ _ K.out.2.2.2.2.c0, L1 _ _ K.out.2.2.2.2.c1, L1 _ _ K.out.1, L1 _ _ K.out.2.1, L1 _ _ K.out.2.2.1, L1 _ _ K.out.2.2.2.1⟩ | exact ⟨L2 _ _ K.out.2.2.2.2.c0, L2 _ _ K.out.2.2.2.2.c1, L2 _ _ K.out.1, L2 _ _ K.out.2.1, L2 _ _ K.out.2.2.1, L2 _ _ K.out.2.2.2.1⟩))
          (first
            | (go_at_call 38; ((with_reducible refine (Hc.out _ (Le.drew _)).mono ?_); rintro f1 w1 ⟨A2, c2, rfl, hr2, hb2⟩; have L1 := (Le.drew wr).to_below hb2; have I2 := row_rel hr2))
            | (go_at_call 103; ((with_reducible refine (H7.out _ A2 c2 I2).mono ?_); rintro f2 w2 ⟨rfl, hb3⟩; have L2 := L1.to_below hb3)))
        have q2 := below_of_drew hb2
        have q3 := q2.trans (hb3.mono q2.size)
        have hB3 := hb.trans (q3.mono hb.size)
        clear L1 L2 I2 hr2 hb2 hb3 q2 q3
      · have Hs := Lib.hid (HSt.out HH.out)
        go_wp2_with fail
        go_ret
        exact ⟨ret_int Hs.out, hB0.trans (hB3.mono hB0.size)⟩
      · have Hg := Lib.hid (HGo.out HH.out)
        go_wp2_with fail
        go_roundg (rs.length - (i + 1))
        case measure => omega
        case rel => exact ⟨i + 1, by omega, rfl, by go_num, Hg.out, hB3⟩
    · obtain rfl : i = rs.length := by omega
      rw [List.drop_length] at hbk
      have Hn : Hid (brkN p x n rs 0 = -1) := by show _ = _; rw [← hbk.out]; rfl
      go_wp2_with fail
      go_ret
      exact ⟨ret_int Hn.out.symm, hB0.trans (hb.mono hB0.size)⟩

end Go.Proofs.YtfgpbnncdfcjjabGreatDoor

/-! The walks of spec.BrokenRule and impl.BrokenRule. -/
namespace Go.Proofs.YtfgpbnncdfcjjabGreatDoor
open Go.RowKit
set_option linter.unusedVariables false
set_option maxRecDepth 100000

open Classical in
/-- What BrokenRule answers. -/
noncomputable def brI (p : Prg) (x : Ex) (rs : List RU) : Int := if candB p x = true ∧ mB rs = true then brkN p x (evs p).length rs 0 else -1
noncomputable def brO (p : Prg) (x : Ex) (rs : List RU) : Bool := candB p x && mB rs
def RetIB (w : World) (k : Int) (b : Bool) (e : Ending) (w' : World) : Prop := e = .returned (.tuple #[.int .i64 k, .bool b]) ∧ Below w.heap.size w w'

set_option maxHeartbeats 4000000 in
theorem specBR_any (p : Prg) (hl : p.length ≤ 1048576) (x : Ex) (rs : List RU) (hcnt : ∀ r ∈ rs, cntE r.e ≤ 1048577) (w : World) (vp vm : Value) (A B : Option Addr) (c d : Nat) (hp : PrgS w vp p) (hx : RepX w A c B d x) (hm : SlR 4 RepU w vm rs) :
    Calls Tryz.prog 26 #[vp, .agg #[.slice A x.from_.length c, .slice B x.order.length d], vm] w (RetIB w (brI p x rs) (brO p x rs)) := by
  obtain ⟨Ap, cp, rfl, _⟩ := SlR.slice hp
  obtain ⟨Am, cm, rfl, hml⟩ := SlR.slice hm
  obtain ⟨w0, hw0⟩ : ∃ w0, w0 = w.alloc (.cells #[.slice A x.from_.length c, .slice B x.order.length d] 34) := ⟨_, rfl⟩
  have bx0 : Box2 w0 w.heap.size (.slice A x.from_.length c) (.slice B x.order.length d) := by rw [hw0]; exact Box2.new _ _ _ _
  have hB0 : Below w.heap.size w w0 := by rw [hw0]; exact (Below.refl _ _).alloc (Nat.le_refl _) _
  have hp0 := PrgS.le hp (Le.below hB0)
  have hx0 := hx.le (Le.below hB0)
  have hm0 := RepUs.le hm (Le.below hB0)
  have hlf := hx.1.len
  have hlo := hx.2.len
  obtain ⟨x0, x1, x2⟩ := bx0.all
  have hc := specCand_any p hl x w0 _ A B c d hp0 hx0
  have Hok : Hid (candB p x = true → CandOk p x) := candB_iff.1
  have Hval : Hid (mB rs = true → ∀ r ∈ rs, Shp 12 r.e) := fun h r hr => ((mB_iff.1 h).2.2 r hr).2.2.1
  have Hnot : Hid (candB p x = false ∨ mB rs = false → brI p x rs = -1 ∧ brO p x rs = false) := fun h => by
    refine ⟨if_neg fun h' => by rcases h with h | h <;> rw [h] at h' <;> simp at h', ?_⟩
    unfold brO
    rcases h with h | h <;> rw [h] <;> simp
  have Hyes : Hid (candB p x = true → mB rs = true → brI p x rs = brkN p x (evs p).length rs 0 ∧ brO p x rs = true) := fun h1 h2 => ⟨if_pos ⟨h1, h2⟩, by unfold brO; rw [h1, h2]; rfl⟩
  have HS := Lib.hid (And.intro hp0 (And.intro hx0 hm0))
  clear hp hx hm hp0 hx0 hm0
  generalize brI p x rs = bi at Hnot Hyes ⊢
  generalize brO p x rs = bo at Hnot Hyes ⊢
  go_enter Tryz.func26, Tryz.ntmps26
  go_wp2_with fail
  rw [← hw0]
  clear hw0
  go_wp2_with fail
  cases hv : candB p x
  · rw [hv] at hc
    obtain ⟨rfl, rfl⟩ := Hnot.out (.inl hv)
    clear hv
    refine hc.mono ?_
    rintro f1 w1 ⟨rfl, hb1⟩
    clear hc
    go_wp2_with fail
    refine bodyPost_ret (v := .tuple #[.int .i64 (-1), .bool false]) (by simp [results, Tryz.results26, go_sem]) rfl ?_
    exact ⟨rfl, hB0.trans (hb1.mono hB0.size)⟩
  rw [hv] at hc
  have Hv := Lib.hid hv
  clear hv
  refine hc.mono ?_
  rintro f1 w1 ⟨rfl, hb1⟩
  have hB1 := hB0.trans (hb1.mono hB0.size)
  have hl1 := Le.below hb1
  have hve := specModValid_any rs hcnt w1 _ (RepUs.le HS.out.2.2 hl1)
  clear x0 x1 x2 hc
  go_wp2_with fail
  cases hw : mB rs
  · rw [hw] at hve
    obtain ⟨rfl, rfl⟩ := Hnot.out (.inr hw)
    clear hw
    refine hve.mono ?_
    rintro f2 w2 ⟨rfl, hb2⟩
    clear hve
    go_wp2_with fail
    refine bodyPost_ret (v := .tuple #[.int .i64 (-1), .bool false]) (by simp [results, Tryz.results26, go_sem]) rfl ?_
    exact ⟨rfl, hB1.trans (hb2.mono hB1.size)⟩
  rw [hw] at hve
  obtain ⟨hbi, rfl⟩ := Hyes.out Hv.out hw
  have Hbi := Lib.hid hbi
  have HV := Lib.hid (Hval.out hw)
  clear hw hbi
  refine hve.mono ?_
  rintro f2 w2 ⟨rfl, hb2⟩
  have hB2 := hB1.trans (hb2.mono hB1.size)
  have hl2 := hl1.trans (Le.below hb2)
  obtain ⟨x0, x1, x2⟩ := (bx0.le hl2).all
  have hev := spBroken_any p x (Hok.out Hv.out) (evs p).length rfl rs HV.out w2 _ _ A B c d (PrgS.le HS.out.1 hl2) (HS.out.2.1.le hl2) (RepUs.le HS.out.2.2 hl2)
  clear hve
  go_wp2_with fail
  refine hev.mono ?_
  rintro f3 w3 ⟨rfl, hb3⟩
  go_wp2_with fail
  refine bodyPost_ret (v := .tuple #[.int .i64 (brkN p x (evs p).length rs 0), .bool true]) (by simp [results, Tryz.results26, go_sem]) rfl ?_
  exact ⟨by rw [Hbi.out], hB2.trans (hb3.mono hB2.size)⟩

set_option maxHeartbeats 4000000 in
theorem implBR_any (p : Prg) (hl : p.length ≤ 1048576) (hls : ∀ t ∈ p, t.length ≤ 1048576) (x : Ex) (hbig : wX x ≤ 1048576) (rs : List RU) (w : World) (vp vm : Value) (A B : Option Addr) (c d : Nat) (hg : GN w) (hp : PrgS w vp p) (hr : Room w vp p) (hx : RepX w A c B d x) (hm : SlR 4 RepU w vm rs) :
    Calls Tryz.prog 25 #[vp, .agg #[.slice A x.from_.length c, .slice B x.order.length d], vm] w (RetIB w (brI p x rs) (brO p x rs)) := by
  obtain ⟨Ap, cp, rfl, _⟩ := SlR.slice hp
  obtain ⟨Am, cm, rfl, hml⟩ := SlR.slice hm
  obtain ⟨w0, hw0⟩ : ∃ w0, w0 = w.alloc (.cells #[.slice A x.from_.length c, .slice B x.order.length d] 34) := ⟨_, rfl⟩
  have bx0 : Box2 w0 w.heap.size (.slice A x.from_.length c) (.slice B x.order.length d) := by rw [hw0]; exact Box2.new _ _ _ _
  have hB0 : Below w.heap.size w w0 := by rw [hw0]; exact (Below.refl _ _).alloc (Nat.le_refl _) _
  have hp0 := PrgS.le hp (Le.below hB0)
  have hr0 := hr.le hp (Le.below hB0)
  have hg0 := hg.le (Le.below hB0)
  have hx0 := hx.le (Le.below hB0)
  have hm0 := RepUs.le hm (Le.below hB0)
  have hlf := hx.1.len
  have hlo := hx.2.len
  obtain ⟨x0, x1, x2⟩ := bx0.all
  have hc := implCand_any p hl hls x w0 _ A B c d hp0 hx0 hbig
  have Hok : Hid (candB p x = true → CandOk p x) := candB_iff.1
  have Hval : Hid (mB rs = true → ∀ r ∈ rs, Shp 12 r.e) := fun h r hr => ((mB_iff.1 h).2.2 r hr).2.2.1
  have Hnot : Hid (candB p x = false ∨ mB rs = false → brI p x rs = -1 ∧ brO p x rs = false) := fun h => by
    refine ⟨if_neg fun h' => by rcases h with h | h <;> rw [h] at h' <;> simp at h', ?_⟩
    unfold brO
    rcases h with h | h <;> rw [h] <;> simp
  have Hyes : Hid (candB p x = true → mB rs = true → brI p x rs = brkN p x (evs p).length rs 0 ∧ brO p x rs = true) := fun h1 h2 => ⟨if_pos ⟨h1, h2⟩, by unfold brO; rw [h1, h2]; rfl⟩
  have HS := Lib.hid (And.intro hp0 (And.intro hx0 hm0))
  have Hr0 := Lib.hid hr0
  have Hg0 := Lib.hid hg0
  clear hp hx hm hp0 hx0 hm0 hr hr0 hg hg0 hls
  generalize brI p x rs = bi at Hnot Hyes ⊢
  generalize brO p x rs = bo at Hnot Hyes ⊢
  go_enter Tryz.func25, Tryz.ntmps25
  go_wp2_with fail
  rw [← hw0]
  clear hw0
  go_wp2_with fail
  cases hv : candB p x
  · rw [hv] at hc
    obtain ⟨rfl, rfl⟩ := Hnot.out (.inl hv)
    clear hv
    refine hc.mono ?_
    rintro f1 w1 ⟨rfl, hb1⟩
    clear hc
    go_wp2_with fail
    refine bodyPost_ret (v := .tuple #[.int .i64 (-1), .bool false]) (by simp [results, Tryz.results25, go_sem]) rfl ?_
    exact ⟨rfl, hB0.trans (hb1.mono hB0.size)⟩
  rw [hv] at hc
  have Hv := Lib.hid hv
  clear hv
  refine hc.mono ?_
  rintro f1 w1 ⟨rfl, hb1⟩
  have hB1 := hB0.trans (hb1.mono hB0.size)
  have hl1 := Le.below hb1
  have hve := modValid_any rs w1 _ (Hg0.out.le hl1) (RepUs.le HS.out.2.2 hl1)
  clear x0 x1 x2 hc
  go_wp2_with fail
  cases hw : mB rs
  · rw [hw] at hve
    obtain ⟨rfl, rfl⟩ := Hnot.out (.inr hw)
    clear hw
    refine hve.mono ?_
    rintro f2 w2 ⟨rfl, hb2⟩
    clear hve
    go_wp2_with fail
    refine bodyPost_ret (v := .tuple #[.int .i64 (-1), .bool false]) (by simp [results, Tryz.results25, go_sem]) rfl ?_
    exact ⟨rfl, hB1.trans (hb2.mono hB1.size)⟩
  rw [hw] at hve
  obtain ⟨hbi, rfl⟩ := Hyes.out Hv.out hw
  have Hbi := Lib.hid hbi
  have HV := Lib.hid (Hval.out hw)
  clear hw hbi
  refine hve.mono ?_
  rintro f2 w2 ⟨rfl, hb2⟩
  have hB2 := hB1.trans (hb2.mono hB1.size)
  have hl2 := hl1.trans (Le.below hb2)
  obtain ⟨x0, x1, x2⟩ := (bx0.le hl2).all
  have hev := imBroken_any p x (Hok.out Hv.out) (evs p).length rfl rs HV.out w2 _ _ A B c d (PrgS.le HS.out.1 hl2) (Hr0.out.le HS.out.1 hl2) (HS.out.2.1.le hl2) (RepUs.le HS.out.2.2 hl2)
  clear hve
  go_wp2_with fail
  refine hev.mono ?_
  rintro f3 w3 ⟨A3, m3, c3, rfl, _, hb3⟩
  go_wp2_with fail
  refine bodyPost_ret (v := .tuple #[.int .i64 (brkN p x (evs p).length rs 0), .bool true]) (by simp [results, Tryz.results25, go_sem]) rfl ?_
  exact ⟨by rw [Hbi.out], hB2.trans (hb3.mono hB2.size)⟩

end Go.Proofs.YtfgpbnncdfcjjabGreatDoor
