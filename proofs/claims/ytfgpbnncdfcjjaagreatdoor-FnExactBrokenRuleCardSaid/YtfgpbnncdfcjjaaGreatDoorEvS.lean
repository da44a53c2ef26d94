/-
  What a valid expression means for a valid candidate; the walks of spec.l7Eval and impl.evalRel. The walks of spec.EvalRelExpr and impl.EvalRelExpr.
-/
import Derived.Test.YtfgpbnncdfcjjaaGreatDoorRelI
import Derived.Test.YtfgpbnncdfcjjaaGreatDoorWVal
import Derived.Test.YtfgpbnncdfcjjaaGreatDoorImRl
import Derived.StillTailTactics

/-! What a valid expression means for a valid candidate; the walks of spec.l7Eval and impl.evalRel. -/
namespace Go.Proofs.YtfgpbnncdfcjjaaGreatDoor
open Go.RowKit
set_option linter.unusedVariables false
set_option maxRecDepth 100000

def evR (p : Prg) (x : Ex) (n : Nat) : RE → Rel
  | .mk op name [] => pairB p x (evs p) (nmI name)
  | .mk op name [a] => if op = 6 then inR (evR p x n a) else clR n (evR p x n a)
  | .mk op name [a, b] => if op = 2 then unR (evR p x n a) (evR p x n b) else if op = 3 then meR (evR p x n a) (evR p x n b) else if op = 4 then miR (evR p x n a) (evR p x n b) else coR n (evR p x n a) (evR p x n b)
  | .mk op name (_ :: _ :: _ :: _) => fun _ _ => false
theorem RetRel.push {w w1 w2 : World} {R : Rel} {n : Nat} {A : Option Addr} {c : Nat} (h : RowI w2 w1.heap.size (.slice A n c) (relN R n)) (hb : Below w.heap.size w w1) (hb2 : Below w1.heap.size w1 w2) : RetRel w R n (.returned (.slice A n c)) w2 :=
  ⟨A, c, rfl, h.rebase fun g hg => Nat.le_trans hb.size (h.blk hg).1, hb.trans (hb2.mono hb.size)⟩

set_option maxHeartbeats 8000000 in
theorem l7Eval_any (p : Prg) (x : Ex) (hok : CandOk p x) (n : Nat) (hnn : (evs p).length = n) (m : Nat) : ∀ (e : RE) (w : World) (vp : Value) (A B A' : Option Addr) (c d c' : Nat), Shp m e → PrgS w vp p → RepX w A c B d x → RepK w A' c' e →
    Calls Tryz.prog 86 #[vp, .agg #[.slice A x.from_.length c, .slice B x.order.length d], .agg #[.int .i64 e.op, .string e.name, .slice A' e.kids.length c']] w (RetRel w (evR p x n e) n) := by
  have hn16 : n ≤ 16 := by have := cand_len hok.1; omega
  have HrelO := Lib.hid (fun (j : Nat) (hj : j < 10) W vp A B c d hp hx => (specRel_any p x hok j hj W vp A B c d hp hx).mono fun e w' h => RetRel.of (n := n) (R := pairB p x (evs p) j) (by rw [← hnn]; exact h))
  induction m with
  | zero => intro e w vp A B A' c d c' h; exact h.elim
  | succ m ih =>
    intro e w vp A B A' c d c' hv hp hx he
    obtain ⟨op, name, kids⟩ := e
    have hks := he.2
    have hnm := he.1
    clear he
    obtain ⟨⟨h1, h2, h3⟩, h4⟩ := hv
    simp only [RE.op, RE.name, RE.kids] at h1 h2 h3 h4 hks hnm ⊢
    obtain ⟨Ap, cp, rfl, _⟩ := SlR.slice hp
    have hIH := Lib.hid ih
    clear ih
    obtain ⟨w0, hw0⟩ : ∃ w0, w0 = (w.alloc (.cells #[.slice A x.from_.length c, .slice B x.order.length d] 27)).alloc (.cells #[.int .i64 op, .string name, .slice A' kids.length c'] 50) := ⟨_, rfl⟩
    have bx0 : Box2 w0 w.heap.size (.slice A x.from_.length c) (.slice B x.order.length d) := by rw [hw0]; exact (Box2.new _ _ _ _).le (Le.alloc _ _)
    have be0 : Box3 w0 (w.heap.size + 1) (.int .i64 op) (.string name) (.slice A' kids.length c') := by rw [hw0]; simpa using Box3.new (w.alloc (.cells #[.slice A x.from_.length c, .slice B x.order.length d] 27)) (.int .i64 op) (.string name) (.slice A' kids.length c') 50
    have hB0 : Below w.heap.size w w0 := by rw [hw0]; exact ((Below.refl _ _).alloc (Nat.le_refl _) _).alloc (by simp) _
    have hp0 := PrgS.le hp (Le.below hB0)
    have hx0 := hx.le (Le.below hB0)
    have hk0 := RepEs.le hks (Le.below hB0)
    have hlf := hx.1.len
    have hlo := hx.2.len
    obtain ⟨x0, x1, _⟩ := bx0.all
    obtain ⟨e0, e1, e2, _⟩ := be0.all
    clear hp hx hks
    rcases kids with _ | ⟨a, _ | ⟨a', _ | ⟨a'', tl⟩⟩⟩
    · obtain ⟨rfl, _⟩ | ⟨_, h⟩ | ⟨_, h⟩ := kidsI_cases h1
      case inr.inl => simp at h
      case inr.inr => simp at h
      obtain ⟨hj, hnme⟩ := nmI_at (h2.1 rfl)
      have hc := HrelO.out (nmI name) hj w0 _ A B c d hp0 hx0
      rw [← hnme] at hc
      have Hev : Hid (evR p x n (.mk 1 name []) = pairB p x (evs p) (nmI name)) := by show _ = _; rw [evR]
      clear h2 h3 hnme
      simp only [List.length_nil] at hw0
      go_enter Tryz.func86, Tryz.ntmps86
      go_wp2_with fail
      rw [← hw0]
      clear hw0
      go_wp2_with fail
      refine hc.mono ?_
      rintro f1 w1 ⟨A1, c1, rfl, hr1, hb1⟩
      go_wp2_with fail
      go_ret
      rw [Hev.out]
      exact RetRel.push hr1 hB0 hb1
    · have hop : op = 6 ∨ op = 7 := by
        rcases kidsI_cases h1 with ⟨_, h⟩ | ⟨h, _⟩ | ⟨_, h⟩
        · simp at h
        · exact h
        · simp at h
      obtain ⟨b, o, A0, c0, rfl, hbl, k0, k1, k2, hre⟩ := RepEs.get hk0 (i := 0) (by simp)
      simp only [Nat.zero_mul, Nat.add_zero, List.getElem_cons_zero] at k0 k1 k2 hre
      have hc := fun W (hl : Le w0 W) => hIH.out a W _ A B A0 c d c0 (h4 a (by simp)) (PrgS.le hp0 hl) (hx0.le hl) (hre.le hl)
      have Hc := Lib.hid hc
      have Hev : Hid (evR p x n (.mk op name [a]) = if op = 6 then inR (evR p x n a) else clR n (evR p x n a)) := by show _ = _; rw [evR]
      generalize evR p x n a = Ra at Hev Hc
      have Hbe := Lib.hid be0
      have HB0 := Lib.hid hB0
      clear hc h1 h2 h3 h4 hIH HrelO be0 bx0 hB0 hre hp0 hx0 hk0
      simp only [List.length_cons, List.length_nil, Nat.zero_add] at hw0
      rcases hop with rfl | rfl
      all_goals
        go_enter Tryz.func86, Tryz.ntmps86
        go_wp2_with fail
        rw [← hw0]
        clear hw0
        go_wp2_with fail
        go_still_tail 6, (by kernel_rfl)
        go_wp2_with fail
        refine (Hc.out _ (Le.drew _)).mono ?_
        rintro f1 w1 ⟨A1, c1, rfl, hr1, hb1⟩
        have hb1' := below_of_drew hb1
        have hB1 := HB0.out.trans (hb1'.mono HB0.out.size)
        have hI1 := row_rel hr1
        obtain ⟨q0, _⟩ := (Hbe.out.le (Le.below hb1')).all
        clear x0 x1 e0 e1 e2 k0 k1 k2
        go_wp2_with fail
        first
          | refine (l2Inverse_any _ n hn16 w1 A1 c1 hI1).mono ?_
          | refine (l2Closure_any _ n hn16 w1 A1 c1 hI1).mono ?_
        rintro f2 w2 ⟨A2, c2, rfl, hr2, hb2⟩
        go_wp2_with fail
        go_ret
        rw [Hev.out]
        try simp only [if_true]
        exact RetRel.push hr2 hB1 hb2
    · have hop : op = 2 ∨ op = 3 ∨ op = 4 ∨ op = 5 := by
        rcases kidsI_cases h1 with ⟨_, h⟩ | ⟨_, h⟩ | ⟨h, _⟩
        · simp at h
        · simp at h
        · exact h
      obtain ⟨b, o, A0, c0, e9, hbl, k0, k1, k2, hre⟩ := RepEs.get hk0 (i := 0) (by simp)
      subst e9
      obtain ⟨b', o', A9, c9, e9, hbl', l0, l1, l2, hre'⟩ := RepEs.get hk0 (i := 1) (by simp)
      injection e9 with e9
      injection e9 with e9 e10
      subst e9 e10
      simp only [Nat.zero_mul, Nat.one_mul, Nat.add_zero, List.getElem_cons_zero, List.getElem_cons_succ] at k0 k1 k2 hre l0 l1 l2 hre'
      have hc := fun W (hl : Le w0 W) => hIH.out a W _ A B A0 c d c0 (h4 a (by simp)) (PrgS.le hp0 hl) (hx0.le hl) (hre.le hl)
      have hc' := fun W (hl : Le w0 W) => hIH.out a' W _ A B A9 c d c9 (h4 a' (by simp)) (PrgS.le hp0 hl) (hx0.le hl) (hre'.le hl)
      have Hc := Lib.hid hc
      have Hc' := Lib.hid hc'
      have Hev : Hid (evR p x n (.mk op name [a, a']) = if op = 2 then unR (evR p x n a) (evR p x n a') else if op = 3 then meR (evR p x n a) (evR p x n a') else if op = 4 then miR (evR p x n a) (evR p x n a') else coR n (evR p x n a) (evR p x n a')) := by show _ = _; rw [evR]
      generalize evR p x n a = Ra at Hev Hc
      generalize evR p x n a' = Rb at Hev Hc'
      have Hbe := Lib.hid be0
      have Hbx := Lib.hid bx0
      have HB0 := Lib.hid hB0
      have Hl := Lib.hid (And.intro l0 (And.intro l1 l2))
      clear hc hc' h1 h2 h3 h4 hIH HrelO be0 bx0 hB0 hre hre' hp0 hx0 hk0 l0 l1 l2
      simp only [List.length_cons, List.length_nil, Nat.zero_add, Nat.reduceAdd] at hw0
      rcases hop with rfl | rfl | rfl | rfl
      all_goals
        go_enter Tryz.func86, Tryz.ntmps86
        go_wp2_with fail
        rw [← hw0]
        clear hw0
        go_wp2_with fail
        go_still_tail 6, (by kernel_rfl)
        go_wp2_with fail
        refine (Hc.out _ (Le.drew _)).mono ?_
        rintro f1 w1 ⟨A1, c1, rfl, hr1, hb1⟩
        have hb1' := below_of_drew hb1
        have hB1 := HB0.out.trans (hb1'.mono HB0.out.size)
        have HI1 := Lib.hid (row_rel hr1)
        obtain ⟨q0, q1, q2, _⟩ := (Hbe.out.le (Le.below hb1')).all
        obtain ⟨y0, y1, _⟩ := (Hbx.out.le (Le.below hb1')).all
        have l0 := Le.below hb1' _ _ Hl.out.1
        have l1 := Le.below hb1' _ _ Hl.out.2.1
        have l2 := Le.below hb1' _ _ Hl.out.2.2
        have hbw : b < w1.heap.size := Nat.lt_of_lt_of_le hbl hb1'.size
        clear x0 x1 e0 e1 e2 k0 k1 k2
        go_wp2_with fail
        go_still_tail 6, (by kernel_rfl)
        go_wp2_with fail
        refine (Hc'.out _ ((Le.below hb1').trans (Le.drew _))).mono ?_
        rintro f2 w2 ⟨A2, c2, rfl, hr2, hb2⟩
        have hb2' := below_of_drew hb2
        have hB2 := hB1.trans (hb2'.mono hB1.size)
        have hI2 := row_rel hr2
        have hI12 := HI1.out.le (Le.below hb2')
        obtain ⟨r0, _⟩ := (Hbe.out.le ((Le.below hb1').trans (Le.below hb2'))).all
        clear q0 q1 q2 y0 y1 l0 l1 l2
        go_wp2_with fail
        first
          | refine (l2Union_any _ _ n hn16 w2 A1 A2 c1 c2 hI12 hI2).mono ?_
          | refine (l2Meet_any _ _ n hn16 w2 A1 A2 c1 c2 hI12 hI2).mono ?_
          | refine (l2Minus_any _ _ n hn16 w2 A1 A2 c1 c2 hI12 hI2).mono ?_
          | refine (l2Compose_any _ _ n hn16 w2 A1 A2 c1 c2 hI12 hI2).mono ?_
        rintro f3 w3 ⟨A3, c3, rfl, hr3, hb3⟩
        go_wp2_with fail
        go_ret
        rw [Hev.out]
        try simp only [if_true]
        exact RetRel.push hr3 hB2 hb3
    · rcases kidsI_cases h1 with ⟨_, h⟩ | ⟨_, h⟩ | ⟨_, h⟩
      · simp at h
      · simp at h
      · simp at h

set_option maxHeartbeats 8000000 in
theorem evalRel_any (p : Prg) (x : Ex) (hok : CandOk p x) (n : Nat) (hnn : (evs p).length = n) (m : Nat) : ∀ (e : RE) (w : World) (vp : Value) (A B A' : Option Addr) (c d c' : Nat), Shp m e → PrgS w vp p → Room w vp p → RepX w A c B d x → RepK w A' c' e →
    Calls Tryz.prog 91 #[vp, .agg #[.slice A x.from_.length c, .slice B x.order.length d], .agg #[.int .i64 e.op, .string e.name, .slice A' e.kids.length c']] w (RetRel w (evR p x n e) n) := by
  have hn16 : n ≤ 16 := by have := cand_len hok.1; omega
  have HrelO := Lib.hid (fun (j : Nat) (hj : j < 10) W vp A B c d hp hr hx => (relOf_any p x hok j hj W vp A B c d hp hr hx).mono fun e w' h => RetRel.of (n := n) (R := pairB p x (evs p) j) (by rw [← hnn]; exact h))
  induction m with
  | zero => intro e w vp A B A' c d c' h; exact h.elim
  | succ m ih =>
    intro e w vp A B A' c d c' hv hp hr hx he
    obtain ⟨op, name, kids⟩ := e
    have hks := he.2
    have hnm := he.1
    clear he
    obtain ⟨⟨h1, h2, h3⟩, h4⟩ := hv
    simp only [RE.op, RE.name, RE.kids] at h1 h2 h3 h4 hks hnm ⊢
    obtain ⟨Ap, cp, rfl, _⟩ := SlR.slice hp
    have hIH := Lib.hid ih
    clear ih
    obtain ⟨w0, hw0⟩ : ∃ w0, w0 = (w.alloc (.cells #[.slice A x.from_.length c, .slice B x.order.length d] 27)).alloc (.cells #[.int .i64 op, .string name, .slice A' kids.length c'] 50) := ⟨_, rfl⟩
    have bx0 : Box2 w0 w.heap.size (.slice A x.from_.length c) (.slice B x.order.length d) := by rw [hw0]; exact (Box2.new _ _ _ _).le (Le.alloc _ _)
    have be0 : Box3 w0 (w.heap.size + 1) (.int .i64 op) (.string name) (.slice A' kids.length c') := by rw [hw0]; simpa using Box3.new (w.alloc (.cells #[.slice A x.from_.length c, .slice B x.order.length d] 27)) (.int .i64 op) (.string name) (.slice A' kids.length c') 50
    have hB0 : Below w.heap.size w w0 := by rw [hw0]; exact ((Below.refl _ _).alloc (Nat.le_refl _) _).alloc (by simp) _
    have hp0 := PrgS.le hp (Le.below hB0)
    have hr0 := hr.le hp (Le.below hB0)
    have hx0 := hx.le (Le.below hB0)
    have hk0 := RepEs.le hks (Le.below hB0)
    have hlf := hx.1.len
    have hlo := hx.2.len
    obtain ⟨x0, x1, _⟩ := bx0.all
    obtain ⟨e0, e1, e2, _⟩ := be0.all
    clear hp hx hks hr
    rcases kids with _ | ⟨a, _ | ⟨a', _ | ⟨a'', tl⟩⟩⟩
    · obtain ⟨rfl, _⟩ | ⟨_, h⟩ | ⟨_, h⟩ := kidsI_cases h1
      case inr.inl => simp at h
      case inr.inr => simp at h
      obtain ⟨hj, hnme⟩ := nmI_at (h2.1 rfl)
      have hc := HrelO.out (nmI name) hj w0 _ A B c d hp0 hr0 hx0
      rw [← hnme] at hc
      have Hev : Hid (evR p x n (.mk 1 name []) = pairB p x (evs p) (nmI name)) := by show _ = _; rw [evR]
      clear h2 h3 hnme
      simp only [List.length_nil] at hw0
      go_enter Tryz.func91, Tryz.ntmps91
      go_wp2_with fail
      rw [← hw0]
      clear hw0
      go_wp2_with fail
      refine hc.mono ?_
      rintro f1 w1 ⟨A1, c1, rfl, hr1, hb1⟩
      go_wp2_with fail
      go_ret
      rw [Hev.out]
      exact RetRel.push hr1 hB0 hb1
    · have hop : op = 6 ∨ op = 7 := by
        rcases kidsI_cases h1 with ⟨_, h⟩ | ⟨h, _⟩ | ⟨_, h⟩
        · simp at h
        · exact h
        · simp at h
      obtain ⟨b, o, A0, c0, rfl, hbl, k0, k1, k2, hre⟩ := RepEs.get hk0 (i := 0) (by simp)
      simp only [Nat.zero_mul, Nat.add_zero, List.getElem_cons_zero] at k0 k1 k2 hre
      have hc := fun W (hl : Le w0 W) => hIH.out a W _ A B A0 c d c0 (h4 a (by simp)) (PrgS.le hp0 hl) (hr0.le hp0 hl) (hx0.le hl) (hre.le hl)
      have Hc := Lib.hid hc
      have Hev : Hid (evR p x n (.mk op name [a]) = if op = 6 then inR (evR p x n a) else clR n (evR p x n a)) := by show _ = _; rw [evR]
      generalize evR p x n a = Ra at Hev Hc
      have Hbe := Lib.hid be0
      have HB0 := Lib.hid hB0
      clear hc h1 h2 h3 h4 hIH HrelO be0 bx0 hB0 hre hp0 hx0 hk0 hr0
      simp only [List.length_cons, List.length_nil, Nat.zero_add] at hw0
      rcases hop with rfl | rfl
      all_goals
        go_enter Tryz.func91, Tryz.ntmps91
        go_wp2_with fail
        rw [← hw0]
        clear hw0
        go_wp2_with fail
        go_still_tail 6, (by kernel_rfl)
        go_wp2_with fail
        refine (Hc.out _ (Le.drew _)).mono ?_
        rintro f1 w1 ⟨A1, c1, rfl, hr1, hb1⟩
        have hb1' := below_of_drew hb1
        have hB1 := HB0.out.trans (hb1'.mono HB0.out.size)
        have hI1 := row_rel hr1
        obtain ⟨q0, _⟩ := (Hbe.out.le (Le.below hb1')).all
        clear x0 x1 e0 e1 e2 k0 k1 k2
        go_wp2_with fail
        first
          | refine (imInverse_any _ n hn16 w1 A1 c1 hI1).mono ?_
          | refine (imClosure_any _ n hn16 w1 A1 c1 hI1).mono ?_
        rintro f2 w2 ⟨A2, c2, rfl, hr2, hb2⟩
        go_wp2_with fail
        go_ret
        rw [Hev.out]
        try simp only [if_true]
        exact RetRel.push hr2 hB1 hb2
    · have hop : op = 2 ∨ op = 3 ∨ op = 4 ∨ op = 5 := by
        rcases kidsI_cases h1 with ⟨_, h⟩ | ⟨_, h⟩ | ⟨h, _⟩
        · simp at h
        · simp at h
        · exact h
      obtain ⟨b, o, A0, c0, e9, hbl, k0, k1, k2, hre⟩ := RepEs.get hk0 (i := 0) (by simp)
      subst e9
      obtain ⟨b', o', A9, c9, e9, hbl', l0, l1, l2, hre'⟩ := RepEs.get hk0 (i := 1) (by simp)
      injection e9 with e9
      injection e9 with e9 e10
      subst e9 e10
      simp only [Nat.zero_mul, Nat.one_mul, Nat.add_zero, List.getElem_cons_zero, List.getElem_cons_succ] at k0 k1 k2 hre l0 l1 l2 hre'
      have hc := fun W (hl : Le w0 W) => hIH.out a W _ A B A0 c d c0 (h4 a (by simp)) (PrgS.le hp0 hl) (hr0.le hp0 hl) (hx0.le hl) (hre.le hl)
      have hc' := fun W (hl : Le w0 W) => hIH.out a' W _ A B A9 c d c9 (h4 a' (by simp)) (PrgS.le hp0 hl) (hr0.le hp0 hl) (hx0.le hl) (hre'.le hl)
      have Hc := Lib.hid hc
      have Hc' := Lib.hid hc'
      have Hev : Hid (evR p x n (.mk op name [a, a']) = if op = 2 then unR (evR p x n a) (evR p x n a') else if op = 3 then meR (evR p x n a) (evR p x n a') else if op = 4 then miR (evR p x n a) (evR p x n a') else coR n (evR p x n a) (evR p x n a')) := by show _ = _; rw [evR]
      generalize evR p x n a = Ra at Hev Hc
      generalize evR p x n a' = Rb at Hev Hc'
      have Hbe := Lib.hid be0
      have Hbx := Lib.hid bx0
      have HB0 := Lib.hid hB0
      have Hl := Lib.hid (And.intro l0 (And.intro l1 l2))
      clear hc hc' h1 h2 h3 h4 hIH HrelO be0 bx0 hB0 hre hre' hp0 hx0 hk0 l0 l1 l2 hr0
      simp only [List.length_cons, List.length_nil, Nat.zero_add, Nat.reduceAdd] at hw0
      rcases hop with rfl | rfl | rfl | rfl
      all_goals
        go_enter Tryz.func91, Tryz.ntmps91
        go_wp2_with fail
        rw [← hw0]
        clear hw0
        go_wp2_with fail
        go_still_tail 6, (by kernel_rfl)
        go_wp2_with fail
        refine (Hc.out _ (Le.drew _)).mono ?_
        rintro f1 w1 ⟨A1, c1, rfl, hr1, hb1⟩
        have hb1' := below_of_drew hb1
        have hB1 := HB0.out.trans (hb1'.mono HB0.out.size)
        have HI1 := Lib.hid (row_rel hr1)
        obtain ⟨q0, q1, q2, _⟩ := (Hbe.out.le (Le.below hb1')).all
        obtain ⟨y0, y1, _⟩ := (Hbx.out.le (Le.below hb1')).all
        have l0 := Le.below hb1' _ _ Hl.out.1
        have l1 := Le.below hb1' _ _ Hl.out.2.1
        have l2 := Le.below hb1' _ _ Hl.out.2.2
        have hbw : b < w1.heap.size := Nat.lt_of_lt_of_le hbl hb1'.size
        clear x0 x1 e0 e1 e2 k0 k1 k2
        go_wp2_with fail
        go_still_tail 6, (by kernel_rfl)
        go_wp2_with fail
        refine (Hc'.out _ ((Le.below hb1').trans (Le.drew _))).mono ?_
        rintro f2 w2 ⟨A2, c2, rfl, hr2, hb2⟩
        have hb2' := below_of_drew hb2
        have hB2 := hB1.trans (hb2'.mono hB1.size)
        have hI2 := row_rel hr2
        have hI12 := HI1.out.le (Le.below hb2')
        obtain ⟨r0, _⟩ := (Hbe.out.le ((Le.below hb1').trans (Le.below hb2'))).all
        clear q0 q1 q2 y0 y1 l0 l1 l2
        go_wp2_with fail
        first
          | refine (imUnion_any _ _ n hn16 w2 A1 A2 c1 c2 hI12 hI2).mono ?_
          | refine (imMeet_any _ _ n hn16 w2 A1 A2 c1 c2 hI12 hI2).mono ?_
          | refine (imMinus_any _ _ n hn16 w2 A1 A2 c1 c2 hI12 hI2).mono ?_
          | refine (imCompose_any _ _ n hn16 w2 A1 A2 c1 c2 hI12 hI2).mono ?_
        rintro f3 w3 ⟨A3, c3, rfl, hr3, hb3⟩
        go_wp2_with fail
        go_ret
        rw [Hev.out]
        try simp only [if_true]
        exact RetRel.push hr3 hB2 hb3
    · rcases kidsI_cases h1 with ⟨_, h⟩ | ⟨_, h⟩ | ⟨_, h⟩
      · simp at h
      · simp at h
      · simp at h

end Go.Proofs.YtfgpbnncdfcjjaaGreatDoor

/-! The walks of spec.EvalRelExpr and impl.EvalRelExpr. -/
namespace Go.Proofs.YtfgpbnncdfcjjaaGreatDoor
open Go.RowKit
set_option linter.unusedVariables false
set_option maxRecDepth 100000

/-- What EvalRelExpr answers. -/
noncomputable def evB (p : Prg) (x : Ex) (e : RE) : List Int := if candB p x = true ∧ valB e = true then relN (evR p x (evs p).length e) (evs p).length else []
theorem evB_not {p : Prg} {x : Ex} {e : RE} (h : ¬ (candB p x = true ∧ valB e = true)) : evB p x e = [] := if_neg h
theorem evB_len {p : Prg} {x : Ex} {e : RE} : (evB p x e).length ≤ 15 := by
  unfold evB
  by_cases h : candB p x = true ∧ valB e = true
  · rw [if_pos h, relN_length]
    exact cand_len (candB_iff.1 h.1).1
  · rw [if_neg h]; simp
theorem RetRel.rowI {w w' : World} {R : Rel} {n : Nat} {e : Ending} (h : RetRel w R n e w') : RetRowI w (relN R n) e w' := by
  obtain ⟨A, c, he, hr, hb⟩ := h
  exact ⟨A, c, by rw [relN_length]; exact he, by rw [relN_length]; exact hr, hb⟩
theorem RetRowI.push {w w1 w2 : World} {xs : List Int} {A : Option Addr} {c n : Nat} (h : RowI w2 w1.heap.size (.slice A n c) xs) (hb : Below w.heap.size w w1) (hb2 : Below w1.heap.size w1 w2) : RetRowI w xs (.returned (.slice A n c)) w2 :=
  RetRowI.mk (h.rebase fun g hg => Nat.le_trans hb.size (h.blk hg).1) (hb.trans (hb2.mono hb.size))

set_option maxHeartbeats 4000000 in
theorem specEval_any (p : Prg) (hl : p.length ≤ 1048576) (x : Ex) (e : RE) (hcnt : cntE e ≤ 1048577) (w : World) (vp : Value) (A B A' : Option Addr) (c d c' : Nat) (hp : PrgS w vp p) (hx : RepX w A c B d x) (he : RepK w A' c' e) :
    Calls Tryz.prog 25 #[vp, .agg #[.slice A x.from_.length c, .slice B x.order.length d], .agg #[.int .i64 e.op, .string e.name, .slice A' e.kids.length c']] w (RetRowI w (evB p x e)) := by
  obtain ⟨Ap, cp, rfl, _⟩ := SlR.slice hp
  obtain ⟨w0, hw0⟩ : ∃ w0, w0 = (w.alloc (.cells #[.slice A x.from_.length c, .slice B x.order.length d] 27)).alloc (.cells #[.int .i64 e.op, .string e.name, .slice A' e.kids.length c'] 50) := ⟨_, rfl⟩
  have bx0 : Box2 w0 w.heap.size (.slice A x.from_.length c) (.slice B x.order.length d) := by rw [hw0]; exact (Box2.new _ _ _ _).le (Le.alloc _ _)
  have be0 : Box3 w0 (w.heap.size + 1) (.int .i64 e.op) (.string e.name) (.slice A' e.kids.length c') := by rw [hw0]; simpa using Box3.new (w.alloc (.cells #[.slice A x.from_.length c, .slice B x.order.length d] 27)) (.int .i64 e.op) (.string e.name) (.slice A' e.kids.length c') 50
  have hB0 : Below w.heap.size w w0 := by rw [hw0]; exact ((Below.refl _ _).alloc (Nat.le_refl _) _).alloc (by simp) _
  have hp0 := PrgS.le hp (Le.below hB0)
  have hx0 := hx.le (Le.below hB0)
  have he0 := he.le (Le.below hB0)
  have hlf := hx.1.len
  have hlo := hx.2.len
  obtain ⟨x0, x1, x2⟩ := bx0.all
  have hc := specCand_any p hl x w0 _ A B c d hp0 hx0
  have Hok : Hid (candB p x = true → CandOk p x) := candB_iff.1
  have Hnot : Hid (candB p x = false ∨ valB e = false → evB p x e = []) := fun h => evB_not fun h' => by rcases h with h | h <;> rw [h] at h' <;> simp at h'
  have Hyes : Hid (candB p x = true → valB e = true → evB p x e = relN (evR p x (evs p).length e) (evs p).length) := fun h1 h2 => if_pos ⟨h1, h2⟩
  have Hp0 := Lib.hid hp0
  have Hx0 := Lib.hid hx0
  have He0 := Lib.hid he0
  clear hp hx he hp0 hx0 he0
  go_enter Tryz.func25, Tryz.ntmps25
  go_wp2_with fail
  rw [← hw0]
  clear hw0
  go_wp2_with fail
  cases hv : candB p x
  · rw [hv] at hc
    have Hn := Lib.hid (Hnot.out (.inl hv))
    clear hv
    refine hc.mono ?_
    rintro f1 w1 ⟨rfl, hb1⟩
    clear hc
    go_wp2_with fail
    go_ret
    rw [Hn.out]
    have hB1 := hB0.trans (hb1.mono hB0.size)
    first | exact RetRowI.mk (RowOf.nil _ _ _ _ _) hB1 | exact RetRowI.mk (RowOf.made _ (Own.new _ _ _) hB1.size) (hB1.alloc hB1.size _)
  rw [hv] at hc
  have Hv := Lib.hid hv
  clear hv
  refine hc.mono ?_
  rintro f1 w1 ⟨rfl, hb1⟩
  have hB1 := hB0.trans (hb1.mono hB0.size)
  have hl1 := Le.below hb1
  have hve := specValid_any e w1 A' c' hcnt (He0.out.le hl1)
  obtain ⟨y0, y1, y2, y3⟩ := (be0.le hl1).all
  clear x0 x1 x2 hc
  go_wp2_with fail
  cases hw : valB e
  · rw [hw] at hve
    have Hn := Lib.hid (Hnot.out (.inr hw))
    clear hw
    refine hve.mono ?_
    rintro f2 w2 ⟨rfl, hb2⟩
    have hB2 := hB1.trans (hb2.mono hB1.size)
    clear hve
    go_wp2_with fail
    go_ret
    rw [Hn.out]
    first | exact RetRowI.mk (RowOf.nil _ _ _ _ _) hB2 | exact RetRowI.mk (RowOf.made _ (Own.new _ _ _) hB2.size) (hB2.alloc hB2.size _)
  rw [hw] at hve
  have Hr := Lib.hid (Hyes.out Hv.out hw)
  have Hsh := Lib.hid (valB_iff.1 hw).1
  clear hw
  refine hve.mono ?_
  rintro f2 w2 ⟨rfl, hb2⟩
  have hB2 := hB1.trans (hb2.mono hB1.size)
  have hl2 := hl1.trans (Le.below hb2)
  obtain ⟨z0, z1, z2, z3⟩ := (be0.le hl2).all
  obtain ⟨x0, x1, x2⟩ := (bx0.le hl2).all
  have hev := l7Eval_any p x (Hok.out Hv.out) (evs p).length rfl 12 e w2 _ A B A' c d c' Hsh.out (PrgS.le Hp0.out hl2) (Hx0.out.le hl2) (He0.out.le hl2)
  clear y0 y1 y2 y3 hve
  go_wp2_with fail
  refine hev.mono ?_
  intro f3 w3 h3
  obtain ⟨A3, c3, rfl, hr3, hb3⟩ := h3.rowI
  go_wp2_with fail
  go_ret
  rw [Hr.out]
  exact RetRowI.push hr3 hB2 hb3

set_option maxHeartbeats 4000000 in
theorem implEval_any (p : Prg) (hl : p.length ≤ 1048576) (hls : ∀ t ∈ p, t.length ≤ 1048576) (x : Ex) (hbig : wX x ≤ 1048576) (e : RE) (w : World) (vp : Value) (A B A' : Option Addr) (c d c' : Nat) (hg : GN w) (hp : PrgS w vp p) (hr : Room w vp p) (hx : RepX w A c B d x) (he : RepK w A' c' e) :
    Calls Tryz.prog 29 #[vp, .agg #[.slice A x.from_.length c, .slice B x.order.length d], .agg #[.int .i64 e.op, .string e.name, .slice A' e.kids.length c']] w (RetRowI w (evB p x e)) := by
  obtain ⟨Ap, cp, rfl, _⟩ := SlR.slice hp
  obtain ⟨w0, hw0⟩ : ∃ w0, w0 = (w.alloc (.cells #[.slice A x.from_.length c, .slice B x.order.length d] 27)).alloc (.cells #[.int .i64 e.op, .string e.name, .slice A' e.kids.length c'] 50) := ⟨_, rfl⟩
  have bx0 : Box2 w0 w.heap.size (.slice A x.from_.length c) (.slice B x.order.length d) := by rw [hw0]; exact (Box2.new _ _ _ _).le (Le.alloc _ _)
  have be0 : Box3 w0 (w.heap.size + 1) (.int .i64 e.op) (.string e.name) (.slice A' e.kids.length c') := by rw [hw0]; simpa using Box3.new (w.alloc (.cells #[.slice A x.from_.length c, .slice B x.order.length d] 27)) (.int .i64 e.op) (.string e.name) (.slice A' e.kids.length c') 50
  have hB0 : Below w.heap.size w w0 := by rw [hw0]; exact ((Below.refl _ _).alloc (Nat.le_refl _) _).alloc (by simp) _
  have hp0 := PrgS.le hp (Le.below hB0)
  have hr0 := hr.le hp (Le.below hB0)
  have hg0 := hg.le (Le.below hB0)
  have hx0 := hx.le (Le.below hB0)
  have he0 := he.le (Le.below hB0)
  have hlf := hx.1.len
  have hlo := hx.2.len
  obtain ⟨x0, x1, x2⟩ := bx0.all
  have hc := implCand_any p hl hls x w0 _ A B c d hp0 hx0 hbig
  have Hok : Hid (candB p x = true → CandOk p x) := candB_iff.1
  have Hnot : Hid (candB p x = false ∨ valB e = false → evB p x e = []) := fun h => evB_not fun h' => by rcases h with h | h <;> rw [h] at h' <;> simp at h'
  have Hyes : Hid (candB p x = true → valB e = true → evB p x e = relN (evR p x (evs p).length e) (evs p).length) := fun h1 h2 => if_pos ⟨h1, h2⟩
  have Hp0 := Lib.hid hp0
  have Hx0 := Lib.hid hx0
  have He0 := Lib.hid he0
  have Hr0 := Lib.hid hr0
  have Hg0 := Lib.hid hg0
  clear hp hx he hp0 hx0 he0 hr hr0 hg hg0 hls
  go_enter Tryz.func29, Tryz.ntmps29
  go_wp2_with fail
  rw [← hw0]
  clear hw0
  go_wp2_with fail
  cases hv : candB p x
  · rw [hv] at hc
    have Hn := Lib.hid (Hnot.out (.inl hv))
    clear hv
    refine hc.mono ?_
    rintro f1 w1 ⟨rfl, hb1⟩
    clear hc
    go_wp2_with fail
    go_ret
    rw [Hn.out]
    have hB1 := hB0.trans (hb1.mono hB0.size)
    first | exact RetRowI.mk (RowOf.nil _ _ _ _ _) hB1 | exact RetRowI.mk (RowOf.made _ (Own.new _ _ _) hB1.size) (hB1.alloc hB1.size _)
  rw [hv] at hc
  have Hv := Lib.hid hv
  clear hv
  refine hc.mono ?_
  rintro f1 w1 ⟨rfl, hb1⟩
  have hB1 := hB0.trans (hb1.mono hB0.size)
  have hl1 := Le.below hb1
  have hve := valid_any e w1 A' c' (Hg0.out.le hl1) (He0.out.le hl1)
  obtain ⟨y0, y1, y2, y3⟩ := (be0.le hl1).all
  clear x0 x1 x2 hc
  go_wp2_with fail
  cases hw : valB e
  · rw [hw] at hve
    have Hn := Lib.hid (Hnot.out (.inr hw))
    clear hw
    refine hve.mono ?_
    rintro f2 w2 ⟨rfl, hb2⟩
    have hB2 := hB1.trans (hb2.mono hB1.size)
    clear hve
    go_wp2_with fail
    go_ret
    rw [Hn.out]
    first | exact RetRowI.mk (RowOf.nil _ _ _ _ _) hB2 | exact RetRowI.mk (RowOf.made _ (Own.new _ _ _) hB2.size) (hB2.alloc hB2.size _)
  rw [hw] at hve
  have Hr := Lib.hid (Hyes.out Hv.out hw)
  have Hsh := Lib.hid (valB_iff.1 hw).1
  clear hw
  refine hve.mono ?_
  rintro f2 w2 ⟨rfl, hb2⟩
  have hB2 := hB1.trans (hb2.mono hB1.size)
  have hl2 := hl1.trans (Le.below hb2)
  obtain ⟨z0, z1, z2, z3⟩ := (be0.le hl2).all
  obtain ⟨x0, x1, x2⟩ := (bx0.le hl2).all
  have hev := evalRel_any p x (Hok.out Hv.out) (evs p).length rfl 12 e w2 _ A B A' c d c' Hsh.out (PrgS.le Hp0.out hl2) (Hr0.out.le Hp0.out hl2) (Hx0.out.le hl2) (He0.out.le hl2)
  clear y0 y1 y2 y3 hve
  go_wp2_with fail
  refine hev.mono ?_
  intro f3 w3 h3
  obtain ⟨A3, c3, rfl, hr3, hb3⟩ := h3.rowI
  go_wp2_with fail
  go_ret
  rw [Hr.out]
  exact RetRowI.push hr3 hB2 hb3

end Go.Proofs.YtfgpbnncdfcjjaaGreatDoor
