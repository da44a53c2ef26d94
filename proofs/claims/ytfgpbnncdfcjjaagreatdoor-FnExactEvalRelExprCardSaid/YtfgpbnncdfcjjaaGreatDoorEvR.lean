/-
  The walks of spec.EvalRelExpr and impl.EvalRelExpr.
-/
import Derived.Test.YtfgpbnncdfcjjaaGreatDoorEv
namespace Go.Proofs.YtfgpbnncdfcjjaaGreatDoor
open Go.RowKit
set_option linter.unusedVariables false
set_option maxRecDepth 100000

/-- What EvalRelExpr answers. -/
noncomputable def evB (p : Prg) (x : Ex) (e : RE) : List Int := if candB p x = true ∧ valB e = true then relN (evR p x (evs p).length e) (evs p).length else []
theorem evB_not {p : Prg} {x : Ex} {e : RE} (h : ¬ (candB p x = true ∧ valB e = true)) : evB p x e = [] := if_neg h
theorem evB_len {p : Prg} {x : Ex} {e : RE} : (evB p x e).length ≤ 15 := by
  unfold evB
  by_cases h : candB p x = true ∧ valB e = true
  · rw [if_pos h, relN_length]
    exact cand_len (candB_iff.1 h.1).1
  · rw [if_neg h]; simp
theorem RetRel.rowI {w w' : World} {R : Rel} {n : Nat} {e : Ending} (h : RetRel w R n e w') : RetRowI w (relN R n) e w' := by
  obtain ⟨A, c, he, hr, hb⟩ := h
  exact ⟨A, c, by rw [relN_length]; exact he, by rw [relN_length]; exact hr, hb⟩
theorem RetRowI.push {w w1 w2 : World} {xs : List Int} {A : Option Addr} {c n : Nat} (h : RowI w2 w1.heap.size (.slice A n c) xs) (hb : Below w.heap.size w w1) (hb2 : Below w1.heap.size w1 w2) : RetRowI w xs (.returned (.slice A n c)) w2 :=
  RetRowI.mk (h.rebase fun g hg => Nat.le_trans hb.size (h.blk hg).1) (hb.trans (hb2.mono hb.size))

set_option maxHeartbeats 4000000 in
theorem specEval_any (p : Prg) (hl : p.length ≤ 1048576) (x : Ex) (e : RE) (hcnt : cntE e ≤ 1048577) (w : World) (vp : Value) (A B A' : Option Addr) (c d c' : Nat) (hp : PrgS w vp p) (hx : RepX w A c B d x) (he : RepK w A' c' e) :
    Calls Tryz.prog 25 #[vp, .agg #[.slice A x.from_.length c, .slice B x.order.length d], .agg #[.int .i64 e.op, .string e.name, .slice A' e.kids.length c']] w (RetRowI w (evB p x e)) := by
  obtain ⟨Ap, cp, rfl, _⟩ := SlR.slice hp
  obtain ⟨w0, hw0⟩ : ∃ w0, w0 = (w.alloc (.cells #[.slice A x.from_.length c, .slice B x.order.length d] 27)).alloc (.cells #[.int .i64 e.op, .string e.name, .slice A' e.kids.length c'] 50) := ⟨_, rfl⟩
  have bx0 : Box2 w0 w.heap.size (.slice A x.from_.length c) (.slice B x.order.length d) := by rw [hw0]; exact (Box2.new _ _ _ _).le (Le.alloc _ _)
  have be0 : Box3 w0 (w.heap.size + 1) (.int .i64 e.op) (.string e.name) (.slice A' e.kids.length c') := by rw [hw0]; simpa using Box3.new (w.alloc (.cells #[.slice A x.from_.length c, .slice B x.order.length d] 27)) (.int .i64 e.op) (.string e.name) (.slice A' e.kids.length c') 50
  have hB0 : Below w.heap.size w w0 := by rw [hw0]; exact ((Below.refl _ _).alloc (Nat.le_refl _) _).alloc (by simp) _
  have hp0 := PrgS.le hp (Le.below hB0)
  have hx0 := hx.le (Le.below hB0)
  have he0 := he.le (Le.below hB0)
  have hlf := hx.1.len
  have hlo := hx.2.len
  obtain ⟨x0, x1, x2⟩ := bx0.all
  have hc := specCand_any p hl x w0 _ A B c d hp0 hx0
  have Hok : Hid (candB p x = true → CandOk p x) := candB_iff.1
  have Hnot : Hid (candB p x = false ∨ valB e = false → evB p x e = []) := fun h => evB_not fun h' => by rcases h with h | h <;> rw [h] at h' <;> simp at h'
  have Hyes : Hid (candB p x = true → valB e = true → evB p x e = relN (evR p x (evs p).length e) (evs p).length) := fun h1 h2 => if_pos ⟨h1, h2⟩
  have Hp0 := Lib.hid hp0
  have Hx0 := Lib.hid hx0
  have He0 := Lib.hid he0
  clear hp hx he hp0 hx0 he0
  go_enter Tryz.func25, Tryz.ntmps25
  go_wp2_with fail
  rw [← hw0]
  clear hw0
  go_wp2_with fail
  cases hv : candB p x
  · rw [hv] at hc
    have Hn := Lib.hid (Hnot.out (.inl hv))
    clear hv
    refine hc.mono ?_
    rintro f1 w1 ⟨rfl, hb1⟩
    clear hc
    go_wp2_with fail
    go_ret
    rw [Hn.out]
    have hB1 := hB0.trans (hb1.mono hB0.size)
    first | exact RetRowI.mk (RowOf.nil _ _ _ _ _) hB1 | exact RetRowI.mk (RowOf.made _ (Own.new _ _ _) hB1.size) (hB1.alloc hB1.size _)
  rw [hv] at hc
  have Hv := Lib.hid hv
  clear hv
  refine hc.mono ?_
  rintro f1 w1 ⟨rfl, hb1⟩
  have hB1 := hB0.trans (hb1.mono hB0.size)
  have hl1 := Le.below hb1
  have hve := specValid_any e w1 A' c' hcnt (He0.out.le hl1)
  obtain ⟨y0, y1, y2, y3⟩ := (be0.le hl1).all
  clear x0 x1 x2 hc
  go_wp2_with fail
  cases hw : valB e
  · rw [hw] at hve
    have Hn := Lib.hid (Hnot.out (.inr hw))
    clear hw
    refine hve.mono ?_
    rintro f2 w2 ⟨rfl, hb2⟩
    have hB2 := hB1.trans (hb2.mono hB1.size)
    clear hve
    go_wp2_with fail
    go_ret
    rw [Hn.out]
    first | exact RetRowI.mk (RowOf.nil _ _ _ _ _) hB2 | exact RetRowI.mk (RowOf.made _ (Own.new _ _ _) hB2.size) (hB2.alloc hB2.size _)
  rw [hw] at hve
  have Hr := Lib.hid (Hyes.out Hv.out hw)
  have Hsh := Lib.hid (valB_iff.1 hw).1
  clear hw
  refine hve.mono ?_
  rintro f2 w2 ⟨rfl, hb2⟩
  have hB2 := hB1.trans (hb2.mono hB1.size)
  have hl2 := hl1.trans (Le.below hb2)
  obtain ⟨z0, z1, z2, z3⟩ := (be0.le hl2).all
  obtain ⟨x0, x1, x2⟩ := (bx0.le hl2).all
  have hev := l7Eval_any p x (Hok.out Hv.out) (evs p).length rfl 12 e w2 _ A B A' c d c' Hsh.out (PrgS.le Hp0.out hl2) (Hx0.out.le hl2) (He0.out.le hl2)
  clear y0 y1 y2 y3 hve
  go_wp2_with fail
  refine hev.mono ?_
  intro f3 w3 h3
  obtain ⟨A3, c3, rfl, hr3, hb3⟩ := h3.rowI
  go_wp2_with fail
  go_ret
  rw [Hr.out]
  exact RetRowI.push hr3 hB2 hb3

set_option maxHeartbeats 4000000 in
theorem implEval_any (p : Prg) (hl : p.length ≤ 1048576) (hls : ∀ t ∈ p, t.length ≤ 1048576) (x : Ex) (hbig : wX x ≤ 1048576) (e : RE) (w : World) (vp : Value) (A B A' : Option Addr) (c d c' : Nat) (hg : GN w) (hp : PrgS w vp p) (hr : Room w vp p) (hx : RepX w A c B d x) (he : RepK w A' c' e) :
    Calls Tryz.prog 29 #[vp, .agg #[.slice A x.from_.length c, .slice B x.order.length d], .agg #[.int .i64 e.op, .string e.name, .slice A' e.kids.length c']] w (RetRowI w (evB p x e)) := by
  obtain ⟨Ap, cp, rfl, _⟩ := SlR.slice hp
  obtain ⟨w0, hw0⟩ : ∃ w0, w0 = (w.alloc (.cells #[.slice A x.from_.length c, .slice B x.order.length d] 27)).alloc (.cells #[.int .i64 e.op, .string e.name, .slice A' e.kids.length c'] 50) := ⟨_, rfl⟩
  have bx0 : Box2 w0 w.heap.size (.slice A x.from_.length c) (.slice B x.order.length d) := by rw [hw0]; exact (Box2.new _ _ _ _).le (Le.alloc _ _)
  have be0 : Box3 w0 (w.heap.size + 1) (.int .i64 e.op) (.string e.name) (.slice A' e.kids.length c') := by rw [hw0]; simpa using Box3.new (w.alloc (.cells #[.slice A x.from_.length c, .slice B x.order.length d] 27)) (.int .i64 e.op) (.string e.name) (.slice A' e.kids.length c') 50
  have hB0 : Below w.heap.size w w0 := by rw [hw0]; exact ((Below.refl _ _).alloc (Nat.le_refl _) _).alloc (by simp) _
  have hp0 := PrgS.le hp (Le.below hB0)
  have hr0 := hr.le hp (Le.below hB0)
  have hg0 := hg.le (Le.below hB0)
  have hx0 := hx.le (Le.below hB0)
  have he0 := he.le (Le.below hB0)
  have hlf := hx.1.len
  have hlo := hx.2.len
  obtain ⟨x0, x1, x2⟩ := bx0.all
  have hc := implCand_any p hl hls x w0 _ A B c d hp0 hx0 hbig
  have Hok : Hid (candB p x = true → CandOk p x) := candB_iff.1
  have Hnot : Hid (candB p x = false ∨ valB e = false → evB p x e = []) := fun h => evB_not fun h' => by rcases h with h | h <;> rw [h] at h' <;> simp at h'
  have Hyes : Hid (candB p x = true → valB e = true → evB p x e = relN (evR p x (evs p).length e) (evs p).length) := fun h1 h2 => if_pos ⟨h1, h2⟩
  have Hp0 := Lib.hid hp0
  have Hx0 := Lib.hid hx0
  have He0 := Lib.hid he0
  have Hr0 := Lib.hid hr0
  have Hg0 := Lib.hid hg0
  clear hp hx he hp0 hx0 he0 hr hr0 hg hg0 hls
  go_enter Tryz.func29, Tryz.ntmps29
  go_wp2_with fail
  rw [← hw0]
  clear hw0
  go_wp2_with fail
  cases hv : candB p x
  · rw [hv] at hc
    have Hn := Lib.hid (Hnot.out (.inl hv))
    clear hv
    refine hc.mono ?_
    rintro f1 w1 ⟨rfl, hb1⟩
    clear hc
    go_wp2_with fail
    go_ret
    rw [Hn.out]
    have hB1 := hB0.trans (hb1.mono hB0.size)
    first | exact RetRowI.mk (RowOf.nil _ _ _ _ _) hB1 | exact RetRowI.mk (RowOf.made _ (Own.new _ _ _) hB1.size) (hB1.alloc hB1.size _)
  rw [hv] at hc
  have Hv := Lib.hid hv
  clear hv
  refine hc.mono ?_
  rintro f1 w1 ⟨rfl, hb1⟩
  have hB1 := hB0.trans (hb1.mono hB0.size)
  have hl1 := Le.below hb1
  have hve := valid_any e w1 A' c' (Hg0.out.le hl1) (He0.out.le hl1)
  obtain ⟨y0, y1, y2, y3⟩ := (be0.le hl1).all
  clear x0 x1 x2 hc
  go_wp2_with fail
  cases hw : valB e
  · rw [hw] at hve
    have Hn := Lib.hid (Hnot.out (.inr hw))
    clear hw
    refine hve.mono ?_
    rintro f2 w2 ⟨rfl, hb2⟩
    have hB2 := hB1.trans (hb2.mono hB1.size)
    clear hve
    go_wp2_with fail
    go_ret
    rw [Hn.out]
    first | exact RetRowI.mk (RowOf.nil _ _ _ _ _) hB2 | exact RetRowI.mk (RowOf.made _ (Own.new _ _ _) hB2.size) (hB2.alloc hB2.size _)
  rw [hw] at hve
  have Hr := Lib.hid (Hyes.out Hv.out hw)
  have Hsh := Lib.hid (valB_iff.1 hw).1
  clear hw
  refine hve.mono ?_
  rintro f2 w2 ⟨rfl, hb2⟩
  have hB2 := hB1.trans (hb2.mono hB1.size)
  have hl2 := hl1.trans (Le.below hb2)
  obtain ⟨z0, z1, z2, z3⟩ := (be0.le hl2).all
  obtain ⟨x0, x1, x2⟩ := (bx0.le hl2).all
  have hev := evalRel_any p x (Hok.out Hv.out) (evs p).length rfl 12 e w2 _ A B A' c d c' Hsh.out (PrgS.le Hp0.out hl2) (Hr0.out.le Hp0.out hl2) (Hx0.out.le hl2) (He0.out.le hl2)
  clear y0 y1 y2 y3 hve
  go_wp2_with fail
  refine hev.mono ?_
  intro f3 w3 h3
  obtain ⟨A3, c3, rfl, hr3, hb3⟩ := h3.rowI
  go_wp2_with fail
  go_ret
  rw [Hr.out]
  exact RetRowI.push hr3 hB2 hb3

end Go.Proofs.YtfgpbnncdfcjjaaGreatDoor
