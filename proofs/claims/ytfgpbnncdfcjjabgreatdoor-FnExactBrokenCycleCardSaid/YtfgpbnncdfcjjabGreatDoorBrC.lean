/-
  The walks of spec.BrokenCycle, impl.brokenCycle, impl.BrokenCycle.
-/
import Derived.Test.YtfgpbnncdfcjjabGreatDoorEvA
import Derived.Test.YtfgpbnncdfcjjabGreatDoorCycA
namespace Go.Proofs.YtfgpbnncdfcjjabGreatDoor
open Go.RowKit
set_option linter.unusedVariables false
set_option maxRecDepth 100000

/-- A shortest cycle of a rule against cycles. -/
def bcR (p : Prg) (x : Ex) (n : Nat) (r : RU) : List Int := if r.kind = 1 then zs (bestC (evR p x n r.e) n n) else []
/-- .. of the first rule that is not fulfilled. -/
def bcN (p : Prg) (x : Ex) (n : Nat) (rs : List RU) : List Int :=
  if 0 ≤ brkN p x n rs 0 then (match rs[(brkN p x n rs 0).toNat]? with | some r => bcR p x n r | none => []) else []
noncomputable def bcO (p : Prg) (x : Ex) (rs : List RU) : List Int := if candB p x = true ∧ mB rs = true then bcN p x (evs p).length rs else []
theorem bcN_neg {p : Prg} {x : Ex} {n : Nat} {rs : List RU} (h : brkN p x n rs 0 = -1) : bcN p x n rs = [] := by
  unfold bcN
  rw [h]
  rfl
theorem bcN_at {p : Prg} {x : Ex} {n : Nat} {rs : List RU} {k : Nat} (hk : k < rs.length) (h : brkN p x n rs 0 = (k : Int)) : bcN p x n rs = bcR p x n rs[k] := by
  unfold bcN
  rw [h, if_pos (by omega), show ((k : Int)).toNat = k by omega, List.getElem?_eq_getElem hk]
theorem bcR_cyc {p : Prg} {x : Ex} {n : Nat} {r : RU} (h : r.kind = 1) : bcR p x n r = zs (bestC (evR p x n r.e) n n) := if_pos h
theorem bcR_none {p : Prg} {x : Ex} {n : Nat} {r : RU} (h : ¬ r.kind = 1) : bcR p x n r = [] := if_neg h
theorem brkN_range (p : Prg) (x : Ex) (n : Nat) (rs : List RU) : brkN p x n rs 0 = -1 ∨ ∃ k : Nat, k < rs.length ∧ brkN p x n rs 0 = (k : Int) := by
  rcases brkN_cases p x n rs 0 with ⟨h, _⟩ | ⟨k, hk, h, _⟩
  · exact .inl h
  · exact .inr ⟨k, hk, by rw [h, Nat.zero_add]⟩
theorem RetInts.none {w w' : World} {A : Option Addr} {c : Nat} (hb : Below w.heap.size w w') : RetInts w [] (.returned (.slice A 0 c)) w' :=
  ⟨A, c, rfl, ⟨_, _, rfl, by simp, fun i hi => absurd hi (Nat.not_lt_zero _)⟩, hb⟩

set_option maxHeartbeats 1500000 in
theorem imbc_any (p : Prg) (x : Ex) (hok : CandOk p x) (n : Nat) (hnn : (evs p).length = n) (rs : List RU) (hval : ∀ r ∈ rs, Shp 12 r.e) (w : World) (vp vm : Value) (A B : Option Addr) (c d : Nat) (hp : PrgS w vp p) (hr : Room w vp p) (hx : RepX w A c B d x) (hm : SlR 4 RepU w vm rs) :
    Calls Tryz.prog 43 #[vp, .agg #[.slice A x.from_.length c, .slice B x.order.length d], vm] w (RetCyc w (bcN p x n rs)) := by
  obtain ⟨Ap, cp, rfl, _⟩ := SlR.slice hp
  obtain ⟨Am, cm, rfl, hml⟩ := SlR.slice hm
  have hn16 : n ≤ 16 := by have := cand_len hok.1; omega
  obtain ⟨w0, hw0⟩ : ∃ w0, w0 = w.alloc (.cells #[.slice A x.from_.length c, .slice B x.order.length d] 34) := ⟨_, rfl⟩
  have bx0 : Box2 w0 w.heap.size (.slice A x.from_.length c) (.slice B x.order.length d) := by rw [hw0]; exact Box2.new _ _ _ _
  have hB0 : Below w.heap.size w w0 := by rw [hw0]; exact (Below.refl _ _).alloc (Nat.le_refl _) _
  have hl0 := Le.below hB0
  have hbr := imBroken_any p x hok n hnn rs hval w0 _ _ A B c d (PrgS.le hp hl0) (hr.le hp hl0) (hx.le hl0) (RepUs.le hm hl0)
  have Hm := Lib.hid (RepUs.le hm hl0)
  have hlf := hx.1.len
  have hlo := hx.2.len
  obtain ⟨x0, x1, x2⟩ := bx0.all
  clear hp hr hx hm
  go_enter Tryz.func43, Tryz.ntmps43
  go_wp2_with fail
  rw [← hw0]
  clear hw0
  go_wp2_with fail
  refine hbr.mono ?_
  rintro e1 w1 ⟨A1, m1, c1, rfl, hrow, hb1⟩
  have hB1 := hB0.trans (hb1.mono hB0.size)
  have Hrow := Lib.hid hrow
  clear hbr hrow x0 x1 x2
  rcases brkN_range p x n rs with hk | ⟨k, hk, hkk⟩
  · have Hz := Lib.hid (bcN_neg hk)
    rw [hk]
    go_wp2_with fail
    go_ret
    exact .inl ⟨Hz.out, rfl, hB1⟩
  · obtain ⟨rfl, hrow1⟩ := Hrow.out k hk hkk
    have hI1 := row_rel hrow1
    obtain ⟨bm, om, A', c', rfl, hbl, k0, k1, k2, k3, hkk'⟩ := RepUs.get (RepUs.le Hm.out (Le.below hb1)) hk
    have Hat := Lib.hid (bcN_at hk hkk)
    rw [hkk]
    have hd0 : decide ((k : Int) < 0) = false := by rw [decide_eq_false_iff_not]; omega
    have hd1 : (k : Int) < (rs.length : Int) := by omega
    by_cases h1 : rs[k].kind = 1
    · have hc := findCyc_any (evR p x m1 rs[k].e) m1 hn16 w1 A1 c1 hI1
      have Hz : Hid (bcN p x m1 rs = zs (bestC (evR p x m1 rs[k].e) m1 m1)) := Hat.out.trans (bcR_cyc h1)
      rw [h1] at k0
      clear Hat Hrow hrow1 hI1 k1 k2 k3 hkk' hkk
      go_wp2_with fail
      refine hc.mono ?_
      rintro e2 w2 h2
      rcases h2 with ⟨he, rfl, hb2⟩ | ⟨hne, b5, o5, c5, rfl, hI5, hR5, hb2⟩
      · go_wp2_with fail
        go_ret
        exact .inl ⟨Hz.out.trans he, rfl, hB1.trans (hb2.mono hB1.size)⟩
      · go_wp2_with fail
        go_ret
        refine .inr ⟨by rw [Hz.out]; exact hne, b5, o5, c5, by rw [Hz.out]; rfl, by rw [Hz.out]; exact hI5.le (Le.above_mono hB1.size _), by rw [Hz.out]; exact RowOf.rebase hR5 fun g hg => by have := (RowOf.blk hR5 hg).1; have := hB1.size; omega, hB1.trans (hb2.mono hB1.size)⟩
    · have Hz : Hid (bcN p x m1 rs = []) := Hat.out.trans (bcR_none h1)
      have hd2 : (rs[k].kind == 1) = false := by rw [beq_eq_false_iff_ne]; exact h1
      have hd3 : (rs[k].kind != 1) = true := by rw [bne_iff_ne]; exact h1
      clear Hat Hrow hrow1 hI1 k1 k2 k3 hkk' hkk h1
      go_wp2_with fail
      go_ret
      exact .inl ⟨Hz.out, rfl, hB1⟩

theorem bcO_not {p : Prg} {x : Ex} {rs : List RU} (h : brO p x rs = false) : bcO p x rs = [] := by
  unfold bcO
  rw [if_neg]
  rintro ⟨h1, h2⟩
  unfold brO at h
  rw [h1, h2] at h
  cases h
theorem brO_true {p : Prg} {x : Ex} {rs : List RU} (h : brO p x rs = true) : candB p x = true ∧ mB rs = true := by
  unfold brO at h
  exact Bool.and_eq_true_iff.1 h
theorem bcO_yes {p : Prg} {x : Ex} {rs : List RU} (h : brO p x rs = true) : bcO p x rs = bcN p x (evs p).length rs ∧ brI p x rs = brkN p x (evs p).length rs 0 := ⟨if_pos (brO_true h), if_pos (brO_true h)⟩

set_option maxHeartbeats 1500000 in
theorem specBC_any (p : Prg) (hl : p.length ≤ 1048576) (x : Ex) (rs : List RU) (hcnt : ∀ r ∈ rs, cntE r.e ≤ 1048577) (w : World) (vp vm : Value) (A B : Option Addr) (c d : Nat) (hp : PrgS w vp p) (hx : RepX w A c B d x) (hm : SlR 4 RepU w vm rs) :
    Calls Tryz.prog 10 #[vp, .agg #[.slice A x.from_.length c, .slice B x.order.length d], vm] w (RetInts w (bcO p x rs)) := by
  obtain ⟨Ap, cp, rfl, _⟩ := SlR.slice hp
  obtain ⟨Am, cm, rfl, hml⟩ := SlR.slice hm
  obtain ⟨w0, hw0⟩ : ∃ w0, w0 = w.alloc (.cells #[.slice A x.from_.length c, .slice B x.order.length d] 34) := ⟨_, rfl⟩
  have bx0 : Box2 w0 w.heap.size (.slice A x.from_.length c) (.slice B x.order.length d) := by rw [hw0]; exact Box2.new _ _ _ _
  have hB0 : Below w.heap.size w w0 := by rw [hw0]; exact (Below.refl _ _).alloc (Nat.le_refl _) _
  have hl0 := Le.below hB0
  have hbr := specBR_any p hl x rs hcnt w0 _ _ A B c d (PrgS.le hp hl0) (hx.le hl0) (RepUs.le hm hl0)
  have HS := Lib.hid (And.intro (PrgS.le hp hl0) (And.intro (hx.le hl0) (RepUs.le hm hl0)))
  have hlf := hx.1.len
  have hlo := hx.2.len
  obtain ⟨x0, x1, x2⟩ := bx0.all
  clear hp hx hm
  go_enter Tryz.func10, Tryz.ntmps10
  go_wp2_with fail
  rw [← hw0]
  clear hw0
  go_wp2_with fail
  refine hbr.mono ?_
  rintro e1 w1 ⟨rfl, hb1⟩
  have hB1 := hB0.trans (hb1.mono hB0.size)
  have hl1 := Le.below hb1
  clear hbr x0 x1 x2
  cases hO : brO p x rs
  · have Hz := Lib.hid (bcO_not hO)
    clear hO
    go_wp2_with fail
    go_ret
    rw [Hz.out]
    exact RetInts.none (hB1.alloc hB1.size _)
  obtain ⟨e1, e2⟩ := bcO_yes hO
  rw [e2]
  rcases brkN_range p x (evs p).length rs with hk | ⟨k, hk, hkk⟩
  · have Hz := Lib.hid (e1.trans (bcN_neg hk))
    rw [hk]
    clear hO e1 e2 hk
    go_wp2_with fail
    go_ret
    rw [Hz.out]
    exact RetInts.none (hB1.alloc hB1.size _)
  obtain ⟨bm, om, A', c', rfl, hbl, k0, k1, k2, k3, hke⟩ := RepUs.get (RepUs.le HS.out.2.2 hl1) hk
  have Hat := Lib.hid (e1.trans (bcN_at hk hkk))
  rw [hkk]
  have hd0 : decide ((k : Int) < 0) = false := by rw [decide_eq_false_iff_not]; omega
  have hd1 : (k : Int) < (rs.length : Int) := by omega
  by_cases h1 : rs[k].kind = 1
  · obtain ⟨x0, x1, x2⟩ := (bx0.le hl1).all
    have hok := candB_iff.1 (brO_true hO).1
    have hn16 : (evs p).length ≤ 16 := by have := cand_len hok.1; omega
    have hsh : Shp 12 rs[k].e := ((mB_iff.1 (brO_true hO).2).2.2 _ (List.getElem_mem hk)).2.2.1
    have hev := l7Eval_any p x hok (evs p).length rfl 12 rs[k].e w1.drew _ A B A' c d c' hsh (PrgS.le HS.out.1 (hl1.trans (Le.drew _))) (HS.out.2.1.le (hl1.trans (Le.drew _))) (hke.le (Le.drew _))
    have Hz : Hid (bcO p x rs = zs (bestC (evR p x (evs p).length rs[k].e) (evs p).length (evs p).length)) := Hat.out.trans (bcR_cyc h1)
    rw [h1] at k0
    clear Hat hO e1 e2 hkk hke hok hsh
    generalize rs[k].e = re at k1 k2 k3 hev Hz
    go_wp2_with fail
    go_still_tail 7, (by kernel_rfl)
    go_wp2_with fail
    refine hev.mono ?_
    rintro f2 w2 ⟨A2, c2, rfl, hrow2, hb2⟩
    have hI2 := row_rel hrow2
    have hB2 := hB1.trans ((below_of_drew hb2).mono hB1.size)
    have hcy := l2Cyc_any (evR p x (evs p).length re) (evs p).length hn16 w2 A2 c2 hI2
    clear hev hrow2 x0 x1 k0 k1 k2 k3
    go_wp2_with fail
    refine hcy.mono ?_
    rintro f3 w3 ⟨A3, c3, rfl, hI3, hb3⟩
    go_wp2_with fail
    go_ret
    exact ⟨A3, c3, by rw [Hz.out]; rfl, by rw [Hz.out]; exact hI3.le (Le.above_mono hB2.size _), hB2.trans (hb3.mono hB2.size)⟩
  · have Hz : Hid (bcO p x rs = []) := Hat.out.trans (bcR_none h1)
    have hd2 : (rs[k].kind == 1) = false := by rw [beq_eq_false_iff_ne]; exact h1
    have hd3 : (rs[k].kind != 1) = true := by rw [bne_iff_ne]; exact h1
    clear Hat hO e1 e2 k1 k2 k3 hke hkk h1
    go_wp2_with fail
    go_ret
    rw [Hz.out]
    exact RetInts.none (hB1.alloc hB1.size _)

set_option maxHeartbeats 1500000 in
theorem implBC_any (p : Prg) (hl : p.length ≤ 1048576) (hls : ∀ t ∈ p, t.length ≤ 1048576) (x : Ex) (hbig : wX x ≤ 1048576) (rs : List RU) (w : World) (vp vm : Value) (A B : Option Addr) (c d : Nat) (hg : GN w) (hp : PrgS w vp p) (hr : Room w vp p) (hx : RepX w A c B d x) (hm : SlR 4 RepU w vm rs) :
    Calls Tryz.prog 14 #[vp, .agg #[.slice A x.from_.length c, .slice B x.order.length d], vm] w (RetCyc w (bcO p x rs)) := by
  obtain ⟨Ap, cp, rfl, _⟩ := SlR.slice hp
  obtain ⟨Am, cm, rfl, hml⟩ := SlR.slice hm
  obtain ⟨w0, hw0⟩ : ∃ w0, w0 = w.alloc (.cells #[.slice A x.from_.length c, .slice B x.order.length d] 34) := ⟨_, rfl⟩
  have bx0 : Box2 w0 w.heap.size (.slice A x.from_.length c) (.slice B x.order.length d) := by rw [hw0]; exact Box2.new _ _ _ _
  have hB0 : Below w.heap.size w w0 := by rw [hw0]; exact (Below.refl _ _).alloc (Nat.le_refl _) _
  have hl0 := Le.below hB0
  have hc := implCand_any p hl hls x w0 _ A B c d (PrgS.le hp hl0) (hx.le hl0) hbig
  have HS := Lib.hid (And.intro (PrgS.le hp hl0) (And.intro (hx.le hl0) (RepUs.le hm hl0)))
  have Hr0 := Lib.hid (hr.le hp hl0)
  have Hg0 := Lib.hid (hg.le hl0)
  have hlf := hx.1.len
  have hlo := hx.2.len
  obtain ⟨x0, x1, x2⟩ := bx0.all
  clear hp hx hm hr hg hls
  go_enter Tryz.func14, Tryz.ntmps14
  go_wp2_with fail
  rw [← hw0]
  clear hw0
  go_wp2_with fail
  cases hv : candB p x
  · rw [hv] at hc
    have Hz := Lib.hid (bcO_not (p := p) (x := x) (rs := rs) (by unfold brO; rw [hv]; rfl))
    clear hv
    refine hc.mono ?_
    rintro f1 w1 ⟨rfl, hb1⟩
    clear hc
    go_wp2_with fail
    go_ret
    exact .inl ⟨Hz.out, rfl, hB0.trans (hb1.mono hB0.size)⟩
  rw [hv] at hc
  refine hc.mono ?_
  rintro f1 w1 ⟨rfl, hb1⟩
  have hB1 := hB0.trans (hb1.mono hB0.size)
  have hl1 := Le.below hb1
  have hve := modValid_any rs w1 _ (Hg0.out.le hl1) (RepUs.le HS.out.2.2 hl1)
  clear x0 x1 x2 hc
  cases hw : mB rs
  · rw [hw] at hve
    have Hz := Lib.hid (bcO_not (p := p) (x := x) (rs := rs) (by unfold brO; rw [hw, Bool.and_false]))
    clear hw hv
    go_wp2_with fail
    refine hve.mono ?_
    rintro f2 w2 ⟨rfl, hb2⟩
    clear hve
    go_wp2_with fail
    go_ret
    exact .inl ⟨Hz.out, rfl, hB1.trans (hb2.mono hB1.size)⟩
  rw [hw] at hve
  have hval : Hid (∀ r ∈ rs, Shp 12 r.e) := fun r hr => ((mB_iff.1 hw).2.2 r hr).2.2.1
  have Hok := Lib.hid (candB_iff.1 hv)
  have Hz := Lib.hid (bcO_yes (p := p) (x := x) (rs := rs) (by unfold brO; rw [hv, hw]; rfl)).1
  clear hv hw
  go_wp2_with fail
  refine hve.mono ?_
  rintro f2 w2 ⟨rfl, hb2⟩
  have hB2 := hB1.trans (hb2.mono hB1.size)
  have hl2 := hl1.trans (Le.below hb2)
  obtain ⟨x0, x1, x2⟩ := (bx0.le hl2).all
  have hcy := imbc_any p x Hok.out (evs p).length rfl rs hval.out w2 _ _ A B c d (PrgS.le HS.out.1 hl2) (Hr0.out.le HS.out.1 hl2) (HS.out.2.1.le hl2) (RepUs.le HS.out.2.2 hl2)
  clear hve
  go_wp2_with fail
  refine hcy.mono ?_
  rintro f3 w3 h3
  rcases h3 with ⟨he, rfl, hb3⟩ | ⟨hne, b5, o5, c5, rfl, hI5, hR5, hb3⟩
  · go_wp2_with fail
    go_ret
    exact .inl ⟨Hz.out.trans he, rfl, hB2.trans (hb3.mono hB2.size)⟩
  · go_wp2_with fail
    go_ret
    exact .inr ⟨by rw [Hz.out]; exact hne, b5, o5, c5, by rw [Hz.out]; rfl, by rw [Hz.out]; exact hI5.le (Le.above_mono hB2.size _), by rw [Hz.out]; exact RowOf.rebase hR5 fun g hg => by have := (RowOf.blk hR5 hg).1; have := hB2.size; omega, hB2.trans (hb3.mono hB2.size)⟩

end Go.Proofs.YtfgpbnncdfcjjabGreatDoor
