/-
  The walk of FnExactFormatExec: it answers true.
-/
import Derived.Test.YtfgpbnncdfcjjaaDoorFmtE
import Derived.Test.YtfgpbnncdfcjjaaDoorLawEv
namespace Go.Proofs.YtfgpbnncdfcjjaaDoor
open Go.RowKit
set_option linter.unusedVariables false
set_option maxRecDepth 100000

theorem eqXF_any (x : Ex) (w : World) (A B A' B' : Option Addr) (c d c' d' : Nat) (hx : RepX w A c B d x) (hy : RepX w A' c' B' d' x) :
    Calls Tryd.prog 16 #[.agg #[.slice A x.from_.length c, .slice B x.order.length d], .agg #[.slice A' x.from_.length c', .slice B' x.order.length d']] w (RetB w true) := by
  have h := eqX_any x x w A B A' B' c d c' d' hx hy
  rw [eqB_self] at h
  exact h
/-- What lasts of the arguments. -/
structure ArgF (W : World) (b : Nat) (Ap : Option Addr) (cp : Nat) (p : Prg) (A : Option Addr) (c : Nat) (B : Option Addr) (d : Nat) (x : Ex) : Prop where
  hp : PrgS W (.slice Ap p.length cp) p
  hx : RepX W A c B d x
  x0 : W.cell? ⟨b, 0, none⟩ = some (.slice A x.from_.length c)
  x1 : W.cell? ⟨b, 1, none⟩ = some (.slice B x.order.length d)
theorem ArgF.le {W W' : World} {b : Nat} {Ap : Option Addr} {cp : Nat} {p : Prg} {A : Option Addr} {c : Nat} {B : Option Addr} {d : Nat} {x : Ex} (h : ArgF W b Ap cp p A c B d x) (hl : Le W W') : ArgF W' b Ap cp p A c B d x :=
  ⟨PrgS.le h.hp hl, h.hx.le hl, hl _ _ h.x0, hl _ _ h.x1⟩
theorem ArgF.two {W W' : World} {b : Nat} {Ap : Option Addr} {cp : Nat} {p : Prg} {A : Option Addr} {c : Nat} {B : Option Addr} {d : Nat} {x : Ex} (h : ArgF W b Ap cp p A c B d x) (hl : Le W W') :
    W'.cell? ⟨b, 0, none⟩ = some (.slice A x.from_.length c) ∧ W'.cell? ⟨b, 1, none⟩ = some (.slice B x.order.length d) :=
  ⟨hl _ _ h.x0, hl _ _ h.x1⟩

set_option maxHeartbeats 2000000 in
theorem lawFX_walk (p : Prg) (x : Ex) (w : World) (v : Value) (A B : Option Addr) (c d : Nat) (hp : PrgS w v p) (hx : RepX w A c B d x) :
    Calls Tryd.prog 7 #[v, .agg #[.slice A x.from_.length c, .slice B x.order.length d]] w (RetB w true) := by
  obtain ⟨Ap, cp, rfl, _⟩ := hp.slice
  obtain ⟨w0, hw0⟩ : ∃ w0, w0 = w.alloc (.cells #[.slice A x.from_.length c, .slice B x.order.length d] 26) := ⟨_, rfl⟩
  have hB : Below w.heap.size w w0 := by rw [hw0]; exact (Below.refl _ _).alloc (Nat.le_refl _) _
  have bx0 : Box2 w0 w.heap.size (.slice A x.from_.length c) (.slice B x.order.length d) := by rw [hw0]; exact Box2.new _ _ _ _
  have S0 : ArgF w0 w.heap.size Ap cp p A c B d x := ⟨PrgS.le hp (Le.below hB), hx.le (Le.below hB), bx0.c0, bx0.c1⟩
  have HS0 := Lib.hid S0
  have hlx := hx.1.len
  have hly := hx.2.len
  clear hp hx bx0 S0
  go_enter Tryd.func7, Tryd.ntmps7
  go_wp2_with fail
  rw [← hw0]
  clear hw0
  refine (szInsSS_any p w0 Ap cp 1048576 HS0.out.hp (by omega) (by omega)).mono ?_
  rintro e1 w1 ⟨rfl, hB1⟩
  by_cases hfit : ((p.length + wSum List.length p : Nat) : Int) ≤ 1048576
  case neg =>
    rw [restI_gt (Int.not_le.1 hfit)]
    go_wp2_with fail
    go_ret
    exact ⟨rfl, hB.trans (hB1.mono hB.size)⟩
  rw [restI_le hfit]
  obtain ⟨left, hleft⟩ : ∃ left : Int, left = 1048576 - ((p.length + wSum List.length p : Nat) : Int) := ⟨_, rfl⟩
  rw [← hleft]
  have hl0 : 0 ≤ left := by omega
  have hl1 : left ≤ 1048576 := by omega
  have hl : p.length ≤ 1048576 := by omega
  have hls : ∀ t ∈ p, t.length ≤ 1048576 := fun t ht => by have := wSum_mem List.length ht; omega
  have Hls := Lib.hid hls
  have S1 := HS0.out.le (Le.below hB1)
  have q0 := S1.x0
  have q1 := S1.x1
  clear hls hleft hfit S1
  go_wp2_with fail
  refine (szX_any x _ _ _ _ _ _ (HS0.out.le (Le.below hB1)).hx hl0 hl1).mono ?_
  rintro e2 w2 ⟨rfl, hb2⟩
  have hB2 := hB1.trans (hb2.mono hB1.size)
  by_cases hwx : (wX x : Int) ≤ left
  case neg =>
    rw [restI_gt (by omega)]
    go_wp2_with fail
    go_ret
    exact ⟨rfl, hB.trans (hB2.mono hB.size)⟩
  rw [restI_le hwx]
  have hwx' : wX x ≤ 1048576 := by omega
  have HS3 := Lib.hid (HS0.out.le (Le.below hB2))
  have Hspec := Lib.hid (fun W vp A B c d => specFmt_any p hl x W vp A B c d)
  have Himpl := Lib.hid (fun W vp A B c d => implFmt_any p hl Hls.out x hwx' W vp A B c d)
  generalize fmtO p x = K at Hspec Himpl
  clear q0 q1 hb2 hB1 hl0 hl1
  go_wp2_with fail
  go_region_held3 (fun W => W.cell? ⟨w.heap.size, 0, none⟩ = some (.slice A x.from_.length c) ∧ W.cell? ⟨w.heap.size, 1, none⟩ = some (.slice B x.order.length d))
    ((first | exact HS3.out.two (Le.drew _) | exact HS3.out.two L4 | exact HS3.out.two L5 | exact HS3.out.two L6))
    (first
      | (go_at_call 11; ((with_reducible refine (toInsSS_any p hl Hls.out _ Ap cp (HS3.out.le (Le.drew _)).hp).mono ?_); rintro e4 w4 ⟨v4, F4, rfl, ho4, _, _, hb4⟩; have L4 := (Le.drew w2).to_below hb4; have P4 := ho4.prgS0))
      | (go_at_call 12; ((with_reducible refine (toX_any x hwx' _ A B c d (HS3.out.le L4).hx).mono ?_); rintro e5 w5 ⟨A5, c5, B5, d5, rfl, hk5, hb5⟩; have L5 := L4.to_below hb5; have P5 := PrgS.le P4 (Le.below hb5); have X5 := hk5.le (Le.above _ _)))
      | (go_at_call 28; ((with_reducible refine (Hspec.out _ _ A5 B5 c5 d5 P5 X5).mono ?_); rintro e6 w6 ⟨rfl, hb6⟩; have L6 := L5.to_below hb6)))
  have q4 := below_of_drew hb4
  have q5 := q4.trans (hb5.mono q4.size)
  have q6 := q5.trans (hb6.mono q5.size)
  have hB7 := hB2.trans (q6.mono hB2.size)
  have HS7 := Lib.hid (HS0.out.le (Le.below hB7))
  clear q4 q5 q6 hb4 hb5 hb6 ho4 hk5 L4 L5 L6 P4 P5 X5 HS3 hB2
  go_wp2_with fail
  refine (toInsSS_any p hl Hls.out w6 Ap cp HS7.out.hp).mono ?_
  rintro e8 w8 ⟨v8, F8, rfl, ho8, _, _, hb8⟩
  have HP8 := Lib.hid ho8.prgS0
  have hB8 := hB7.trans (hb8.mono hB7.size)
  have S8 := HS0.out.le (Le.below hB8)
  have q0 := S8.x0
  have q1 := S8.x1
  clear ho8 hb8
  go_wp2_with fail
  refine (toX_any x hwx' w8 A B c d S8.hx).mono ?_
  rintro e9 w9 ⟨A9, c9, B9, d9, rfl, hk9, hb9⟩
  obtain ⟨V, hV⟩ : ∃ V, V = w9.alloc (.cells #[.slice A9 x.from_.length c9, .slice B9 x.order.length d9] 32) := ⟨_, rfl⟩
  have by9 : Box2 V w9.heap.size (.slice A9 x.from_.length c9) (.slice B9 x.order.length d9) := by rw [hV]; exact Box2.new _ _ _ _
  have hb9V : Below w9.heap.size w9 V := by rw [hV]; exact (Below.refl _ _).alloc (Nat.le_refl _) _
  have h8V := hb9.trans (hb9V.mono hb9.size)
  have hBV := hB8.trans (h8V.mono hB8.size)
  have HXV := Lib.hid ((hk9.le (Le.above _ _)).le (Le.below hb9V))
  have HPV := Lib.hid (PrgS.le HP8.out (Le.below h8V))
  have Hby := Lib.hid by9
  have z0 := by9.c0
  have z1 := by9.c1
  have z2 := by9.lt
  have hcall := Himpl.out V _ A9 B9 c9 d9 HPV.out HXV.out
  clear q0 q1 hk9 hb9 hb9V by9 S8 h8V HP8 hB8
  go_wp2_with fail
  rw [← hV]
  clear hV
  refine hcall.mono ?_
  rintro e11 w11 ⟨rfl, hb11⟩
  have hB11 := hBV.trans (hb11.mono hBV.size)
  have HP11 := Lib.hid (PrgS.le HPV.out (Le.below hb11))
  have HX11 := Lib.hid (HXV.out.le (Le.below hb11))
  have Hby11 := Lib.hid (Hby.out.le (Le.below hb11))
  have S11 := HS0.out.le (Le.below hB11)
  clear z0 z1 z2 hcall HPV HXV Hby hb11 hBV
  go_wp2_with fail
  refine (toInsSS_any p hl Hls.out w11 Ap cp S11.hp).mono ?_
  rintro e13 w13 ⟨v13, F13, rfl, ho13, _, _, hb13⟩
  go_wp2_with fail
  refine (eqInsSS_any p _ _ _ (PrgS.le HP11.out (Le.below hb13)) ho13.prgS0).mono ?_
  rintro e14 w14 ⟨rfl, hb14⟩
  have h14 := hb13.trans (hb14.mono hb13.size)
  have hB14 := hB11.trans (h14.mono hB11.size)
  have HS14 := Lib.hid (HS0.out.le (Le.below hB14))
  have HX14 := Lib.hid (HX11.out.le (Le.below h14))
  have by14 := Hby11.out.le (Le.below h14)
  clear S11 ho13 hb13 hb14 HP11 HX11 Hby11 hB11 h14
  go_wp2_with fail
  go_region_held3 (fun W => W.cell? ⟨w9.heap.size, 0, none⟩ = some (.slice A9 x.from_.length c9) ∧ W.cell? ⟨w9.heap.size, 1, none⟩ = some (.slice B9 x.order.length d9) ∧ W.cell? ⟨w.heap.size, 0, none⟩ = some (.slice A x.from_.length c) ∧ W.cell? ⟨w.heap.size, 1, none⟩ = some (.slice B x.order.length d))
    ((first | exact ⟨by14.c0, by14.c1, HS14.out.x0, HS14.out.x1⟩ | exact ⟨L15 _ _ by14.c0, L15 _ _ by14.c1, L15 _ _ HS14.out.x0, L15 _ _ HS14.out.x1⟩ | exact ⟨L16 _ _ by14.c0, L16 _ _ by14.c1, L16 _ _ HS14.out.x0, L16 _ _ HS14.out.x1⟩))
    (first
      | (go_at_call 12; ((with_reducible refine (toX_any x hwx' _ A B c d (HS14.out.le (Le.drew _)).hx).mono ?_); rintro e15 w15 ⟨A15, c15, B15, d15, rfl, hk15, hb15⟩; have L15 := (Le.drew w14).to_below hb15))
      | (go_at_call 16; ((with_reducible refine (eqXF_any x _ A9 B9 A15 B15 c9 d9 c15 d15 (HX14.out.le L15) (hk15.le (Le.above _ _))).mono ?_); rintro e16 w16 ⟨rfl, hb16⟩; have L16 := L15.to_below hb16)))
  have h16 := (below_of_drew hb15).trans (hb16.mono (below_of_drew hb15).size)
  have hB16 := hB14.trans (h16.mono hB14.size)
  clear by14 HS14 HX14 hk15 L15 L16 hb15 hb16 h16 hB14
  go_wp2_with fail
  go_ret
  exact ⟨rfl, hB.trans (hB16.mono hB.size)⟩

end Go.Proofs.YtfgpbnncdfcjjaaDoor
