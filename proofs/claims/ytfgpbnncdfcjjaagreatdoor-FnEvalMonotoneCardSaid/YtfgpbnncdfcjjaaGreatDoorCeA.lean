/-
  Drawn candidates in later worlds; what the laws on them have in common. The walk of DrawEvalRelExpr: some program, some candidate, some expression. Drawn candidates and expressions in later worlds; what the laws on them have in common.
-/
import Derived.Test.YtfgpbnncdfcjjaaGreatDoorDrCV
import Derived.Test.YtfgpbnncdfcjjaaGreatDoorImRl
import Derived.Test.YtfgpbnncdfcjjaaGreatDoorRelI
import Derived.Test.YtfgpbnncdfcjjaaGreatDoorDrw
import Derived.Test.YtfgpbnncdfcjjaaGreatDoorEvS

/-! Drawn candidates in later worlds; what the laws on them have in common. -/
namespace Go.Proofs.YtfgpbnncdfcjjaaGreatDoor
open Go.RowKit
set_option linter.unusedVariables false
set_option maxRecDepth 100000

/-- A program and a candidate in a variable, and the table of names. -/
structure CdS (W : World) (bx : Nat) (Ap : Option Addr) (cp : Nat) (p : Prg) (A : Option Addr) (c : Nat) (B : Option Addr) (d : Nat) (x : Ex) : Prop where
  hp : PrgS W (.slice Ap p.length cp) p
  hr : Room W (.slice Ap p.length cp) p
  hx : RepX W A c B d x
  hg : GN W
  c0 : W.cell? ⟨bx, 0, none⟩ = some (.slice A x.from_.length c)
  c1 : W.cell? ⟨bx, 1, none⟩ = some (.slice B x.order.length d)
theorem CdS.le {W W' : World} {bx : Nat} {Ap : Option Addr} {cp : Nat} {p : Prg} {A : Option Addr} {c : Nat} {B : Option Addr} {d : Nat} {x : Ex} (h : CdS W bx Ap cp p A c B d x) (hl : Le W W') : CdS W' bx Ap cp p A c B d x :=
  ⟨PrgS.le h.hp hl, h.hr.le h.hp hl, h.hx.le hl, h.hg.le hl, hl _ _ h.c0, hl _ _ h.c1⟩
theorem CdS.lt {W : World} {bx : Nat} {Ap : Option Addr} {cp : Nat} {p : Prg} {A : Option Addr} {c : Nat} {B : Option Addr} {d : Nat} {x : Ex} (h : CdS W bx Ap cp p A c B d x) : bx < W.heap.size := World.block_lt_of_cell? _ _ h.c0
/-- The relation with name j, by the program. -/
theorem CdS.relOf {W : World} {bx : Nat} {Ap : Option Addr} {cp : Nat} {p : Prg} {A : Option Addr} {c : Nat} {B : Option Addr} {d : Nat} {x : Ex} (h : CdS W bx Ap cp p A c B d x) (hok : CandOk p x) (hl : p.length ≤ 1048576) (hls : ∀ t ∈ p, t.length ≤ 1048576) (hwx : wX x ≤ 1048576) {j : Nat} (hj : j < 10) (s : ByteArray) (hs : nmAt j = s) :
    Calls Tryz.prog 11 #[.slice Ap p.length cp, .agg #[.slice A x.from_.length c, .slice B x.order.length d], .string s] W (RetRel W (pairB p x (evs p) j) (evs p).length) := by
  subst hs
  refine (implRelOf_any p hl hls x hwx (nmAt j) W _ A B c d h.hg h.hp h.hr h.hx).mono fun e w' hh => ?_
  rw [relB_at hok hj] at hh
  exact RetRel.of hh
theorem evO_ok {p : Prg} (h : PrgOk p) : evO p = evs p := if_pos (prgB_iff.2 h)

end Go.Proofs.YtfgpbnncdfcjjaaGreatDoor

/-! The walk of DrawEvalRelExpr: some program, some candidate, some expression. -/
namespace Go.Proofs.YtfgpbnncdfcjjaaGreatDoor
open Go.RowKit
set_option linter.unusedVariables false
set_option maxRecDepth 100000

def RetDEv (w : World) (e : Ending) (w' : World) : Prop := ∃ (pr : Prg) (x : Ex) (y : RE) (v : Value) (A : Option Addr) (c : Nat) (B : Option Addr) (d : Nat) (A' : Option Addr) (c' : Nat), e = .returned (.tuple #[v, .agg #[.slice A x.from_.length c, .slice B x.order.length d], .agg #[.int .i64 y.op, .string y.name, .slice A' y.kids.length c']]) ∧ PrgQ (above w.heap.size w') v pr ∧ RepX (above w.heap.size w') A c B d x ∧ RepK (above w.heap.size w') A' c' y ∧ cntE y ≤ 100 ∧ Few 2000 2000 pr ∧ wX x ≤ 1048576 ∧ Below w.heap.size w w'

set_option maxHeartbeats 8000000 in
theorem drawEv_any (w : World) (A : Option Addr) (n c : Nat) (h : Bys w A n) (hnc : n ≤ c) (hA : A = none → n = 0) : Calls Tryz.prog 39 #[.slice A n c] w (RetDEv w) := by
  obtain ⟨W0, hW0⟩ : ∃ W0, W0 = (w.alloc (.cells #[.slice none 0 0, .slice none 0 0] 27)).alloc (.cells #[.int .i64 0, .string ⟨#[]⟩, .slice none 0 0] 50) := ⟨_, rfl⟩
  have oX := (Own.new w 27 #[.slice none 0 0, .slice none 0 0]).alloc (.cells #[.int .i64 0, .string ⟨#[]⟩, .slice none 0 0] 50)
  have oE : Own W0 (w.heap.size + 1) 50 #[.int .i64 0, .string ⟨#[]⟩, .slice none 0 0] := by rw [hW0]; simpa using Own.new (w.alloc (.cells #[.slice none 0 0, .slice none 0 0] 27)) 50 #[.int .i64 0, .string ⟨#[]⟩, .slice none 0 0]
  rw [← hW0] at oX
  have hs0 : W0.heap.size = w.heap.size + 2 := by rw [hW0]; simp
  have hB0 : Below w.heap.size w W0 := by rw [hW0]; exact ((Below.refl _ _).alloc (Nat.le_refl _) _).alloc (by simp) _
  have hop := open_any W0 A n c (h.le (Le.below hB0)) hnc hA
  clear h
  go_enter Tryz.func39, Tryz.ntmps39
  go_wp2_with fail
  rw [← hW0]
  clear hW0
  refine hop.mono ?_
  rintro e1 w1 ⟨R, rfl, hR, r1, hb1⟩
  have oX1 := oX.under hb1
  have oE1 := oE.under hb1
  have hs1 := hb1.size
  have hB1 : Below w.heap.size w w1 := hB0.trans (hb1.mono hB0.size)
  have hd := draw6_any w1 R 0 (by omega) r1
  have hRl := r1.lt
  clear hop oX oE hb1 r1
  go_wp2_with fail
  refine hd.mono ?_
  rintro e2 w2 ⟨pr, x, v2, A2, c2, B2, d2, p2, rfl, hc, hps, hx, hfew, m2, r2, hp2⟩
  have oX2 := oX1.mv m2 (by omega)
  have oE2 := oE1.mv m2 (by omega)
  have hB2 : Below w.heap.size w w2 := hB1.trans (m2.below (by omega) hB1.size)
  have hsz := cand_sz hc
  have hs2 := m2.size
  obtain ⟨V, hV⟩ : ∃ V, V = w2.alloc (.cells #[.slice A2 x.from_.length c2, .slice B2 x.order.length d2] 27) := ⟨_, rfl⟩
  have oT : Own V w2.heap.size 27 #[.slice A2 x.from_.length c2, .slice B2 x.order.length d2] := by rw [hV]; exact Own.new _ _ _
  have oXV : Own V w.heap.size 27 #[.slice none 0 0, .slice none 0 0] := by rw [hV]; exact oX2.alloc _
  have oEV : Own V (w.heap.size + 1) 50 #[.int .i64 0, .string ⟨#[]⟩, .slice none 0 0] := by rw [hV]; exact oE2.alloc _
  have rV : Rd V R p2 := by rw [hV]; exact r2.alloc _
  have hBV : Below w.heap.size w V := by rw [hV]; exact hB2.alloc hB2.size _
  have hpsV : PrgQ (above (R + 1) V) v2 pr := by rw [hV]; exact PrgQ.le hps ((Le.above_mono (by omega) _).trans (Le.above_le _ (Le.alloc _ _)))
  have hxV : RepX (above (R + 1) V) A2 c2 B2 d2 x := by rw [hV]; exact hx.le ((Le.above_mono (by omega) _).trans (Le.above_le _ (Le.alloc _ _)))
  have hT : w2.heap.size < V.heap.size := oT.lt
  have hso := some_any V R p2 (by omega) rV
  have HK := Lib.hid (And.intro oT (And.intro oXV (And.intro oEV (And.intro hpsV (And.intro hxV hsz)))))
  have HBV := Lib.hid hBV
  have Hfew := Lib.hid hfew
  clear hd m2 r2 oX1 oE1 oX2 oE2 hps hx hB2 hB1 oT oXV oEV rV hpsV hxV hBV hfew hc hsz
  go_wp2_with fail
  try rw [← hV]
  clear hV
  refine hso.mono ?_
  rintro e3 w3 ⟨y, A3, c3, F, p3, rfl, ho, hF, hsh, hcn, m3, r3, hp3⟩
  have hy := ho.rep_above hsh.name_le (R := R) (fun b hb => by have := hF b hb; omega)
  have hck := cntE_kids' y
  have hkl := cnt_kids y.kids
  have hmut := mutate_any w3 R p3 y A3 c3 (by omega) r3 hy hsh.name_le (by omega)
  have hs3 := m3.size
  clear ho hF hsh hso r3 hy
  go_wp2_with fail
  refine hmut.mono ?_
  rintro e4 w4 ⟨z, A4, c4, p4, rfl, hz, hn4, hk4, hc4, m4, r4, hp4⟩
  have m24 := m3.trans m4
  have hs4 := m4.size
  obtain ⟨U, hU⟩ : ∃ U, U = w4.alloc (.cells #[.int .i64 z.op, .string z.name, .slice A4 z.kids.length c4] 50) := ⟨_, rfl⟩
  have oZ : Own U w4.heap.size 50 #[.int .i64 z.op, .string z.name, .slice A4 z.kids.length c4] := by rw [hU]; exact Own.new _ _ _
  have mU : Mv R V U := by rw [hU]; exact m24.alloc _
  have rU : Rd U R p4 := by rw [hU]; exact r4.alloc _
  have hzU : RepK (above (R + 1) U) A4 c4 z := by rw [hU]; exact hz.le (Le.above_le _ (Le.alloc _ _))
  have oTU := HK.out.1.mv mU (by omega)
  have oXU := HK.out.2.1.mv mU (by omega)
  have oEU := HK.out.2.2.1.mv mU (by omega)
  have hpsU := PrgQ.le HK.out.2.2.2.1 mU.above
  have hxU := HK.out.2.2.2.2.1.le mU.above
  have hsU := mU.size
  have u0 := oTU.cell (i := 0) rfl
  have u1 := oTU.cell (i := 1) rfl
  have u2 := oZ.cell (i := 0) rfl
  have u3 := oZ.cell (i := 1) rfl
  have u4 := oZ.cell (i := 2) rfl
  have u5 := oTU.lt
  have u6 := oZ.lt
  have HL := Lib.hid (And.intro oTU (And.intro oXU (And.intro oEU (And.intro oZ (And.intro rU (And.intro hpsU (And.intro hxU (And.intro hzU mU))))))))
  have n1 : w4.heap.size ≠ R := by omega
  have n2 : w.heap.size ≠ R := by omega
  have n3 : w.heap.size + 1 ≠ R := by omega
  have n4 : w4.heap.size ≠ w.heap.size := by omega
  have n5 : w4.heap.size ≠ w.heap.size + 1 := by omega
  clear hmut m3 m4 m24 r4 hz mU rU hzU oTU oXU oEU oZ hpsU hxU
  go_wp2_with fail
  try rw [← hU]
  clear hU
  go_region_law (first
    | (go_simp; go_at_call 58; ((with_reducible refine (mut6_any _ R p4 15 (by omega) x HK.out.2.2.2.2.2 (by omega) ?_ A2 B2 c2 d2 ?_).mono ?_); exact HL.out.2.2.2.2.1.drew; exact HL.out.2.2.2.2.2.2.1.le ((Le.above _ _).trans (Le.drew _)); rintro e6 w6 ⟨x6, A6, c6, B6, d6, p6, rfl, hsz6, hx6, m6', r6, hp6⟩; have m6 : Mv R U w6 := ((Mv.refl R U).drew).trans m6'; have l6 := m6.size; have o6 := HL.out.2.1.mv m6 n2; have k60 := o6.cell (i := 0) rfl; have k61 := o6.cell (i := 1) rfl; have f60 := o6.frozen 0; have f61 := o6.frozen 1; have o7 := HL.out.2.2.1.mv m6 n3; have k70 := o7.cell (i := 0) rfl; have k71 := o7.cell (i := 1) rfl; have k72 := o7.cell (i := 2) rfl; have f70 := o7.frozen 0; have f71 := o7.frozen 1; have f72 := o7.frozen 2; have o8 := HL.out.2.2.2.1.mv m6 n1; have k80 := o8.cell (i := 0) rfl; have k81 := o8.cell (i := 1) rfl; have k82 := o8.cell (i := 2) rfl; have l7 := o6.lt; have l8 := o7.lt; have l9 := o8.lt); go_wp2_with fail))
  all_goals
    go_wp2_with fail
    refine bodyPost_ret (v := .tuple #[v2, .agg #[.slice A6 x6.from_.length c6, .slice B6 x6.order.length d6], .agg #[.int .i64 z.op, .string z.name, .slice A4 z.kids.length c4]]) (by simp [results, Tryz.results39, go_sem, k60, k61, k70, k71, k72]) rfl ?_
    have hle : Le (above (R + 1) w6) (above w.heap.size (((((w6.setCell ⟨w.heap.size, 0, none⟩ (.slice A6 x6.from_.length c6)).setCell ⟨w.heap.size, 1, none⟩ (.slice B6 x6.order.length d6)).setCell ⟨w.heap.size + 1, 0, none⟩ (.int .i64 z.op)).setCell ⟨w.heap.size + 1, 1, none⟩ (.string z.name)).setCell ⟨w.heap.size + 1, 2, none⟩ (.slice A4 z.kids.length c4))) :=
      ((((((Le.refl _).to_above_setCell (by show w.heap.size < R + 1; omega)).to_above_setCell (by show w.heap.size < R + 1; omega)).to_above_setCell (by show w.heap.size + 1 < R + 1; omega)).to_above_setCell (by show w.heap.size + 1 < R + 1; omega)).to_above_setCell (by show w.heap.size + 1 < R + 1; omega)).trans (Le.above_mono (by omega) _)
    have hRd : R + 1 ≤ U.drew.heap.size := by show R + 1 ≤ U.heap.size; omega
    have hUB : Below w.heap.size w U := HBV.out.trans (HL.out.2.2.2.2.2.2.2.2.below (by omega) HBV.out.size)
    exact ⟨pr, x6, z, v2, A6, c6, B6, d6, A4, c4, rfl, PrgQ.le HL.out.2.2.2.2.2.1 (m6.above.trans hle), hx6.le ((Le.above_mono hRd _).trans hle), HL.out.2.2.2.2.2.2.2.1.le (m6.above.trans hle), by omega, Hfew.out.mono (by omega) (by omega), szX_wX hsz6 (by omega), (((((hUB.trans (m6.below (by omega) hUB.size)).setCell (by simp) _).setCell (by simp) _).setCell (by simp) _).setCell (by simp) _).setCell (by simp) _⟩

end Go.Proofs.YtfgpbnncdfcjjaaGreatDoor

/-! Drawn candidates and expressions in later worlds; what the laws on them have in common. -/
namespace Go.Proofs.YtfgpbnncdfcjjaaGreatDoor
open Go.RowKit
set_option linter.unusedVariables false
set_option maxRecDepth 100000

/-- A program, a candidate and an expression in variables, and the table of names. -/
structure CeS (W : World) (bx : Nat) (Ap : Option Addr) (cp : Nat) (p : Prg) (A : Option Addr) (c : Nat) (B : Option Addr) (d : Nat) (x : Ex) (A' : Option Addr) (c' : Nat) (e : RE) : Prop where
  cd : CdS W bx Ap cp p A c B d x
  he : RepK W A' c' e
  e0 : W.cell? ⟨bx + 1, 0, none⟩ = some (.int .i64 e.op)
  e1 : W.cell? ⟨bx + 1, 1, none⟩ = some (.string e.name)
  e2 : W.cell? ⟨bx + 1, 2, none⟩ = some (.slice A' e.kids.length c')
section
variable {W W' : World} {bx : Nat} {Ap : Option Addr} {cp : Nat} {p : Prg} {A : Option Addr} {c : Nat} {B : Option Addr} {d : Nat} {x : Ex} {A' : Option Addr} {c' : Nat} {e : RE}
theorem CeS.le (h : CeS W bx Ap cp p A c B d x A' c' e) (hl : Le W W') : CeS W' bx Ap cp p A c B d x A' c' e :=
  ⟨h.cd.le hl, h.he.le hl, hl _ _ h.e0, hl _ _ h.e1, hl _ _ h.e2⟩
theorem CeS.lt (h : CeS W bx Ap cp p A c B d x A' c' e) : bx + 1 < W.heap.size := World.block_lt_of_cell? _ _ h.e0
theorem CeS.all (h : CeS W bx Ap cp p A c B d x A' c' e) : W.cell? ⟨bx, 0, none⟩ = some (.slice A x.from_.length c) ∧ W.cell? ⟨bx, 1, none⟩ = some (.slice B x.order.length d) ∧ W.cell? ⟨bx + 1, 0, none⟩ = some (.int .i64 e.op) ∧ W.cell? ⟨bx + 1, 1, none⟩ = some (.string e.name) ∧ W.cell? ⟨bx + 1, 2, none⟩ = some (.slice A' e.kids.length c') ∧ bx < W.heap.size ∧ bx + 1 < W.heap.size :=
  ⟨h.cd.c0, h.cd.c1, h.e0, h.e1, h.e2, h.cd.lt, h.lt⟩
/-- The relation of a valid expression, by the program. -/
theorem CdS.eval (h : CdS W bx Ap cp p A c B d x) (hok : CandOk p x) (hl : p.length ≤ 1048576) (hls : ∀ t ∈ p, t.length ≤ 1048576) (hwx : wX x ≤ 1048576) (e : RE) (hv : Val e) (A' : Option Addr) (c' : Nat) (he : RepK W A' c' e) :
    Calls Tryz.prog 29 #[.slice Ap p.length cp, .agg #[.slice A x.from_.length c, .slice B x.order.length d], .agg #[.int .i64 e.op, .string e.name, .slice A' e.kids.length c']] W (RetRel W (evR p x (evs p).length e) (evs p).length) := by
  refine (implEval_any p hl hls x hwx e W _ A B A' c d c' h.hg h.hp h.hr h.hx he).mono fun f w' hh => ?_
  rw [show evB p x e = relN (evR p x (evs p).length e) (evs p).length from if_pos ⟨candB_iff.2 hok, valB_iff.2 hv⟩] at hh
  exact RetRel.of hh
end
theorem RetRel.congrE {w w' : World} {R R' : Rel} {n : Nat} {e : Ending} (h : RetRel w R n e w') (hr : relN R n = relN R' n) : RetRel w R' n e w' := by
  obtain ⟨A, c, he, hrow, hb⟩ := h
  exact ⟨A, c, he, by rw [← hr]; exact hrow, hb⟩
theorem wmRE_any (xs : List Int) (w : World) (A A' : Option Addr) (c c' : Nat) (hr : Ints w A c xs) (hr' : Ints w A' c' xs) :
    Calls Tryz.prog 12 #[.slice A xs.length c, .slice A' xs.length c'] w (RetB w true) := by
  have h := wmInts_any xs xs w A A' c c' hr hr'
  rw [eqB_self] at h
  exact h
theorem wmNE_any (a b : Rel) (n : Nat) (hab : relN a n = relN b n) (w : World) (A A' : Option Addr) (c c' : Nat) (hr : Ints w A c (relN a n)) (hr' : Ints w A' c' (relN b n)) :
    Calls Tryz.prog 12 #[.slice A n c, .slice A' n c'] w (RetB w true) := by
  rw [hab] at hr
  have h := wmRE_any (relN b n) w A A' c c' hr hr'
  rw [relN_length] at h
  exact h
theorem within_subE (a b : Rel) (n : Nat) (hn : n ≤ 16) (hab : SubR n a b) (w : World) (A B : Option Addr) (c d : Nat) (ha : Ints w A c (relN a n)) (hb : Ints w B d (relN b n)) :
    Calls Tryz.prog 20 #[.slice A n c, .slice B n d] w (RetB w true) := by
  have h := imWithin_any a b n hn w A B c d ha hb
  rw [un_sub hab, eqB_self] at h
  exact h

end Go.Proofs.YtfgpbnncdfcjjaaGreatDoor
