/-
  Drawn candidates in later worlds; what the laws on them have in common. The walk of DrawEvalRelExpr: some program, some candidate, some expression. Drawn candidates and expressions in later worlds; what the laws on them have in common. The walk of DrawBrokenRule: some program, some candidate, some model. Drawn programs, candidates and models in later worlds; what the laws on broken rules have in common.
-/
import Derived.Test.YtfgpbnncdfcjjabGreatDoorDrCV
import Derived.Test.YtfgpbnncdfcjjabGreatDoorRlA
import Derived.Test.YtfgpbnncdfcjjabGreatDoorRelA
import Derived.Test.YtfgpbnncdfcjjabGreatDoorMutA
import Derived.Test.YtfgpbnncdfcjjabGreatDoorEvA
import Derived.Test.YtfgpbnncdfcjjabGreatDoorDraw
import Derived.Test.YtfgpbnncdfcjjabGreatDoorWVal

/-! Drawn candidates in later worlds; what the laws on them have in common. The walk of DrawEvalRelExpr: some program, some candidate, some expression. Drawn candidates and expressions in later worlds; what the laws on them have in common. -/
/-! Drawn candidates in later worlds; what the laws on them have in common. -/
namespace Go.Proofs.YtfgpbnncdfcjjabGreatDoor
open Go.RowKit
set_option linter.unusedVariables false
set_option maxRecDepth 100000

/-- A program and a candidate in a variable, and the table of names. -/
structure CdS (W : World) (bx : Nat) (Ap : Option Addr) (cp : Nat) (p : Prg) (A : Option Addr) (c : Nat) (B : Option Addr) (d : Nat) (x : Ex) : Prop where
  hp : PrgS W (.slice Ap p.length cp) p
  hr : Room W (.slice Ap p.length cp) p
  hx : RepX W A c B d x
  hg : GN W
  c0 : W.cell? ⟨bx, 0, none⟩ = some (.slice A x.from_.length c)
  c1 : W.cell? ⟨bx, 1, none⟩ = some (.slice B x.order.length d)
theorem CdS.le {W W' : World} {bx : Nat} {Ap : Option Addr} {cp : Nat} {p : Prg} {A : Option Addr} {c : Nat} {B : Option Addr} {d : Nat} {x : Ex} (h : CdS W bx Ap cp p A c B d x) (hl : Le W W') : CdS W' bx Ap cp p A c B d x :=
  ⟨PrgS.le h.hp hl, h.hr.le h.hp hl, h.hx.le hl, h.hg.le hl, hl _ _ h.c0, hl _ _ h.c1⟩
theorem CdS.lt {W : World} {bx : Nat} {Ap : Option Addr} {cp : Nat} {p : Prg} {A : Option Addr} {c : Nat} {B : Option Addr} {d : Nat} {x : Ex} (h : CdS W bx Ap cp p A c B d x) : bx < W.heap.size := World.block_lt_of_cell? _ _ h.c0
theorem evO_ok {p : Prg} (h : PrgOk p) : evO p = evs p := if_pos (prgB_iff.2 h)

end Go.Proofs.YtfgpbnncdfcjjabGreatDoor

/-! The walk of DrawEvalRelExpr: some program, some candidate, some expression. -/
namespace Go.Proofs.YtfgpbnncdfcjjabGreatDoor
open Go.RowKit
set_option linter.unusedVariables false
set_option maxRecDepth 100000

def RetDEv (w : World) (e : Ending) (w' : World) : Prop := ∃ (pr : Prg) (x : Ex) (y : RE) (v : Value) (A : Option Addr) (c : Nat) (B : Option Addr) (d : Nat) (A' : Option Addr) (c' : Nat), e = .returned (.tuple #[v, .agg #[.slice A x.from_.length c, .slice B x.order.length d], .agg #[.int .i64 y.op, .string y.name, .slice A' y.kids.length c']]) ∧ PrgQ (above w.heap.size w') v pr ∧ RepX (above w.heap.size w') A c B d x ∧ RepK (above w.heap.size w') A' c' y ∧ cntE y ≤ 100 ∧ Few 2000 2000 pr ∧ wX x ≤ 1048576 ∧ Below w.heap.size w w'

end Go.Proofs.YtfgpbnncdfcjjabGreatDoor

/-! Drawn candidates and expressions in later worlds; what the laws on them have in common. -/
namespace Go.Proofs.YtfgpbnncdfcjjabGreatDoor
open Go.RowKit
set_option linter.unusedVariables false
set_option maxRecDepth 100000

/-- A program, a candidate and an expression in variables, and the table of names. -/
structure CeS (W : World) (bx : Nat) (Ap : Option Addr) (cp : Nat) (p : Prg) (A : Option Addr) (c : Nat) (B : Option Addr) (d : Nat) (x : Ex) (A' : Option Addr) (c' : Nat) (e : RE) : Prop where
  cd : CdS W bx Ap cp p A c B d x
  he : RepK W A' c' e
  e0 : W.cell? ⟨bx + 1, 0, none⟩ = some (.int .i64 e.op)
  e1 : W.cell? ⟨bx + 1, 1, none⟩ = some (.string e.name)
  e2 : W.cell? ⟨bx + 1, 2, none⟩ = some (.slice A' e.kids.length c')
section
variable {W W' : World} {bx : Nat} {Ap : Option Addr} {cp : Nat} {p : Prg} {A : Option Addr} {c : Nat} {B : Option Addr} {d : Nat} {x : Ex} {A' : Option Addr} {c' : Nat} {e : RE}
theorem CeS.le (h : CeS W bx Ap cp p A c B d x A' c' e) (hl : Le W W') : CeS W' bx Ap cp p A c B d x A' c' e :=
  ⟨h.cd.le hl, h.he.le hl, hl _ _ h.e0, hl _ _ h.e1, hl _ _ h.e2⟩
theorem CeS.lt (h : CeS W bx Ap cp p A c B d x A' c' e) : bx + 1 < W.heap.size := World.block_lt_of_cell? _ _ h.e0
theorem CeS.all (h : CeS W bx Ap cp p A c B d x A' c' e) : W.cell? ⟨bx, 0, none⟩ = some (.slice A x.from_.length c) ∧ W.cell? ⟨bx, 1, none⟩ = some (.slice B x.order.length d) ∧ W.cell? ⟨bx + 1, 0, none⟩ = some (.int .i64 e.op) ∧ W.cell? ⟨bx + 1, 1, none⟩ = some (.string e.name) ∧ W.cell? ⟨bx + 1, 2, none⟩ = some (.slice A' e.kids.length c') ∧ bx < W.heap.size ∧ bx + 1 < W.heap.size :=
  ⟨h.cd.c0, h.cd.c1, h.e0, h.e1, h.e2, h.cd.lt, h.lt⟩
/-- The relation of a valid expression, by the program. -/
theorem CdS.eval (h : CdS W bx Ap cp p A c B d x) (hok : CandOk p x) (hl : p.length ≤ 1048576) (hls : ∀ t ∈ p, t.length ≤ 1048576) (hwx : wX x ≤ 1048576) (e : RE) (hv : Val e) (A' : Option Addr) (c' : Nat) (he : RepK W A' c' e) :
    Calls Tryz.prog 31 #[.slice Ap p.length cp, .agg #[.slice A x.from_.length c, .slice B x.order.length d], .agg #[.int .i64 e.op, .string e.name, .slice A' e.kids.length c']] W (RetRel W (evR p x (evs p).length e) (evs p).length) := by
  refine (implEval_any p hl hls x hwx e W _ A B A' c d c' h.hg h.hp h.hr h.hx he).mono fun f w' hh => ?_
  rw [show evB p x e = relN (evR p x (evs p).length e) (evs p).length from if_pos ⟨candB_iff.2 hok, valB_iff.2 hv⟩] at hh
  exact RetRel.of hh
end
theorem RetRel.congrE {w w' : World} {R R' : Rel} {n : Nat} {e : Ending} (h : RetRel w R n e w') (hr : relN R n = relN R' n) : RetRel w R' n e w' := by
  obtain ⟨A, c, he, hrow, hb⟩ := h
  exact ⟨A, c, he, by rw [← hr]; exact hrow, hb⟩
theorem wmRE_any (xs : List Int) (w : World) (A A' : Option Addr) (c c' : Nat) (hr : Ints w A c xs) (hr' : Ints w A' c' xs) :
    Calls Tryz.prog 30 #[.slice A xs.length c, .slice A' xs.length c'] w (RetB w true) := by
  have h := wmInts_any xs xs w A A' c c' hr hr'
  rw [eqB_self] at h
  exact h
theorem wmNE_any (a b : Rel) (n : Nat) (hab : relN a n = relN b n) (w : World) (A A' : Option Addr) (c c' : Nat) (hr : Ints w A c (relN a n)) (hr' : Ints w A' c' (relN b n)) :
    Calls Tryz.prog 30 #[.slice A n c, .slice A' n c'] w (RetB w true) := by
  rw [hab] at hr
  have h := wmRE_any (relN b n) w A A' c c' hr hr'
  rw [relN_length] at h
  exact h
end Go.Proofs.YtfgpbnncdfcjjabGreatDoor

/-! The walk of DrawBrokenRule: some program, some candidate, some model. -/
namespace Go.Proofs.YtfgpbnncdfcjjabGreatDoor
open Go.RowKit
set_option linter.unusedVariables false
set_option maxRecDepth 100000

def RetDBR (w : World) (e : Ending) (w' : World) : Prop := ∃ (pr : Prg) (x : Ex) (rs : List RU) (v : Value) (A : Option Addr) (c : Nat) (B : Option Addr) (d : Nat) (vm : Value), e = .returned (.tuple #[v, .agg #[.slice A x.from_.length c, .slice B x.order.length d], vm]) ∧ PrgQ (above w.heap.size w') v pr ∧ RepX (above w.heap.size w') A c B d x ∧ SlR 4 RepU (above w.heap.size w') vm rs ∧ rs.length ≤ 6 ∧ (∀ r ∈ rs, cntE r.e ≤ 1000) ∧ CapOk vm ∧ Few 2000 2000 pr ∧ wX x ≤ 1048576 ∧ Below w.heap.size w w'

set_option maxHeartbeats 1500000 in
theorem drawBR_any (w : World) (A : Option Addr) (n c : Nat) (h : Bys w A n) (hnc : n ≤ c) (hA : A = none → n = 0) : Calls Tryz.prog 24 #[.slice A n c] w (RetDBR w) := by
  obtain ⟨W0, hW0⟩ : ∃ W0, W0 = w.alloc (.cells #[.slice none 0 0, .slice none 0 0] 34) := ⟨_, rfl⟩
  have oX : Own W0 w.heap.size 34 #[.slice none 0 0, .slice none 0 0] := by rw [hW0]; exact Own.new w 34 #[.slice none 0 0, .slice none 0 0]
  have hs0 : W0.heap.size = w.heap.size + 1 := by rw [hW0]; simp
  have hB0 : Below w.heap.size w W0 := by rw [hW0]; exact (Below.refl _ _).alloc (Nat.le_refl _) _
  have hop := open_any W0 A n c (h.le (Le.below hB0)) hnc hA
  clear h
  go_enter Tryz.func24, Tryz.ntmps24
  go_wp2_with fail
  rw [← hW0]
  clear hW0
  refine hop.mono ?_
  rintro e1 w1 ⟨R, rfl, hR, r1, hb1⟩
  have oX1 := oX.under hb1
  have hs1 := hb1.size
  have hB1 : Below w.heap.size w w1 := hB0.trans (hb1.mono hB0.size)
  have hd := draw6_any w1 R 0 (by omega) r1
  have hRl := r1.lt
  clear hop oX hb1 r1
  go_wp2_with fail
  refine hd.mono ?_
  rintro e2 w2 ⟨pr, x, v2, A2, c2, B2, d2, p2, rfl, hc, hps, hx, hfew, m2, r2, hp2⟩
  have oX2 := oX1.mv m2 (by omega)
  have hB2 : Below w.heap.size w w2 := hB1.trans (m2.below (by omega) hB1.size)
  have hsz := cand_sz hc
  have hs2 := m2.size
  obtain ⟨V, hV⟩ : ∃ V, V = w2.alloc (.cells #[.slice A2 x.from_.length c2, .slice B2 x.order.length d2] 34) := ⟨_, rfl⟩
  have oT : Own V w2.heap.size 34 #[.slice A2 x.from_.length c2, .slice B2 x.order.length d2] := by rw [hV]; exact Own.new _ _ _
  have oXV : Own V w.heap.size 34 #[.slice none 0 0, .slice none 0 0] := by rw [hV]; exact oX2.alloc _
  have rV : Rd V R p2 := by rw [hV]; exact r2.alloc _
  have hBV : Below w.heap.size w V := by rw [hV]; exact hB2.alloc hB2.size _
  have hpsV : PrgQ (above (R + 1) V) v2 pr := by rw [hV]; exact PrgQ.le hps ((Le.above_mono (by omega) _).trans (Le.above_le _ (Le.alloc _ _)))
  have hxV : RepX (above (R + 1) V) A2 c2 B2 d2 x := by rw [hV]; exact hx.le ((Le.above_mono (by omega) _).trans (Le.above_le _ (Le.alloc _ _)))
  have hT : w2.heap.size < V.heap.size := oT.lt
  have hru := rules_any V R p2 (by omega) rV
  have HK := Lib.hid (And.intro oT (And.intro oXV (And.intro hpsV (And.intro hxV hsz))))
  have HBV := Lib.hid hBV
  have Hfew := Lib.hid hfew
  clear hd m2 r2 oX1 oX2 hps hx hB2 hB1 oT oXV rV hpsV hxV hBV hfew hc hsz
  go_wp2_with fail
  try rw [← hV]
  clear hV
  refine hru.mono ?_
  rintro e3 w3 ⟨rs, v3, p3, rfl, hok, hsl, m3, r3, hp3⟩
  obtain ⟨A3, c3, rfl, _⟩ := hsl.slice
  have hmut := mutAll_any w3 R p3 rs _ (by omega) r3 hok hsl
  have hs3 := m3.size
  clear hru hok hsl r3
  go_wp2_with fail
  refine hmut.mono ?_
  rintro e4 U ⟨ms, v4, p4, rfl, hl4, hcn4, hsl4, m4, rU, hp4, hcap4⟩
  obtain ⟨A4, c4, rfl, _⟩ := hsl4.slice
  have mU := m3.trans m4
  have oTU := HK.out.1.mv mU (by omega)
  have oXU := HK.out.2.1.mv mU (by omega)
  have hpsU := PrgQ.le HK.out.2.2.1 mU.above
  have hxU := HK.out.2.2.2.1.le mU.above
  have hsU := mU.size
  have u0 := oTU.cell (i := 0) rfl
  have u1 := oTU.cell (i := 1) rfl
  have u5 := oTU.lt
  have HL := Lib.hid (And.intro oTU (And.intro oXU (And.intro rU (And.intro hpsU (And.intro hxU (And.intro hsl4 mU))))))
  have Hcn4 := Lib.hid (And.intro hcn4 hcap4)
  have n2 : w.heap.size ≠ R := by omega
  clear hmut m3 m4 mU rU hsl4 oTU oXU hpsU hxU hcn4 hcap4
  go_wp2_with fail
  refine (mut6_any U R p4 15 (by omega) x HK.out.2.2.2.2 (by omega) HL.out.2.2.1 A2 B2 c2 d2 (HL.out.2.2.2.2.1.le (Le.above _ _))).mono ?_
  rintro e6 w6 ⟨x6, A6, c6, B6, d6, p6, rfl, hsz6, hx6, m6, r6, hp6⟩
  have l6 := m6.size
  have o6 := HL.out.2.1.mv m6 n2
  have k60 := o6.cell (i := 0) rfl
  have k61 := o6.cell (i := 1) rfl
  have f60 := o6.frozen 0
  have f61 := o6.frozen 1
  have l7 := o6.lt
  go_wp2_with fail
  refine bodyPost_ret (v := .tuple #[v2, .agg #[.slice A6 x6.from_.length c6, .slice B6 x6.order.length d6], .slice A4 ms.length c4]) (by simp [results, Tryz.results24, go_sem, k60, k61]) rfl ?_
  have hle : Le (above (R + 1) w6) (above w.heap.size ((w6.setCell ⟨w.heap.size, 0, none⟩ (.slice A6 x6.from_.length c6)).setCell ⟨w.heap.size, 1, none⟩ (.slice B6 x6.order.length d6))) :=
    (((Le.refl _).to_above_setCell (by show w.heap.size < R + 1; omega)).to_above_setCell (by show w.heap.size < R + 1; omega)).trans (Le.above_mono (by omega) _)
  have hRd : R + 1 ≤ U.heap.size := by omega
  have hUB : Below w.heap.size w U := HBV.out.trans (HL.out.2.2.2.2.2.2.below (by omega) HBV.out.size)
  exact ⟨pr, x6, ms, v2, A6, c6, B6, d6, .slice A4 ms.length c4, rfl, PrgQ.le HL.out.2.2.2.1 (m6.above.trans hle), hx6.le ((Le.above_mono hRd _).trans hle), RepUs.le HL.out.2.2.2.2.2.1 (m6.above.trans hle), hl4, Hcn4.out.1, Hcn4.out.2, Hfew.out.mono (by omega) (by omega), szX_wX hsz6 (by omega), ((hUB.trans (m6.below (by omega) hUB.size)).setCell (by simp) _).setCell (by simp) _⟩

end Go.Proofs.YtfgpbnncdfcjjabGreatDoor

/-! Drawn programs, candidates and models in later worlds; what the laws on broken rules have in common. -/
namespace Go.Proofs.YtfgpbnncdfcjjabGreatDoor
open Go.RowKit
set_option linter.unusedVariables false
set_option maxRecDepth 100000

/-- A program, a candidate in a variable, a model, and the table of names. -/
structure BuS (W : World) (bx : Nat) (Ap : Option Addr) (cp : Nat) (p : Prg) (A : Option Addr) (c : Nat) (B : Option Addr) (d : Nat) (x : Ex) (Am : Option Addr) (cm : Nat) (rs : List RU) : Prop where
  hp : PrgS W (.slice Ap p.length cp) p
  hr : Room W (.slice Ap p.length cp) p
  hx : RepX W A c B d x
  hm : SlR 4 RepU W (.slice Am rs.length cm) rs
  hg : GN W
  c0 : W.cell? ⟨bx, 0, none⟩ = some (.slice A x.from_.length c)
  c1 : W.cell? ⟨bx, 1, none⟩ = some (.slice B x.order.length d)
section
variable {W W' : World} {bx : Nat} {Ap : Option Addr} {cp : Nat} {p : Prg} {A : Option Addr} {c : Nat} {B : Option Addr} {d : Nat} {x : Ex} {Am : Option Addr} {cm : Nat} {rs : List RU}
theorem BuS.le (h : BuS W bx Ap cp p A c B d x Am cm rs) (hl : Le W W') : BuS W' bx Ap cp p A c B d x Am cm rs :=
  ⟨PrgS.le h.hp hl, h.hr.le h.hp hl, h.hx.le hl, RepUs.le h.hm hl, h.hg.le hl, hl _ _ h.c0, hl _ _ h.c1⟩
theorem BuS.all (h : BuS W bx Ap cp p A c B d x Am cm rs) : W.cell? ⟨bx, 0, none⟩ = some (.slice A x.from_.length c) ∧ W.cell? ⟨bx, 1, none⟩ = some (.slice B x.order.length d) ∧ bx < W.heap.size := ⟨h.c0, h.c1, World.block_lt_of_cell? _ _ h.c0⟩
theorem BuS.impl (h : BuS W bx Ap cp p A c B d x Am cm rs) (hl : p.length ≤ 1048576) (hls : ∀ t ∈ p, t.length ≤ 1048576) (hwx : wX x ≤ 1048576) :
    Calls Tryz.prog 25 #[.slice Ap p.length cp, .agg #[.slice A x.from_.length c, .slice B x.order.length d], .slice Am rs.length cm] W (RetIB W (brI p x rs) (brO p x rs)) :=
  implBR_any p hl hls x hwx rs W _ _ A B c d h.hg h.hp h.hr h.hx h.hm
theorem BuS.spec (h : BuS W bx Ap cp p A c B d x Am cm rs) (hl : p.length ≤ 1048576) (hc : ∀ r ∈ rs, cntE r.e ≤ 1000) :
    Calls Tryz.prog 26 #[.slice Ap p.length cp, .agg #[.slice A x.from_.length c, .slice B x.order.length d], .slice Am rs.length cm] W (RetIB W (brI p x rs) (brO p x rs)) :=
  specBR_any p hl x rs (fun r hr => by have := hc r hr; omega) W _ _ A B c d h.hp h.hx h.hm
end
theorem SlR.take {α : Type} {k : Nat} {R : World → (Nat → Value) → α → Prop} {w : World} {A : Option Addr} {n c : Nat} {xs : List α} (h : SlR k R w (.slice A n c) xs) {m : Nat} (hm : m ≤ xs.length) : SlR k R w (.slice A m c) (xs.take m) := by
  obtain ⟨A', c', e, hl, h⟩ := h
  injection e with e1 e2 e3
  subst e1 e3
  have hlt : (xs.take m).length = m := by rw [List.length_take]; omega
  refine ⟨A, c, by rw [hlt], by omega, fun i hi => ?_⟩
  obtain ⟨b, o, e, cs, h1, h2⟩ := h i (by omega)
  exact ⟨b, o, e, cs, h1, by rw [List.getElem_take]; exact h2⟩
theorem brO_of {p : Prg} {x : Ex} {rs : List RU} {a b : Bool} (h1 : candB p x = a) (h2 : mB rs = b) : brO p x rs = (a && b) := by unfold brO; rw [h1, h2]
theorem brI_not {p : Prg} {x : Ex} {rs : List RU} (h : (candB p x && mB rs) = false) : brI p x rs = -1 := by
  unfold brI
  rw [if_neg]
  rintro ⟨h1, h2⟩
  rw [h1, h2] at h
  cases h
theorem brI_ok {p : Prg} {x : Ex} {rs : List RU} (h1 : candB p x = true) (h2 : mB rs = true) : brI p x rs = brkN p x (evs p).length rs 0 := if_pos ⟨h1, h2⟩
/-- The first rules of a valid model are one. -/
theorem mB_take {rs : List RU} (h : mB rs = true) {m : Nat} (h0 : 0 < m) (hm : m ≤ rs.length) : mB (rs.take m) = true := by
  obtain ⟨h1, h2, h3⟩ := mB_iff.1 h
  have hlt : (rs.take m).length = m := by rw [List.length_take]; omega
  exact mB_iff.2 ⟨by omega, by omega, fun r hr => h3 r (List.mem_of_mem_take hr)⟩
theorem brkN_all {p : Prg} {x : Ex} {n : Nat} {rs : List RU} {i : Nat} (h : ∀ r ∈ rs, holdR r.kind (evR p x n r.e) n = true) : brkN p x n rs i = -1 := by
  rcases brkN_cases p x n rs i with ⟨h1, _⟩ | ⟨k, hk, _, h2, _⟩
  · exact h1
  · rw [h _ (List.getElem_mem hk)] at h2
    cases h2
theorem brkN_at {p : Prg} {x : Ex} {n : Nat} {rs : List RU} {k : Nat} (hk : k < rs.length) (h : holdR rs[k].kind (evR p x n rs[k].e) n = false) (hj : ∀ j (h : j < k), holdR rs[j].kind (evR p x n rs[j].e) n = true) : brkN p x n rs 0 = (k : Int) := by
  rcases brkN_cases p x n rs 0 with ⟨_, h2⟩ | ⟨k', hk', h1, h2, h3⟩
  · rw [h2 _ (List.getElem_mem hk)] at h
    cases h
  · have e : k' = k := by
      rcases Nat.lt_trichotomy k' k with hlt | e | hlt
      · rw [hj _ hlt] at h2; cases h2
      · exact e
      · rw [h3 _ hlt] at h; cases h
    rw [h1, e, Nat.zero_add]
theorem brI_take {p : Prg} {x : Ex} {rs : List RU} (h1 : candB p x = true) (h2 : mB rs = true) {k : Nat} (hk : k < rs.length) (h : brI p x rs = (k : Int)) :
    brI p x (rs.take (k + 1)) = (k : Int) ∧ (0 < k → brI p x (rs.take k) = -1) := by
  rw [brI_ok h1 h2] at h
  rcases brkN_cases p x (evs p).length rs 0 with ⟨h3, _⟩ | ⟨k', hk', h3, h4, h5⟩
  · rw [h3] at h
    omega
  · have e : k' = k := by rw [h3] at h; omega
    subst e
    refine ⟨?_, fun h0 => ?_⟩
    · rw [brI_ok h1 (mB_take h2 (by omega) hk)]
      refine brkN_at (by rw [List.length_take]; omega) (by rw [List.getElem_take]; exact h4) fun j hj => by rw [List.getElem_take]; exact h5 j hj
    · rw [brI_ok h1 (mB_take h2 h0 (by omega))]
      refine brkN_all fun r hr => ?_
      obtain ⟨j, hj, rfl⟩ := List.getElem_of_mem hr
      rw [List.length_take] at hj
      rw [List.getElem_take]
      exact h5 j (by omega)
theorem brI_range {p : Prg} {x : Ex} {rs : List RU} (h1 : candB p x = true) (h2 : mB rs = true) : brI p x rs = -1 ∨ ∃ k : Nat, k < rs.length ∧ brI p x rs = (k : Int) := by
  rw [brI_ok h1 h2]
  rcases brkN_cases p x (evs p).length rs 0 with ⟨h3, _⟩ | ⟨k, hk, h3, _⟩
  · exact .inl h3
  · exact .inr ⟨k, hk, by rw [h3, Nat.zero_add]⟩
theorem brI_rev {p : Prg} {x : Ex} {rs : List RU} (h1 : candB p x = true) (h2 : mB rs = true) : brO p x rs.reverse = true ∧ (brI p x rs.reverse = -1 ↔ brI p x rs = -1) := by
  obtain ⟨m1, m2, m3⟩ := mB_iff.1 h2
  have hr : mB rs.reverse = true := mB_iff.2 ⟨by simpa using m1, by simpa using m2, fun r hr => m3 r (List.mem_reverse.1 hr)⟩
  refine ⟨by rw [brO_of h1 hr]; rfl, ?_⟩
  have key : ∀ qs : List RU, brkN p x (evs p).length qs 0 = -1 ↔ ∀ r ∈ qs, holdR r.kind (evR p x (evs p).length r.e) (evs p).length = true := fun qs => by
    refine ⟨fun h => ?_, brkN_all⟩
    rcases brkN_cases p x (evs p).length qs 0 with ⟨_, h4⟩ | ⟨k, hk, h3, _⟩
    · exact h4
    · rw [h3] at h
      omega
  rw [brI_ok h1 hr, brI_ok h1 h2, key, key]
  exact ⟨fun h r hr => h r (List.mem_reverse.2 hr), fun h r hr => h r (List.mem_reverse.1 hr)⟩
end Go.Proofs.YtfgpbnncdfcjjabGreatDoor
