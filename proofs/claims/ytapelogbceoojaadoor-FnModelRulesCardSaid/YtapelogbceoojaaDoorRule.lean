/-
  Rules as plain pairs, and how slices of them lie in memory.
-/
import Derived.Test.YtapelogbceoojaaDoorRE
namespace Go.Proofs.YtapelogbceoojaaDoor
open Go.RowKit
set_option linter.unusedVariables false
set_option maxRecDepth 100000

structure RU where
  kind : Int
  e : RE

/-- The four cells of a rule. -/
def RepU (w : World) (cs : Nat → Value) (r : RU) : Prop := cs 0 = .int .i64 r.kind ∧ RepE w (fun j => cs (j + 1)) r.e
theorem RepU.le {w w' : World} (hl : Le w w') {r : RU} {cs : Nat → Value} (h : RepU w cs r) : RepU w' cs r := ⟨h.1, RepE.le hl _ _ h.2⟩
theorem RepUs.le {w w' : World} {v : Value} {rs : List RU} (h : SlR 4 RepU w v rs) (hl : Le w w') : SlR 4 RepU w' v rs := h.le (fun i hi cs' => RepU.le hl) hl
theorem RepU.congr {w : World} {cs cs' : Nat → Value} {r : RU} (h : RepU w cs r) (hc : ∀ j, j < 4 → cs j = cs' j) : RepU w cs' r :=
  ⟨by rw [← hc 0 (by omega)]; exact h.1, h.2.congr fun j hj => hc (j + 1) (by omega)⟩
theorem repU_K {w : World} {cs : Nat → Value} {r : RU} : RepU w cs r ↔ ∃ A c, cs 0 = .int .i64 r.kind ∧ cs 1 = .int .i64 r.e.op ∧ cs 2 = .string r.e.name ∧ cs 3 = .slice A r.e.kids.length c ∧ RepK w A c r.e := by
  unfold RepU
  rw [repE_K]
  constructor
  · rintro ⟨h0, A, c, h1, h2, h3, hk⟩
    exact ⟨A, c, h0, h1, h2, h3, hk⟩
  · rintro ⟨A, c, h0, h1, h2, h3, hk⟩
    exact ⟨h0, A, c, h1, h2, h3, hk⟩
theorem SlR.get4 {α : Type} {R : World → (Nat → Value) → α → Prop} {w : World} {A : Option Addr} {c n : Nat} {xs : List α} (h : SlR 4 R w (.slice A n c) xs) {i : Nat} (hi : i < xs.length) :
    ∃ b o cs, A = some ⟨b, o, none⟩ ∧ w.cell? ⟨b, o + i * 4, none⟩ = some (cs 0) ∧ w.cell? ⟨b, o + i * 4 + 1, none⟩ = some (cs 1) ∧ w.cell? ⟨b, o + i * 4 + 2, none⟩ = some (cs 2) ∧ w.cell? ⟨b, o + i * 4 + 3, none⟩ = some (cs 3) ∧ R w cs xs[i] := by
  obtain ⟨A', c', e, _, h⟩ := h
  obtain ⟨b, o, h1, cs, hc, hr⟩ := h i hi
  injection e with e1 _ _
  exact ⟨b, o, cs, e1.trans h1, by simpa using hc 0 (by omega), hc 1 (by omega), hc 2 (by omega), hc 3 (by omega), hr⟩
/-- One rule of a slice of them. -/
theorem RepUs.get {w : World} {A : Option Addr} {c n : Nat} {rs : List RU} (h : SlR 4 RepU w (.slice A n c) rs) {i : Nat} (hi : i < rs.length) :
    ∃ b o A' c', A = some ⟨b, o, none⟩ ∧ b < w.heap.size ∧ w.cell? ⟨b, o + i * 4, none⟩ = some (.int .i64 rs[i].kind) ∧ w.cell? ⟨b, o + i * 4 + 1, none⟩ = some (.int .i64 rs[i].e.op) ∧ w.cell? ⟨b, o + i * 4 + 2, none⟩ = some (.string rs[i].e.name) ∧
      w.cell? ⟨b, o + i * 4 + 3, none⟩ = some (.slice A' rs[i].e.kids.length c') ∧ RepK w A' c' rs[i].e := by
  obtain ⟨b, o, cs, h0, h1, h2, h3, h4, hr⟩ := h.get4 hi
  obtain ⟨A', c', e0, e1, e2, e3, hk⟩ := repU_K.1 hr
  exact ⟨b, o, A', c', h0, World.block_lt_of_cell? _ _ h1, by rw [h1, e0], by rw [h2, e1], by rw [h3, e2], by rw [h4, e3], hk⟩

/-- Element k of a row of rows of four cells is written: what the row then holds. -/
def upd4 (F : Nat → Value) (k : Nat) (v0 v1 v2 v3 : Value) : Nat → Value := fun j => if j = k * 4 + 3 then v3 else if j = k * 4 + 2 then v2 else if j = k * 4 + 1 then v1 else if j = k * 4 then v0 else F j
theorem upd4_other (F : Nat → Value) {k i j : Nat} (v0 v1 v2 v3 : Value) (hj : j < 4) (h : i ≠ k) : upd4 F k v0 v1 v2 v3 (i * 4 + j) = F (i * 4 + j) := by
  unfold upd4
  rw [if_neg (by omega), if_neg (by omega), if_neg (by omega), if_neg (by omega)]
theorem upd4_0 (F : Nat → Value) (k : Nat) (v0 v1 v2 v3 : Value) : upd4 F k v0 v1 v2 v3 (k * 4 + 0) = v0 := by
  unfold upd4
  rw [if_neg (by omega), if_neg (by omega), if_neg (by omega), if_pos (by omega)]
theorem upd4_1 (F : Nat → Value) (k : Nat) (v0 v1 v2 v3 : Value) : upd4 F k v0 v1 v2 v3 (k * 4 + 1) = v1 := by
  unfold upd4
  rw [if_neg (by omega), if_neg (by omega), if_pos rfl]
theorem upd4_2 (F : Nat → Value) (k : Nat) (v0 v1 v2 v3 : Value) : upd4 F k v0 v1 v2 v3 (k * 4 + 2) = v2 := by
  unfold upd4
  rw [if_neg (by omega), if_pos rfl]
theorem upd4_3 (F : Nat → Value) (k : Nat) (v0 v1 v2 v3 : Value) : upd4 F k v0 v1 v2 v3 (k * 4 + 3) = v3 := by
  unfold upd4
  rw [if_pos rfl]
theorem rowIs_set4 {w : World} {b : Nat} {t : TypeId} {n : Nat} {F : Nat → Value} (h : w.rowIs b t n F) (k : Nat) (v0 v1 v2 v3 : Value) :
    ((((w.setCell ⟨b, k * 4, none⟩ v0).setCell ⟨b, k * 4 + 1, none⟩ v1).setCell ⟨b, k * 4 + 2, none⟩ v2).setCell ⟨b, k * 4 + 3, none⟩ v3).rowIs b t n (upd4 F k v0 v1 v2 v3) :=
  (((h.set (k * 4) v0).set (k * 4 + 1) v1).set (k * 4 + 2) v2).set (k * 4 + 3) v3
theorem below_set4 {B b o0 o1 o2 o3 : Nat} {a w : World} (h : Below B a w) (hb : B ≤ b) (v0 v1 v2 v3 : Value) :
    Below B a ((((w.setCell ⟨b, o0, none⟩ v0).setCell ⟨b, o1, none⟩ v1).setCell ⟨b, o2, none⟩ v2).setCell ⟨b, o3, none⟩ v3) :=
  (((h.setCell (p := ⟨b, o0, none⟩) hb _).setCell (p := ⟨b, o1, none⟩) hb _).setCell (p := ⟨b, o2, none⟩) hb _).setCell (p := ⟨b, o3, none⟩) hb _
theorem above_set4 (B : Nat) (w : World) {b o0 o1 o2 o3 : Nat} (hb : b < B) (v0 v1 v2 v3 : Value) :
    Le (Go.Proofs.YtapelogbceoojaaDoor.above B w) (Go.Proofs.YtapelogbceoojaaDoor.above B ((((w.setCell ⟨b, o0, none⟩ v0).setCell ⟨b, o1, none⟩ v1).setCell ⟨b, o2, none⟩ v2).setCell ⟨b, o3, none⟩ v3)) :=
  (((Le.above_setCell _ _ (p := ⟨b, o0, none⟩) hb _).trans (Le.above_setCell _ _ (p := ⟨b, o1, none⟩) hb _)).trans (Le.above_setCell _ _ (p := ⟨b, o2, none⟩) hb _)).trans (Le.above_setCell _ _ (p := ⟨b, o3, none⟩) hb _)

/-- A rule's value, its kids at A. -/
abbrev valU (r : RU) (A : Option Addr) (c : Nat) : Value := .agg #[.int .i64 r.kind, .int .i64 r.e.op, .string r.e.name, .slice A r.e.kids.length c]
/-- What a rule weighs. -/
def wU (r : RU) : Nat := wE r.e

open Classical in
noncomputable def sameU (a b : RU) : Bool := decide (a = b)
theorem sameU_iff {a b : RU} : sameU a b = true ↔ a = b := by simp [sameU]
theorem sameU_false {a b : RU} : sameU a b = false ↔ a ≠ b := by rw [← Bool.not_eq_true, Ne, sameU_iff]
open Classical in
noncomputable def sameUs (a b : List RU) : Bool := decide (a = b)
theorem sameUs_iff {a b : List RU} : sameUs a b = true ↔ a = b := by simp [sameUs]
theorem sameUs_false {a b : List RU} : sameUs a b = false ↔ a ≠ b := by rw [← Bool.not_eq_true, Ne, sameUs_iff]
theorem sameU_eq (a b : RU) : sameU a b = (decide (a.kind = b.kind) && sameB a.e b.e) := by
  cases a; cases b
  rw [Bool.eq_iff_iff, sameU_iff]
  simp [sameB_iff]

end Go.Proofs.YtapelogbceoojaaDoor
