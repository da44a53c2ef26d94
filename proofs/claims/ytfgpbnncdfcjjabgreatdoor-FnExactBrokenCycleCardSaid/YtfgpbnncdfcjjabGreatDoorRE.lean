/-
  Expressions as plain trees, and how they lie in memory. No program in sight but the widths of the cells. Rules as plain pairs, and how slices of them lie in memory. Expressions whose memory is one's own: each slice of operands a block by itself; which blocks they are.
-/
import Derived.Test.YtfgpbnncdfcjjabGreatDoorLib

/-! Expressions as plain trees, and how they lie in memory. No program in sight but the widths of the cells. -/
namespace Go.Proofs.YtfgpbnncdfcjjabGreatDoor
open Go.RowKit
set_option linter.unusedVariables false
set_option maxRecDepth 100000

inductive RE where
  | mk (op : Int) (name : ByteArray) (kids : List RE)

def RE.op : RE → Int | .mk op _ _ => op
def RE.name : RE → ByteArray | .mk _ name _ => name
def RE.kids : RE → List RE | .mk _ _ kids => kids

theorem RE.ind {P : RE → Prop} (h : ∀ op name kids, (∀ k ∈ kids, P k) → P (.mk op name kids)) : ∀ e, P e := by
  intro e
  refine RE.rec (motive_1 := P) (motive_2 := fun l => ∀ k ∈ l, P k) ?_ ?_ ?_ e
  · exact fun op name kids ih => h op name kids ih
  · intro k hk; cases hk
  · intro a l ha hl k hk
    rcases List.mem_cons.1 hk with rfl | hk
    · exact ha
    · exact hl k hk

mutual
def RepE (w : World) : (Nat → Value) → RE → Prop
  | cs, .mk op name kids => cs 0 = .int .i64 op ∧ cs 1 = .string name ∧ name.size ≤ 9223372036854775807 ∧ ∃ A c, cs 2 = .slice A kids.length c ∧ kids.length ≤ 9223372036854775807 ∧ RepKs w A 0 kids
def RepKs (w : World) : Option Addr → Nat → List RE → Prop
  | _, _, [] => True
  | A, i, e :: es => (∃ b o, A = some ⟨b, o, none⟩ ∧ ∃ cs : Nat → Value, (∀ j, j < 3 → w.cell? ⟨b, o + i * 3 + j, none⟩ = some (cs j)) ∧ RepE w cs e) ∧ RepKs w A (i + 1) es
end

theorem repKs_iff (w : World) (A : Option Addr) (es : List RE) : ∀ i, RepKs w A i es ↔
    ∀ m (h : m < es.length), ∃ b o, A = some ⟨b, o, none⟩ ∧ ∃ cs : Nat → Value, (∀ j, j < 3 → w.cell? ⟨b, o + (i + m) * 3 + j, none⟩ = some (cs j)) ∧ RepE w cs es[m] := by
  induction es with
  | nil => intro i; simp [RepKs]
  | cons e es ih =>
    intro i
    rw [RepKs, ih]
    constructor
    · rintro ⟨h0, h1⟩ m hm
      cases m with
      | zero => simpa using h0
      | succ m =>
        have := h1 m (by simpa using hm)
        rw [show i + 1 + m = i + (m + 1) by omega] at this
        simpa using this
    · intro h
      refine ⟨h 0 (by simp), fun m hm => ?_⟩
      have := h (m + 1) (by simpa using hm)
      rw [show i + 1 + m = i + (m + 1) by omega]
      simpa using this

theorem repE_iff (w : World) (cs : Nat → Value) (op : Int) (name : ByteArray) (kids : List RE) :
    RepE w cs (.mk op name kids) ↔ cs 0 = .int .i64 op ∧ cs 1 = .string name ∧ name.size ≤ 9223372036854775807 ∧ SlR 3 RepE w (cs 2) kids := by
  rw [RepE]
  refine and_congr_right fun _ => and_congr_right fun _ => and_congr_right fun _ => ?_
  unfold SlR
  constructor
  · rintro ⟨A, c, h1, hm, h2⟩
    refine ⟨A, c, h1, hm, fun i hi => ?_⟩
    have := (repKs_iff w A kids 0).1 h2 i hi
    simpa using this
  · rintro ⟨A, c, h1, hm, h2⟩
    refine ⟨A, c, h1, hm, (repKs_iff w A kids 0).2 fun i hi => ?_⟩
    simpa using h2 i hi

theorem RepE.le {w w' : World} (hl : Le w w') : ∀ (e : RE) (cs : Nat → Value), RepE w cs e → RepE w' cs e := by
  refine RE.ind fun op name kids ih cs h => ?_
  rw [repE_iff] at h ⊢
  exact ⟨h.1, h.2.1, h.2.2.1, h.2.2.2.le (fun i hi cs' => ih _ (List.getElem_mem hi) cs') hl⟩
theorem RepEs.le {w w' : World} {v : Value} {es : List RE} (h : SlR 3 RepE w v es) (hl : Le w w') : SlR 3 RepE w' v es :=
  h.le (fun i hi cs' => RepE.le hl _ cs') hl

/-- An expression whose kids lie at A: what the three cells of it stand for. -/
def RepK (w : World) (A : Option Addr) (c : Nat) (e : RE) : Prop := e.name.size ≤ 9223372036854775807 ∧ SlR 3 RepE w (.slice A e.kids.length c) e.kids
theorem RepK.name_le {w : World} {A : Option Addr} {c : Nat} {e : RE} (h : RepK w A c e) : e.name.size ≤ 9223372036854775807 := h.1
theorem RepK.kids_le {w : World} {A : Option Addr} {c : Nat} {e : RE} (h : RepK w A c e) : e.kids.length ≤ 9223372036854775807 := h.2.slice.elim fun _ h => h.elim fun _ h => h.2
theorem RepK.le {w w' : World} {A : Option Addr} {c : Nat} {e : RE} (h : RepK w A c e) (hl : Le w w') : RepK w' A c e := ⟨h.1, RepEs.le h.2 hl⟩
/-- An expression's value. -/
def valE (e : RE) (A : Option Addr) (c : Nat) : Value := .agg #[.int .i64 e.op, .string e.name, .slice A e.kids.length c]
theorem repE_K {w : World} {cs : Nat → Value} {e : RE} : RepE w cs e ↔ ∃ A c, cs 0 = .int .i64 e.op ∧ cs 1 = .string e.name ∧ cs 2 = .slice A e.kids.length c ∧ RepK w A c e := by
  obtain ⟨op, name, kids⟩ := e
  rw [repE_iff]
  constructor
  · rintro ⟨h0, h1, hn, h2⟩
    obtain ⟨A, c, h3, _⟩ := h2.slice
    rw [h3] at h2
    exact ⟨A, c, h0, h1, h3, hn, h2⟩
  · rintro ⟨A, c, h0, h1, h2, h3, h4⟩
    exact ⟨h0, h1, h3, by rw [h2]; exact h4⟩
/-- One expression of a slice of them. -/
theorem RepEs.get {w : World} {A : Option Addr} {c n : Nat} {es : List RE} (h : SlR 3 RepE w (.slice A n c) es) {i : Nat} (hi : i < es.length) :
    ∃ b o A' c', A = some ⟨b, o, none⟩ ∧ b < w.heap.size ∧ w.cell? ⟨b, o + i * 3, none⟩ = some (.int .i64 es[i].op) ∧ w.cell? ⟨b, o + i * 3 + 1, none⟩ = some (.string es[i].name) ∧
      w.cell? ⟨b, o + i * 3 + 2, none⟩ = some (.slice A' es[i].kids.length c') ∧ RepK w A' c' es[i] := by
  obtain ⟨b, o, cs, h0, h1, h2, h3, h4⟩ := h.get3 hi
  obtain ⟨A', c', e0, e1, e2, hk⟩ := repE_K.1 h4
  exact ⟨b, o, A', c', h0, World.block_lt_of_cell? _ _ h1, by rw [h1, e0], by rw [h2, e1], by rw [h3, e2], hk⟩
/-- The three cells of an expression. -/
def cellsE (e : RE) (A : Option Addr) (c : Nat) : Nat → Value
  | 0 => .int .i64 e.op
  | 1 => .string e.name
  | _ => .slice A e.kids.length c
theorem RepK.toE {w : World} {A : Option Addr} {c : Nat} {e : RE} (h : RepK w A c e) {cs : Nat → Value} (hc : ∀ j, j < 3 → cs j = cellsE e A c j) : RepE w cs e :=
  repE_K.2 ⟨A, c, hc 0 (by omega), hc 1 (by omega), hc 2 (by omega), h⟩
/-- Only the three cells count. -/
theorem RepE.congr {w : World} {cs cs' : Nat → Value} {e : RE} (h : RepE w cs e) (hc : ∀ j, j < 3 → cs j = cs' j) : RepE w cs' e := by
  obtain ⟨A, c, h0, h1, h2, hk⟩ := repE_K.1 h
  exact repE_K.2 ⟨A, c, by rw [← hc 0 (by omega), h0], by rw [← hc 1 (by omega), h1], by rw [← hc 2 (by omega), h2], hk⟩
theorem RepE.congr' {w : World} {cs cs' : Nat → Value} {e : RE} (h : RepE w cs e) (hc : ∀ j, j < 3 → cs' j = cs j) : RepE w cs' e := h.congr fun j hj => (hc j hj).symm

open Classical in
/-- Two expressions are the same. -/
noncomputable def sameB (a b : RE) : Bool := decide (a = b)
theorem sameB_iff {a b : RE} : sameB a b = true ↔ a = b := by simp [sameB]
theorem sameB_false {a b : RE} : sameB a b = false ↔ a ≠ b := by rw [← Bool.not_eq_true, Ne, sameB_iff]
open Classical in
noncomputable def samesB (a b : List RE) : Bool := decide (a = b)
theorem samesB_iff {a b : List RE} : samesB a b = true ↔ a = b := by simp [samesB]
theorem samesB_false {a b : List RE} : samesB a b = false ↔ a ≠ b := by rw [← Bool.not_eq_true, Ne, samesB_iff]

/-! ### Sizes -/
mutual
def wE : RE → Nat
  | .mk _ name kids => name.size + (kids.length + wL kids)
def wL : List RE → Nat
  | [] => 0
  | e :: es => wE e + wL es
end
theorem wL_take_succ (es : List RE) (k : Nat) (h : k < es.length) : wL (es.take (k + 1)) = wL (es.take k) + wE es[k] := by
  induction es generalizing k with
  | nil => simp at h
  | cons e es ih =>
    cases k with
    | zero => simp [wL]
    | succ k =>
      have := ih k (by simpa using h)
      simp only [List.take_succ_cons, wL, List.getElem_cons_succ] at this ⊢
      omega
theorem wL_take_le (es : List RE) (k : Nat) : wL (es.take k) ≤ wL es := by
  induction es generalizing k with
  | nil => simp
  | cons e es ih =>
    cases k with
    | zero => simp [wL]
    | succ k => have := ih k; simp only [List.take_succ_cons, wL]; omega
theorem wE_mem {e : RE} {es : List RE} (h : e ∈ es) : wE e ≤ wL es := by
  induction es with
  | nil => cases h
  | cons a es ih =>
    simp only [wL]
    rcases List.mem_cons.1 h with rfl | h
    · omega
    · have := ih h; omega

end Go.Proofs.YtfgpbnncdfcjjabGreatDoor

/-! Rules as plain pairs, and how slices of them lie in memory. -/
namespace Go.Proofs.YtfgpbnncdfcjjabGreatDoor
open Go.RowKit
set_option linter.unusedVariables false
set_option maxRecDepth 100000

structure RU where
  kind : Int
  e : RE

/-- The four cells of a rule. -/
def RepU (w : World) (cs : Nat → Value) (r : RU) : Prop := cs 0 = .int .i64 r.kind ∧ RepE w (fun j => cs (j + 1)) r.e
theorem RepU.le {w w' : World} (hl : Le w w') {r : RU} {cs : Nat → Value} (h : RepU w cs r) : RepU w' cs r := ⟨h.1, RepE.le hl _ _ h.2⟩
theorem RepUs.le {w w' : World} {v : Value} {rs : List RU} (h : SlR 4 RepU w v rs) (hl : Le w w') : SlR 4 RepU w' v rs := h.le (fun i hi cs' => RepU.le hl) hl
theorem RepU.congr {w : World} {cs cs' : Nat → Value} {r : RU} (h : RepU w cs r) (hc : ∀ j, j < 4 → cs j = cs' j) : RepU w cs' r :=
  ⟨by rw [← hc 0 (by omega)]; exact h.1, h.2.congr fun j hj => hc (j + 1) (by omega)⟩
theorem repU_K {w : World} {cs : Nat → Value} {r : RU} : RepU w cs r ↔ ∃ A c, cs 0 = .int .i64 r.kind ∧ cs 1 = .int .i64 r.e.op ∧ cs 2 = .string r.e.name ∧ cs 3 = .slice A r.e.kids.length c ∧ RepK w A c r.e := by
  unfold RepU
  rw [repE_K]
  constructor
  · rintro ⟨h0, A, c, h1, h2, h3, hk⟩
    exact ⟨A, c, h0, h1, h2, h3, hk⟩
  · rintro ⟨A, c, h0, h1, h2, h3, hk⟩
    exact ⟨h0, A, c, h1, h2, h3, hk⟩
theorem SlR.get4 {α : Type} {R : World → (Nat → Value) → α → Prop} {w : World} {A : Option Addr} {c n : Nat} {xs : List α} (h : SlR 4 R w (.slice A n c) xs) {i : Nat} (hi : i < xs.length) :
    ∃ b o cs, A = some ⟨b, o, none⟩ ∧ w.cell? ⟨b, o + i * 4, none⟩ = some (cs 0) ∧ w.cell? ⟨b, o + i * 4 + 1, none⟩ = some (cs 1) ∧ w.cell? ⟨b, o + i * 4 + 2, none⟩ = some (cs 2) ∧ w.cell? ⟨b, o + i * 4 + 3, none⟩ = some (cs 3) ∧ R w cs xs[i] := by
  obtain ⟨A', c', e, _, h⟩ := h
  obtain ⟨b, o, h1, cs, hc, hr⟩ := h i hi
  injection e with e1 _ _
  exact ⟨b, o, cs, e1.trans h1, by simpa using hc 0 (by omega), hc 1 (by omega), hc 2 (by omega), hc 3 (by omega), hr⟩
/-- One rule of a slice of them. -/
theorem RepUs.get {w : World} {A : Option Addr} {c n : Nat} {rs : List RU} (h : SlR 4 RepU w (.slice A n c) rs) {i : Nat} (hi : i < rs.length) :
    ∃ b o A' c', A = some ⟨b, o, none⟩ ∧ b < w.heap.size ∧ w.cell? ⟨b, o + i * 4, none⟩ = some (.int .i64 rs[i].kind) ∧ w.cell? ⟨b, o + i * 4 + 1, none⟩ = some (.int .i64 rs[i].e.op) ∧ w.cell? ⟨b, o + i * 4 + 2, none⟩ = some (.string rs[i].e.name) ∧
      w.cell? ⟨b, o + i * 4 + 3, none⟩ = some (.slice A' rs[i].e.kids.length c') ∧ RepK w A' c' rs[i].e := by
  obtain ⟨b, o, cs, h0, h1, h2, h3, h4, hr⟩ := h.get4 hi
  obtain ⟨A', c', e0, e1, e2, e3, hk⟩ := repU_K.1 hr
  exact ⟨b, o, A', c', h0, World.block_lt_of_cell? _ _ h1, by rw [h1, e0], by rw [h2, e1], by rw [h3, e2], by rw [h4, e3], hk⟩

/-- Element k of a row of rows of four cells is written: what the row then holds. -/
def upd4 (F : Nat → Value) (k : Nat) (v0 v1 v2 v3 : Value) : Nat → Value := fun j => if j = k * 4 + 3 then v3 else if j = k * 4 + 2 then v2 else if j = k * 4 + 1 then v1 else if j = k * 4 then v0 else F j
theorem upd4_other (F : Nat → Value) {k i j : Nat} (v0 v1 v2 v3 : Value) (hj : j < 4) (h : i ≠ k) : upd4 F k v0 v1 v2 v3 (i * 4 + j) = F (i * 4 + j) := by
  unfold upd4
  rw [if_neg (by omega), if_neg (by omega), if_neg (by omega), if_neg (by omega)]
theorem upd4_0 (F : Nat → Value) (k : Nat) (v0 v1 v2 v3 : Value) : upd4 F k v0 v1 v2 v3 (k * 4 + 0) = v0 := by
  unfold upd4
  rw [if_neg (by omega), if_neg (by omega), if_neg (by omega), if_pos (by omega)]
theorem upd4_1 (F : Nat → Value) (k : Nat) (v0 v1 v2 v3 : Value) : upd4 F k v0 v1 v2 v3 (k * 4 + 1) = v1 := by
  unfold upd4
  rw [if_neg (by omega), if_neg (by omega), if_pos rfl]
theorem upd4_2 (F : Nat → Value) (k : Nat) (v0 v1 v2 v3 : Value) : upd4 F k v0 v1 v2 v3 (k * 4 + 2) = v2 := by
  unfold upd4
  rw [if_neg (by omega), if_pos rfl]
theorem upd4_3 (F : Nat → Value) (k : Nat) (v0 v1 v2 v3 : Value) : upd4 F k v0 v1 v2 v3 (k * 4 + 3) = v3 := by
  unfold upd4
  rw [if_pos rfl]
theorem rowIs_set4 {w : World} {b : Nat} {t : TypeId} {n : Nat} {F : Nat → Value} (h : w.rowIs b t n F) (k : Nat) (v0 v1 v2 v3 : Value) :
    ((((w.setCell ⟨b, k * 4, none⟩ v0).setCell ⟨b, k * 4 + 1, none⟩ v1).setCell ⟨b, k * 4 + 2, none⟩ v2).setCell ⟨b, k * 4 + 3, none⟩ v3).rowIs b t n (upd4 F k v0 v1 v2 v3) :=
  (((h.set (k * 4) v0).set (k * 4 + 1) v1).set (k * 4 + 2) v2).set (k * 4 + 3) v3
theorem below_set4 {B b o0 o1 o2 o3 : Nat} {a w : World} (h : Below B a w) (hb : B ≤ b) (v0 v1 v2 v3 : Value) :
    Below B a ((((w.setCell ⟨b, o0, none⟩ v0).setCell ⟨b, o1, none⟩ v1).setCell ⟨b, o2, none⟩ v2).setCell ⟨b, o3, none⟩ v3) :=
  (((h.setCell (p := ⟨b, o0, none⟩) hb _).setCell (p := ⟨b, o1, none⟩) hb _).setCell (p := ⟨b, o2, none⟩) hb _).setCell (p := ⟨b, o3, none⟩) hb _
theorem above_set4 (B : Nat) (w : World) {b o0 o1 o2 o3 : Nat} (hb : b < B) (v0 v1 v2 v3 : Value) :
    Le (Go.Proofs.YtfgpbnncdfcjjabGreatDoor.above B w) (Go.Proofs.YtfgpbnncdfcjjabGreatDoor.above B ((((w.setCell ⟨b, o0, none⟩ v0).setCell ⟨b, o1, none⟩ v1).setCell ⟨b, o2, none⟩ v2).setCell ⟨b, o3, none⟩ v3)) :=
  (((Le.above_setCell _ _ (p := ⟨b, o0, none⟩) hb _).trans (Le.above_setCell _ _ (p := ⟨b, o1, none⟩) hb _)).trans (Le.above_setCell _ _ (p := ⟨b, o2, none⟩) hb _)).trans (Le.above_setCell _ _ (p := ⟨b, o3, none⟩) hb _)

/-- A rule's value, its kids at A. -/
abbrev valU (r : RU) (A : Option Addr) (c : Nat) : Value := .agg #[.int .i64 r.kind, .int .i64 r.e.op, .string r.e.name, .slice A r.e.kids.length c]
/-- What a rule weighs. -/
def wU (r : RU) : Nat := wE r.e

open Classical in
noncomputable def sameU (a b : RU) : Bool := decide (a = b)
theorem sameU_iff {a b : RU} : sameU a b = true ↔ a = b := by simp [sameU]
theorem sameU_false {a b : RU} : sameU a b = false ↔ a ≠ b := by rw [← Bool.not_eq_true, Ne, sameU_iff]
open Classical in
noncomputable def sameUs (a b : List RU) : Bool := decide (a = b)
theorem sameUs_iff {a b : List RU} : sameUs a b = true ↔ a = b := by simp [sameUs]
theorem sameUs_false {a b : List RU} : sameUs a b = false ↔ a ≠ b := by rw [← Bool.not_eq_true, Ne, sameUs_iff]
theorem sameU_eq (a b : RU) : sameU a b = (decide (a.kind = b.kind) && sameB a.e b.e) := by
  cases a; cases b
  rw [Bool.eq_iff_iff, sameU_iff]
  simp [sameB_iff]

end Go.Proofs.YtfgpbnncdfcjjabGreatDoor

/-! Expressions whose memory is one's own: each slice of operands a block by itself; which blocks they are. -/
namespace Go.Proofs.YtfgpbnncdfcjjabGreatDoor
open Go.RowKit
set_option linter.unusedVariables false
set_option maxRecDepth 100000

/-- The slice value holds the expressions, in just these blocks. -/
inductive OwE (w : World) : Value → List RE → List Nat → Prop
  | nil : OwE w (.slice none 0 0) [] []
  | row {b : Nat} {F : Nat → Value} {es : List RE} {vs : Nat → Value} {Fs : Nat → List Nat} : es.length ≤ 9223372036854775807 →
      w.rowIs b 57 (es.length * 3) F →
      (∀ i (h : i < es.length), F (i * 3) = .int .i64 es[i].op ∧ F (i * 3 + 1) = .string es[i].name ∧ F (i * 3 + 2) = vs i ∧ es[i].name.size ≤ 9223372036854775807) →
      (∀ i (h : i < es.length), OwE w (vs i) es[i].kids (Fs i)) →
      OwE w (.slice (some ⟨b, 0, none⟩) es.length es.length) es (b :: ((List.range es.length).map Fs).flatten)

theorem OwE.slice {w : World} {v : Value} {es : List RE} {F : List Nat} (h : OwE w v es F) : ∃ A c, v = .slice A es.length c := by
  cases h with
  | nil => exact ⟨_, _, rfl⟩
  | row => exact ⟨_, _, rfl⟩
theorem mem_foot {n : Nat} {Fs : Nat → List Nat} {i x : Nat} (hi : i < n) (hx : x ∈ Fs i) : x ∈ ((List.range n).map Fs).flatten :=
  List.mem_flatten.2 ⟨Fs i, List.mem_map.2 ⟨i, List.mem_range.2 hi, rfl⟩, hx⟩
theorem of_mem_foot {n : Nat} {Fs : Nat → List Nat} {x : Nat} (h : x ∈ ((List.range n).map Fs).flatten) : ∃ i, i < n ∧ x ∈ Fs i := by
  obtain ⟨l, hl, hx⟩ := List.mem_flatten.1 h
  obtain ⟨i, hi, rfl⟩ := List.mem_map.1 hl
  exact ⟨i, List.mem_range.1 hi, hx⟩
theorem OwE.lt {w : World} {v : Value} {es : List RE} {F : List Nat} (h : OwE w v es F) : ∀ b ∈ F, b < w.heap.size := by
  induction h with
  | nil => intro b hb; cases hb
  | row _ hr _ _ ih =>
    intro x hx
    rcases List.mem_cons.1 hx with rfl | hx
    · exact hr.lt
    · obtain ⟨i, hi, hx⟩ := of_mem_foot hx
      exact ih i hi x hx
theorem OwE.of_blocks {w w' : World} {v : Value} {es : List RE} {F : List Nat} (h : OwE w v es F) (hb : ∀ b ∈ F, w'.heap[b]? = w.heap[b]?) : OwE w' v es F := by
  induction h with
  | nil => exact .nil
  | row hl hr hF hk ih =>
    exact .row hl (hr.of_block (hb _ (by simp))) hF fun i hi => ih i hi fun b hbm => hb b (List.mem_cons_of_mem _ (mem_foot hi hbm))
/-- .. so they are what the walks speak of; also where all that lies below them is hidden. -/
theorem OwE.rep {w : World} {v : Value} {es : List RE} {F : List Nat} (h : OwE w v es F) {B : Nat} (hB : ∀ b ∈ F, B ≤ b) : SlR 3 RepE (above B w) v es := by
  induction h with
  | nil => exact ⟨none, 0, rfl, by simp, fun i hi => absurd hi (Nat.not_lt_zero _)⟩
  | @row b F es vs Fs hl hr hF hk ih =>
    refine ⟨_, _, rfl, hl, fun i hi => ⟨b, 0, rfl, fun j => F (i * 3 + j), fun j hj => ?_, ?_⟩⟩
    · rw [Nat.zero_add]
      exact cell_above_of (hB b (by simp)) (hr.cell (by omega))
    · obtain ⟨h0, h1, h2, h3⟩ := hF i hi
      have hs := ih i hi fun x hx => hB x (List.mem_cons_of_mem _ (mem_foot hi hx))
      obtain ⟨A, c, hv⟩ := (hk i hi).slice
      rw [hv] at hs h2
      exact repE_K.2 ⟨A, c, h0, h1, h2, h3, hs⟩

theorem getD_some {cs : Array Value} {i : Nat} (h : i < cs.size) : cs[i]? = some (cs.getD i undef) := by simp [Array.getD, h]

/-- One operand in a new block. -/
theorem OwE.one {w : World} {x : RE} {v : Value} {F : List Nat} (h : OwE w v x.kids F) (hn : x.name.size ≤ 9223372036854775807) :
    OwE (w.alloc (.cells #[.int .i64 x.op, .string x.name, v] 57)) (.slice (some ⟨w.heap.size, 0, none⟩) 1 1) [x] (w.heap.size :: F) := by
  have hr := World.rowIs_alloc w #[.int .i64 x.op, .string x.name, v] 57 (fun i => #[.int .i64 x.op, .string x.name, v].getD i undef) (fun i hi => getD_some hi)
  have h1 := OwE.row (w := w.alloc (.cells #[.int .i64 x.op, .string x.name, v] 57)) (es := [x]) (vs := fun _ => v) (Fs := fun _ => F) (by simp) hr
    (fun i hi => by
      obtain rfl : i = 0 := by simpa using hi
      exact ⟨rfl, rfl, rfl, hn⟩)
    (fun i hi => by
      obtain rfl : i = 0 := by simpa using hi
      exact h.of_blocks fun b hb => Go.Deep.blk_alloc_lt _ _ _ (h.lt b hb))
  simpa using h1
/-- Two operands in a new block. -/
theorem OwE.two {w : World} {x y : RE} {v u : Value} {F G : List Nat} (h : OwE w v x.kids F) (k : OwE w u y.kids G) (hn : x.name.size ≤ 9223372036854775807) (hm : y.name.size ≤ 9223372036854775807) :
    OwE (w.alloc (.cells #[.int .i64 x.op, .string x.name, v, .int .i64 y.op, .string y.name, u] 57)) (.slice (some ⟨w.heap.size, 0, none⟩) 2 2) [x, y] (w.heap.size :: (F ++ G)) := by
  have hr := World.rowIs_alloc w #[.int .i64 x.op, .string x.name, v, .int .i64 y.op, .string y.name, u] 57 (fun i => #[.int .i64 x.op, .string x.name, v, .int .i64 y.op, .string y.name, u].getD i undef) (fun i hi => getD_some hi)
  have h1 := OwE.row (w := w.alloc (.cells #[.int .i64 x.op, .string x.name, v, .int .i64 y.op, .string y.name, u] 57)) (es := [x, y]) (vs := fun i => if i = 0 then v else u) (Fs := fun i => if i = 0 then F else G) (by simp) hr
    (fun i hi => by
      match i, hi with
      | 0, _ => exact ⟨rfl, rfl, rfl, hn⟩
      | 1, _ => exact ⟨rfl, rfl, rfl, hm⟩)
    (fun i hi => by
      match i, hi with
      | 0, _ => exact h.of_blocks fun b hb => Go.Deep.blk_alloc_lt _ _ _ (h.lt b hb)
      | 1, _ => exact k.of_blocks fun b hb => Go.Deep.blk_alloc_lt _ _ _ (k.lt b hb))
  simpa [List.range_succ] using h1

end Go.Proofs.YtfgpbnncdfcjjabGreatDoor
