/-
  Expressions as plain trees, and how they lie in memory. No program in sight but the widths of the cells.
-/
import Derived.Test.YtapelogbceoojaaDoorInts
namespace Go.Proofs.YtapelogbceoojaaDoor
open Go.RowKit
set_option linter.unusedVariables false
set_option maxRecDepth 100000

inductive RE where
  | mk (op : Int) (name : ByteArray) (kids : List RE)

def RE.op : RE → Int | .mk op _ _ => op
def RE.name : RE → ByteArray | .mk _ name _ => name
def RE.kids : RE → List RE | .mk _ _ kids => kids

theorem RE.ind {P : RE → Prop} (h : ∀ op name kids, (∀ k ∈ kids, P k) → P (.mk op name kids)) : ∀ e, P e := by
  intro e
  refine RE.rec (motive_1 := P) (motive_2 := fun l => ∀ k ∈ l, P k) ?_ ?_ ?_ e
  · exact fun op name kids ih => h op name kids ih
  · intro k hk; cases hk
  · intro a l ha hl k hk
    rcases List.mem_cons.1 hk with rfl | hk
    · exact ha
    · exact hl k hk

mutual
def RepE (w : World) : (Nat → Value) → RE → Prop
  | cs, .mk op name kids => cs 0 = .int .i64 op ∧ cs 1 = .string name ∧ name.size ≤ 9223372036854775807 ∧ ∃ A c, cs 2 = .slice A kids.length c ∧ kids.length ≤ 9223372036854775807 ∧ RepKs w A 0 kids
def RepKs (w : World) : Option Addr → Nat → List RE → Prop
  | _, _, [] => True
  | A, i, e :: es => (∃ b o, A = some ⟨b, o, none⟩ ∧ ∃ cs : Nat → Value, (∀ j, j < 3 → w.cell? ⟨b, o + i * 3 + j, none⟩ = some (cs j)) ∧ RepE w cs e) ∧ RepKs w A (i + 1) es
end

theorem repKs_iff (w : World) (A : Option Addr) (es : List RE) : ∀ i, RepKs w A i es ↔
    ∀ m (h : m < es.length), ∃ b o, A = some ⟨b, o, none⟩ ∧ ∃ cs : Nat → Value, (∀ j, j < 3 → w.cell? ⟨b, o + (i + m) * 3 + j, none⟩ = some (cs j)) ∧ RepE w cs es[m] := by
  induction es with
  | nil => intro i; simp [RepKs]
  | cons e es ih =>
    intro i
    rw [RepKs, ih]
    constructor
    · rintro ⟨h0, h1⟩ m hm
      cases m with
      | zero => simpa using h0
      | succ m =>
        have := h1 m (by simpa using hm)
        rw [show i + 1 + m = i + (m + 1) by omega] at this
        simpa using this
    · intro h
      refine ⟨h 0 (by simp), fun m hm => ?_⟩
      have := h (m + 1) (by simpa using hm)
      rw [show i + 1 + m = i + (m + 1) by omega]
      simpa using this

theorem repE_iff (w : World) (cs : Nat → Value) (op : Int) (name : ByteArray) (kids : List RE) :
    RepE w cs (.mk op name kids) ↔ cs 0 = .int .i64 op ∧ cs 1 = .string name ∧ name.size ≤ 9223372036854775807 ∧ SlR 3 RepE w (cs 2) kids := by
  rw [RepE]
  refine and_congr_right fun _ => and_congr_right fun _ => and_congr_right fun _ => ?_
  unfold SlR
  constructor
  · rintro ⟨A, c, h1, hm, h2⟩
    refine ⟨A, c, h1, hm, fun i hi => ?_⟩
    have := (repKs_iff w A kids 0).1 h2 i hi
    simpa using this
  · rintro ⟨A, c, h1, hm, h2⟩
    refine ⟨A, c, h1, hm, (repKs_iff w A kids 0).2 fun i hi => ?_⟩
    simpa using h2 i hi

theorem RepE.le {w w' : World} (hl : Le w w') : ∀ (e : RE) (cs : Nat → Value), RepE w cs e → RepE w' cs e := by
  refine RE.ind fun op name kids ih cs h => ?_
  rw [repE_iff] at h ⊢
  exact ⟨h.1, h.2.1, h.2.2.1, h.2.2.2.le (fun i hi cs' => ih _ (List.getElem_mem hi) cs') hl⟩
theorem RepEs.le {w w' : World} {v : Value} {es : List RE} (h : SlR 3 RepE w v es) (hl : Le w w') : SlR 3 RepE w' v es :=
  h.le (fun i hi cs' => RepE.le hl _ cs') hl

/-- An expression whose kids lie at A: what the three cells of it stand for. -/
def RepK (w : World) (A : Option Addr) (c : Nat) (e : RE) : Prop := e.name.size ≤ 9223372036854775807 ∧ SlR 3 RepE w (.slice A e.kids.length c) e.kids
theorem RepK.name_le {w : World} {A : Option Addr} {c : Nat} {e : RE} (h : RepK w A c e) : e.name.size ≤ 9223372036854775807 := h.1
theorem RepK.kids_le {w : World} {A : Option Addr} {c : Nat} {e : RE} (h : RepK w A c e) : e.kids.length ≤ 9223372036854775807 := h.2.slice.elim fun _ h => h.elim fun _ h => h.2
theorem RepK.le {w w' : World} {A : Option Addr} {c : Nat} {e : RE} (h : RepK w A c e) (hl : Le w w') : RepK w' A c e := ⟨h.1, RepEs.le h.2 hl⟩
/-- An expression's value. -/
def valE (e : RE) (A : Option Addr) (c : Nat) : Value := .agg #[.int .i64 e.op, .string e.name, .slice A e.kids.length c]
theorem repE_K {w : World} {cs : Nat → Value} {e : RE} : RepE w cs e ↔ ∃ A c, cs 0 = .int .i64 e.op ∧ cs 1 = .string e.name ∧ cs 2 = .slice A e.kids.length c ∧ RepK w A c e := by
  obtain ⟨op, name, kids⟩ := e
  rw [repE_iff]
  constructor
  · rintro ⟨h0, h1, hn, h2⟩
    obtain ⟨A, c, h3, _⟩ := h2.slice
    rw [h3] at h2
    exact ⟨A, c, h0, h1, h3, hn, h2⟩
  · rintro ⟨A, c, h0, h1, h2, h3, h4⟩
    exact ⟨h0, h1, h3, by rw [h2]; exact h4⟩
/-- One expression of a slice of them. -/
theorem RepEs.get {w : World} {A : Option Addr} {c n : Nat} {es : List RE} (h : SlR 3 RepE w (.slice A n c) es) {i : Nat} (hi : i < es.length) :
    ∃ b o A' c', A = some ⟨b, o, none⟩ ∧ b < w.heap.size ∧ w.cell? ⟨b, o + i * 3, none⟩ = some (.int .i64 es[i].op) ∧ w.cell? ⟨b, o + i * 3 + 1, none⟩ = some (.string es[i].name) ∧
      w.cell? ⟨b, o + i * 3 + 2, none⟩ = some (.slice A' es[i].kids.length c') ∧ RepK w A' c' es[i] := by
  obtain ⟨b, o, cs, h0, h1, h2, h3, h4⟩ := h.get3 hi
  obtain ⟨A', c', e0, e1, e2, hk⟩ := repE_K.1 h4
  exact ⟨b, o, A', c', h0, World.block_lt_of_cell? _ _ h1, by rw [h1, e0], by rw [h2, e1], by rw [h3, e2], hk⟩
/-- The three cells of an expression. -/
def cellsE (e : RE) (A : Option Addr) (c : Nat) : Nat → Value
  | 0 => .int .i64 e.op
  | 1 => .string e.name
  | _ => .slice A e.kids.length c
theorem RepK.toE {w : World} {A : Option Addr} {c : Nat} {e : RE} (h : RepK w A c e) {cs : Nat → Value} (hc : ∀ j, j < 3 → cs j = cellsE e A c j) : RepE w cs e :=
  repE_K.2 ⟨A, c, hc 0 (by omega), hc 1 (by omega), hc 2 (by omega), h⟩
/-- Only the three cells count. -/
theorem RepE.congr {w : World} {cs cs' : Nat → Value} {e : RE} (h : RepE w cs e) (hc : ∀ j, j < 3 → cs j = cs' j) : RepE w cs' e := by
  obtain ⟨A, c, h0, h1, h2, hk⟩ := repE_K.1 h
  exact repE_K.2 ⟨A, c, by rw [← hc 0 (by omega), h0], by rw [← hc 1 (by omega), h1], by rw [← hc 2 (by omega), h2], hk⟩
theorem RepE.congr' {w : World} {cs cs' : Nat → Value} {e : RE} (h : RepE w cs e) (hc : ∀ j, j < 3 → cs' j = cs j) : RepE w cs' e := h.congr fun j hj => (hc j hj).symm

open Classical in
/-- Two expressions are the same. -/
noncomputable def sameB (a b : RE) : Bool := decide (a = b)
theorem sameB_iff {a b : RE} : sameB a b = true ↔ a = b := by simp [sameB]
theorem sameB_false {a b : RE} : sameB a b = false ↔ a ≠ b := by rw [← Bool.not_eq_true, Ne, sameB_iff]
open Classical in
noncomputable def samesB (a b : List RE) : Bool := decide (a = b)
theorem samesB_iff {a b : List RE} : samesB a b = true ↔ a = b := by simp [samesB]
theorem samesB_false {a b : List RE} : samesB a b = false ↔ a ≠ b := by rw [← Bool.not_eq_true, Ne, samesB_iff]

/-! ### Sizes -/
mutual
def wE : RE → Nat
  | .mk _ name kids => name.size + (kids.length + wL kids)
def wL : List RE → Nat
  | [] => 0
  | e :: es => wE e + wL es
end
theorem wL_take_succ (es : List RE) (k : Nat) (h : k < es.length) : wL (es.take (k + 1)) = wL (es.take k) + wE es[k] := by
  induction es generalizing k with
  | nil => simp at h
  | cons e es ih =>
    cases k with
    | zero => simp [wL]
    | succ k =>
      have := ih k (by simpa using h)
      simp only [List.take_succ_cons, wL, List.getElem_cons_succ] at this ⊢
      omega
theorem wL_take_le (es : List RE) (k : Nat) : wL (es.take k) ≤ wL es := by
  induction es generalizing k with
  | nil => simp
  | cons e es ih =>
    cases k with
    | zero => simp [wL]
    | succ k => have := ih k; simp only [List.take_succ_cons, wL]; omega
theorem wE_mem {e : RE} {es : List RE} (h : e ∈ es) : wE e ≤ wL es := by
  induction es with
  | nil => cases h
  | cons a es ih =>
    simp only [wL]
    rcases List.mem_cons.1 h with rfl | h
    · omega
    · have := ih h; omega

end Go.Proofs.YtapelogbceoojaaDoor
