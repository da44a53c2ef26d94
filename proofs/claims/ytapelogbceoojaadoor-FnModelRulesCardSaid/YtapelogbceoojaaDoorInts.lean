/-
  Slices of ints and slices of such slices, as they lie in memory.
-/
import Derived.Test.YtapelogbceoojaaDoorLib
namespace Go.Proofs.YtapelogbceoojaaDoor
open Go.RowKit
set_option linter.unusedVariables false
set_option maxRecDepth 100000

open Classical in
/-- Two things are the same. -/
noncomputable def eqB {α : Type} (a b : α) : Bool := decide (a = b)
theorem eqB_iff {α : Type} {a b : α} : eqB a b = true ↔ a = b := by simp [eqB]
theorem eqB_false {α : Type} {a b : α} : eqB a b = false ↔ a ≠ b := by rw [← Bool.not_eq_true, Ne, eqB_iff]
theorem eqB_self {α : Type} (a : α) : eqB a a = true := eqB_iff.2 rfl
theorem eqB_ne_length {α : Type} {a b : List α} (h : ¬ a.length = b.length) : eqB a b = false := eqB_false.2 fun e => h (by rw [e])

def RetB (w : World) (b : Bool) (e : Ending) (w' : World) : Prop := e = .returned (.bool b) ∧ Below w.heap.size w w'
def RetI (w : World) (n : Int) (e : Ending) (w' : World) : Prop := e = .returned (.int .i64 n) ∧ Below w.heap.size w w'

theorem take_eq_of' {α : Type} {xs ys : List α} {k : Nat} (hx : k < xs.length) (hy : k < ys.length) (h : xs.take k = ys.take k) (he : xs[k] = ys[k]) : xs.take (k + 1) = ys.take (k + 1) := by
  rw [List.take_succ_eq_append_getElem hx, List.take_succ_eq_append_getElem hy, h, he]
theorem eq_of_take {α : Type} {xs ys : List α} (hl : xs.length = ys.length) (h : xs.take xs.length = ys.take xs.length) : xs = ys := by
  rw [List.take_length, hl, List.take_length] at h
  exact h

/-- What is left of a budget behind a weight; -1 where it does not reach. -/
def restI (l : Int) (w : Nat) : Int := if (w : Int) ≤ l then l - w else -1
theorem restI_le {l : Int} {w : Nat} (h : (w : Int) ≤ l) : restI l w = l - w := if_pos h
theorem restI_gt {l : Int} {w : Nat} (h : l < (w : Int)) : restI l w = -1 := if_neg (by omega)

/-- The sum of the weights of a list's elements. -/
def wSum {α : Type} (f : α → Nat) : List α → Nat
  | [] => 0
  | x :: xs => f x + wSum f xs
theorem wSum_take_succ {α : Type} (f : α → Nat) (xs : List α) (k : Nat) (h : k < xs.length) : wSum f (xs.take (k + 1)) = wSum f (xs.take k) + f xs[k] := by
  induction xs generalizing k with
  | nil => simp at h
  | cons e es ih =>
    cases k with
    | zero => simp [wSum]
    | succ k =>
      have := ih k (by simpa using h)
      simp only [List.take_succ_cons, wSum, List.getElem_cons_succ] at this ⊢
      omega
theorem wSum_take_le {α : Type} (f : α → Nat) (xs : List α) (k : Nat) : wSum f (xs.take k) ≤ wSum f xs := by
  induction xs generalizing k with
  | nil => simp
  | cons e es ih =>
    cases k with
    | zero => simp [wSum]
    | succ k => have := ih k; simp only [List.take_succ_cons, wSum]; omega
theorem wSum_mem {α : Type} (f : α → Nat) {x : α} {xs : List α} (h : x ∈ xs) : f x ≤ wSum f xs := by
  induction xs with
  | nil => cases h
  | cons a es ih =>
    simp only [wSum]
    rcases List.mem_cons.1 h with rfl | h
    · omega
    · have := ih h; omega

def RInt (_ : World) (cs : Nat → Value) (n : Int) : Prop := cs 0 = .int .i64 n
/-- The ints xs lie at A. -/
def Ints (w : World) (A : Option Addr) (c : Nat) (xs : List Int) : Prop := SlR 1 RInt w (.slice A xs.length c) xs
theorem Ints.le {w w' : World} {A : Option Addr} {c : Nat} {xs : List Int} (h : Ints w A c xs) (hl : Le w w') : Ints w' A c xs := SlR.le (R := RInt) (w := w) (fun _ _ _ h => h) h hl
theorem Ints.len {w : World} {A : Option Addr} {c : Nat} {xs : List Int} (h : Ints w A c xs) : xs.length ≤ 9223372036854775807 := h.slice.elim fun _ h => h.elim fun _ h => h.2
theorem Ints.get {w : World} {A : Option Addr} {c : Nat} {xs : List Int} (h : Ints w A c xs) {i : Nat} (hi : i < xs.length) :
    ∃ b o, A = some ⟨b, o, none⟩ ∧ b < w.heap.size ∧ w.cell? ⟨b, o + i, none⟩ = some (.int .i64 xs[i]) := by
  obtain ⟨b, o, cs, h0, h1, h2⟩ := SlR.get1 h hi
  exact ⟨b, o, h0, World.block_lt_of_cell? _ _ h1, by rw [h1, show cs 0 = _ from h2]⟩
theorem Ints.mk {w : World} {b o c : Nat} {xs : List Int} (hl : xs.length ≤ 9223372036854775807) (h : ∀ i (h : i < xs.length), w.cell? ⟨b, o + i, none⟩ = some (.int .i64 xs[i])) : Ints w (some ⟨b, o, none⟩) c xs :=
  ⟨_, _, rfl, hl, fun i hi => ⟨b, o, rfl, fun _ => .int .i64 xs[i], fun j hj => by
    obtain rfl : j = 0 := by omega
    simpa using h i hi, rfl⟩⟩
theorem Ints.nil (w : World) (c : Nat) : Ints w none c [] := ⟨_, _, rfl, by simp, fun i hi => absurd hi (Nat.not_lt_zero _)⟩

def RInts (w : World) (cs : Nat → Value) (xs : List Int) : Prop := ∃ A c, cs 0 = .slice A xs.length c ∧ Ints w A c xs
/-- The slices of ints xss lie at A. -/
def Intss (w : World) (A : Option Addr) (c : Nat) (xss : List (List Int)) : Prop := SlR 1 RInts w (.slice A xss.length c) xss
theorem Intss.le {w w' : World} {A : Option Addr} {c : Nat} {xss : List (List Int)} (h : Intss w A c xss) (hl : Le w w') : Intss w' A c xss :=
  SlR.le (fun _ _ _ ⟨A, c, h1, h2⟩ => ⟨A, c, h1, h2.le hl⟩) h hl
theorem Intss.len {w : World} {A : Option Addr} {c : Nat} {xss : List (List Int)} (h : Intss w A c xss) : xss.length ≤ 9223372036854775807 := h.slice.elim fun _ h => h.elim fun _ h => h.2
theorem Intss.get {w : World} {A : Option Addr} {c : Nat} {xss : List (List Int)} (h : Intss w A c xss) {i : Nat} (hi : i < xss.length) :
    ∃ b o A' c', A = some ⟨b, o, none⟩ ∧ b < w.heap.size ∧ w.cell? ⟨b, o + i, none⟩ = some (.slice A' xss[i].length c') ∧ Ints w A' c' xss[i] := by
  obtain ⟨b, o, cs, h0, h1, A', c', h2, h3⟩ := SlR.get1 h hi
  exact ⟨b, o, A', c', h0, World.block_lt_of_cell? _ _ h1, by rw [h1, h2], h3⟩
theorem Intss.mk {w : World} {b o c : Nat} {xss : List (List Int)} (hl : xss.length ≤ 9223372036854775807) (h : ∀ i (h : i < xss.length), ∃ A' c', w.cell? ⟨b, o + i, none⟩ = some (.slice A' xss[i].length c') ∧ Ints w A' c' xss[i]) : Intss w (some ⟨b, o, none⟩) c xss :=
  ⟨_, _, rfl, hl, fun i hi => by
    obtain ⟨A', c', h1, h2⟩ := h i hi
    exact ⟨b, o, rfl, fun _ => .slice A' xss[i].length c', fun j hj => by
      obtain rfl : j = 0 := by omega
      simpa using h1, A', c', rfl, h2⟩⟩

def RetInts (w : World) (xs : List Int) (e : Ending) (w' : World) : Prop := ∃ A c, e = .returned (.slice A xs.length c) ∧ Ints (above w.heap.size w') A c xs ∧ Below w.heap.size w w'
def RetIntss (w : World) (xss : List (List Int)) (e : Ending) (w' : World) : Prop := ∃ A c, e = .returned (.slice A xss.length c) ∧ Intss (above w.heap.size w') A c xss ∧ Below w.heap.size w w'

end Go.Proofs.YtapelogbceoojaaDoor
