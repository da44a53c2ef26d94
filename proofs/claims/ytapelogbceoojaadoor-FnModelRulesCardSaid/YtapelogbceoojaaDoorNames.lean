/-
  Slices of strings; the names of relations; the walks of slices.Index, slices.Contains at strings, isRelName, l6Names, l6Named.
-/
import Derived.Test.YtapelogbceoojaaDoorInts
namespace Go.Proofs.YtapelogbceoojaaDoor
open Go.RowKit
set_option linter.unusedVariables false
set_option maxRecDepth 100000

def RStr (_ : World) (cs : Nat → Value) (s : ByteArray) : Prop := cs 0 = .string s
/-- The strings ss lie at A. -/
def Strs (w : World) (A : Option Addr) (c : Nat) (ss : List ByteArray) : Prop := SlR 1 RStr w (.slice A ss.length c) ss
theorem Strs.le {w w' : World} {A : Option Addr} {c : Nat} {ss : List ByteArray} (h : Strs w A c ss) (hl : Le w w') : Strs w' A c ss := SlR.le (R := RStr) (w := w) (fun _ _ _ h => h) h hl
theorem Strs.len {w : World} {A : Option Addr} {c : Nat} {ss : List ByteArray} (h : Strs w A c ss) : ss.length ≤ 9223372036854775807 := h.slice.elim fun _ h => h.elim fun _ h => h.2
theorem Strs.get {w : World} {A : Option Addr} {c : Nat} {ss : List ByteArray} (h : Strs w A c ss) {i : Nat} (hi : i < ss.length) :
    ∃ b o, A = some ⟨b, o, none⟩ ∧ b < w.heap.size ∧ w.cell? ⟨b, o + i, none⟩ = some (.string ss[i]) := by
  obtain ⟨b, o, cs, h0, h1, h2⟩ := SlR.get1 h hi
  exact ⟨b, o, h0, World.block_lt_of_cell? _ _ h1, by rw [h1, show cs 0 = _ from h2]⟩
theorem Strs.mk {w : World} {b o c : Nat} {ss : List ByteArray} (hl : ss.length ≤ 9223372036854775807) (h : ∀ i (h : i < ss.length), w.cell? ⟨b, o + i, none⟩ = some (.string ss[i])) : Strs w (some ⟨b, o, none⟩) c ss :=
  ⟨_, _, rfl, hl, fun i hi => ⟨b, o, rfl, fun _ => .string ss[i], fun j hj => by
    obtain rfl : j = 0 := by omega
    simpa using h i hi, rfl⟩⟩
def RetStrs (w : World) (ss : List ByteArray) (e : Ending) (w' : World) : Prop := ∃ A c, e = .returned (.slice A ss.length c) ∧ Strs (above w.heap.size w') A c ss ∧ Below w.heap.size w w'

theorem str_ne_nil {s : ByteArray} (h : s ≠ ⟨#[]⟩) : s.toList.isEmpty = false := by
  rw [List.isEmpty_eq_false_iff]
  intro h0
  have be := str_eq_false h
  rw [h0] at be
  simp at be

/-- It only looks. -/
def RetQ (w : World) (b : Bool) (e : Ending) (w' : World) : Prop := e = .returned (.bool b) ∧ w = w'
theorem RetQ.quiet {P : Program} {f : FuncId} {args : Array Value} {w : World} {n : Nat} {b : Bool} (h : Calls P f args (w.drewN n) (RetQ (w.drewN n) b)) : Calls P f args (w.drewN n) fun e w'' => e = .returned (.bool b) ∧ ∃ m, w'' = w.drewN m :=
  h.mono fun _ _ ⟨he, hm⟩ => ⟨he, n, hm.symm⟩

/-- Where a string stands in a list for the first time, or -1. -/
def IdxOk (ss : List ByteArray) (s : ByteArray) (r : Int) : Prop := (r = -1 ∧ s ∉ ss) ∨ ∃ i : Nat, r = i ∧ ∃ h : i < ss.length, ss[i] = s ∧ ∀ j (hj : j < i), ss[j] ≠ s
def RetIdx (w : World) (ss : List ByteArray) (s : ByteArray) (e : Ending) (w' : World) : Prop := ∃ r, e = .returned (.int .i64 r) ∧ IdxOk ss s r ∧ w = w'
open Classical in
noncomputable def memB (ss : List ByteArray) (s : ByteArray) : Bool := decide (s ∈ ss)
theorem memB_iff {ss : List ByteArray} {s : ByteArray} : memB ss s = true ↔ s ∈ ss := by simp [memB]
theorem memB_idx {ss : List ByteArray} {s : ByteArray} {r : Int} (h : IdxOk ss s r) : memB ss s = decide (0 ≤ r) := by
  rw [Bool.eq_iff_iff, memB_iff, decide_eq_true_iff]
  rcases h with ⟨rfl, h⟩ | ⟨i, rfl, h1, h2, _⟩
  · simp [h]
  · exact ⟨fun _ => Int.natCast_nonneg _, fun _ => h2 ▸ List.getElem_mem h1⟩

theorem str_eq_true {a b : ByteArray} (h : a = b) : (a.toList == b.toList) = true := by subst h; simp

set_option maxHeartbeats 400000 in
theorem index_any (ss : List ByteArray) (s : ByteArray) (w : World) (A : Option Addr) (c : Nat) (hr : Strs w A c ss) :
    Calls Tryd.prog 75 #[.slice A ss.length c, .string s] w (RetIdx w ss s) := by
  have hm := hr.len
  go_enter Tryd.func75, Tryd.ntmps75
  go_wp2_with fail
  go_loopg [8] ss.length (fun g s8 wr => ∃ k : Nat, k ≤ ss.length ∧ g = ss.length - k ∧ s8 = .int .i64 k ∧ Hid (∀ j (hj : j < k) (hj' : j < ss.length), ss[j] ≠ s) ∧ w = wr)
  case atStart => exact ⟨0, Nat.zero_le _, rfl, rfl, fun j hj => absurd hj (Nat.not_lt_zero _), rfl⟩
  case round =>
    obtain ⟨k, hk, rfl, rfl, hpre, rfl⟩ := hrel
    by_cases hlt : k < ss.length
    · obtain ⟨b, o, rfl, hbl, k0⟩ := hr.get hlt
      clear hr
      by_cases he : s = ss[k]
      · have heb := str_eq_true he
        have He := Lib.hid he
        clear he
        go_wp2_with fail
        go_ret
        exact ⟨k, rfl, .inr ⟨k, rfl, hlt, He.out.symm, fun j hj => hpre.out j hj (by omega)⟩, rfl⟩
      · have heb := str_eq_false he
        go_wp2_with fail
        go_roundg (ss.length - (k + 1))
        case measure => omega
        case rel =>
          refine ⟨k + 1, by omega, rfl, by go_num, fun j hj hj' => ?_, rfl⟩
          by_cases e : j = k
          · subst e
            exact fun h => he h.symm
          · exact hpre.out j (by omega) hj'
    · go_wp2_with fail
      go_ret
      refine ⟨_, rfl, .inl ⟨rfl, fun hm => ?_⟩, rfl⟩
      obtain ⟨i, hi, h⟩ := List.getElem_of_mem hm
      exact hpre.out i (by omega) hi h

set_option maxHeartbeats 400000 in
theorem contains_any (ss : List ByteArray) (s : ByteArray) (w : World) (A : Option Addr) (c : Nat) (hr : Strs w A c ss) :
    Calls Tryd.prog 101 #[.slice A ss.length c, .string s] w (RetQ w (memB ss s)) := by
  go_enter Tryd.func101, Tryd.ntmps101
  go_wp2_with fail
  refine (index_any ss s _ A c hr).mono ?_
  rintro e' w' ⟨r, rfl, hi, rfl⟩
  have hm := memB_idx hi
  have Hm := Lib.hid hm
  clear hm
  go_wp2_with fail
  go_ret
  exact ⟨ret_bool (by rw [Hm.out]), rfl⟩

/-- The names of relations. -/
def nm : List ByteArray := [⟨#[112, 111]⟩, ⟨#[108, 111, 99]⟩, ⟨#[101, 120, 116]⟩, ⟨#[114, 102]⟩, ⟨#[99, 111]⟩, ⟨#[102, 114]⟩, ⟨#[102, 101, 110, 99, 101]⟩, ⟨#[119, 114]⟩, ⟨#[119, 119]⟩, ⟨#[105, 100]⟩]
/-- The package's table of names is where it was laid. -/
def GN (w : World) : Prop := Strs w (some ⟨1, 0, none⟩) 10 nm
theorem GN.le {w w' : World} (h : GN w) (hl : Le w w') : GN w' := Strs.le h hl

set_option maxHeartbeats 400000 in
theorem isRelName_any (s : ByteArray) (w : World) (hg : GN w) : Calls Tryd.prog 81 #[.string s] w (RetQ w (memB nm s)) := by
  have hc : Calls Tryd.prog 101 #[.slice (some ⟨1, 0, none⟩) 10 10, .string s] w (RetQ w (memB nm s)) := contains_any nm s w _ 10 hg
  go_enter Tryd.func81, Tryd.ntmps81
  go_wp2_with fail
  refine hc.mono ?_
  rintro e' w' ⟨rfl, rfl⟩
  go_wp2_with fail
  go_ret
  exact ⟨rfl, rfl⟩

set_option maxHeartbeats 400000 in
theorem l6Names_any (w : World) : Calls Tryd.prog 100 #[] w (RetStrs w nm) := by
  go_enter Tryd.func100, Tryd.ntmps100
  go_wp2_with fail
  go_ret
  refine ⟨_, _, rfl, Strs.mk (by simp [nm]) fun i hi => cell_above_of (Nat.le_refl _) ?_, (Below.refl _ _).alloc (Nat.le_refl _) _⟩
  rw [Nat.zero_add]
  simp only [World.cell?_alloc_new]
  match i, hi with
  | 0, _ => rfl
  | 1, _ => rfl
  | 2, _ => rfl
  | 3, _ => rfl
  | 4, _ => rfl
  | 5, _ => rfl
  | 6, _ => rfl
  | 7, _ => rfl
  | 8, _ => rfl
  | 9, _ => rfl

set_option maxHeartbeats 400000 in
theorem l6Named_any (s : ByteArray) (w : World) : Calls Tryd.prog 79 #[.string s] w (RetB w (memB nm s)) := by
  go_enter Tryd.func79, Tryd.ntmps79
  go_wp2_with fail
  refine (l6Names_any _).mono ?_
  rintro e1 w1 ⟨A, c, rfl, hk, hb1⟩
  have hr := hk.le (Le.above _ _)
  clear hk
  have hm := hr.len
  go_wp2_with fail
  go_loopg [4] nm.length (fun g s4 wr => ∃ k : Nat, k ≤ nm.length ∧ g = nm.length - k ∧ s4 = .int .i64 k ∧ Hid (∀ j (hj : j < k) (hj' : j < nm.length), nm[j] ≠ s) ∧ Below w1.heap.size w1 wr)
  case atStart => exact ⟨0, Nat.zero_le _, rfl, rfl, fun j hj => absurd hj (Nat.not_lt_zero _), Below.refl _ _⟩
  case round =>
    obtain ⟨k, hk, rfl, rfl, hpre, hb⟩ := hrel
    have hbw := hb1.trans (hb.mono hb1.size)
    by_cases hlt : k < nm.length
    · obtain ⟨b, o, rfl, hbl, k0⟩ := (hr.le (Le.below hb)).get hlt
      clear hr
      by_cases he : nm[k] = s
      · have heb := str_eq_true he
        have He := Lib.hid he
        clear he
        go_wp2_with fail
        go_ret
        exact ⟨ret_bool (memB_iff.2 (He.out ▸ List.getElem_mem hlt)).symm, hbw⟩
      · have heb := str_eq_false he
        go_wp2_with fail
        go_roundg (nm.length - (k + 1))
        case measure => omega
        case rel =>
          refine ⟨k + 1, by omega, rfl, by go_num, fun j hj hj' => ?_, hb⟩
          by_cases e : j = k
          · subst e
            exact he
          · exact hpre.out j (by omega) hj'
    · go_wp2_with fail
      go_ret
      refine ⟨ret_bool ?_, hbw⟩
      rw [eq_comm, ← Bool.not_eq_true, memB_iff]
      intro hm
      obtain ⟨i, hi, h⟩ := List.getElem_of_mem hm
      exact hpre.out i (by omega) hi h

end Go.Proofs.YtapelogbceoojaaDoor
