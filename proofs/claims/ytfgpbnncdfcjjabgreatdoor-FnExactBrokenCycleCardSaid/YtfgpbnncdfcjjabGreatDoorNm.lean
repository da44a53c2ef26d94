/-
  Slices of strings; the names of relations; the walks of slices.Index, slices.Contains at strings, isRelName, l6Names, l6Named.
-/
import Derived.Test.YtfgpbnncdfcjjabGreatDoorStr
import Derived.Test.YtfgpbnncdfcjjabGreatDoorLib

namespace Go.Proofs.YtfgpbnncdfcjjabGreatDoor
open Go.RowKit
set_option linter.unusedVariables false
set_option maxRecDepth 100000

set_option maxHeartbeats 400000 in
theorem index_any (ss : List ByteArray) (s : ByteArray) (w : World) (A : Option Addr) (c : Nat) (hr : Strs w A c ss) :
    Calls Tryz.prog 210 #[.slice A ss.length c, .string s] w (RetIdx w ss s) := by
  have hm := hr.len
  go_enter Tryz.func210, Tryz.ntmps210
  go_wp2_with fail
  go_loopg [8] ss.length (fun g s8 wr => ∃ k : Nat, k ≤ ss.length ∧ g = ss.length - k ∧ s8 = .int .i64 k ∧ Hid (∀ j (hj : j < k) (hj' : j < ss.length), ss[j] ≠ s) ∧ w = wr)
  case atStart => exact ⟨0, Nat.zero_le _, rfl, rfl, fun j hj => absurd hj (Nat.not_lt_zero _), rfl⟩
  case round =>
    obtain ⟨k, hk, rfl, rfl, hpre, rfl⟩ := hrel
    by_cases hlt : k < ss.length
    · obtain ⟨b, o, rfl, hbl, k0⟩ := hr.get hlt
      clear hr
      by_cases he : s = ss[k]
      · have heb := str_eq_true he
        have He := Lib.hid he
        clear he
        go_wp2_with fail
        go_ret
        exact ⟨k, rfl, .inr ⟨k, rfl, hlt, He.out.symm, fun j hj => hpre.out j hj (by omega)⟩, rfl⟩
      · have heb := str_eq_false he
        go_wp2_with fail
        go_roundg (ss.length - (k + 1))
        case measure => omega
        case rel =>
          refine ⟨k + 1, by omega, rfl, by go_num, fun j hj hj' => ?_, rfl⟩
          by_cases e : j = k
          · subst e
            exact fun h => he h.symm
          · exact hpre.out j (by omega) hj'
    · go_wp2_with fail
      go_ret
      refine ⟨_, rfl, .inl ⟨rfl, fun hm => ?_⟩, rfl⟩
      obtain ⟨i, hi, h⟩ := List.getElem_of_mem hm
      exact hpre.out i (by omega) hi h

set_option maxHeartbeats 400000 in
theorem contains_any (ss : List ByteArray) (s : ByteArray) (w : World) (A : Option Addr) (c : Nat) (hr : Strs w A c ss) :
    Calls Tryz.prog 194 #[.slice A ss.length c, .string s] w (RetQ w (memB ss s)) := by
  go_enter Tryz.func194, Tryz.ntmps194
  go_wp2_with fail
  refine (index_any ss s _ A c hr).mono ?_
  rintro e' w' ⟨r, rfl, hi, rfl⟩
  have hm := memB_idx hi
  have Hm := Lib.hid hm
  clear hm
  go_wp2_with fail
  go_ret
  exact ⟨ret_bool (by rw [Hm.out]), rfl⟩

/-- The names of relations. -/
def nm : List ByteArray := [⟨#[112, 111]⟩, ⟨#[108, 111, 99]⟩, ⟨#[101, 120, 116]⟩, ⟨#[114, 102]⟩, ⟨#[99, 111]⟩, ⟨#[102, 114]⟩, ⟨#[102, 101, 110, 99, 101]⟩, ⟨#[119, 114]⟩, ⟨#[119, 119]⟩, ⟨#[105, 100]⟩]
/-- The package's table of names is where it was laid. -/
def GN (w : World) : Prop := Strs w (some ⟨0, 0, none⟩) 10 nm
theorem GN.le {w w' : World} (h : GN w) (hl : Le w w') : GN w' := Strs.le h hl

set_option maxHeartbeats 400000 in
theorem isRelName_any (s : ByteArray) (w : World) (hg : GN w) : Calls Tryz.prog 164 #[.string s] w (RetQ w (memB nm s)) := by
  have hc : Calls Tryz.prog 194 #[.slice (some ⟨0, 0, none⟩) 10 10, .string s] w (RetQ w (memB nm s)) := contains_any nm s w _ 10 hg
  go_enter Tryz.func164, Tryz.ntmps164
  go_wp2_with fail
  refine hc.mono ?_
  rintro e' w' ⟨rfl, rfl⟩
  go_wp2_with fail
  go_ret
  exact ⟨rfl, rfl⟩

set_option maxHeartbeats 400000 in
theorem l6Names_any (w : World) : Calls Tryz.prog 138 #[] w (RetStrs w nm) := by
  go_enter Tryz.func138, Tryz.ntmps138
  go_wp2_with fail
  go_ret
  refine ⟨_, _, rfl, Strs.mk (by simp [nm]) fun i hi => cell_above_of (Nat.le_refl _) ?_, (Below.refl _ _).alloc (Nat.le_refl _) _⟩
  rw [Nat.zero_add]
  simp only [World.cell?_alloc_new]
  match i, hi with
  | 0, _ => rfl
  | 1, _ => rfl
  | 2, _ => rfl
  | 3, _ => rfl
  | 4, _ => rfl
  | 5, _ => rfl
  | 6, _ => rfl
  | 7, _ => rfl
  | 8, _ => rfl
  | 9, _ => rfl

set_option maxHeartbeats 400000 in
theorem l6Named_any (s : ByteArray) (w : World) : Calls Tryz.prog 187 #[.string s] w (RetB w (memB nm s)) := by
  go_enter Tryz.func187, Tryz.ntmps187
  go_wp2_with fail
  refine (l6Names_any _).mono ?_
  rintro e1 w1 ⟨A, c, rfl, hk, hb1⟩
  have hr := hk.le (Le.above _ _)
  clear hk
  have hm := hr.len
  go_wp2_with fail
  go_loopg [4] nm.length (fun g s4 wr => ∃ k : Nat, k ≤ nm.length ∧ g = nm.length - k ∧ s4 = .int .i64 k ∧ Hid (∀ j (hj : j < k) (hj' : j < nm.length), nm[j] ≠ s) ∧ Below w1.heap.size w1 wr)
  case atStart => exact ⟨0, Nat.zero_le _, rfl, rfl, fun j hj => absurd hj (Nat.not_lt_zero _), Below.refl _ _⟩
  case round =>
    obtain ⟨k, hk, rfl, rfl, hpre, hb⟩ := hrel
    have hbw := hb1.trans (hb.mono hb1.size)
    by_cases hlt : k < nm.length
    · obtain ⟨b, o, rfl, hbl, k0⟩ := (hr.le (Le.below hb)).get hlt
      clear hr
      by_cases he : nm[k] = s
      · have heb := str_eq_true he
        have He := Lib.hid he
        clear he
        go_wp2_with fail
        go_ret
        exact ⟨ret_bool (memB_iff.2 (He.out ▸ List.getElem_mem hlt)).symm, hbw⟩
      · have heb := str_eq_false he
        go_wp2_with fail
        go_roundg (nm.length - (k + 1))
        case measure => omega
        case rel =>
          refine ⟨k + 1, by omega, rfl, by go_num, fun j hj hj' => ?_, hb⟩
          by_cases e : j = k
          · subst e
            exact he
          · exact hpre.out j (by omega) hj'
    · go_wp2_with fail
      go_ret
      refine ⟨ret_bool ?_, hbw⟩
      rw [eq_comm, ← Bool.not_eq_true, memB_iff]
      intro hm
      obtain ⟨i, hi, h⟩ := List.getElem_of_mem hm
      exact hpre.out i (by omega) hi h

end Go.Proofs.YtfgpbnncdfcjjabGreatDoor
