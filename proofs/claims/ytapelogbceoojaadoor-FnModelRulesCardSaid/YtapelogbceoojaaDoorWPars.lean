/-
  The walks of the parser of expressions: take, name, atom, level, impl.ParseRelExpr.
-/
import Derived.Test.YtapelogbceoojaaDoorPars
import Derived.Test.YtapelogbceoojaaDoorMv
namespace Go.Proofs.YtapelogbceoojaaDoor
open Go.RowKit
set_option linter.unusedVariables false
set_option maxRecDepth 100000

theorem ext_drop (s : ByteArray) (i : Nat) : (s.extract i s.size).data.toList = s.data.toList.drop i := by
  rw [ByteArray.data_extract, Array.toList_extract]
  simp [List.take_of_length_le]
theorem ext_take (s : ByteArray) (i : Nat) : (s.extract 0 i).data.toList = s.data.toList.take i := by
  rw [ByteArray.data_extract, Array.toList_extract]
  simp [List.extract_eq_take_drop]
theorem head_drop (s : ByteArray) (h : 0 < s.size) : s.data.toList = s[0] :: (s.extract 1 s.size).data.toList := by
  rw [ext_drop]
  have hl : 0 < s.data.toList.length := by simpa using h
  have h1 := List.drop_eq_getElem_cons (l := s.data.toList) (i := 0) hl
  rw [List.drop_zero] at h1
  exact h1

/-- The parser: what is left, and whether it has failed. -/
abbrev Prs (w : World) (R : Nat) (s : ByteArray) (fl : Bool) : Prop := Own w R 82 #[.string s, .bool fl]

def RetTake (w : World) (R : Nat) (s : ByteArray) (fl : Bool) (c : UInt8) (e : Ending) (w' : World) : Prop :=
  (e = .returned (.bool true) ∧ fl = false ∧ ∃ s', s.data.toList = c :: s'.data.toList ∧ Prs w' R s' false ∧ Mv R w w') ∨ (e = .returned (.bool false) ∧ (fl = true ∨ s.data.toList.head? ≠ some c) ∧ Prs w' R s fl ∧ Mv R w w')

set_option maxHeartbeats 400000 in
theorem take_any (w : World) (R : Nat) (s : ByteArray) (fl : Bool) (c : UInt8) (hs : s.size ≤ 300) (h : Prs w R s fl) :
    Calls Tryd.prog 92 #[.pointer (some ⟨R, 0, none⟩), .int .u8 c.toNat] w (RetTake w R s fl c) := by
  have q0 := h.cell (i := 0) rfl
  have q1 := h.cell (i := 1) rfl
  have q2 := h.frozen 0
  go_enter Tryd.func92, Tryd.ntmps92
  cases fl
  case true =>
    go_wp2_with fail
    go_ret
    exact Or.inr ⟨rfl, Or.inl rfl, h, Mv.refl _ _⟩
  case false =>
    by_cases h0 : s.size = 0
    · have hs0 : s = ⟨#[]⟩ := by
        have : s = ByteArray.empty := by simpa using h0
        exact this
      subst hs0
      go_wp2_with fail
      go_ret
      exact Or.inr ⟨rfl, Or.inr (by simp), h, Mv.refl _ _⟩
    · have hne : s ≠ ⟨#[]⟩ := fun e => h0 (by rw [e]; rfl)
      have hnb := str_ne_nil hne
      have hi : (0 : Int) < (s.size : Int) := by omega
      have hi0 : 0 < s.size := by omega
      have ht := head_drop s hi0
      by_cases hc : s[0] = c
      · have hcb : ((s[0].toNat : Int) != (c.toNat : Int)) = false := by rw [hc]; simp
        have Hc := Lib.hid hc
        clear hc
        go_wp2_with fail
        go_ret
        exact Or.inl ⟨rfl, rfl, _, by rw [ht, Hc.out], h.set 0 _, (Mv.refl _ _).setR 0 _⟩
      · have hcb : ((s[0].toNat : Int) != (c.toNat : Int)) = true := by
          rw [bne_iff_ne]
          intro e
          exact hc (UInt8.toNat_inj.1 (by omega))
        have Hc := Lib.hid hc
        clear hc
        go_wp2_with fail
        go_ret
        exact Or.inr ⟨rfl, Or.inr fun e => Hc.out (by rw [ht] at e; simpa using e), h, Mv.refl _ _⟩

def RetName (w : World) (R : Nat) (s : ByteArray) (fl : Bool) (e : Ending) (w' : World) : Prop :=
  ∃ n s' : ByteArray, e = .returned (.string n) ∧ s.data.toList = n.data.toList ++ s'.data.toList ∧ (∀ c ∈ n.data.toList, isLet c) ∧ ¬ letHead s'.data.toList ∧ n.size + s'.size = s.size ∧ Prs w' R s' fl ∧ Mv R w w'

theorem get_data (s : ByteArray) (k : Nat) (h : k < s.size) : s.data.toList[k]'(by simpa using h) = s[k] := rfl
theorem let_iff (c : UInt8) : isLet c ↔ (97 : Int) ≤ (c.toNat : Int) ∧ (c.toNat : Int) ≤ 122 := by
  unfold isLet
  rw [UInt8.le_iff_toNat_le, UInt8.le_iff_toNat_le]
  have h1 : (97 : UInt8).toNat = 97 := rfl
  have h2 : (122 : UInt8).toNat = 122 := rfl
  omega

set_option maxHeartbeats 1000000 in
theorem name_any (w : World) (R : Nat) (s : ByteArray) (fl : Bool) (hs : s.size ≤ 300) (h : Prs w R s fl) :
    Calls Tryd.prog 103 #[.pointer (some ⟨R, 0, none⟩)] w (RetName w R s fl) := by
  have q0 := h.cell (i := 0) rfl
  have q2 := h.frozen 0
  go_enter Tryd.func103, Tryd.ntmps103
  go_wp2_with fail
  go_loopg [3] s.size (fun g s3 wr => ∃ k : Nat, k ≤ s.size ∧ g = s.size - k ∧ s3 = .int .i64 k ∧ Hid (∀ c ∈ s.data.toList.take k, isLet c) ∧ w = wr)
  case atStart => exact ⟨0, Nat.zero_le _, rfl, rfl, fun c hc => by simp at hc, rfl⟩
  case round =>
    obtain ⟨k, hk, rfl, rfl, hall, rfl⟩ := hrel
    have done : (k = s.size ∨ ∃ hk : k < s.size, ¬ isLet s[k]) → ¬ letHead (s.extract k s.size).data.toList := fun hd hl => by
      rw [ext_drop] at hl
      rcases hd with rfl | ⟨hk, hn⟩
      · rw [List.drop_of_length_le (by simp)] at hl
        exact hl
      · rw [List.drop_eq_getElem_cons (by simpa using hk)] at hl
        exact hn hl
    have fin : (k = s.size ∨ ∃ hk : k < s.size, ¬ isLet s[k]) → RetName w R s fl (.returned (.string (s.extract 0 k))) (w.setCell ⟨R, 0, none⟩ (.string (s.extract k s.size))) := fun hd =>
      ⟨_, _, rfl, by rw [ext_take, ext_drop, List.take_append_drop], by rw [ext_take]; exact hall.out, done hd, by simp; omega, h.set 0 _, (Mv.refl _ _).setR 0 _⟩
    have Fin := Lib.hid fin
    clear fin done
    by_cases hlt : k < s.size
    · by_cases h97 : (97 : Int) ≤ (s[k].toNat : Int)
      · by_cases h122 : (s[k].toNat : Int) ≤ 122
        · have d1 : decide ((s[k].toNat : Int) ≥ 97) = true := by simpa using h97
          have d2 : decide ((s[k].toNat : Int) ≤ 122) = true := by simpa using h122
          have hl := (let_iff s[k]).2 ⟨h97, h122⟩
          have Hl := Lib.hid hl
          clear hl h97 h122
          go_wp2_with fail
          go_roundg (s.size - (k + 1))
          case measure => omega
          case rel =>
            refine ⟨k + 1, by omega, rfl, by go_num, fun c hc => ?_, rfl⟩
            rw [List.take_succ_eq_append_getElem (by simpa using hlt), List.mem_append, List.mem_singleton] at hc
            rcases hc with hc | rfl
            · exact hall.out c hc
            · exact Hl.out
        · have d1 : decide ((s[k].toNat : Int) ≥ 97) = true := by simpa using h97
          have d2 : decide ((s[k].toNat : Int) ≤ 122) = false := by simpa using h122
          have hf := Fin.out (Or.inr ⟨hlt, fun h => h122 ((let_iff _).1 h).2⟩)
          have Hf := Lib.hid hf
          clear hf h97 h122
          go_wp2_with fail
          go_ret
          exact Hf.out
      · have d1 : decide ((s[k].toNat : Int) ≥ 97) = false := by simpa using h97
        have hf := Fin.out (Or.inr ⟨hlt, fun h => h97 ((let_iff _).1 h).1⟩)
        have Hf := Lib.hid hf
        clear hf h97
        go_wp2_with fail
        go_ret
        exact Hf.out
    · have hf := Fin.out (Or.inl (by omega))
      have Hf := Lib.hid hf
      clear hf
      go_wp2_with fail
      go_ret
      exact Hf.out
end Go.Proofs.YtapelogbceoojaaDoor
