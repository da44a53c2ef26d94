/-
  The texts of candidates, plainly: fmtB is fmtX; so texts are unique, and no valid candidate's text is empty.
-/
import Derived.Test.YtfgpbnncdfcjjaaGreatDoorFmtE
namespace Go.Proofs.YtfgpbnncdfcjjaaGreatDoor
open Go.RowKit
set_option linter.unusedVariables false
set_option maxRecDepth 100000

theorem decS_decL : ∀ i : Nat, i < 100 → (decS (i : Int)).data.toList = decL i := by decide +kernel
theorem decS_int {n : Int} (h0 : 0 ≤ n) (h1 : n ≤ 99) : (decS n).data.toList = decL n.toNat := by
  obtain ⟨k, rfl⟩ : ∃ k : Nat, n = k := ⟨n.toNat, by omega⟩
  exact decS_decL k (by omega)
theorem joinL_cons2 (a b : List UInt8) (r : List (List UInt8)) (sep : List UInt8) : Lib.join (a :: b :: r) sep = a ++ (sep ++ Lib.join (b :: r) sep) := by
  rw [Lib.join_cons, Lib.join_cons]
  simp [Lib.joinTail]
theorem ordT_join : ∀ xs : List Int, (∀ a ∈ xs, 0 ≤ a ∧ a ≤ 99) → Lib.join ((xs.map decS).map (·.data.toList)) [44] = ordT xs
  | [], _ => rfl
  | [a], h => by
    have ha := h a (by simp)
    simp only [List.map_cons, List.map_nil, Lib.join_one, ordT]
    exact decS_int ha.1 ha.2
  | a :: b :: xs, h => by
    have ha := h a (by simp)
    have ih := ordT_join (b :: xs) fun y hy => h y (List.mem_cons_of_mem _ hy)
    simp only [List.map_cons] at ih ⊢
    rw [joinL_cons2, ih, decS_int ha.1 ha.2]
    rfl
theorem ordsT_join : ∀ os : List (List Int), (∀ xs ∈ os, ∀ a ∈ xs, 0 ≤ a ∧ a ≤ 99) → Lib.join ((os.map listT).map (·.data.toList)) [47] = ordsT os
  | [], _ => rfl
  | [a], h => by
    simp only [List.map_cons, List.map_nil, Lib.join_one, ordsT]
    exact ordT_join a (h a (by simp))
  | a :: b :: xs, h => by
    have ih := ordsT_join (b :: xs) fun y hy => h y (List.mem_cons_of_mem _ hy)
    simp only [List.map_cons] at ih ⊢
    rw [joinL_cons2, ih, show (listT a).data.toList = ordT a from ordT_join a (h a (by simp))]
    rfl
theorem fromT_snoc : ∀ (fs : List Int) (i : Nat) (f : Int), fromT i (fs ++ [f]) = fromT i fs ++ (if 0 ≤ f then decL (i + fs.length) ++ 60 :: (decL f.toNat ++ [32]) else [])
  | [], i, f => by simp [fromT]
  | a :: fs, i, f => by
    have ih := fromT_snoc fs (i + 1) f
    rw [List.cons_append, fromT, ih, fromT, List.length_cons, List.append_assoc, show i + 1 + fs.length = i + (fs.length + 1) by omega]
theorem frK_fromT (fs : List Int) (hl : fs.length ≤ 16) (hb : ∀ a ∈ fs, -1 ≤ a ∧ a ≤ 99) : ∀ k, k ≤ fs.length → (frK fs k).data.toList = fromT 0 (fs.take k)
  | 0, _ => by rw [List.take_zero]; rfl
  | k + 1, hk => by
    have ih := frK_fromT fs hl hb k (by omega)
    have hk' : k < fs.length := by omega
    have h1 := hb fs[k] (List.getElem_mem hk')
    rw [List.take_succ_eq_append_getElem hk', fromT_snoc, List.length_take, Nat.min_eq_left (by omega), Nat.zero_add, ← ih]
    by_cases h0 : 0 ≤ fs[k]
    · rw [← frK_step hk' h0, if_pos h0]
      simp only [ByteArray.data_append, Array.toList_append, decS_int h0 h1.2, decS_decL k (by omega)]
      simp
    · rw [← frK_skip hk' h0, if_neg h0, List.append_nil]
theorem fmtB_fmtX {x : Ex} (h : Sml x) : (fmtB x).data.toList = fmtX x := by
  unfold fmtB fmtX
  rw [ByteArray.data_append, Array.toList_append, frK_fromT _ h.fl h.fb _ (Nat.le_refl _), List.take_length]
  congr 1
  exact ordsT_join x.order fun xs hxs => (h.oo xs hxs).2
/-- Texts are unique. -/
theorem fmtB_inj {p : Prg} {x y : Ex} (hx : CandOk p x) (hy : CandOk p y) (h : fmtB x = fmtB y) : x = y :=
  fmtX_inj hx hy (by rw [← fmtB_fmtX hx.sml, ← fmtB_fmtX hy.sml, h])
theorem fmtB_ne {p : Prg} {x : Ex} (hx : CandOk p x) : fmtB x ≠ ⟨#[]⟩ := fun e => by
  have h := fmtB_fmtX hx.sml
  rw [e] at h
  unfold fmtX at h
  rw [threeX hx.2.2.1] at h
  have h2 := congrArg List.length h
  simp [ordsT] at h2

end Go.Proofs.YtfgpbnncdfcjjaaGreatDoor
