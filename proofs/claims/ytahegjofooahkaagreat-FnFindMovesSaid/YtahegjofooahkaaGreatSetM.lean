/-
  A set of texts, kept in a map[string]bool of the call's own. No function in sight.
-/
import Derived.Test.YtahegjofooahkaaGreatRwS
import Derived.Test.YtahegjofooahkaaGreatPrg
import Derived.Maps.OwnSet
namespace Go.Proofs.YtahegjofooahkaaGreat
open Go.RowKit
set_option linter.unusedVariables false
set_option maxRecDepth 100000

noncomputable def inB (ks : List ByteArray) (k : ByteArray) : Bool := @decide (k ∈ ks) (Classical.propDecidable _)
theorem inB_true {ks : List ByteArray} {k : ByteArray} (h : k ∈ ks) : inB ks k = true := by
  unfold inB
  exact @decide_eq_true _ (Classical.propDecidable _) h
theorem inB_false {ks : List ByteArray} {k : ByteArray} (h : k ∉ ks) : inB ks k = false := by
  unfold inB
  exact @decide_eq_false _ (Classical.propDecidable _) h
theorem inB_iff {ks : List ByteArray} {k : ByteArray} : inB ks k = true ↔ k ∈ ks := by
  by_cases h : k ∈ ks
  · simp [inB_true h, h]
  · simp [inB_false h, h]
theorem inB_snoc {ks : List ByteArray} {k j : ByteArray} (h : j ≠ k) : inB (ks ++ [k]) j = inB ks j := by
  by_cases hj : j ∈ ks
  · rw [inB_true hj, inB_true (List.mem_append_left _ hj)]
  · rw [inB_false hj, inB_false (by simp [hj, h])]
theorem litS_inj {s t : ByteArray} (h : Lit.string s.data.toList = Lit.string t.data.toList) : s = t := by
  injection h with h
  cases s
  cases t
  simp only [Array.toList_inj] at h
  rw [h]
/-- The map in block b holds the texts ks, each true. -/
def SetM (w : World) (b n : Nat) (ks : List ByteArray) : Prop :=
  ∃ D : DataW Unit, w.ownsMap Tryz.prog 9 (plainElem Tryz.prog 4) b n D ∧ Maps.size D = ks.length
    ∧ (∀ k : ByteArray, Maps.has D (.string k.data.toList) = inB ks k) ∧ ∀ k : ByteArray, D.atKey (.string k.data.toList) (.lit (.bool false)) = .lit (.bool (inB ks k))
theorem SetM.made (w : World) : SetM (w.alloc (.map #[] 0)) w.heap.size 0 [] :=
  ⟨.map [], World.ownsMap_made _ _ _ _, rfl, fun k => by rw [inB_false (by simp)]; rfl, fun k => by rw [inB_false (by simp)]; rfl⟩
section
variable {w w' : World} {b n : Nat} {ks : List ByteArray} {k : ByteArray}
theorem SetM.lt (h : SetM w b n ks) : b < w.heap.size := by
  obtain ⟨D, h, _⟩ := h
  exact h.lt
theorem SetM.kept {row : Option Nat} (h : SetM w b n ks) (hg : w.grownBy w' row) (hne : some b ≠ row) : SetM w' b n ks := by
  obtain ⟨D, h, r⟩ := h
  exact ⟨D, h.kept hg hne, r⟩
theorem SetM.below (h : SetM w b n ks) (hb : Below w.heap.size w w') : SetM w' b n ks := h.kept (row := none) ⟨hb.os, hb.tape, hb.output, hb.size, fun i hi _ => hb.block i hi⟩ (by simp)
theorem SetM.alloc (h : SetM w b n ks) (o : Obj) : SetM (w.alloc o) b n ks := by
  obtain ⟨D, h, r⟩ := h
  exact ⟨D, h.alloc o, r⟩
theorem SetM.look (h : SetM w b n ks) (hk : k.size ≤ maxLen) : (Instr.lookup 111 (.map (some b)) (.string k) false).run Tryz.prog w = .ok (.bool (inB ks k)) w := by
  obtain ⟨D, h, _, _, ha⟩ := h
  obtain ⟨v, ps, hrun, hv⟩ := h.lookup (Go.Maps.string_keyed Tryz.underlying9) Tryz.underlying111 (z := .bool false) (by kernel_rfl) (plainElem_bool Tryz.underlying4 false) (Go.WideMaps.keyOf_string_mk Tryz.underlying9 hk)
  rw [ha k] at hv
  obtain ⟨e, rfl, he⟩ : ∃ x, v = .bool x ∧ x = inB ks k := by
    unfold plainElem at hv
    rw [Tryz.underlying4] at hv
    cases v <;> simp at hv
    exact ⟨_, rfl, hv.1⟩
  rw [hrun, he]
theorem SetM.len (h : SetM w b n ks) (ty : TypeId) : (Builtin.len_ #[111] ty #[.map (some b)]).run Tryz.prog w = .ok (.int .i64 (ks.length : Int)) w := by
  obtain ⟨D, h, hs, _⟩ := h
  rw [h.len Tryz.underlying111, hs]
theorem SetM.put (h : SetM w b n ks) (hn : n < maxLen) (hk : k.size ≤ maxLen) (hnew : k ∉ ks) :
    ∃ w', (Instr.mapUpdate 111 (.map (some b)) (.string k) (.bool true)).run Tryz.prog w = .ok () w' ∧ SetM w' b (n + 1) (ks ++ [k]) ∧ w.grownBy w' (some b) := by
  obtain ⟨D, h, hs, hh, ha⟩ := h
  obtain ⟨w', hrun, ho, hg⟩ := h.update (Go.Maps.string_keyed Tryz.underlying9) Tryz.underlying111 hn (val := .bool true) (Go.WideMaps.keyOf_string_mk Tryz.underlying9 hk) (plainElem_bool Tryz.underlying4 true)
  refine ⟨w', hrun, ⟨_, ho, ?_, fun j => ?_, fun j => ?_⟩, hg⟩
  · rw [Maps.size_put (h.tidy (Go.Maps.string_keyed Tryz.underlying9)), hh k, inB_false hnew, hs]
    simp
  · by_cases e : j = k
    · subst e
      rw [Maps.has_put_same h.isMap (by simp [WideAt.IsKeyLit]), inB_true (by simp)]
    · rw [Maps.has_put_other (fun e' => e (litS_inj e')), hh j, inB_snoc e]
  · by_cases e : j = k
    · subst e
      rw [Maps.atKey_put_same h.isMap (by simp [WideAt.IsKeyLit]), inB_true (by simp)]
    · rw [Maps.atKey_put_other (fun e' => e (litS_inj e')), ha j, inB_snoc e]
end

end Go.Proofs.YtahegjofooahkaaGreat
