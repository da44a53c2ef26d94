/-
  A program's row of threads as a row of values; the first thread of a copied row is set. The draw of a program for the laws on one memory.
-/
import Derived.Test.YtcckflijaolnkaaStP
import Derived.Test.YtcckflijaolnkaaApE
import Derived.Test.YtcckflijaolnkaaDpBP
namespace Go.Proofs.Ytcckflijaolnkaa
open Go.RowKit
set_option linter.unusedVariables false
set_option maxRecDepth 100000

def QVal (cs : Nat → Value) (v : Value) : Prop := cs 0 = v ∧ v.oneCell' = true
def RVal (_ : World) (cs : Nat → Value) (v : Value) : Prop := QVal cs v
theorem qval_congr : ∀ (f g : Nat → Value) (x : Value), (∀ j, j < 1 → f j = g j) → QVal f x → QVal g x := fun f g x h hq => ⟨(h 0 (by omega)).symm.trans hq.1, hq.2⟩
theorem qval_one : ∀ (cs : Nat → Value) (y : Value), QVal cs y → ∀ j, j < 1 → (cs j).oneCell' = true := fun cs y h j hj => by
  obtain rfl : j = 0 := by omega
  rw [h.1]; exact h.2
/-- A thread's value. -/
def ThrV (w : World) (v : Value) (t : List Ins) : Prop := ∃ A c, v = .slice A t.length c ∧ InsS w (.slice A t.length c) t
theorem ThrV.le {w w' : World} {v : Value} {t : List Ins} (h : ThrV w v t) (hl : Le w w') : ThrV w' v t := by
  obtain ⟨A, c, h1, h2⟩ := h
  exact ⟨A, c, h1, InsS.le h2 hl⟩
theorem PrgS.vals {w : World} {A : Option Addr} {n c : Nat} {p : Prg} (h : PrgS w (.slice A n c) p) : ∃ vs : List Value, vs.length = p.length ∧ SlR 1 RVal w (.slice A vs.length c) vs ∧ ∀ i (hi : i < p.length), ThrV w (vs.getD i undef) p[i] := by
  obtain ⟨f, hf⟩ : ∃ f : Nat → Value, ∀ i (hi : i < p.length), ∃ b o, A = some ⟨b, o, none⟩ ∧ w.cell? ⟨b, o + i, none⟩ = some (f i) ∧ ThrV w (f i) p[i] := by
    refine ⟨fun i => match A with
      | some ⟨b, o, none⟩ => (w.cell? ⟨b, o + i, none⟩).getD undef
      | _ => undef, fun i hi => ?_⟩
    obtain ⟨b, o, A', c', rfl, hb, k0, hm, hx⟩ := SlR.getSub h hi
    refine ⟨b, o, rfl, ?_, A', c', ?_, hx⟩
    · show _ = some ((w.cell? ⟨b, o + i, none⟩).getD undef)
      rw [k0]; rfl
    · show (w.cell? ⟨b, o + i, none⟩).getD undef = _
      rw [k0]; rfl
  have hg : ∀ i (hi : i < p.length), ((List.range p.length).map f).getD i undef = f i := fun i hi => by
    rw [List.getD_eq_getElem?_getD, List.getElem?_map, List.getElem?_range hi]; rfl
  obtain ⟨_, _, _, hm⟩ := h.slice
  refine ⟨(List.range p.length).map f, by simp, ⟨A, c, rfl, by simpa using hm, fun i hi => ?_⟩, fun i hi => ?_⟩
  · have hi' : i < p.length := by simpa using hi
    obtain ⟨b, o, h1, h2, A', c', h3, h4⟩ := hf i hi'
    refine ⟨b, o, h1, fun _ => f i, fun j hj => ?_, ?_, ?_⟩
    · obtain rfl : j = 0 := by omega
      rw [Nat.mul_one, Nat.add_zero]
      exact h2
    · simp
    · simp only [List.getElem_map, List.getElem_range]
      rw [h3]; rfl
  · rw [hg i hi]
    obtain ⟨b, o, h1, h2, h3⟩ := hf i hi
    exact h3
/-- The first thread is another one. -/
theorem prg_set {w : World} {g n c base : Nat} {vs : List Value} {p : Prg} {e : TypeId} {tv : Value} {t : List Ins} (hrow : RowOf 1 QVal w base e (.slice (some ⟨g, 0, none⟩) n c) vs) (hl : vs.length = p.length) (h0 : 0 < p.length)
    (ht : ThrV (w.setCell ⟨g, 0, none⟩ tv) tv t) (hi : ∀ i (h : i < p.length), ThrV (w.setCell ⟨g, 0, none⟩ tv) (vs.getD i undef) p[i]) :
    n = p.length ∧ PrgS (w.setCell ⟨g, 0, none⟩ tv) (.slice (some ⟨g, 0, none⟩) p.length c) (t :: p.drop 1) := by
  have hs := RowOf.slR (by omega) (R := RVal) (a := w) hrow (fun cs x h => h) (Le.above _ _)
  obtain ⟨A', c', e', hm, hg⟩ := hs
  injection e' with e1 e2 e3
  subst e1 e3
  have hlen : (t :: p.drop 1).length = p.length := by simp; omega
  refine ⟨by omega, some ⟨g, 0, none⟩, c, by rw [hlen], by rw [hlen]; omega, fun i hi' => ⟨g, 0, rfl, fun _ => if i = 0 then tv else vs.getD i undef, fun j hj => ?_, ?_⟩⟩
  · obtain rfl : j = 0 := by omega
    rw [hlen] at hi'
    obtain ⟨b, o, e4, cs, h2, h3⟩ := hg i (by omega)
    injection e4 with e4
    injection e4 with e4 e5
    subst e4 e5
    have h4 := h2 0 (by omega)
    rw [h3.1] at h4
    have h5 : vs.getD i undef = vs[i] := by rw [List.getD_eq_getElem?_getD, List.getElem?_eq_getElem]; rfl
    rw [Nat.mul_one, Nat.add_zero, Nat.zero_add] at h4 ⊢
    by_cases hz : i = 0
    · subst hz
      rw [if_pos rfl]
      exact World.cell?_setCell_same' w _ _ (by rw [h4]; rfl)
    · rw [if_neg hz, h5, World.cell?_setCell_other w _ _ _ (fun h => hz (by injection h with _ h; omega))]
      exact h4
  · rw [hlen] at hi'
    by_cases hz : i = 0
    · subst hz
      rw [if_pos rfl]
      exact ht
    · rw [if_neg hz]
      have h6 : (t :: p.drop 1)[i] = p[i] := by
        obtain ⟨k, rfl⟩ : ∃ k, i = k + 1 := ⟨i - 1, by omega⟩
        simp
      rw [h6]
      exact hi i hi'
theorem fen_cons {p : Prg} (h : 0 < p.length) : (p[0] ++ [fenI]) :: p.drop 1 = fenP p := by
  match p, h with
  | t :: p, _ => rfl
theorem row_at {α : Type} {k : Nat} {Q : (Nat → Value) → α → Prop} {w : World} {base n c : Nat} {e : TypeId} {A : Option Addr} {xs : List α} (h : RowOf k Q w base e (.slice A n c) xs) (h0 : 0 < xs.length) (hk : 0 < k) : ∃ g, A = some ⟨g, 0, none⟩ ∧ base ≤ g ∧ g < w.heap.size ∧ w.frozen? ⟨g, 0, none⟩ = false ∧ (∃ u, w.cell? ⟨g, 0, none⟩ = some u) ∧ n = xs.length := by
  obtain ⟨A', c', e', _, hs⟩ := RowOf.slR (by omega) (R := fun _ => Q) (a := w) h (fun cs x h => h) (Le.above _ _)
  injection e' with e1 e2 e3
  subst e1 e2 e3
  obtain ⟨cs, ⟨h1, h3⟩, h2⟩ := h
  obtain ⟨b, o, e4, cs', h4, _⟩ := hs 0 h0
  rcases h3 with ⟨hv, _⟩ | ⟨g, cap, cur, hv, hb, hg, _⟩
  · injection hv with e1 e2 e3
    rw [e4] at e1
    cases e1
  · injection hv with e1 e2 e3
    subst e1
    injection e4 with e4
    injection e4 with e4 e5
    subst e4 e5
    have ho : Own w g e cur := hg
    have h5 := h4 0 hk
    rw [Nat.zero_mul] at h5
    exact ⟨g, rfl, hb, ho.lt, ho.frozen 0, ⟨_, h5⟩, rfl⟩
theorem fen_sl (w : World) (t : TypeId) : InsS (w.alloc (.cells #[.int .i64 4, .int .i64 0, .int .i64 0, .int .i64 0] t)) (.slice (some ⟨w.heap.size, 0, none⟩) 1 1) [fenI] := by
  have h := Own.all4 (Own.new w t #[.int .i64 4, .int .i64 0, .int .i64 0, .int .i64 0])
  refine ⟨_, _, rfl, by simp, fun i hi => ⟨w.heap.size, 0, rfl, fun j => if j = 0 then .int .i64 4 else .int .i64 0, fun j hj => ?_, ?_⟩⟩
  · obtain rfl : i = 0 := by simp at hi; omega
    match j, hj with
    | 0, _ => exact h.1
    | 1, _ => exact h.2.1
    | 2, _ => exact h.2.2.1
    | 3, _ => exact h.2.2.2
  · obtain rfl : i = 0 := by simp at hi; omega
    exact ⟨rfl, rfl, rfl, rfl⟩

end Go.Proofs.Ytcckflijaolnkaa
