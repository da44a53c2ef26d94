/-
  The text of a candidate, plainly: two candidates of one program with one text are one. No program in sight.
-/
import Derived.Test.YtfgpbnncdfcjjaaGreatDoorCands
namespace Go.Proofs.YtfgpbnncdfcjjaaGreatDoor
open Go.RowKit
set_option linter.unusedVariables false
set_option maxRecDepth 100000

def dg (n : Nat) : UInt8 := UInt8.ofNat (48 + n)
def decL (n : Nat) : List UInt8 := if n ≤ 9 then [dg n] else [dg (n / 10), dg (n % 10)]
def NonDig (r : List UInt8) : Prop := ∀ c ∈ r.head?, ∀ n, n ≤ 9 → c ≠ dg n
theorem dg_inj {a b : Nat} (ha : a ≤ 9) (hb : b ≤ 9) (h : dg a = dg b) : a = b := by
  unfold dg at h
  have := congrArg UInt8.toNat h
  simp only [UInt8.toNat_ofNat'] at this
  omega
theorem nonDig_cons {c : UInt8} {r : List UInt8} (h : c = 60 ∨ c = 32 ∨ c = 44 ∨ c = 47) : NonDig (c :: r) := by
  intro d hd n hn e
  simp only [List.head?_cons, Option.mem_some_iff] at hd
  subst hd
  have h2 := congrArg UInt8.toNat e
  unfold dg at h2
  simp only [UInt8.toNat_ofNat'] at h2
  rcases h with rfl | rfl | rfl | rfl <;> simp at h2 <;> omega
theorem nonDig_nil : NonDig [] := fun c h => by cases h
theorem dec_inj {a b : Nat} {r r' : List UInt8} (ha : a < 100) (hb : b < 100) (hr : NonDig r) (hr' : NonDig r') (h : decL a ++ r = decL b ++ r') : a = b ∧ r = r' := by
  unfold decL at h
  by_cases h1 : a ≤ 9 <;> by_cases h2 : b ≤ 9
  · rw [if_pos h1, if_pos h2] at h
    simp only [List.cons_append, List.nil_append, List.cons.injEq] at h
    exact ⟨dg_inj h1 h2 h.1, h.2⟩
  · rw [if_pos h1, if_neg h2] at h
    simp only [List.cons_append, List.nil_append, List.cons.injEq] at h
    exact absurd rfl (hr (dg (b % 10)) (by rw [h.2]; simp) (b % 10) (by omega))
  · rw [if_neg h1, if_pos h2] at h
    simp only [List.cons_append, List.nil_append, List.cons.injEq] at h
    exact absurd rfl (hr' (dg (a % 10)) (by rw [← h.2]; simp) (a % 10) (by omega))
  · rw [if_neg h1, if_neg h2] at h
    simp only [List.cons_append, List.nil_append, List.cons.injEq] at h
    have e1 := dg_inj (by omega) (by omega) h.1
    have e2 := dg_inj (by omega) (by omega) h.2.1
    exact ⟨by omega, h.2.2⟩

def fromT : Nat → List Int → List UInt8
  | _, [] => []
  | i, f :: fs => (if 0 ≤ f then decL i ++ 60 :: (decL f.toNat ++ [32]) else []) ++ fromT (i + 1) fs
def ordT : List Int → List UInt8
  | [] => []
  | [a] => decL a.toNat
  | a :: b :: os => decL a.toNat ++ 44 :: ordT (b :: os)
def ordsT : List (List Int) → List UInt8
  | [] => []
  | [o] => ordT o
  | o :: q :: os => ordT o ++ 47 :: ordsT (q :: os)
def fmtX (x : Ex) : List UInt8 := fromT 0 x.from_ ++ ordsT x.order
theorem from_inj : ∀ {f g : List Int} {i : Nat} {r r' : List UInt8}, f.length = g.length → (∀ k, 0 ≤ f.getD k 0 ↔ 0 ≤ g.getD k 0) → (∀ a ∈ f, -1 ≤ a ∧ a < 100) → (∀ a ∈ g, -1 ≤ a ∧ a < 100) → fromT i f ++ r = fromT i g ++ r' → f = g ∧ r = r'
  | [], [], i, r, r', _, _, _, _, h => ⟨rfl, by simpa [fromT] using h⟩
  | [], _ :: _, _, _, _, h, _, _, _, _ => by simp at h
  | _ :: _, [], _, _, _, h, _, _, _, _ => by simp at h
  | a :: f, b :: g, i, r, r', hl, hs, hf, hg, h => by
    have h0 := hs 0
    simp only [List.getD_cons_zero] at h0
    have ha := hf a (by simp)
    have hb := hg b (by simp)
    have ih := fun {i : Nat} {r r' : List UInt8} => from_inj (f := f) (g := g) (i := i) (r := r) (r' := r') (by simpa using hl) (fun k => by have := hs (k + 1); simpa using this) (fun a h => hf a (by simp [h])) (fun a h => hg a (by simp [h]))
    simp only [fromT] at h
    by_cases hp : 0 ≤ a
    · have hq := h0.1 hp
      rw [if_pos hp, if_pos hq] at h
      simp only [List.append_assoc, List.cons_append, List.nil_append] at h
      have h1 := List.append_cancel_left h
      simp only [List.cons.injEq, true_and] at h1
      obtain ⟨e1, e2⟩ := dec_inj (by omega) (by omega) (nonDig_cons (.inr (.inl rfl))) (nonDig_cons (.inr (.inl rfl))) h1
      simp only [List.cons.injEq, true_and] at e2
      obtain ⟨e3, e4⟩ := ih e2
      exact ⟨by rw [e3, show a = b by omega], e4⟩
    · have hq : ¬ 0 ≤ b := fun hq => hp (h0.2 hq)
      rw [if_neg hp, if_neg hq] at h
      simp only [List.nil_append] at h
      obtain ⟨e3, e4⟩ := ih h
      exact ⟨by rw [e3, show a = b by omega], e4⟩
theorem ord_inj : ∀ {f g : List Int} {r r' : List UInt8}, f.length = g.length → (∀ a ∈ f, 0 ≤ a ∧ a < 100) → (∀ a ∈ g, 0 ≤ a ∧ a < 100) → NonDig r → NonDig r' → ordT f ++ r = ordT g ++ r' → f = g ∧ r = r'
  | [], [], r, r', _, _, _, _, _, h => ⟨rfl, by simpa [ordT] using h⟩
  | [], _ :: _, _, _, h, _, _, _, _, _ => by simp at h
  | _ :: _, [], _, _, h, _, _, _, _, _ => by simp at h
  | [a], [b], r, r', hl, hf, hg, hr, hr', h => by
    have ha := hf a (by simp)
    have hb := hg b (by simp)
    simp only [ordT] at h
    obtain ⟨e1, e2⟩ := dec_inj (by omega) (by omega) hr hr' h
    exact ⟨by rw [show a = b by omega], e2⟩
  | [_], _ :: _ :: _, _, _, h, _, _, _, _, _ => by simp at h
  | _ :: _ :: _, [_], _, _, h, _, _, _, _, _ => by simp at h
  | a :: a' :: f, b :: b' :: g, r, r', hl, hf, hg, hr, hr', h => by
    have ha := hf a (by simp)
    have hb := hg b (by simp)
    simp only [ordT, List.append_assoc, List.cons_append] at h
    obtain ⟨e1, e2⟩ := dec_inj (by omega) (by omega) (nonDig_cons (.inr (.inr (.inl rfl)))) (nonDig_cons (.inr (.inr (.inl rfl)))) h
    simp only [List.cons.injEq, true_and] at e2
    obtain ⟨e3, e4⟩ := ord_inj (f := a' :: f) (g := b' :: g) (by simpa using hl) (fun a h => hf a (List.mem_cons_of_mem _ h)) (fun a h => hg a (List.mem_cons_of_mem _ h)) hr hr' e2
    exact ⟨by rw [e3, show a = b by omega], e4⟩
theorem cand_from_bd {p : Prg} {x : Ex} (h : CandOk p x) : ∀ a ∈ x.from_, -1 ≤ a ∧ a < 100 := by
  intro a ha
  obtain ⟨k, hk, rfl⟩ := List.getElem_of_mem ha
  have hk' : k < (evs p).length := by rw [← h.2.1.1]; exact hk
  have h1 := h.2.1.2 k hk'
  have h15 := (few3 h.1).len
  rw [show x.from_.getD k 0 = x.from_[k] by simp [hk]] at h1
  by_cases hr : (evs p)[k].rd = true
  · rw [if_pos hr] at h1
    obtain ⟨j, hj, e, _⟩ := mem_wrs.1 h1.1
    omega
  · rw [if_neg hr] at h1
    omega
theorem cand_from_sign {p : Prg} {x : Ex} (h : CandOk p x) (k : Nat) : 0 ≤ x.from_.getD k 0 ↔ (k < (evs p).length → ∃ hk : k < (evs p).length, (evs p)[k].rd = true) := by
  by_cases hk : k < (evs p).length
  · have h1 := h.2.1.2 k hk
    by_cases hr : (evs p)[k].rd = true
    · rw [if_pos hr] at h1
      obtain ⟨j, hj, e, _⟩ := mem_wrs.1 h1.1
      exact ⟨fun _ _ => ⟨hk, hr⟩, fun _ => by omega⟩
    · rw [if_neg hr] at h1
      exact ⟨fun h2 => by omega, fun h2 => absurd (h2 hk).2 hr⟩
  · have : x.from_.getD k 0 = 0 := by rw [List.getD_eq_getElem?_getD, List.getElem?_eq_none (by rw [h.2.1.1]; omega)]; rfl
    rw [this]
    exact ⟨fun _ h2 => absurd h2 hk, fun _ => Int.le_refl _⟩
theorem cand_ord_bd {p : Prg} {x : Ex} (h : CandOk p x) (l : Nat) (hl : l < 3) : (x.order.getD l []).length = (wrs (evs p) l).length ∧ ∀ a ∈ x.order.getD l [], 0 ≤ a ∧ a < 100 := by
  have h1 := (h.2.2.2 l hl).1
  have h15 := (few3 h.1).len
  refine ⟨h1.length_eq, fun a ha => ?_⟩
  obtain ⟨j, hj, e, _⟩ := mem_wrs.1 (h1.mem_iff.1 ha)
  omega
theorem threeX {x : Ex} (h : x.order.length = 3) : x.order = [x.order.getD 0 [], x.order.getD 1 [], x.order.getD 2 []] := by
  match hx : x.order, h with
  | [a, b, c], _ => rfl
/-- Texts are unique. -/
theorem fmtX_inj {p : Prg} {x y : Ex} (hx : CandOk p x) (hy : CandOk p y) (h : fmtX x = fmtX y) : x = y := by
  unfold fmtX at h
  obtain ⟨e1, e2⟩ := from_inj (by rw [hx.2.1.1, hy.2.1.1]) (fun k => (cand_from_sign hx k).trans (cand_from_sign hy k).symm) (cand_from_bd hx) (cand_from_bd hy) h
  rw [threeX hx.2.2.1, threeX hy.2.2.1] at e2
  simp only [ordsT] at e2
  have bx := fun l hl => cand_ord_bd hx l hl
  have by_ := fun l hl => cand_ord_bd hy l hl
  have n47 : ∀ r, NonDig (47 :: r) := fun r => nonDig_cons (.inr (.inr (.inr rfl)))
  obtain ⟨f0, g0⟩ := ord_inj (by rw [(bx 0 (by omega)).1, (by_ 0 (by omega)).1]) (bx 0 (by omega)).2 (by_ 0 (by omega)).2 (n47 _) (n47 _) e2
  simp only [List.cons.injEq, true_and] at g0
  obtain ⟨f1, g1⟩ := ord_inj (by rw [(bx 1 (by omega)).1, (by_ 1 (by omega)).1]) (bx 1 (by omega)).2 (by_ 1 (by omega)).2 (n47 _) (n47 _) g0
  simp only [List.cons.injEq, true_and] at g1
  obtain ⟨f2, _⟩ := ord_inj (r := []) (r' := []) (by rw [(bx 2 (by omega)).1, (by_ 2 (by omega)).1]) (bx 2 (by omega)).2 (by_ 2 (by omega)).2 nonDig_nil nonDig_nil (by simpa using g1)
  have ho : x.order = y.order := by rw [threeX hx.2.2.1, threeX hy.2.2.1, f0, f1, f2]
  cases x
  cases y
  simp only at e1 ho
  rw [e1, ho]

end Go.Proofs.YtfgpbnncdfcjjaaGreatDoor
