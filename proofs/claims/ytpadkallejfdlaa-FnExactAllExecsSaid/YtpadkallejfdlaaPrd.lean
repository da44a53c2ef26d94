/-
  Products as impl.product builds them. No program in sight.
-/
import Derived.Test.YtpadkallejfdlaaCand3
import Derived.Test.YtpadkallejfdlaaGrw
namespace Go.Proofs.Ytpadkallejfdlaa
open Go.RowKit
set_option linter.unusedVariables false
set_option maxRecDepth 100000

/-- One list more. -/
def prS {α : Type} (acc : List (List α)) (c : List α) : List (List α) := acc.flatMap fun x => c.map fun y => x ++ [y]
theorem prS_len {α : Type} (acc : List (List α)) (c : List α) : (prS acc c).length = acc.length * c.length := by
  unfold prS
  rw [flatMap_len _ c.length fun x => by rw [List.length_map]]
theorem foldl_prS {α : Type} : ∀ (cs : List (List α)) (acc : List (List α)), cs.foldl prS acc = acc.flatMap fun x => (prodL cs).map (x ++ ·)
  | [], acc => by simp [prodL]
  | c :: cs, acc => by
    rw [List.foldl_cons, foldl_prS cs, prodL]
    unfold prS
    rw [List.flatMap_assoc]
    congr 1
    funext x
    rw [List.flatMap_map, List.map_flatMap]
    congr 1
    funext y
    simp
theorem prodL_foldl {α : Type} (cs : List (List α)) : cs.foldl prS [[]] = prodL cs := by rw [foldl_prS]; simp
theorem prodL_take {α : Type} (cs : List (List α)) (i : Nat) (h : i < cs.length) : prodL (cs.take (i + 1)) = prS (prodL (cs.take i)) cs[i] := by
  rw [← prodL_foldl, ← prodL_foldl, List.take_succ_eq_append_getElem h, List.foldl_append]
  rfl
theorem lenP_pos {α : Type} : ∀ {cs : List (List α)}, (∀ c ∈ cs, 0 < c.length) → 0 < lenP cs
  | [], _ => Nat.one_pos
  | c :: cs, h => by
    rw [lenP]
    exact Nat.mul_pos (h c (by simp)) (lenP_pos fun x hx => h x (List.mem_cons_of_mem _ hx))
theorem lenP_take {α : Type} : ∀ {cs : List (List α)} (i : Nat), (∀ c ∈ cs, 0 < c.length) → lenP (cs.take i) ≤ lenP cs
  | [], i, _ => by simp
  | c :: cs, 0, h => by rw [List.take_zero]; exact lenP_pos h
  | c :: cs, i + 1, h => by
    rw [List.take_succ_cons, lenP, lenP]
    exact Nat.mul_le_mul (Nat.le_refl _) (lenP_take i fun x hx => h x (List.mem_cons_of_mem _ hx))

theorem RowW.pushRow' {α : Type} {k : Nat} {e e' : TypeId} {Q : (Nat → Value) → α → Prop} {w wr w6 : World} {base gg cap H n : Nat} {v : Value} {xss : List (List α)} {cs : List Value} {Fs : Nat → List Nat} {A : Option Addr} {c : Nat} {t : List α} (hn : n = t.length)
    (h : RowW 1 e (Go.Proofs.Ytpadkallejfdlaa.rowP k e' Q) w base v xss cs Fs) (hb : ∀ b, base ≤ b → b < w.heap.size → wr.heap[b]? = w.heap[b]?) (hs : w.heap.size ≤ wr.heap.size) (hbw : base ≤ w.heap.size) (ht : RowOf k Q wr w.heap.size e' (.slice A n c) t)
    (hg : (wr.alloc (.cells #[.slice A n c] e)).grownBy w6 v.ownBlock) (hown : w6.ownsRow base e 1 (.slice (some ⟨gg, 0, none⟩) (xss.length + 1) cap) (xss.length + 1) (cs ++ [.slice A n c])) (hat : v.ownBlock = some gg ∨ gg = H) (hH : wr.heap.size + 1 = H) :
    ∃ Fs', RowW 1 e (Go.Proofs.Ytpadkallejfdlaa.rowP k e' Q) w6 base (.slice (some ⟨gg, 0, none⟩) (xss.length + 1) cap) (xss ++ [t]) (cs ++ [.slice A n c]) Fs' := by
  subst hn
  exact h.pushRow hb hs hbw ht hg hown hat hH

end Go.Proofs.Ytpadkallejfdlaa
