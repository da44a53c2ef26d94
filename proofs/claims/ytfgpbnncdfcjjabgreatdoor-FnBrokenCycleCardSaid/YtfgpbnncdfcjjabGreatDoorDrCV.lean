/-
  The walk of DrawExecValid: some program, some candidate.
-/
import Derived.Test.YtfgpbnncdfcjjabGreatDoorImCV
import Derived.Test.YtfgpbnncdfcjjabGreatDoorDr6
namespace Go.Proofs.YtfgpbnncdfcjjabGreatDoor
open Go.RowKit
set_option linter.unusedVariables false
set_option maxRecDepth 100000

theorem wSum_le_mulD {α : Type} (f : α → Nat) (n : Nat) : ∀ xs : List α, (∀ x ∈ xs, f x ≤ n) → wSum f xs ≤ xs.length * n
  | [], _ => by simp [wSum]
  | x :: xs, h => by
    have h1 := h x (by simp)
    have h2 := wSum_le_mulD f n xs fun y hy => h y (List.mem_cons_of_mem _ hy)
    rw [wSum, List.length_cons, Nat.add_mul, Nat.one_mul]
    omega
def RetDCV (w : World) (e : Ending) (w' : World) : Prop := ∃ (pr : Prg) (x : Ex) (v : Value) (A : Option Addr) (c : Nat) (B : Option Addr) (d : Nat), e = .returned (.tuple #[v, .agg #[.slice A x.from_.length c, .slice B x.order.length d]]) ∧ PrgQ (above w.heap.size w') v pr ∧ RepX (above w.heap.size w') A c B d x ∧ Few 2000 2000 pr ∧ wX x ≤ 1048576 ∧ Below w.heap.size w w'
theorem szX_wX {n k : Nat} {x : Ex} (h : SzX n k x) (hn : n ≤ 100) : wX x ≤ 1048576 := by
  obtain ⟨_, h2, _, h4, h5⟩ := h
  have h6 : wSum List.length x.order ≤ x.order.length * 100 := wSum_le_mulD _ _ _ fun q hq => by have := h5 q hq; omega
  unfold wX
  omega
theorem cand_sz {p : Prg} {x : Ex} (h : CandOk p x) : SzX 15 2 x := by
  obtain ⟨hp, hf, ho⟩ := h
  have h3 := few3 hp
  have h1 := hf.1
  have h2 := h3.len
  have h4 := evs_length p
  have h5 := ho.1
  refine ⟨by omega, by omega, by omega, by omega, fun q hq => ?_⟩
  obtain ⟨l, hl, rfl⟩ := List.getElem_of_mem hq
  have h6 := (ho.2 l (by omega)).1.length_eq
  rw [show x.order.getD l [] = x.order[l] by simp [hl]] at h6
  have := h3.pm l (by omega)
  omega

end Go.Proofs.YtfgpbnncdfcjjabGreatDoor
