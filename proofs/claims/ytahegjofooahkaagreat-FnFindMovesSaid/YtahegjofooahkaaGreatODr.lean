/-
  The draw of a schedule: l3Schedule. The draw of an outcome: l3Draw; the draws of the laws on schedules and outcomes.
-/
import Derived.Test.YtahegjofooahkaaGreatPlM
import Derived.Test.YtahegjofooahkaaGreatDpCP
import Derived.Test.YtahegjofooahkaaGreatSlA
import Derived.Test.YtahegjofooahkaaGreatSpM
import Derived.Test.YtahegjofooahkaaGreatApE
import Derived.Deep.Cut

/-! The draw of a schedule: l3Schedule. -/
namespace Go.Proofs.YtahegjofooahkaaGreat
open Go.RowKit
set_option linter.unusedVariables false
set_option maxRecDepth 100000

def natI (cs : List Nat) : List Int := cs.map fun n => ((n : Nat) : Int)
def sumN (cs : List Nat) : Nat := cs.foldr (· + ·) 0
theorem RowI.mvR {a b : World} {R base : Nat} {v : Value} {xs : List Int} (h : RowI a base v xs) (m : Mv R a b) (hR : R < base) : RowI b base v xs := h.of_block fun g hg _ hl => m.block hl (by omega)
def RetSh (w : World) (R q : Nat) (e : Ending) (w' : World) : Prop := ∃ (A : Option Addr) (c : Nat) (ms : List Int) (q' : Nat), e = .returned (.slice A ms.length c) ∧ Ints (above w.heap.size w') A c ms ∧ ms.length ≤ 30 ∧ Mv R w w' ∧ Rd w' R q' ∧ q' ≤ q + 1000

end Go.Proofs.YtahegjofooahkaaGreat

/-! The draw of an outcome: l3Draw; the draws of the laws on schedules and outcomes. -/
namespace Go.Proofs.YtahegjofooahkaaGreat
open Go.RowKit
set_option linter.unusedVariables false
set_option maxRecDepth 100000

theorem fldO (n : Int) (A : Option Addr) (k c : Nat) : ∀ w, (Instr.field 60 (.agg #[.int .i64 n, .slice A k c]) 1).run Tryz.prog w = .ok (.slice A k c) w := fun w => by kernel_rfl
/-- A program and something like an outcome. -/
def RetLD (w : World) (R q : Nat) (e : Ending) (w' : World) : Prop := ∃ (p : Prg) (v : Value) (A : Option Addr) (c : Nat) (o : List Int) (q' : Nat), e = .returned (.tuple #[v, .slice A o.length c]) ∧ PrgOk p ∧ PrgQ (above w.heap.size w') v p ∧ Few 4 8 p ∧ Ints (above w.heap.size w') A c o ∧ o.length ≤ 13 ∧ Mv R w w' ∧ Rd w' R q' ∧ q' ≤ q + 2000
/-- What lay below K is as it was, block R apart. -/
def Kp (R K : Nat) (a b : World) : Prop := K ≤ b.heap.size ∧ ∀ i, i < K → i ≠ R → b.heap[i]? = a.heap[i]?
section
variable {R K : Nat} {a b c : World}
theorem Kp.refl (h : K ≤ a.heap.size) : Kp R K a a := ⟨h, fun _ _ _ => rfl⟩
theorem Kp.mv (h : Kp R K a b) (m : Mv R b c) : Kp R K a c := ⟨Nat.le_trans h.1 m.size, fun i hi hn => (m.block (by have := h.1; omega) hn).trans (h.2 i hi hn)⟩
theorem Kp.below (h : Kp R K a b) (m : Below b.heap.size b c) : Kp R K a c := ⟨Nat.le_trans h.1 m.size, fun i hi hn => (m.block i (by have := h.1; omega)).trans (h.2 i hi hn)⟩
theorem Kp.set (h : Kp R K a b) {p : Addr} (hp : K ≤ p.block) (v : Value) : Kp R K a (b.setCell p v) := ⟨by simpa [World.setCell] using h.1, fun i hi hn => (Go.Deep.blk_setCell_other _ _ _ _ (by omega)).trans (h.2 i hi hn)⟩
theorem Kp.alloc (h : Kp R K a b) (o : Obj) : Kp R K a (b.alloc o) := h.below ((Below.refl _ _).alloc (Nat.le_refl _) o)
theorem Kp.le {B : Nat} (h : Kp R K a b) (hB : R < B) (hK : a.heap.size ≤ K) : Le (above B a) (above B b) := fun x u hc => by
  obtain ⟨h1, h2⟩ := cell_above_lt hc
  have hl := World.block_lt_of_cell? _ _ h2
  refine cell_above_of h1 ?_
  rw [World.cell?_of_block (w := a) (h.2 x.block (by omega) (by omega))]
  exact h2
end
theorem RowI.mvR2 {a b : World} {R base : Nat} {v : Value} {xs : List Int} (h : RowI a base v xs) (m : Mv R a b) (hR : R < base) : RowI b base v xs := h.of_block fun g hg _ hl => m.block hl (by omega)

theorem Mv.aboveB {R B : Nat} {a b : World} (m : Mv R a b) (hR : R < B) : Le (Go.Proofs.YtahegjofooahkaaGreat.above B a) (Go.Proofs.YtahegjofooahkaaGreat.above B b) := fun x u hc => by
  obtain ⟨h1, h2⟩ := cell_above_lt hc
  exact cell_above_of h1 (m.cell h2 (by omega))
/-- A program and a list of numbers. -/
def RetD2 (w : World) (e : Ending) (w' : World) : Prop := ∃ (p : Prg) (v : Value) (A : Option Addr) (c : Nat) (o : List Int), e = .returned (.tuple #[v, .slice A o.length c]) ∧ PrgS (above w.heap.size w') v p ∧ Few 2000 2000 p ∧ Ints (above w.heap.size w') A c o ∧ o.length ≤ 30 ∧ Below w.heap.size w w'

end Go.Proofs.YtahegjofooahkaaGreat
