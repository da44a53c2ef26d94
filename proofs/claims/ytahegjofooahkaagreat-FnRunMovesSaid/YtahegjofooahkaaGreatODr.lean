/-
  The draw of a schedule: l3Schedule. The draw of an outcome: l3Draw; the draws of the laws on schedules and outcomes.
-/
import Derived.Test.YtahegjofooahkaaGreatPlM
import Derived.Test.YtahegjofooahkaaGreatDpCP
import Derived.Test.YtahegjofooahkaaGreatSlA
import Derived.Test.YtahegjofooahkaaGreatSpM
import Derived.Test.YtahegjofooahkaaGreatApE
import Derived.Deep.Cut

/-! The draw of a schedule: l3Schedule. -/
namespace Go.Proofs.YtahegjofooahkaaGreat
open Go.RowKit
set_option linter.unusedVariables false
set_option maxRecDepth 100000

def natI (cs : List Nat) : List Int := cs.map fun n => ((n : Nat) : Int)
def sumN (cs : List Nat) : Nat := cs.foldr (· + ·) 0
theorem natI_getD (cs : List Nat) (i : Nat) : (natI cs).getD i 0 = ((cs.getD i 0 : Nat) : Int) := by
  unfold natI
  simp only [List.getD_eq_getElem?_getD, List.getElem?_map]
  cases cs[i]? <;> rfl
theorem natI_set (cs : List Nat) (i v : Nat) : natI (cs.set i v) = (natI cs).set i (v : Int) := by
  unfold natI
  rw [List.map_set]
theorem natI_len (cs : List Nat) : (natI cs).length = cs.length := by unfold natI; rw [List.length_map]
theorem sumN_take {p : Prg} {i : Nat} (h : i < p.length) : natI ((p.take (i + 1)).map List.length) = natI ((p.take i).map List.length) ++ [(p[i].length : Int)] := by
  unfold natI
  rw [List.take_succ_eq_append_getElem h, List.map_append, List.map_append]
  rfl
theorem sumN_map : ∀ p : Prg, sumN (p.map List.length) = wSum List.length p
  | [] => rfl
  | t :: p => by
    have := sumN_map p
    simp only [List.map_cons, sumN, List.foldr_cons, wSum] at this ⊢
    omega
theorem sum_zero : ∀ cs : List Nat, (∀ i, i < cs.length → cs.getD i 0 = 0) → sumN cs = 0
  | [], _ => rfl
  | c :: cs, h => by
    have h0 := h 0 (by simp)
    have ih := sum_zero cs fun i hi => by have := h (i + 1) (by simpa using hi); simpa using this
    simp only [List.getD_cons_zero] at h0
    simp only [sumN, List.foldr_cons] at ih ⊢
    omega
/-- Round about from t0 everything has been met. -/
theorem all_round {n t0 : Nat} (hn : 0 < n) (ht : t0 < n) (k : Nat) (hk : k < n) : ∃ i, i < n ∧ (t0 + i) % n = k := by
  rcases Nat.lt_or_ge k t0 with h | h
  · refine ⟨n + k - t0, by omega, ?_⟩
    rw [show t0 + (n + k - t0) = k + n by omega, Nat.add_mod_right, Nat.mod_eq_of_lt hk]
  · refine ⟨k - t0, by omega, ?_⟩
    rw [show t0 + (k - t0) = k by omega, Nat.mod_eq_of_lt hk]
theorem RowI.mvR {a b : World} {R base : Nat} {v : Value} {xs : List Int} (h : RowI a base v xs) (m : Mv R a b) (hR : R < base) : RowI b base v xs := h.of_block fun g hg _ hl => m.block hl (by omega)
theorem Rd.of_blocks {w w' : World} {R p : Nat} (h : Rd w R p) (hb : ∀ b, b ≤ R → w'.heap[b]? = w.heap[b]?) : Rd w' R p := by
  obtain ⟨A, n, c, h, hn, hc⟩ := h
  refine ⟨A, n, c, h.of_block (hb R (Nat.le_refl _)), hn, fun i hi => ?_⟩
  obtain ⟨b, o, v, h1, h2, h3, h4⟩ := hc i hi
  refine ⟨b, o, v, h1, h2, ?_, h4⟩
  rw [World.cell?_of_block (w := w) (hb b (by omega))]
  exact h3
def RetSh (w : World) (R q : Nat) (e : Ending) (w' : World) : Prop := ∃ (A : Option Addr) (c : Nat) (ms : List Int) (q' : Nat), e = .returned (.slice A ms.length c) ∧ Ints (above w.heap.size w') A c ms ∧ ms.length ≤ 30 ∧ Mv R w w' ∧ Rd w' R q' ∧ q' ≤ q + 1000

end Go.Proofs.YtahegjofooahkaaGreat

/-! The draw of an outcome: l3Draw; the draws of the laws on schedules and outcomes. -/
namespace Go.Proofs.YtahegjofooahkaaGreat
open Go.RowKit
set_option linter.unusedVariables false
set_option maxRecDepth 100000

theorem fldO (n : Int) (A : Option Addr) (k c : Nat) : ∀ w, (Instr.field 60 (.agg #[.int .i64 n, .slice A k c]) 1).run Tryz.prog w = .ok (.slice A k c) w := fun w => by kernel_rfl
theorem num5_any (X : World) (R q b : Nat) (a0 a1 a2 a3 a4 : Int) (hq : q ≤ 1000000000) (hr : Rd X R q) (ho : Own X b 3 #[.int .i64 a0, .int .i64 a1, .int .i64 a2, .int .i64 a3, .int .i64 a4]) (hb : R < b) :
    Calls Tryz.prog 51 #[.pointer (some ⟨R, 0, none⟩), .slice (some ⟨b, 0, none⟩) 5 5] X (RetNum X R q [a0, a1, a2, a3, a4]) :=
  num_any X R q _ 5 [a0, a1, a2, a3, a4] (by omega) hr (ints_lit [a0, a1, a2, a3, a4] ho hb rfl (by omega) (fun i hi => by
    match i, hi with
    | 0, _ => rfl
    | 1, _ => rfl
    | 2, _ => rfl
    | 3, _ => rfl
    | 4, _ => rfl)) (by simp)
/-- A program and something like an outcome. -/
def RetLD (w : World) (R q : Nat) (e : Ending) (w' : World) : Prop := ∃ (p : Prg) (v : Value) (A : Option Addr) (c : Nat) (o : List Int) (q' : Nat), e = .returned (.tuple #[v, .slice A o.length c]) ∧ PrgOk p ∧ PrgQ (above w.heap.size w') v p ∧ Few 4 8 p ∧ Ints (above w.heap.size w') A c o ∧ o.length ≤ 13 ∧ Mv R w w' ∧ Rd w' R q' ∧ q' ≤ q + 2000
theorem outS_len {p : Prg} (hp : PrgOk p) {s : St} (h : Reach (sucS p) (st0 p) s) : (outS s).length = p.length * 3 + 3 := by
  have hok := reach_ok hp h
  unfold outS
  rw [List.length_append, hok.regl, hok.meml]
/-- What lay below K is as it was, block R apart. -/
def Kp (R K : Nat) (a b : World) : Prop := K ≤ b.heap.size ∧ ∀ i, i < K → i ≠ R → b.heap[i]? = a.heap[i]?
section
variable {R K : Nat} {a b c : World}
theorem Kp.refl (h : K ≤ a.heap.size) : Kp R K a a := ⟨h, fun _ _ _ => rfl⟩
theorem Kp.mv (h : Kp R K a b) (m : Mv R b c) : Kp R K a c := ⟨Nat.le_trans h.1 m.size, fun i hi hn => (m.block (by have := h.1; omega) hn).trans (h.2 i hi hn)⟩
theorem Kp.below (h : Kp R K a b) (m : Below b.heap.size b c) : Kp R K a c := ⟨Nat.le_trans h.1 m.size, fun i hi hn => (m.block i (by have := h.1; omega)).trans (h.2 i hi hn)⟩
theorem Kp.set (h : Kp R K a b) {p : Addr} (hp : K ≤ p.block) (v : Value) : Kp R K a (b.setCell p v) := ⟨by simpa [World.setCell] using h.1, fun i hi hn => (Go.Deep.blk_setCell_other _ _ _ _ (by omega)).trans (h.2 i hi hn)⟩
theorem Kp.alloc (h : Kp R K a b) (o : Obj) : Kp R K a (b.alloc o) := h.below ((Below.refl _ _).alloc (Nat.le_refl _) o)
theorem Kp.grown {row : Option Nat} (h : Kp R K a b) (hg : b.grownBy c row) (hr : ∀ g, row = some g → K ≤ g) : Kp R K a c :=
  ⟨Nat.le_trans h.1 (World.grownBy.size hg), fun i hi hn => (World.grownBy.block hg i (by have := h.1; omega) (fun e => by have := hr i e.symm; omega)).trans (h.2 i hi hn)⟩
theorem Kp.le {B : Nat} (h : Kp R K a b) (hB : R < B) (hK : a.heap.size ≤ K) : Le (above B a) (above B b) := fun x u hc => by
  obtain ⟨h1, h2⟩ := cell_above_lt hc
  have hl := World.block_lt_of_cell? _ _ h2
  refine cell_above_of h1 ?_
  rw [World.cell?_of_block (w := a) (h.2 x.block (by omega) (by omega))]
  exact h2
end
theorem RowI.mvR2 {a b : World} {R base : Nat} {v : Value} {xs : List Int} (h : RowI a base v xs) (m : Mv R a b) (hR : R < base) : RowI b base v xs := h.of_block fun g hg _ hl => m.block hl (by omega)

theorem Mv.aboveB {R B : Nat} {a b : World} (m : Mv R a b) (hR : R < B) : Le (Go.Proofs.YtahegjofooahkaaGreat.above B a) (Go.Proofs.YtahegjofooahkaaGreat.above B b) := fun x u hc => by
  obtain ⟨h1, h2⟩ := cell_above_lt hc
  exact cell_above_of h1 (m.cell h2 (by omega))
/-- A program and a list of numbers. -/
def RetD2 (w : World) (e : Ending) (w' : World) : Prop := ∃ (p : Prg) (v : Value) (A : Option Addr) (c : Nat) (o : List Int), e = .returned (.tuple #[v, .slice A o.length c]) ∧ PrgS (above w.heap.size w') v p ∧ Few 2000 2000 p ∧ Ints (above w.heap.size w') A c o ∧ o.length ≤ 30 ∧ Below w.heap.size w w'

end Go.Proofs.YtahegjofooahkaaGreat
