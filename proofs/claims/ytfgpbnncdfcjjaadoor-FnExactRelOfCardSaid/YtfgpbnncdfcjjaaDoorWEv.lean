/-
  Events: the walks of eqEvent, eqEventS at equal data, markEventS, heldEventS.
-/
import Derived.Test.YtfgpbnncdfcjjaaDoorWIns2
namespace Go.Proofs.YtfgpbnncdfcjjaaDoor
open Go.RowKit
set_option linter.unusedVariables false
set_option maxRecDepth 100000

/-- An event's five cells. -/
def QEv (cs : Nat → Value) (x : Ev) : Prop := cs 0 = .int .i64 x.thr ∧ cs 1 = .int .i64 x.idx ∧ cs 2 = .int .i64 x.loc ∧ cs 3 = .bool x.rd ∧ cs 4 = .bool x.wr
theorem qev_congr : ∀ (f g : Nat → Value) (x : Ev), (∀ j, j < 5 → f j = g j) → QEv f x → QEv g x := fun f g x h hq => ⟨(h 0 (by omega)).symm.trans hq.1, (h 1 (by omega)).symm.trans hq.2.1, (h 2 (by omega)).symm.trans hq.2.2.1, (h 3 (by omega)).symm.trans hq.2.2.2.1, (h 4 (by omega)).symm.trans hq.2.2.2.2⟩
abbrev PEv : OwP Ev := flat QEv
theorem pev_loc : OwLoc 5 PEv := flat_loc qev_congr
abbrev OwEv (w : World) (v : Value) (xs : List Ev) (F : List Nat) : Prop := OwRow 5 48 PEv w v xs F
theorem OwEv.evS {w : World} {v : Value} {xs : List Ev} {F : List Nat} {B : Nat} (h : OwEv w v xs F) (hB : ∀ b ∈ F, B ≤ b) : EvS (above B w) v xs := OwRow.slR h (fun cs x F' _ hx => hx.1) hB
theorem OwEv.evS0 {w : World} {v : Value} {xs : List Ev} {F : List Nat} (h : OwEv w v xs F) : EvS w v xs := EvS.le (h.evS (B := 0) (fun _ _ => Nat.zero_le _)) (Le.above _ _)

def valEv (x : Ev) : Value := .agg #[.int .i64 x.thr, .int .i64 x.idx, .int .i64 x.loc, .bool x.rd, .bool x.wr]

theorem cells5 {w : World} {b : Nat} {t : TypeId} {n : Nat} {F : Nat → Value} (h : w.rowIs b t n F) {k : Nat} (hk : k * 5 + 5 ≤ n) :
    (w.cell? ⟨b, k * 5, none⟩ = some (F (k * 5)) ∧ w.cell? ⟨b, k * 5 + 1, none⟩ = some (F (k * 5 + 1)) ∧ w.cell? ⟨b, k * 5 + 2, none⟩ = some (F (k * 5 + 2)) ∧ w.cell? ⟨b, k * 5 + 3, none⟩ = some (F (k * 5 + 3)) ∧ w.cell? ⟨b, k * 5 + 4, none⟩ = some (F (k * 5 + 4))) ∧
      w.frozen? ⟨b, k * 5, none⟩ = false ∧ w.frozen? ⟨b, k * 5 + 1, none⟩ = false ∧ w.frozen? ⟨b, k * 5 + 2, none⟩ = false ∧ w.frozen? ⟨b, k * 5 + 3, none⟩ = false ∧ w.frozen? ⟨b, k * 5 + 4, none⟩ = false :=
  ⟨⟨h.cell (by omega), h.cell (by omega), h.cell (by omega), h.cell (by omega), h.cell (by omega)⟩, h.frozen _, h.frozen _, h.frozen _, h.frozen _, h.frozen _⟩
def up5 (F : Nat → Value) (k : Nat) (v0 v1 v2 v3 v4 : Value) : Nat → Value := fun j => if j = k * 5 + 4 then v4 else if j = k * 5 + 3 then v3 else if j = k * 5 + 2 then v2 else if j = k * 5 + 1 then v1 else if j = k * 5 then v0 else F j
theorem up5_other (F : Nat → Value) {k i j : Nat} (v0 v1 v2 v3 v4 : Value) (h : i ≠ k) (hj : j < 5) : up5 F k v0 v1 v2 v3 v4 (i * 5 + j) = F (i * 5 + j) := by
  unfold up5
  rw [if_neg (by omega), if_neg (by omega), if_neg (by omega), if_neg (by omega), if_neg (by omega)]
theorem up5_self (F : Nat → Value) (k : Nat) (v0 v1 v2 v3 v4 : Value) : up5 F k v0 v1 v2 v3 v4 (k * 5 + 0) = v0 ∧ up5 F k v0 v1 v2 v3 v4 (k * 5 + 1) = v1 ∧ up5 F k v0 v1 v2 v3 v4 (k * 5 + 2) = v2 ∧ up5 F k v0 v1 v2 v3 v4 (k * 5 + 3) = v3 ∧ up5 F k v0 v1 v2 v3 v4 (k * 5 + 4) = v4 := by
  unfold up5
  refine ⟨?_, ?_, ?_, ?_, ?_⟩
  · rw [if_neg (by omega), if_neg (by omega), if_neg (by omega), if_neg (by omega), if_pos (by omega)]
  · rw [if_neg (by omega), if_neg (by omega), if_neg (by omega), if_pos rfl]
  · rw [if_neg (by omega), if_neg (by omega), if_pos rfl]
  · rw [if_neg (by omega), if_pos rfl]
  · rw [if_pos rfl]
theorem row_set5 {w : World} {b : Nat} {t : TypeId} {n : Nat} {F : Nat → Value} (h : w.rowIs b t n F) (k : Nat) (v0 v1 v2 v3 v4 : Value) :
    (((((w.setCell ⟨b, k * 5, none⟩ v0).setCell ⟨b, k * 5 + 1, none⟩ v1).setCell ⟨b, k * 5 + 2, none⟩ v2).setCell ⟨b, k * 5 + 3, none⟩ v3).setCell ⟨b, k * 5 + 4, none⟩ v4).rowIs b t n (up5 F k v0 v1 v2 v3 v4) :=
  ((((h.set (k * 5) v0).set (k * 5 + 1) v1).set (k * 5 + 2) v2).set (k * 5 + 3) v3).set (k * 5 + 4) v4

/-- 'k%3 == 0' as the walk writes it. -/
def third (k : Int) : Bool := k.tmod 3 == 0
def mkEv (k : Nat) (_ : Ev) : Ev := ⟨k, (k : Int) + 1, (k : Int) + 1 + 1, third ((k : Int) + 1 + 1 + 1), third ((k : Int) + 1 + 1 + 1 + 1)⟩
def RetMkEv (w : World) (v : Value) (xs : List Ev) (F : List Nat) (k : Nat) (e : Ending) (w' : World) : Prop :=
  e = .returned (.int .i64 ((k + 5 * xs.length : Nat) : Int)) ∧ OwEv w' v (mkG mkEv (fun _ => 5) k xs) F ∧ MvO F w w'

def RetHd (w : World) (n : Nat) (e : Ending) (w' : World) : Prop := e = .returned (.int .i64 (n : Int)) ∧ Below w.heap.size w w'
end Go.Proofs.YtfgpbnncdfcjjaaDoor
