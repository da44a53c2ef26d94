/-
  The walks of szInstrS, szInstrSS, toInstr, toInstrS, toInstrSS, eqInstr, eqInstrS, eqInstrSS, markInstrS, markInstrSS. The walks of eqInstr, eqInstrS, eqInstrSS at equal data, markInstrS, markInstrSS; eqEvent, eqEventS, markEventS, heldEventS. Events: the walks of eqEvent, eqEventS at equal data, markEventS, heldEventS.
-/
import Derived.Test.YtcckflijaolnkaaGreatPrg
import Derived.Test.YtcckflijaolnkaaGreatOwA
import Derived.StillTailTactics

/-! The walks of szInstrS, szInstrSS, toInstr, toInstrS, toInstrSS, eqInstr, eqInstrS, eqInstrSS, markInstrS, markInstrSS. -/
namespace Go.Proofs.YtcckflijaolnkaaGreat
open Go.RowKit
set_option linter.unusedVariables false
set_option maxRecDepth 100000

theorem Tryz.infoIns : (Tryz.prog.info? 78).map (fun i => (i.zero, i.size, i.bytes)) = some (some (.agg #[.int .i64 0, .int .i64 0, .int .i64 0, .int .i64 0]), 4, 32) := by kernel_rfl
theorem Tryz.infoInsS : (Tryz.prog.info? 72).map (fun i => (i.zero, i.size, i.bytes)) = some (some (.slice none 0 0), 1, 24) := by kernel_rfl

def valIns (x : Ins) : Value := .agg #[.int .i64 x.op, .int .i64 x.loc, .int .i64 x.reg, .int .i64 x.val]
/-- An instruction's four cells. -/
def QIns (cs : Nat → Value) (x : Ins) : Prop := cs 0 = .int .i64 x.op ∧ cs 1 = .int .i64 x.loc ∧ cs 2 = .int .i64 x.reg ∧ cs 3 = .int .i64 x.val
theorem qins_congr : ∀ (f g : Nat → Value) (x : Ins), (∀ j, j < 4 → f j = g j) → QIns f x → QIns g x := fun f g x h hq => ⟨(h 0 (by omega)).symm.trans hq.1, (h 1 (by omega)).symm.trans hq.2.1, (h 2 (by omega)).symm.trans hq.2.2.1, (h 3 (by omega)).symm.trans hq.2.2.2⟩
abbrev PIns : OwP Ins := flat QIns
theorem pins_loc : OwLoc 4 PIns := flat_loc qins_congr
/-- Owned instructions, owned programs. -/
abbrev OwI (w : World) (v : Value) (xs : List Ins) (F : List Nat) : Prop := OwRow 4 78 PIns w v xs F
abbrev PInsS : OwP (List Ins) := sub 4 78 PIns
theorem pinsS_loc : OwLoc 1 PInsS := sub_loc pins_loc
abbrev OwPr (w : World) (v : Value) (p : Prg) (F : List Nat) : Prop := OwRow 1 72 PInsS w v p F
theorem OwI.insS {w : World} {v : Value} {xs : List Ins} {F : List Nat} {B : Nat} (h : OwI w v xs F) (hB : ∀ b ∈ F, B ≤ b) : InsS (above B w) v xs := OwRow.slR h (fun cs x F' _ hx => hx.1) hB
theorem OwPr.prgS {w : World} {v : Value} {p : Prg} {F : List Nat} {B : Nat} (h : OwPr w v p F) (hB : ∀ b ∈ F, B ≤ b) : PrgS (above B w) v p :=
  OwRow.slR h (fun cs x F' hF' hx => by
    have hx' : OwI w (cs 0) x F' := hx
    have hs := OwI.insS hx' hF'
    obtain ⟨A, c, hv, _⟩ := hx'.slice
    exact ⟨A, c, hv, by rw [← hv]; exact hs⟩) hB

/-- What a making hands back: owned, in new blocks. -/
def RetOwI (w : World) (xs : List Ins) (e : Ending) (w' : World) : Prop := ∃ v F, e = .returned v ∧ OwI w' v xs F ∧ F.Nodup ∧ (∀ b ∈ F, w.heap.size ≤ b) ∧ Below w.heap.size w w'
def RetOwPr (w : World) (p : Prg) (e : Ending) (w' : World) : Prop := ∃ v F, e = .returned v ∧ OwPr w' v p F ∧ F.Nodup ∧ (∀ b ∈ F, w.heap.size ≤ b) ∧ Below w.heap.size w w'

theorem cells4 {w : World} {b : Nat} {t : TypeId} {n : Nat} {F : Nat → Value} (h : w.rowIs b t n F) {k : Nat} (hk : k * 4 + 4 ≤ n) :
    (w.cell? ⟨b, k * 4, none⟩ = some (F (k * 4)) ∧ w.cell? ⟨b, k * 4 + 1, none⟩ = some (F (k * 4 + 1)) ∧ w.cell? ⟨b, k * 4 + 2, none⟩ = some (F (k * 4 + 2)) ∧ w.cell? ⟨b, k * 4 + 3, none⟩ = some (F (k * 4 + 3))) ∧
      w.frozen? ⟨b, k * 4, none⟩ = false ∧ w.frozen? ⟨b, k * 4 + 1, none⟩ = false ∧ w.frozen? ⟨b, k * 4 + 2, none⟩ = false ∧ w.frozen? ⟨b, k * 4 + 3, none⟩ = false :=
  ⟨⟨h.cell (by omega), h.cell (by omega), h.cell (by omega), h.cell (by omega)⟩, h.frozen _, h.frozen _, h.frozen _, h.frozen _⟩
def up4 (F : Nat → Value) (k : Nat) (v0 v1 v2 v3 : Value) : Nat → Value := fun j => if j = k * 4 + 3 then v3 else if j = k * 4 + 2 then v2 else if j = k * 4 + 1 then v1 else if j = k * 4 then v0 else F j
theorem up4_other (F : Nat → Value) {k i j : Nat} (v0 v1 v2 v3 : Value) (h : i ≠ k) (hj : j < 4) : up4 F k v0 v1 v2 v3 (i * 4 + j) = F (i * 4 + j) := by
  unfold up4
  rw [if_neg (by omega), if_neg (by omega), if_neg (by omega), if_neg (by omega)]
theorem up4_self (F : Nat → Value) (k : Nat) (v0 v1 v2 v3 : Value) : up4 F k v0 v1 v2 v3 (k * 4 + 0) = v0 ∧ up4 F k v0 v1 v2 v3 (k * 4 + 1) = v1 ∧ up4 F k v0 v1 v2 v3 (k * 4 + 2) = v2 ∧ up4 F k v0 v1 v2 v3 (k * 4 + 3) = v3 := by
  unfold up4
  refine ⟨?_, ?_, ?_, ?_⟩
  · rw [if_neg (by omega), if_neg (by omega), if_neg (by omega), if_pos (by omega)]
  · rw [if_neg (by omega), if_neg (by omega), if_pos rfl]
  · rw [if_neg (by omega), if_pos rfl]
  · rw [if_pos rfl]
theorem row_set4 {w : World} {b : Nat} {t : TypeId} {n : Nat} {F : Nat → Value} (h : w.rowIs b t n F) (k : Nat) (v0 v1 v2 v3 : Value) :
    ((((w.setCell ⟨b, k * 4, none⟩ v0).setCell ⟨b, k * 4 + 1, none⟩ v1).setCell ⟨b, k * 4 + 2, none⟩ v2).setCell ⟨b, k * 4 + 3, none⟩ v3).rowIs b t n (up4 F k v0 v1 v2 v3) :=
  (((h.set (k * 4) v0).set (k * 4 + 1) v1).set (k * 4 + 2) v2).set (k * 4 + 3) v3
theorem below_s4 {B b o0 o1 o2 o3 : Nat} {a w : World} (h : Below B a w) (hb : B ≤ b) (v0 v1 v2 v3 : Value) :
    Below B a ((((w.setCell ⟨b, o0, none⟩ v0).setCell ⟨b, o1, none⟩ v1).setCell ⟨b, o2, none⟩ v2).setCell ⟨b, o3, none⟩ v3) :=
  (((h.setCell (p := ⟨b, o0, none⟩) hb _).setCell (p := ⟨b, o1, none⟩) hb _).setCell (p := ⟨b, o2, none⟩) hb _).setCell (p := ⟨b, o3, none⟩) hb _

end Go.Proofs.YtcckflijaolnkaaGreat

/-! The walks of eqInstr, eqInstrS, eqInstrSS at equal data, markInstrS, markInstrSS; eqEvent, eqEventS, markEventS, heldEventS. -/
namespace Go.Proofs.YtcckflijaolnkaaGreat
open Go.RowKit
set_option linter.unusedVariables false
set_option maxRecDepth 100000

/-- The marked instruction. -/
def mkI (k : Nat) (_ : Ins) : Ins := ⟨k, (k : Int) + 1, (k : Int) + 1 + 1, (k : Int) + 1 + 1 + 1⟩
def RetMkI (w : World) (v : Value) (xs : List Ins) (F : List Nat) (k : Nat) (e : Ending) (w' : World) : Prop :=
  e = .returned (.int .i64 ((k + 4 * xs.length : Nat) : Int)) ∧ OwI w' v (mkG mkI (fun _ => 4) k xs) F ∧ MvO F w w'
theorem wSum4 {α : Type} (n : Nat) (xs : List α) : wSum (fun _ => n) xs = n * xs.length := by
  induction xs with
  | nil => simp [wSum]
  | cons x xs ih => rw [wSum, ih, List.length_cons, Nat.mul_add]; omega

def mkIs (k : Nat) (xs : List Ins) : List Ins := mkG mkI (fun _ => 4) k xs
theorem mkIs_length (k : Nat) (xs : List Ins) : (mkIs k xs).length = xs.length := mkG_length _ _ _ _
def wtIs (xs : List Ins) : Nat := 4 * xs.length
def RetMkPr (w : World) (v : Value) (p : Prg) (F : List Nat) (k : Nat) (e : Ending) (w' : World) : Prop :=
  e = .returned (.int .i64 ((k + wSum wtIs p : Nat) : Int)) ∧ OwPr w' v (mkG mkIs wtIs k p) F ∧ MvO F w w'

end Go.Proofs.YtcckflijaolnkaaGreat
