/-
  The walks of szInstrS, szInstrSS, toInstr, toInstrS, toInstrSS, eqInstr, eqInstrS, eqInstrSS, markInstrS, markInstrSS. The walks of eqInstr, eqInstrS, eqInstrSS at equal data, markInstrS, markInstrSS; eqEvent, eqEventS, markEventS, heldEventS. Events: the walks of eqEvent, eqEventS at equal data, markEventS, heldEventS.
-/
import Derived.Test.YtahegjofooahkaaGreatPrg
import Derived.Test.YtahegjofooahkaaGreatOwA
import Derived.StillTailTactics

/-! The walks of szInstrS, szInstrSS, toInstr, toInstrS, toInstrSS, eqInstr, eqInstrS, eqInstrSS, markInstrS, markInstrSS. -/
namespace Go.Proofs.YtahegjofooahkaaGreat
open Go.RowKit
set_option linter.unusedVariables false
set_option maxRecDepth 100000

theorem Tryz.infoIns : (Tryz.prog.info? 52).map (fun i => (i.zero, i.size, i.bytes)) = some (some (.agg #[.int .i64 0, .int .i64 0, .int .i64 0, .int .i64 0]), 4, 32) := by kernel_rfl
theorem Tryz.infoInsS : (Tryz.prog.info? 50).map (fun i => (i.zero, i.size, i.bytes)) = some (some (.slice none 0 0), 1, 24) := by kernel_rfl

def valIns (x : Ins) : Value := .agg #[.int .i64 x.op, .int .i64 x.loc, .int .i64 x.reg, .int .i64 x.val]
/-- An instruction's four cells. -/
def QIns (cs : Nat → Value) (x : Ins) : Prop := cs 0 = .int .i64 x.op ∧ cs 1 = .int .i64 x.loc ∧ cs 2 = .int .i64 x.reg ∧ cs 3 = .int .i64 x.val
abbrev PIns : OwP Ins := flat QIns
/-- Owned instructions, owned programs. -/
abbrev OwI (w : World) (v : Value) (xs : List Ins) (F : List Nat) : Prop := OwRow 4 52 PIns w v xs F
abbrev PInsS : OwP (List Ins) := sub 4 52 PIns
abbrev OwPr (w : World) (v : Value) (p : Prg) (F : List Nat) : Prop := OwRow 1 50 PInsS w v p F
/-- What a making hands back: owned, in new blocks. -/
def RetOwI (w : World) (xs : List Ins) (e : Ending) (w' : World) : Prop := ∃ v F, e = .returned v ∧ OwI w' v xs F ∧ F.Nodup ∧ (∀ b ∈ F, w.heap.size ≤ b) ∧ Below w.heap.size w w'
def RetOwPr (w : World) (p : Prg) (e : Ending) (w' : World) : Prop := ∃ v F, e = .returned v ∧ OwPr w' v p F ∧ F.Nodup ∧ (∀ b ∈ F, w.heap.size ≤ b) ∧ Below w.heap.size w w'

def up4 (F : Nat → Value) (k : Nat) (v0 v1 v2 v3 : Value) : Nat → Value := fun j => if j = k * 4 + 3 then v3 else if j = k * 4 + 2 then v2 else if j = k * 4 + 1 then v1 else if j = k * 4 then v0 else F j
end Go.Proofs.YtahegjofooahkaaGreat

/-! The walks of eqInstr, eqInstrS, eqInstrSS at equal data, markInstrS, markInstrSS; eqEvent, eqEventS, markEventS, heldEventS. -/
namespace Go.Proofs.YtahegjofooahkaaGreat
open Go.RowKit
set_option linter.unusedVariables false
set_option maxRecDepth 100000

/-- The marked instruction. -/
def mkI (k : Nat) (_ : Ins) : Ins := ⟨k, (k : Int) + 1, (k : Int) + 1 + 1, (k : Int) + 1 + 1 + 1⟩
def RetMkI (w : World) (v : Value) (xs : List Ins) (F : List Nat) (k : Nat) (e : Ending) (w' : World) : Prop :=
  e = .returned (.int .i64 ((k + 4 * xs.length : Nat) : Int)) ∧ OwI w' v (mkG mkI (fun _ => 4) k xs) F ∧ MvO F w w'
def mkIs (k : Nat) (xs : List Ins) : List Ins := mkG mkI (fun _ => 4) k xs
def wtIs (xs : List Ins) : Nat := 4 * xs.length
def RetMkPr (w : World) (v : Value) (p : Prg) (F : List Nat) (k : Nat) (e : Ending) (w' : World) : Prop :=
  e = .returned (.int .i64 ((k + wSum wtIs p : Nat) : Int)) ∧ OwPr w' v (mkG mkIs wtIs k p) F ∧ MvO F w w'

end Go.Proofs.YtahegjofooahkaaGreat
