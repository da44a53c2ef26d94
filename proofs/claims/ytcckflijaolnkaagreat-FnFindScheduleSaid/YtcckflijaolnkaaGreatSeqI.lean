/-
  The machine with one memory: it is one; newSeq, RunSeq, SeqStates, on both sides.
-/
import Derived.Test.YtcckflijaolnkaaGreatRch
import Derived.Test.YtcckflijaolnkaaGreatSpM
namespace Go.Proofs.YtcckflijaolnkaaGreat
open Go.RowKit
set_option linter.unusedVariables false
set_option maxRecDepth 100000

def seqM (p : Prg) (Ap : Option Addr) (cp : Nat) : Mach St where
  succ := sucS p
  s0 := st0 p
  key := keyI
  done := doneS p
  out := outS
  mv := fun s => mvI p s p.length
  R := fun W b s => SeqL W b Ap cp p s ∧ PrgS W (.slice Ap p.length cp) p
theorem mvI_eq (p : Prg) (s : St) : mvI p s p.length = (mvS p s).map fun k => ((k : Nat) : Int) := rfl
theorem seqM_P {p : Prg} (hp : PrgOk p) (Ap : Option Addr) (cp : Nat) : MachP (seqM p Ap cp) where
  le := fun a a' b s hl h => ⟨h.1.le hl, h.2.le hl⟩
  len := fun s _ => by show (mvI p s p.length).length = (sucS p s).length; rw [mvI_eq]; unfold sucS; rw [List.length_map, List.length_map]
  inj := fun s t hs ht h => keyI_inj hp (reach_ok hp hs) (reach_ok hp ht) h
  klen := fun s => by
    show (byt (kI s)).size ≤ _
    have : (kI s).length = 15 := by simp [kI]
    simp [byt, ByteArray.size, this]
  few := fun V hn h => Nat.le_trans (seq_few hp hn h) (by decide)
  opos := fun s h => by
    show 0 < (outS s).length
    unfold outS
    rw [List.length_append, (reach_ok hp h).meml]
    omega
theorem SeqO.readable {W W' : World} {b : Nat} {Ap : Option Addr} {cp : Nat} {p : Prg} {s : St} (h : SeqO W' b Ap cp p s) (hb : W.heap.size ≤ b) {a' : World} (hl : Le (above W.heap.size W') a') : SeqL a' b Ap cp p s := fun i v hv => hl _ _ (cell_above_of hb (Own.cell h hv))

set_option maxHeartbeats 400000 in
theorem doneM_any (p : Prg) (hp : PrgOk p) (s : St) (hs : StOk p s) (W : World) (b : Nat) (Ap : Option Addr) (cp : Nat) (ho : SeqL W b Ap cp p s) (hpr : PrgS W (.slice Ap p.length cp) p) :
    Calls Tryz.prog 117 #[.pointer (some ⟨b, 0, none⟩)] W (RetB W (doneS p s)) := by
  have hc := allDone_any p hp s hs W b Ap cp ho hpr
  go_enter Tryz.func117, Tryz.ntmps117
  go_wp2_with fail
  refine hc.mono ?_
  rintro e5 w5 ⟨rfl, hb5⟩
  go_wp2_with fail
  go_ret
  exact ⟨rfl, hb5⟩
theorem seqM_C {p : Prg} (hp : PrgOk p) (Ap : Option Addr) (cp : Nat) : MachC (seqM p Ap cp) where
  key := fun s hs W b h => key_any p hp s (reach_ok hp hs) W b Ap cp h.1
  done := fun s hs W b h => doneM_any p hp s (reach_ok hp hs) W b Ap cp h.1 h.2
  out := fun s hs W b h => outcome_any p hp s (reach_ok hp hs) W b Ap cp h.1
  mv := fun s hs W b h => moves_any p hp s (reach_ok hp hs) W b Ap cp h.1 h.2
  after := fun s hs i hi hm W b a hl h => by
    have hm' : i < (mvS p s).length := by
      have h1 : i < (mvI p s p.length).length := hm
      rw [mvI_eq, List.length_map] at h1
      exact h1
    have e1 : (mvI p s p.length)[i]'hm = (((mvS p s)[i] : Nat) : Int) := by simp only [mvI_eq, List.getElem_map]
    have e2 : (sucS p s)[i]'hi = nxS p s (mvS p s)[i] := by simp only [sucS, List.getElem_map]
    have hc := after_any p hp s (reach_ok hp hs) (mvS p s)[i] (List.getElem_mem hm') W b Ap cp (h.1.le hl) (h.2.le hl)
    show Calls _ _ #[_, .int .i64 ((mvI p s p.length)[i]'hm)] _ _
    rw [e1]
    refine hc.mono ?_
    rintro e W' ⟨b', rfl, ho, hb', hb⟩
    refine ⟨b', rfl, fun a' h1 h2 => ?_, hb⟩
    show SeqL a' b' Ap cp p ((sucS p s)[i]'hi) ∧ _
    rw [e2]
    exact ⟨ho.readable hb' h2, h.2.le h1⟩
theorem seqC_st0 {p : Prg} (Ap : Option Addr) (cp : Nat) : seqC Ap cp p (st0 p) = #[.slice Ap p.length cp, .int .u8 0, .int .u8 0, .int .u8 0, .int .u8 0, .int .u8 0, .int .u8 0, .int .u8 0, .int .u8 0, .int .u8 0, .int .u8 0, .int .u8 0, .int .u8 0, .int .u8 0, .int .u8 0, .int .u8 0] := by
  have h1 : ∀ t, pcS (st0 p) t = 0 := fun t => by
    unfold pcS st0
    rw [List.getD_eq_getElem?_getD, List.getElem?_replicate]
    split <;> rfl
  have h2 : ∀ t, rgF (st0 p) t = 0 := fun t => by
    unfold rgF st0
    rw [List.getD_eq_getElem?_getD, List.getElem?_replicate]
    split <;> rfl
  unfold seqC pcV rgV meV
  simp only [h1, h2]
  rfl

set_option maxHeartbeats 1000000 in
theorem newSeq_any (p : Prg) (W : World) (vp : Value) (hpr : PrgS W vp p) :
    Calls Tryz.prog 15 #[vp] W (fun e W' => ∃ Ap cp b, vp = .slice Ap p.length cp ∧ e = .returned (.iface 62 (.pointer (some ⟨b, 0, none⟩))) ∧ (seqM p Ap cp).R W' b (st0 p) ∧ Below W.heap.size W W') := by
  obtain ⟨Ap, cp, rfl, hpl⟩ := SlR.slice hpr
  go_enter Tryz.func15, Tryz.ntmps15
  go_wp2_with fail
  go_ret
  refine ⟨Ap, cp, W.heap.size, rfl, rfl, ⟨?_, hpr.le (Le.alloc _ _)⟩, (Below.refl _ _).alloc (Nat.le_refl _) _⟩
  refine SeqO.l ?_
  unfold SeqO
  rw [seqC_st0]
  exact Own.new _ _ _

theorem fldS (n : Int) (A : Option Addr) (k c : Nat) : (∀ w, (Instr.field 90 (.agg #[.int .i64 n, .slice A k c]) 0).run Tryz.prog w = .ok (.int .i64 n) w) ∧ (∀ w, (Instr.field 90 (.agg #[.int .i64 n, .slice A k c]) 1).run Tryz.prog w = .ok (.slice A k c) w) :=
  ⟨fun w => by kernel_rfl, fun w => by kernel_rfl⟩
/-- How many states a program has. -/
def RetCnt (p : Prg) (W : World) (e : Ending) (W' : World) : Prop := ∃ n : Nat, e = .returned (.int .i64 (n : Int)) ∧ ((PrgOk p ∧ ∃ V, Dfs (sucS p) (st0 p) V [] ∧ n = V.length) ∨ (¬ PrgOk p ∧ n = 0)) ∧ n ≤ 1000000000000 ∧ Below W.heap.size W W'
theorem RetCnt.same {p : Prg} {W W1 W' W1' : World} {e e' : Ending} (h : RetCnt p W e W') (k : RetCnt p W1 e' W1') : e = e' := by
  obtain ⟨n, rfl, h1, _⟩ := h
  obtain ⟨m, rfl, k1, _⟩ := k
  have : n = m := by
    rcases h1 with ⟨h1, V, h2, rfl⟩ | ⟨h1, rfl⟩
    · rcases k1 with ⟨_, V', k2, rfl⟩ | ⟨k1, _⟩
      · exact h2.length_eq k2
      · exact absurd h1 k1
    · rcases k1 with ⟨k1, _⟩ | ⟨_, rfl⟩
      · exact absurd k1 h1
      · rfl
  rw [this]

end Go.Proofs.YtcckflijaolnkaaGreat
