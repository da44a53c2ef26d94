/-
  A box that holds a state of the reference. Moves that are made one after the other: follow, finished, RunMoves, MovesAfter of the program, at the machine with store buffers. The reference's l4After, RunMoves. The draw of moves: l4Moves, DrawRunMoves.
-/
import Derived.Test.YtahegjofooahkaaGreatS3X
import Derived.Test.YtahegjofooahkaaGreatTab
import Derived.Test.YtahegjofooahkaaGreatRunP
import Derived.Test.YtahegjofooahkaaGreatBfI
import Derived.Test.YtahegjofooahkaaGreatS4A
import Derived.Test.YtahegjofooahkaaGreatODr

/-! A box that holds a state of the reference. -/
namespace Go.Proofs.YtahegjofooahkaaGreat
open Go.RowKit
set_option linter.unusedVariables false
set_option maxRecDepth 100000

/-- A box that holds a state: its block, and what the state's rows hold beside it. -/
structure Bx (w : World) (b : Nat) (A1 A2 A3 A4 : Option Addr) (c1 c2 c3 c4 : Nat) (s : S3) : Prop where
  own : Own w b 70 #[.slice A1 s.at_.length c1, .slice A2 s.regs.length c2, .slice A3 s.mem.length c3, .slice A4 s.buf.length c4]
  rep : Rep4 (hidP (fun x => x = b) w) A1 A2 A3 A4 c1 c2 c3 c4 s
section
variable {w w' : World} {b : Nat} {A1 A2 A3 A4 : Option Addr} {c1 c2 c3 c4 : Nat} {s : S3}
end

end Go.Proofs.YtahegjofooahkaaGreat

/-! Moves that are made one after the other: follow, finished, RunMoves, MovesAfter of the program, at the machine with store buffers. -/
namespace Go.Proofs.YtahegjofooahkaaGreat
open Go.RowKit
set_option linter.unusedVariables false
set_option maxRecDepth 100000

/-- What follow hands back. -/
def RetFoB {σ : Type} (M : Mach σ) (W : World) (r : Option σ) (e : Ending) (W' : World) : Prop :=
  ((∃ b t, r = some t ∧ e = .returned (.tuple #[.iface 116 (.pointer (some ⟨b, 0, none⟩)), .bool true]) ∧ M.R W' b t) ∨ (r = none ∧ e = .returned (.tuple #[.nilIface, .bool false]))) ∧ Below W.heap.size W W'
/-- An outcome, or none. -/
def RetOv (W : World) (r : Option (List Int)) (e : Ending) (W' : World) : Prop :=
  ∃ A c, e = .returned (.tuple #[.slice A (r.getD []).length c, .bool r.isSome]) ∧ Ints (above W.heap.size W') A c (r.getD []) ∧ Below W.heap.size W W'

set_option maxHeartbeats 1500000 in
theorem followB_any {σ : Type} (M : Mach σ) (hM : MachP M) (hC : MachCB M) (ms : List Int) (W : World) (b0 : Nat) (h0 : M.R W b0 M.s0) (A : Option Addr) (c : Nat) (hI : Ints W A c ms) :
    Calls Tryz.prog 75 #[.iface 116 (.pointer (some ⟨b0, 0, none⟩)), .slice A ms.length c] W (RetFoB M W (runW M.succ M.mv M.s0 ms)) := by
  have hm := hI.len
  have HI := Lib.hid hI
  clear hI
  go_enter Tryz.func75, Tryz.ntmps75
  go_wp2_with fail
  go_loopg [0, 10] ms.length (fun g s0 s10 wr => ∃ (i b : Nat) (t : σ), i ≤ ms.length ∧ g = ms.length - i ∧ s0 = .iface 116 (.pointer (some ⟨b, 0, none⟩)) ∧ s10 = .int .i64 i ∧ Hid (runW M.succ M.mv M.s0 (ms.take i) = some t) ∧ Hid (M.R wr b t) ∧ Below W.heap.size W wr)
  case atStart => exact ⟨0, b0, M.s0, Nat.zero_le _, rfl, rfl, rfl, by rw [List.take_zero]; rfl, h0, Below.refl _ _⟩
  case round =>
    obtain ⟨i, b, t, hi, rfl, rfl, rfl, hrun, hR, hb⟩ := hrel
    have hre := run_reach (fun s h => hM.len s h) _ _ .start hrun.out
    by_cases hlt : i < ms.length
    · obtain ⟨bm, om, rfl, hbm, k0⟩ := (HI.out.le (Le.below hb)).get hlt
      have Hre := Lib.hid hre
      have hmv := hC.mv t hre wr b hR.out
      have Hstep : Hid (runW M.succ M.mv M.s0 (ms.take (i + 1)) = stepW M.succ M.mv t ms[i]) := by
        show _ = _
        rw [run_take hlt, hrun.out]
        rfl
      have Hnone : Hid (runW M.succ M.mv M.s0 (ms.take (i + 1)) = none → runW M.succ M.mv M.s0 ms = none) := run_take_none hlt
      generalize ms[i] = m at k0 Hstep
      clear hre hrun
      go_wp2_with fail
      refine hmv.mono ?_
      rintro e5 w5 ⟨A5, c5, rfl, hrow5, hb5⟩
      have hB5 := hb.trans (hb5.mono hb.size)
      have hR5 := Lib.hid (hM.le _ _ _ _ (Le.below hb5) hR.out)
      obtain ⟨A6, c6, e6, hi6⟩ := RowI.ints hrow5
      injection e6 with e6 _ e7
      subst e6 e7
      have hct := contI_any (M.mv t) m w5 A5 c5 (Ints.le hi6 (Le.above _ _))
      clear hmv hrow5 hi6 hR k0
      by_cases hin : m ∈ M.mv t
      · rw [decide_eq_true hin] at hct
        obtain ⟨j, hj, hj', e1, e2⟩ := lookup_in (M.mv t) (M.succ t) m (hM.len t Hre.out) hin
        have haf := hC.after t Hre.out j hj' hj w5 b w5 (Le.refl _) hR5.out
        rw [e1] at haf
        have Hrn : Hid (runW M.succ M.mv M.s0 (ms.take (i + 1)) = some (M.succ t)[j]) := by
          show _ = _
          rw [Hstep.out]
          exact e2
        clear hin e1 e2 Hstep Hnone
        go_wp2_with fail
        refine hct.mono ?_
        rintro e8 w8 ⟨rfl, rfl⟩
        clear hct
        go_wp2_with fail
        refine haf.mono ?_
        rintro e9 w9 ⟨b', rfl, hR9, hb9⟩
        have hB9 := hB5.trans (hb9.mono hB5.size)
        have HR9 := Lib.hid (hR9 w9 (Le.below hb9) (Le.above _ _))
        clear haf hR9
        go_wp2_with fail
        go_roundg (ms.length - (i + 1))
        case measure => omega
        case rel => exact ⟨i + 1, b', _, by omega, rfl, rfl, by go_num, Hrn.out, HR9.out, hB9⟩
      · rw [decide_eq_false hin] at hct
        have Hr : Hid (runW M.succ M.mv M.s0 ms = none) := Hnone.out (by rw [Hstep.out]; exact step_none hin)
        clear hin Hstep Hnone
        go_wp2_with fail
        refine hct.mono ?_
        rintro e8 w8 ⟨rfl, rfl⟩
        clear hct
        go_wp2_with fail
        refine bodyPost_ret (v := .tuple #[.nilIface, .bool false]) (by simp [results, Tryz.results75, go_sem]) rfl ?_
        exact ⟨.inr ⟨Hr.out, rfl⟩, hB5⟩
    · obtain rfl : i = ms.length := by omega
      have Hr : Hid (runW M.succ M.mv M.s0 ms = some t) := by
        show _ = _
        have h := hrun.out
        rwa [List.take_length] at h
      clear hre hrun
      go_wp2_with fail
      refine bodyPost_ret (v := .tuple #[.iface 116 (.pointer (some ⟨b, 0, none⟩)), .bool true]) (by simp [results, Tryz.results75, go_sem]) rfl ?_
      exact ⟨.inl ⟨b, t, Hr.out, rfl, hR.out⟩, hb⟩

set_option maxHeartbeats 1500000 in
theorem finishedB_any {σ : Type} (M : Mach σ) (hM : MachP M) (hC : MachCB M) (ms : List Int) (W : World) (b0 : Nat) (h0 : M.R W b0 M.s0) (A : Option Addr) (c : Nat) (hI : Ints W A c ms) :
    Calls Tryz.prog 62 #[.iface 116 (.pointer (some ⟨b0, 0, none⟩)), .slice A ms.length c] W (RetOv W (resW M.succ M.mv M.done M.out M.s0 ms)) := by
  have hfo := followB_any M hM hC ms W b0 h0 A c hI
  have Hreach : Hid (∀ t, runW M.succ M.mv M.s0 ms = some t → Reach M.succ M.s0 t) := fun t h => run_reach (fun s h => hM.len s h) _ _ .start h
  have Hres : Hid (∀ t, runW M.succ M.mv M.s0 ms = some t → resW M.succ M.mv M.done M.out M.s0 ms = if M.done t = true then some (M.out t) else none) := fun t h => by unfold resW; rw [h]; rfl
  have Hnone : Hid (runW M.succ M.mv M.s0 ms = none → resW M.succ M.mv M.done M.out M.s0 ms = none) := fun h => by unfold resW; rw [h]; rfl
  go_enter Tryz.func62, Tryz.ntmps62
  go_wp2_with fail
  refine hfo.mono ?_
  rintro e1 w1 ⟨⟨b, t, hrun, rfl, hR⟩ | ⟨hrun, rfl⟩, hb1⟩
  · have Hre := Lib.hid (Hreach.out t hrun)
    have Hr := Lib.hid (Hres.out t hrun)
    have HR := Lib.hid hR
    have hdn := hC.done t Hre.out w1 b hR
    clear hfo hrun hR Hreach Hres Hnone
    go_wp2_with fail
    refine hdn.mono ?_
    rintro e2 w2 ⟨rfl, hb2⟩
    have hB2 := hb1.trans (hb2.mono hb1.size)
    have HR2 := Lib.hid (hM.le _ _ _ _ (Le.below hb2) HR.out)
    clear hdn HR
    cases hd : M.done t
    · have Hr2 : Hid (resW M.succ M.mv M.done M.out M.s0 ms = none) := by show _ = _; rw [Hr.out, hd]; rfl
      clear hd Hr
      go_wp2_with fail
      refine bodyPost_ret (v := .tuple #[.slice none 0 0, .bool false]) (by simp [results, Tryz.results62, go_sem]) rfl ?_
      rw [Hr2.out]
      exact ⟨none, 0, rfl, Ints.nil _ _, hB2⟩
    · have Hr2 : Hid (resW M.succ M.mv M.done M.out M.s0 ms = some (M.out t)) := by show _ = _; rw [Hr.out, hd]; rfl
      have hou := hC.out t Hre.out w2 b HR2.out
      clear hd Hr
      go_wp2_with fail
      refine hou.mono ?_
      rintro e3 w3 ⟨A3, c3, rfl, hrow3, hb3⟩
      have hB3 := hB2.trans (hb3.mono hB2.size)
      have Hrow := Lib.hid hrow3
      have hsz := hB2.size
      clear hou hrow3
      go_wp2_with fail
      refine bodyPost_ret (v := .tuple #[.slice A3 (M.out t).length c3, .bool true]) (by simp [results, Tryz.results62, go_sem]) rfl ?_
      obtain ⟨A4, c4, e4, hi4⟩ := RowI.ints Hrow.out
      injection e4 with e4 _ e5
      subst e4 e5
      rw [Hr2.out]
      exact ⟨A3, c3, rfl, hi4.le (Le.above_mono hsz _), hB3⟩
  · have Hr := Lib.hid (Hnone.out hrun)
    clear hfo hrun Hreach Hres Hnone
    go_wp2_with fail
    refine bodyPost_ret (v := .tuple #[.slice none 0 0, .bool false]) (by simp [results, Tryz.results62, go_sem]) rfl ?_
    rw [Hr.out]
    exact ⟨none, 0, rfl, Ints.nil _ _, hb1⟩

/-- What moves lead to. -/
noncomputable def mvsR (p : Prg) (sp : Bool) (ms : List Int) : Option (List Int) := if prgB p = true then resW (sucB p sp) (fun s => mvBI p sp s (p.length + s.bufs.length)) (doneB p) outB (bt0 p sp) ms else none
/-- The moves that are possible after moves. -/
noncomputable def mvsA (p : Prg) (sp : Bool) (ms : List Int) : List Int := if prgB p = true then match runW (sucB p sp) (fun s => mvBI p sp s (p.length + s.bufs.length)) (bt0 p sp) ms with
  | some t => mvBI p sp t (p.length + t.bufs.length)
  | none => [] else []

set_option maxHeartbeats 1000000 in
theorem implRM_any (p : Prg) (hl : p.length ≤ 1048576) (hls : ∀ t ∈ p, t.length ≤ 1048576) (sp : Bool) (ms : List Int) (W : World) (v : Value) (hr : PrgS W v p) (B : Option Addr) (d : Nat) (hI : Ints W B d ms) : Calls Tryz.prog 20 #[v, .bool sp, .slice B ms.length d] W (RetOv W (mvsR p sp ms)) := by
  have hv := implPrg_any p hl hls W v hr
  have HR := Lib.hid hr
  have HI := Lib.hid hI
  have hm := hI.len
  obtain ⟨A, c, rfl, _⟩ := hr.slice
  have HF : Hid (prgB p = false → mvsR p sp ms = none) := fun h => by unfold mvsR; rw [h]; rfl
  have HT : Hid (prgB p = true → PrgOk p ∧ mvsR p sp ms = resW (sucB p sp) (fun s => mvBI p sp s (p.length + s.bufs.length)) (doneB p) outB (bt0 p sp) ms) := fun h => ⟨prgB_iff.1 h, by unfold mvsR; rw [if_pos h]⟩
  clear hI
  go_enter Tryz.func20, Tryz.ntmps20
  go_wp2_with fail
  refine hv.mono ?_
  rintro e1 w1 ⟨rfl, hb1⟩
  clear hv
  cases hpb : prgB p
  · have Hn := Lib.hid (HF.out hpb)
    clear hpb HT HF
    go_wp2_with fail
    refine bodyPost_ret (v := .tuple #[.slice none 0 0, .bool false]) (by simp [results, Tryz.results20, go_sem]) rfl ?_
    rw [Hn.out]
    exact ⟨none, 0, rfl, Ints.nil _ _, hb1⟩
  · obtain ⟨hp, hs⟩ := HT.out hpb
    have Hp := Lib.hid hp
    have Hs := Lib.hid hs
    have hns := newBuffers_any p (by have := Hp.out.1.1; omega) sp w1 _ (HR.out.le (Le.below hb1))
    clear hpb HT HF hp hs
    go_wp2_with fail
    refine hns.mono ?_
    rintro e2 w2 ⟨Ap, cp, b, e, rfl, hR, hpr2, hb2⟩
    injection e with e1 _ e3
    subst e1 e3
    have hB2 := hb1.trans (hb2.mono hb1.size)
    have hfi := finishedB_any (bufM p sp A c) (bufM_P Hp.out sp A c) (bufM_C Hp.out sp A c) ms w2 b ⟨hR, hpr2⟩ B d (HI.out.le (Le.below hB2))
    clear hns hR hpr2
    go_wp2_with fail
    refine hfi.mono ?_
    rintro e3 w3 ⟨A3, c3, rfl, hi3, hb3⟩
    have hB3 := hB2.trans (hb3.mono hB2.size)
    have hsz := hB2.size
    have Hi3 := Lib.hid hi3
    clear hfi hi3
    obtain ⟨r, hr3⟩ : ∃ r, r = resW (bufM p sp A c).succ (bufM p sp A c).mv (bufM p sp A c).done (bufM p sp A c).out (bufM p sp A c).s0 ms := ⟨_, rfl⟩
    have Hr3 : Hid (mvsR p sp ms = r) := by show _ = _; rw [hr3]; exact Hs.out
    rw [← hr3] at Hi3 ⊢
    clear hr3 Hs
    go_wp2_with fail
    refine bodyPost_ret (v := .tuple #[.slice A3 (r.getD []).length c3, .bool r.isSome]) (by simp [results, Tryz.results20, go_sem]) rfl ?_
    rw [Hr3.out]
    exact ⟨A3, c3, rfl, Hi3.out.le (Le.above_mono hsz _), hB3⟩

/-- A list of moves. -/
def RetIv (W : World) (r : List Int) (e : Ending) (W' : World) : Prop :=
  ∃ A c, e = .returned (.slice A r.length c) ∧ Ints (above W.heap.size W') A c r ∧ Below W.heap.size W W'
end Go.Proofs.YtahegjofooahkaaGreat

/-! The reference's l4After, RunMoves. -/
namespace Go.Proofs.YtahegjofooahkaaGreat
open Go.RowKit
set_option linter.unusedVariables false
set_option maxRecDepth 100000

/-- What l4After hands back. -/
def RetAf (p : Prg) (sp : Bool) (ms : List Int) (W : World) (e : Ending) (W' : World) : Prop := ∃ (b : BSt) (ok : Bool) (A1 A2 A3 A4 : Option Addr) (c1 c2 c3 c4 : Nat), e = .returned (.tuple #[.agg #[.slice A1 (s3B b).at_.length c1, .slice A2 (s3B b).regs.length c2, .slice A3 (s3B b).mem.length c3, .slice A4 (s3B b).buf.length c4], .bool ok]) ∧
  Rep4 (above W.heap.size W') A1 A2 A3 A4 c1 c2 c3 c4 (s3B b) ∧ Reach (sucB p sp) (bt0 p sp) b ∧ runW (sucB p sp) (fun s => mvBI p sp s (p.length + s.bufs.length)) (bt0 p sp) ms = (if ok = true then some b else none) ∧ Below W.heap.size W W'

end Go.Proofs.YtahegjofooahkaaGreat

/-! The draw of moves: l4Moves, DrawRunMoves. -/
namespace Go.Proofs.YtahegjofooahkaaGreat
open Go.RowKit
set_option linter.unusedVariables false
set_option maxRecDepth 100000

/-- What l4Moves hands back. -/
def RetMo (w : World) (R q : Nat) (e : Ending) (w' : World) : Prop := ∃ (A : Option Addr) (c : Nat) (ms : List Int) (q' : Nat), e = .returned (.slice A ms.length c) ∧ Ints (above w.heap.size w') A c ms ∧ ms.length ≤ 101 ∧ Mv R w w' ∧ Rd w' R q' ∧ q' ≤ q + 1000

/-- A program, whether buffers are split, and a list of numbers. -/
def RetD3 (w : World) (e : Ending) (w' : World) : Prop := ∃ (p : Prg) (v : Value) (sp : Bool) (A : Option Addr) (c : Nat) (o : List Int), e = .returned (.tuple #[v, .bool sp, .slice A o.length c]) ∧ PrgS (above w.heap.size w') v p ∧ Few 2000 2000 p ∧ Ints (above w.heap.size w') A c o ∧ o.length ≤ 101 ∧ Below w.heap.size w w'

end Go.Proofs.YtahegjofooahkaaGreat
