/-
  A box that holds a state of the reference. Moves that are made one after the other: follow, finished, RunMoves, MovesAfter of the program, at the machine with store buffers. The reference's l4After, RunMoves. The draw of moves: l4Moves, DrawRunMoves.
-/
import Derived.Test.YtahegjofooahkaaGreatS3X
import Derived.Test.YtahegjofooahkaaGreatTab
import Derived.Test.YtahegjofooahkaaGreatRunP
import Derived.Test.YtahegjofooahkaaGreatBfI
import Derived.Test.YtahegjofooahkaaGreatS4A
import Derived.Test.YtahegjofooahkaaGreatODr

/-! A box that holds a state of the reference. -/
namespace Go.Proofs.YtahegjofooahkaaGreat
open Go.RowKit
set_option linter.unusedVariables false
set_option maxRecDepth 100000

/-- A box that holds a state: its block, and what the state's rows hold beside it. -/
structure Bx (w : World) (b : Nat) (A1 A2 A3 A4 : Option Addr) (c1 c2 c3 c4 : Nat) (s : S3) : Prop where
  own : Own w b 70 #[.slice A1 s.at_.length c1, .slice A2 s.regs.length c2, .slice A3 s.mem.length c3, .slice A4 s.buf.length c4]
  rep : Rep4 (hidP (fun x => x = b) w) A1 A2 A3 A4 c1 c2 c3 c4 s
section
variable {w w' : World} {b : Nat} {A1 A2 A3 A4 : Option Addr} {c1 c2 c3 c4 : Nat} {s : S3}
theorem Bx.below (h : Bx w b A1 A2 A3 A4 c1 c2 c3 c4 s) (hb : Below w.heap.size w w') : Bx w' b A1 A2 A3 A4 c1 c2 c3 c4 s :=
  ⟨h.own.under hb, h.rep.le (Le.hidP_below hb (fun _ _ => .inr trivial))⟩
theorem Bx.new (hr : Rep4 w A1 A2 A3 A4 c1 c2 c3 c4 s) : Bx (w.alloc (.cells #[.slice A1 s.at_.length c1, .slice A2 s.regs.length c2, .slice A3 s.mem.length c3, .slice A4 s.buf.length c4] 70)) w.heap.size A1 A2 A3 A4 c1 c2 c3 c4 s :=
  ⟨Own.new _ _ _, hr.le fun x v hc => cell_hidP.2 ⟨by have := World.block_lt_of_cell? _ _ hc; omega, Le.alloc _ _ _ _ hc⟩⟩
theorem Bx.cells (h : Bx w b A1 A2 A3 A4 c1 c2 c3 c4 s) : w.cell? ⟨b, 0, none⟩ = some (.slice A1 s.at_.length c1) ∧ w.cell? ⟨b, 1, none⟩ = some (.slice A2 s.regs.length c2) ∧ w.cell? ⟨b, 2, none⟩ = some (.slice A3 s.mem.length c3) ∧ w.cell? ⟨b, 3, none⟩ = some (.slice A4 s.buf.length c4) :=
  ⟨h.own.cell (i := 0) rfl, h.own.cell (i := 1) rfl, h.own.cell (i := 2) rfl, h.own.cell (i := 3) rfl⟩
/-- Another state is put into it. -/
theorem Bx.put {D1 D2 D3 D4 : Option Addr} {d1 d2 d3 d4 B : Nat} {s' : S3} (h : Bx w b A1 A2 A3 A4 c1 c2 c3 c4 s) (hB : b < B) (hr : Rep4 (above B w) D1 D2 D3 D4 d1 d2 d3 d4 s') :
    Bx ((((w.setCell ⟨b, 0, none⟩ (.slice D1 s'.at_.length d1)).setCell ⟨b, 1, none⟩ (.slice D2 s'.regs.length d2)).setCell ⟨b, 2, none⟩ (.slice D3 s'.mem.length d3)).setCell ⟨b, 3, none⟩ (.slice D4 s'.buf.length d4)) b D1 D2 D3 D4 d1 d2 d3 d4 s' := by
  refine ⟨(((h.own.set 0 _).set 1 _).set 2 _).set 3 _, hr.le fun x v hc => ?_⟩
  obtain ⟨h1, h2⟩ := cell_above_lt hc
  have hne : ∀ i, (⟨b, i, none⟩ : Addr) ≠ x := fun i e => by rw [← e] at h1; simp only at h1; omega
  refine cell_hidP.2 ⟨by omega, ?_⟩
  rw [World.cell?_setCell_other _ _ _ _ (hne 3), World.cell?_setCell_other _ _ _ _ (hne 2), World.cell?_setCell_other _ _ _ _ (hne 1), World.cell?_setCell_other _ _ _ _ (hne 0)]
  exact h2
end

end Go.Proofs.YtahegjofooahkaaGreat

/-! Moves that are made one after the other: follow, finished, RunMoves, MovesAfter of the program, at the machine with store buffers. -/
namespace Go.Proofs.YtahegjofooahkaaGreat
open Go.RowKit
set_option linter.unusedVariables false
set_option maxRecDepth 100000

/-- What follow hands back. -/
def RetFoB {σ : Type} (M : Mach σ) (W : World) (r : Option σ) (e : Ending) (W' : World) : Prop :=
  ((∃ b t, r = some t ∧ e = .returned (.tuple #[.iface 116 (.pointer (some ⟨b, 0, none⟩)), .bool true]) ∧ M.R W' b t) ∨ (r = none ∧ e = .returned (.tuple #[.nilIface, .bool false]))) ∧ Below W.heap.size W W'
/-- An outcome, or none. -/
def RetOv (W : World) (r : Option (List Int)) (e : Ending) (W' : World) : Prop :=
  ∃ A c, e = .returned (.tuple #[.slice A (r.getD []).length c, .bool r.isSome]) ∧ Ints (above W.heap.size W') A c (r.getD []) ∧ Below W.heap.size W W'

set_option maxHeartbeats 1500000 in
theorem followB_any {σ : Type} (M : Mach σ) (hM : MachP M) (hC : MachCB M) (ms : List Int) (W : World) (b0 : Nat) (h0 : M.R W b0 M.s0) (A : Option Addr) (c : Nat) (hI : Ints W A c ms) :
    Calls Tryz.prog 75 #[.iface 116 (.pointer (some ⟨b0, 0, none⟩)), .slice A ms.length c] W (RetFoB M W (runW M.succ M.mv M.s0 ms)) := by
  have hm := hI.len
  have HI := Lib.hid hI
  clear hI
  go_enter Tryz.func75, Tryz.ntmps75
  go_wp2_with fail
  go_loopg [0, 10] ms.length (fun g s0 s10 wr => ∃ (i b : Nat) (t : σ), i ≤ ms.length ∧ g = ms.length - i ∧ s0 = .iface 116 (.pointer (some ⟨b, 0, none⟩)) ∧ s10 = .int .i64 i ∧ Hid (runW M.succ M.mv M.s0 (ms.take i) = some t) ∧ Hid (M.R wr b t) ∧ Below W.heap.size W wr)
  case atStart => exact ⟨0, b0, M.s0, Nat.zero_le _, rfl, rfl, rfl, by rw [List.take_zero]; rfl, h0, Below.refl _ _⟩
  case round =>
    obtain ⟨i, b, t, hi, rfl, rfl, rfl, hrun, hR, hb⟩ := hrel
    have hre := run_reach (fun s h => hM.len s h) _ _ .start hrun.out
    by_cases hlt : i < ms.length
    · obtain ⟨bm, om, rfl, hbm, k0⟩ := (HI.out.le (Le.below hb)).get hlt
      have Hre := Lib.hid hre
      have hmv := hC.mv t hre wr b hR.out
      have Hstep : Hid (runW M.succ M.mv M.s0 (ms.take (i + 1)) = stepW M.succ M.mv t ms[i]) := by
        show _ = _
        rw [run_take hlt, hrun.out]
        rfl
      have Hnone : Hid (runW M.succ M.mv M.s0 (ms.take (i + 1)) = none → runW M.succ M.mv M.s0 ms = none) := run_take_none hlt
      generalize ms[i] = m at k0 Hstep
      clear hre hrun
      go_wp2_with fail
      refine hmv.mono ?_
      rintro e5 w5 ⟨A5, c5, rfl, hrow5, hb5⟩
      have hB5 := hb.trans (hb5.mono hb.size)
      have hR5 := Lib.hid (hM.le _ _ _ _ (Le.below hb5) hR.out)
      obtain ⟨A6, c6, e6, hi6⟩ := RowI.ints hrow5
      injection e6 with e6 _ e7
      subst e6 e7
      have hct := contI_any (M.mv t) m w5 A5 c5 (Ints.le hi6 (Le.above _ _))
      clear hmv hrow5 hi6 hR k0
      by_cases hin : m ∈ M.mv t
      · rw [decide_eq_true hin] at hct
        obtain ⟨j, hj, hj', e1, e2⟩ := lookup_in (M.mv t) (M.succ t) m (hM.len t Hre.out) hin
        have haf := hC.after t Hre.out j hj' hj w5 b w5 (Le.refl _) hR5.out
        rw [e1] at haf
        have Hrn : Hid (runW M.succ M.mv M.s0 (ms.take (i + 1)) = some (M.succ t)[j]) := by
          show _ = _
          rw [Hstep.out]
          exact e2
        clear hin e1 e2 Hstep Hnone
        go_wp2_with fail
        refine hct.mono ?_
        rintro e8 w8 ⟨rfl, rfl⟩
        clear hct
        go_wp2_with fail
        refine haf.mono ?_
        rintro e9 w9 ⟨b', rfl, hR9, hb9⟩
        have hB9 := hB5.trans (hb9.mono hB5.size)
        have HR9 := Lib.hid (hR9 w9 (Le.below hb9) (Le.above _ _))
        clear haf hR9
        go_wp2_with fail
        go_roundg (ms.length - (i + 1))
        case measure => omega
        case rel => exact ⟨i + 1, b', _, by omega, rfl, rfl, by go_num, Hrn.out, HR9.out, hB9⟩
      · rw [decide_eq_false hin] at hct
        have Hr : Hid (runW M.succ M.mv M.s0 ms = none) := Hnone.out (by rw [Hstep.out]; exact step_none hin)
        clear hin Hstep Hnone
        go_wp2_with fail
        refine hct.mono ?_
        rintro e8 w8 ⟨rfl, rfl⟩
        clear hct
        go_wp2_with fail
        refine bodyPost_ret (v := .tuple #[.nilIface, .bool false]) (by simp [results, Tryz.results75, go_sem]) rfl ?_
        exact ⟨.inr ⟨Hr.out, rfl⟩, hB5⟩
    · obtain rfl : i = ms.length := by omega
      have Hr : Hid (runW M.succ M.mv M.s0 ms = some t) := by
        show _ = _
        have h := hrun.out
        rwa [List.take_length] at h
      clear hre hrun
      go_wp2_with fail
      refine bodyPost_ret (v := .tuple #[.iface 116 (.pointer (some ⟨b, 0, none⟩)), .bool true]) (by simp [results, Tryz.results75, go_sem]) rfl ?_
      exact ⟨.inl ⟨b, t, Hr.out, rfl, hR.out⟩, hb⟩

set_option maxHeartbeats 1500000 in
theorem finishedB_any {σ : Type} (M : Mach σ) (hM : MachP M) (hC : MachCB M) (ms : List Int) (W : World) (b0 : Nat) (h0 : M.R W b0 M.s0) (A : Option Addr) (c : Nat) (hI : Ints W A c ms) :
    Calls Tryz.prog 62 #[.iface 116 (.pointer (some ⟨b0, 0, none⟩)), .slice A ms.length c] W (RetOv W (resW M.succ M.mv M.done M.out M.s0 ms)) := by
  have hfo := followB_any M hM hC ms W b0 h0 A c hI
  have Hreach : Hid (∀ t, runW M.succ M.mv M.s0 ms = some t → Reach M.succ M.s0 t) := fun t h => run_reach (fun s h => hM.len s h) _ _ .start h
  have Hres : Hid (∀ t, runW M.succ M.mv M.s0 ms = some t → resW M.succ M.mv M.done M.out M.s0 ms = if M.done t = true then some (M.out t) else none) := fun t h => by unfold resW; rw [h]; rfl
  have Hnone : Hid (runW M.succ M.mv M.s0 ms = none → resW M.succ M.mv M.done M.out M.s0 ms = none) := fun h => by unfold resW; rw [h]; rfl
  go_enter Tryz.func62, Tryz.ntmps62
  go_wp2_with fail
  refine hfo.mono ?_
  rintro e1 w1 ⟨⟨b, t, hrun, rfl, hR⟩ | ⟨hrun, rfl⟩, hb1⟩
  · have Hre := Lib.hid (Hreach.out t hrun)
    have Hr := Lib.hid (Hres.out t hrun)
    have HR := Lib.hid hR
    have hdn := hC.done t Hre.out w1 b hR
    clear hfo hrun hR Hreach Hres Hnone
    go_wp2_with fail
    refine hdn.mono ?_
    rintro e2 w2 ⟨rfl, hb2⟩
    have hB2 := hb1.trans (hb2.mono hb1.size)
    have HR2 := Lib.hid (hM.le _ _ _ _ (Le.below hb2) HR.out)
    clear hdn HR
    cases hd : M.done t
    · have Hr2 : Hid (resW M.succ M.mv M.done M.out M.s0 ms = none) := by show _ = _; rw [Hr.out, hd]; rfl
      clear hd Hr
      go_wp2_with fail
      refine bodyPost_ret (v := .tuple #[.slice none 0 0, .bool false]) (by simp [results, Tryz.results62, go_sem]) rfl ?_
      rw [Hr2.out]
      exact ⟨none, 0, rfl, Ints.nil _ _, hB2⟩
    · have Hr2 : Hid (resW M.succ M.mv M.done M.out M.s0 ms = some (M.out t)) := by show _ = _; rw [Hr.out, hd]; rfl
      have hou := hC.out t Hre.out w2 b HR2.out
      clear hd Hr
      go_wp2_with fail
      refine hou.mono ?_
      rintro e3 w3 ⟨A3, c3, rfl, hrow3, hb3⟩
      have hB3 := hB2.trans (hb3.mono hB2.size)
      have Hrow := Lib.hid hrow3
      have hsz := hB2.size
      clear hou hrow3
      go_wp2_with fail
      refine bodyPost_ret (v := .tuple #[.slice A3 (M.out t).length c3, .bool true]) (by simp [results, Tryz.results62, go_sem]) rfl ?_
      obtain ⟨A4, c4, e4, hi4⟩ := RowI.ints Hrow.out
      injection e4 with e4 _ e5
      subst e4 e5
      rw [Hr2.out]
      exact ⟨A3, c3, rfl, hi4.le (Le.above_mono hsz _), hB3⟩
  · have Hr := Lib.hid (Hnone.out hrun)
    clear hfo hrun Hreach Hres Hnone
    go_wp2_with fail
    refine bodyPost_ret (v := .tuple #[.slice none 0 0, .bool false]) (by simp [results, Tryz.results62, go_sem]) rfl ?_
    rw [Hr.out]
    exact ⟨none, 0, rfl, Ints.nil _ _, hb1⟩

/-- What moves lead to. -/
noncomputable def mvsR (p : Prg) (sp : Bool) (ms : List Int) : Option (List Int) := if prgB p = true then resW (sucB p sp) (fun s => mvBI p sp s (p.length + s.bufs.length)) (doneB p) outB (bt0 p sp) ms else none
/-- The moves that are possible after moves. -/
noncomputable def mvsA (p : Prg) (sp : Bool) (ms : List Int) : List Int := if prgB p = true then match runW (sucB p sp) (fun s => mvBI p sp s (p.length + s.bufs.length)) (bt0 p sp) ms with
  | some t => mvBI p sp t (p.length + t.bufs.length)
  | none => [] else []

set_option maxHeartbeats 1000000 in
theorem implRM_any (p : Prg) (hl : p.length ≤ 1048576) (hls : ∀ t ∈ p, t.length ≤ 1048576) (sp : Bool) (ms : List Int) (W : World) (v : Value) (hr : PrgS W v p) (B : Option Addr) (d : Nat) (hI : Ints W B d ms) : Calls Tryz.prog 20 #[v, .bool sp, .slice B ms.length d] W (RetOv W (mvsR p sp ms)) := by
  have hv := implPrg_any p hl hls W v hr
  have HR := Lib.hid hr
  have HI := Lib.hid hI
  have hm := hI.len
  obtain ⟨A, c, rfl, _⟩ := hr.slice
  have HF : Hid (prgB p = false → mvsR p sp ms = none) := fun h => by unfold mvsR; rw [h]; rfl
  have HT : Hid (prgB p = true → PrgOk p ∧ mvsR p sp ms = resW (sucB p sp) (fun s => mvBI p sp s (p.length + s.bufs.length)) (doneB p) outB (bt0 p sp) ms) := fun h => ⟨prgB_iff.1 h, by unfold mvsR; rw [if_pos h]⟩
  clear hI
  go_enter Tryz.func20, Tryz.ntmps20
  go_wp2_with fail
  refine hv.mono ?_
  rintro e1 w1 ⟨rfl, hb1⟩
  clear hv
  cases hpb : prgB p
  · have Hn := Lib.hid (HF.out hpb)
    clear hpb HT HF
    go_wp2_with fail
    refine bodyPost_ret (v := .tuple #[.slice none 0 0, .bool false]) (by simp [results, Tryz.results20, go_sem]) rfl ?_
    rw [Hn.out]
    exact ⟨none, 0, rfl, Ints.nil _ _, hb1⟩
  · obtain ⟨hp, hs⟩ := HT.out hpb
    have Hp := Lib.hid hp
    have Hs := Lib.hid hs
    have hns := newBuffers_any p (by have := Hp.out.1.1; omega) sp w1 _ (HR.out.le (Le.below hb1))
    clear hpb HT HF hp hs
    go_wp2_with fail
    refine hns.mono ?_
    rintro e2 w2 ⟨Ap, cp, b, e, rfl, hR, hpr2, hb2⟩
    injection e with e1 _ e3
    subst e1 e3
    have hB2 := hb1.trans (hb2.mono hb1.size)
    have hfi := finishedB_any (bufM p sp A c) (bufM_P Hp.out sp A c) (bufM_C Hp.out sp A c) ms w2 b ⟨hR, hpr2⟩ B d (HI.out.le (Le.below hB2))
    clear hns hR hpr2
    go_wp2_with fail
    refine hfi.mono ?_
    rintro e3 w3 ⟨A3, c3, rfl, hi3, hb3⟩
    have hB3 := hB2.trans (hb3.mono hB2.size)
    have hsz := hB2.size
    have Hi3 := Lib.hid hi3
    clear hfi hi3
    obtain ⟨r, hr3⟩ : ∃ r, r = resW (bufM p sp A c).succ (bufM p sp A c).mv (bufM p sp A c).done (bufM p sp A c).out (bufM p sp A c).s0 ms := ⟨_, rfl⟩
    have Hr3 : Hid (mvsR p sp ms = r) := by show _ = _; rw [hr3]; exact Hs.out
    rw [← hr3] at Hi3 ⊢
    clear hr3 Hs
    go_wp2_with fail
    refine bodyPost_ret (v := .tuple #[.slice A3 (r.getD []).length c3, .bool r.isSome]) (by simp [results, Tryz.results20, go_sem]) rfl ?_
    rw [Hr3.out]
    exact ⟨A3, c3, rfl, Hi3.out.le (Le.above_mono hsz _), hB3⟩

/-- A list of moves. -/
def RetIv (W : World) (r : List Int) (e : Ending) (W' : World) : Prop :=
  ∃ A c, e = .returned (.slice A r.length c) ∧ Ints (above W.heap.size W') A c r ∧ Below W.heap.size W W'
set_option maxHeartbeats 1000000 in
theorem implMA_any (p : Prg) (hl : p.length ≤ 1048576) (hls : ∀ t ∈ p, t.length ≤ 1048576) (sp : Bool) (ms : List Int) (W : World) (v : Value) (hr : PrgS W v p) (B : Option Addr) (d : Nat) (hI : Ints W B d ms) : Calls Tryz.prog 33 #[v, .bool sp, .slice B ms.length d] W (RetIv W (mvsA p sp ms)) := by
  have hv := implPrg_any p hl hls W v hr
  have HR := Lib.hid hr
  have HI := Lib.hid hI
  have hm := hI.len
  obtain ⟨A, c, rfl, _⟩ := hr.slice
  have HF : Hid (prgB p = false → mvsA p sp ms = []) := fun h => by unfold mvsA; rw [h]; rfl
  have HN : Hid (runW (sucB p sp) (fun s => mvBI p sp s (p.length + s.bufs.length)) (bt0 p sp) ms = none → mvsA p sp ms = []) := fun h => by unfold mvsA; rw [h]; split <;> rfl
  have HT : Hid (prgB p = true → PrgOk p ∧ ∀ t, runW (sucB p sp) (fun s => mvBI p sp s (p.length + s.bufs.length)) (bt0 p sp) ms = some t → mvsA p sp ms = mvBI p sp t (p.length + t.bufs.length)) := fun h => ⟨prgB_iff.1 h, fun t ht => by unfold mvsA; rw [if_pos h, ht]⟩
  clear hI
  go_enter Tryz.func33, Tryz.ntmps33
  go_wp2_with fail
  refine hv.mono ?_
  rintro e1 w1 ⟨rfl, hb1⟩
  clear hv
  cases hpb : prgB p
  · have Hn := Lib.hid (HF.out hpb)
    clear hpb HT HF HN
    go_wp2_with fail
    go_ret
    rw [Hn.out]
    exact ⟨none, 0, rfl, Ints.nil _ _, hb1⟩
  · obtain ⟨hp, hs⟩ := HT.out hpb
    have Hp := Lib.hid hp
    have Hs := Lib.hid hs
    have hns := newBuffers_any p (by have := Hp.out.1.1; omega) sp w1 _ (HR.out.le (Le.below hb1))
    clear hpb HT HF hp hs
    go_wp2_with fail
    refine hns.mono ?_
    rintro e2 w2 ⟨Ap, cp, b, e, rfl, hR, hpr2, hb2⟩
    injection e with e1 _ e3
    subst e1 e3
    have hB2 := hb1.trans (hb2.mono hb1.size)
    have hfi := followB_any (bufM p sp A c) (bufM_P Hp.out sp A c) (bufM_C Hp.out sp A c) ms w2 b ⟨hR, hpr2⟩ B d (HI.out.le (Le.below hB2))
    have Hrun : Hid (∀ t, runW (bufM p sp A c).succ (bufM p sp A c).mv (bufM p sp A c).s0 ms = some t → Reach (bufM p sp A c).succ (bufM p sp A c).s0 t ∧ mvsA p sp ms = (bufM p sp A c).mv t) := fun t h => ⟨run_reach (fun s h => (bufM_P Hp.out sp A c).len s h) _ _ .start h, Hs.out t h⟩
    have HNo : Hid (runW (bufM p sp A c).succ (bufM p sp A c).mv (bufM p sp A c).s0 ms = none → mvsA p sp ms = []) := fun h => HN.out h
    clear hns hR hpr2 Hs HN
    go_wp2_with fail
    refine hfi.mono ?_
    rintro e3 w3 ⟨⟨b', t, hrt, rfl, hRt⟩ | ⟨hno, rfl⟩, hb3⟩
    · obtain ⟨hre, hma⟩ := Hrun.out t hrt
      have Hma := Lib.hid hma
      have hB3 := hB2.trans (hb3.mono hB2.size)
      have hmv := (bufM_C Hp.out sp A c).mv t hre w3 b' hRt
      clear hfi hrt hRt hre hma Hrun HNo
      generalize (bufM p sp A c).mv t = zs at hmv Hma
      go_wp2_with fail
      refine hmv.mono ?_
      rintro e5 w5 ⟨A5, c5, rfl, hrow5, hb5⟩
      have hsz := hB3.size
      have hB5 := hB3.trans (hb5.mono hB3.size)
      obtain ⟨A6, c6, e6, hi6⟩ := RowI.ints hrow5
      injection e6 with e6 _ e7
      subst e6 e7
      have Hi6 := Lib.hid hi6
      clear hmv hrow5 hi6
      go_wp2_with fail
      go_ret
      rw [Hma.out]
      exact ⟨_, _, rfl, Hi6.out.le (Le.above_mono hsz _), hB5⟩
    · have Hn := Lib.hid (HNo.out hno)
      have hB3 := hB2.trans (hb3.mono hB2.size)
      clear hfi hno Hrun HNo
      go_wp2_with fail
      go_ret
      rw [Hn.out]
      exact ⟨none, 0, rfl, Ints.nil _ _, hB3⟩

end Go.Proofs.YtahegjofooahkaaGreat

/-! The reference's l4After, RunMoves. -/
namespace Go.Proofs.YtahegjofooahkaaGreat
open Go.RowKit
set_option linter.unusedVariables false
set_option maxRecDepth 100000

theorem mvF_mem {p : Prg} {sp : Bool} {s : BSt} {m : Int} : m ∈ mvBI p sp s (p.length + s.bufs.length) ↔ can4 p sp s m = true := by
  rw [mvBI_eq, List.mem_map]
  constructor
  · rintro ⟨k, h, rfl⟩
    unfold mvB at h
    rw [List.mem_filter, List.mem_range] at h
    rw [can4_nat]
    exact h.2
  · intro h
    rcases Int.lt_or_le m 0 with hn | hn
    · rw [can4_neg hn] at h
      cases h
    · obtain ⟨k, rfl⟩ : ∃ k : Nat, m = (k : Int) := ⟨m.toNat, by omega⟩
      rw [can4_nat] at h
      refine ⟨k, ?_, rfl⟩
      unfold mvB
      rw [List.mem_filter, List.mem_range]
      refine ⟨?_, h⟩
      rcases Nat.lt_or_ge k (p.length + s.bufs.length) with hk | hk
      · exact hk
      · rw [canB_big hk] at h
        cases h
theorem buf_len (p : Prg) (sp : Bool) : ∀ s, Reach (sucB p sp) (bt0 p sp) s → (mvBI p sp s (p.length + s.bufs.length)).length = (sucB p sp s).length := fun s _ => by
  rw [mvBI_eq]
  unfold sucB
  rw [List.length_map, List.length_map]
theorem buf_step {p : Prg} {sp : Bool} {s : BSt} {m : Nat} (h : canB p sp s m = true) : stepW (sucB p sp) (fun s => mvBI p sp s (p.length + s.bufs.length)) s (m : Int) = some (nxB p sp s m) := by
  have hl : (mvBI p sp s (p.length + s.bufs.length)).length = (sucB p sp s).length := by rw [mvBI_eq]; unfold sucB; rw [List.length_map, List.length_map]
  obtain ⟨i, hi, hj, h1, h2⟩ := lookup_in (mvBI p sp s (p.length + s.bufs.length)) (sucB p sp s) (m : Int) hl (mvF_mem.2 (by rw [can4_nat]; exact h))
  unfold stepW
  rw [h2]
  have h3 : (mvB p sp s)[i]'(by unfold sucB at hj; rw [List.length_map] at hj; exact hj) = m := by
    simp only [mvBI_eq, List.getElem_map] at h1
    omega
  simp only [sucB, List.getElem_map, h3]
theorem buf_none {p : Prg} {sp : Bool} {s : BSt} {m : Int} (h : can4 p sp s m = false) : stepW (sucB p sp) (fun s => mvBI p sp s (p.length + s.bufs.length)) s m = none :=
  step_none fun hm => by
    rw [mvF_mem.1 hm] at h
    cases h
/-- What l4After hands back. -/
def RetAf (p : Prg) (sp : Bool) (ms : List Int) (W : World) (e : Ending) (W' : World) : Prop := ∃ (b : BSt) (ok : Bool) (A1 A2 A3 A4 : Option Addr) (c1 c2 c3 c4 : Nat), e = .returned (.tuple #[.agg #[.slice A1 (s3B b).at_.length c1, .slice A2 (s3B b).regs.length c2, .slice A3 (s3B b).mem.length c3, .slice A4 (s3B b).buf.length c4], .bool ok]) ∧
  Rep4 (above W.heap.size W') A1 A2 A3 A4 c1 c2 c3 c4 (s3B b) ∧ Reach (sucB p sp) (bt0 p sp) b ∧ runW (sucB p sp) (fun s => mvBI p sp s (p.length + s.bufs.length)) (bt0 p sp) ms = (if ok = true then some b else none) ∧ Below W.heap.size W W'

set_option maxHeartbeats 3000000 in
theorem l4After_any (p : Prg) (hp : PrgOk p) (sp : Bool) (ms : List Int) (W : World) (v : Value) (hr : PrgS W v p) (B : Option Addr) (cm : Nat) (hI : Ints W B cm ms) : Calls Tryz.prog 72 #[v, .bool sp, .slice B ms.length cm] W (RetAf p sp ms W) := by
  obtain ⟨V0, hV0⟩ : ∃ V0, V0 = W.alloc (.cells #[.slice none 0 0, .slice none 0 0, .slice none 0 0, .slice none 0 0] 70) := ⟨_, rfl⟩
  have hB0 : Below W.heap.size W V0 := by rw [hV0]; exact (Below.refl _ _).alloc (Nat.le_refl _) _
  have o0 : Own V0 W.heap.size 70 #[.slice none 0 0, .slice none 0 0, .slice none 0 0, .slice none 0 0] := by rw [hV0]; exact Own.new _ _ _
  have hs0 : V0.heap.size = W.heap.size + 1 := by rw [hV0]; simp
  have hst := l4Start_any p hp sp V0 v (hr.le (Le.below hB0))
  have HR := Lib.hid hr
  have HI := Lib.hid hI
  have Hp := Lib.hid hp
  have hm := hI.len
  obtain ⟨A, c, rfl, _⟩ := hr.slice
  clear hI hr hp
  go_enter Tryz.func72, Tryz.ntmps72
  have oR0 : Hid (∀ U, Below V0.heap.size V0 U → Own U W.heap.size 70 #[.slice none 0 0, .slice none 0 0, .slice none 0 0, .slice none 0 0]) := fun U hU => o0.under hU
  have HFin : Hid (∀ U, Below V0.heap.size V0 U → ∀ v0 v1 v2 v3, Below W.heap.size W ((((U.setCell ⟨W.heap.size, 0, none⟩ v0).setCell ⟨W.heap.size, 1, none⟩ v1).setCell ⟨W.heap.size, 2, none⟩ v2).setCell ⟨W.heap.size, 3, none⟩ v3)) := fun U hU v0 v1 v2 v3 => ((((hB0.trans (hU.mono (by omega))).setCell (Nat.le_refl _) _).setCell (Nat.le_refl _) _).setCell (Nat.le_refl _) _).setCell (Nat.le_refl _) _
  clear o0
  go_upto_region 1 with (fail)
  rw [← hV0]
  clear hV0
  go_wp2_with fail
  refine hst.mono ?_
  rintro e5 w5 ⟨A1, A2, A3, A4, c1, c2, c3, c4, rfl, hr5, hb5⟩
  clear hst
  have Hre0 : Hid (Reach (sucB p sp) (bt0 p sp) (bt0 p sp)) := .start
  have hbx := Bx.new (hr5.le (Le.above _ _))
  obtain ⟨q, hq⟩ : ∃ q, q = bt0 p sp := ⟨_, rfl⟩
  rw [← hq] at hr5 hbx ⊢
  obtain ⟨b, hbe⟩ : ∃ b, b = w5.heap.size := ⟨_, rfl⟩
  have hbW : V0.heap.size ≤ b := by rw [hbe]; exact hb5.size
  have hB6 := hb5.alloc hb5.size (.cells #[.slice A1 (s3B q).at_.length c1, .slice A2 (s3B q).regs.length c2, .slice A3 (s3B q).mem.length c3, .slice A4 (s3B q).buf.length c4] 70)
  obtain ⟨w6, hw6⟩ : ∃ w6, w6 = w5.alloc (.cells #[.slice A1 (s3B q).at_.length c1, .slice A2 (s3B q).regs.length c2, .slice A3 (s3B q).mem.length c3, .slice A4 (s3B q).buf.length c4] 70) := ⟨_, rfl⟩
  have hr6 : Hid (Rep4 (above V0.heap.size w6) A1 A2 A3 A4 c1 c2 c3 c4 (s3B q)) := by
    show Rep4 _ _ _ _ _ _ _ _ _ _
    rw [hw6]
    exact hr5.le (Le.above_le _ (Le.alloc _ _))
  rw [← hw6] at hbx hB6
  rw [← hbe] at hbx
  have Hbx := Lib.hid hbx
  have Hq := Lib.hid hq
  clear hr5 hb5 hbx hq
  go_upto_region 4 with (fail)
  rw [← hw6, ← hbe]
  clear hw6 hbe
  go_wp2_with fail
  go_loopg [9] ms.length (fun g s7 wr => ∃ (i : Nat) (s : BSt) (A1 A2 A3 A4 : Option Addr) (c1 c2 c3 c4 : Nat), i ≤ ms.length ∧ g = ms.length - i ∧ s7 = .int .i64 i ∧ Hid (runW (sucB p sp) (fun s => mvBI p sp s (p.length + s.bufs.length)) (bt0 p sp) (ms.take i) = some s) ∧ Hid (Bx wr b A1 A2 A3 A4 c1 c2 c3 c4 (s3B s)) ∧ Hid (Rep4 (above V0.heap.size wr) A1 A2 A3 A4 c1 c2 c3 c4 (s3B s)) ∧ Below V0.heap.size V0 wr)
  case atStart => exact ⟨0, q, A1, A2, A3, A4, c1, c2, c3, c4, Nat.zero_le _, rfl, rfl, by rw [List.take_zero, Hq.out]; rfl, Hbx.out, hr6.out, hB6⟩
  case round =>
    clear Hbx hB6 hr6
    obtain ⟨wo, rfl⟩ : ∃ wo : World, wo = wr := ⟨_, rfl⟩
    obtain ⟨i, s, A1, A2, A3, A4, c1, c2, c3, c4, hi, rfl, rfl, hrun, hbx, hrep, hb⟩ := hrel
    have hre := run_reach (buf_len p sp) _ _ .start hrun.out
    have hok := reachB_ok Hp.out hre
    have Hok := Lib.hid hok
    have hbl := hbx.out.own.lt
    obtain ⟨q0, q1, q2, q3⟩ := hbx.out.cells
    have hpr := HR.out.le (Le.below (hB0.trans (hb.mono (by omega))))
    have Hre := Lib.hid hre
    by_cases hlt : i < ms.length
    · obtain ⟨bm, om, rfl, hbm, k0⟩ := (HI.out.le (Le.below (hB0.trans (hb.mono (by omega))))).get hlt
      have Hstep : Hid (runW (sucB p sp) (fun s => mvBI p sp s (p.length + s.bufs.length)) (bt0 p sp) (ms.take (i + 1)) = stepW (sucB p sp) (fun s => mvBI p sp s (p.length + s.bufs.length)) s ms[i]) := by
        show _ = _
        rw [run_take hlt, hrun.out]
        rfl
      have Hnone : Hid (runW (sucB p sp) (fun s => mvBI p sp s (p.length + s.bufs.length)) (bt0 p sp) (ms.take (i + 1)) = none → runW (sucB p sp) (fun s => mvBI p sp s (p.length + s.bufs.length)) (bt0 p sp) ms = none) := run_take_none hlt
      generalize ms[i] = m at k0 Hstep Hnone
      obtain ⟨cn, hcn⟩ : ∃ cn, cn = can4 p sp s m := ⟨_, rfl⟩
      have HCan : Hid (∀ U, Below wo.heap.size wo U → Calls Tryz.prog 89 #[.slice A p.length c, .agg #[.slice A1 (s3B s).at_.length c1, .slice A2 (s3B s).regs.length c2, .slice A3 (s3B s).mem.length c3, .slice A4 (s3B s).buf.length c4], .bool sp, .int .i64 m] U (fun e U' => e = .returned (.bool cn) ∧ Below U.heap.size U U')) := fun U hU => by
        rw [hcn]
        exact l4Can_any p Hp.out sp s Hok.out m U _ (hpr.le (Le.below hU)) A1 A2 A3 A4 c1 c2 c3 c4 ((hbx.out.below hU).rep.le (Le.hidP _ _))
      have f0 := fun n : Ext wo => n.le _ _ q0
      have f1 := fun n : Ext wo => n.le _ _ q1
      have f2 := fun n : Ext wo => n.le _ _ q2
      have f3 := fun n : Ext wo => n.le _ _ q3
      have f4 := fun n : Ext wo => n.le _ _ k0
      have Hcn := Lib.hid hcn
      clear hre hrun hok hpr hcn q0 q1 q2 q3
      go_wp2_with fail
      refine wp_region_ext wo (by kernel_rfl) (by kernel_rfl) (Below.refl _ _) ?_
      repeat (go_big_quiet_step ((go_at_call 89; with_reducible exact Ext.call _ HCan.out)))
      refine wpQuiet_nil ?_
      rintro w7 ⟨⟨_, hb7⟩, rfl⟩
      clear f0 f1 f2 f3 f4 HCan
      have hB7 := hb.trans (hb7.mono hb.size)
      have hbx7 := Lib.hid (hbx.out.below hb7)
      have hrep7 : Hid (Rep4 (above V0.heap.size w7) A1 A2 A3 A4 c1 c2 c3 c4 (s3B s)) := hrep.out.le (Le.above_le _ (Le.below hb7))
      have k7 := Le.below hb7 _ _ k0
      obtain ⟨q0, q1, q2, q3⟩ := hbx7.out.cells
      have hbl7 := hbx7.out.own.lt
      clear hbx hrep hb7 k0
      cases cn
      · have hcn : can4 p sp s m = false := Hcn.out.symm
        have Hr : Hid (runW (sucB p sp) (fun s => mvBI p sp s (p.length + s.bufs.length)) (bt0 p sp) ms = none) := Hnone.out (by rw [Hstep.out]; exact buf_none hcn)
        have oR := oR0.out w7 hB7
        have f0 := oR.frozen 0
        have f1 := oR.frozen 1
        have f2 := oR.frozen 2
        have f3 := oR.frozen 3
        have x0 := oR.cell (i := 0) rfl
        have x1 := oR.cell (i := 1) rfl
        have x2 := oR.cell (i := 2) rfl
        have x3 := oR.cell (i := 3) rfl
        have hlR := oR.lt
        clear Hstep Hnone hcn oR k7 Hcn
        go_wp2_with fail
        refine bodyPost_ret (v := .tuple #[.agg #[.slice A1 (s3B s).at_.length c1, .slice A2 (s3B s).regs.length c2, .slice A3 (s3B s).mem.length c3, .slice A4 (s3B s).buf.length c4], .bool false]) (by simp [results, Tryz.results72, go_sem, x0, x1, x2, x3]) rfl ?_
        exact ⟨s, false, A1, A2, A3, A4, c1, c2, c3, c4, rfl, (hrep7.out.setR (by omega) _ _ _ _).le (Le.above_mono hB0.size _), Hre.out, Hr.out, HFin.out w7 hB7 _ _ _ _⟩
      · have hcn : can4 p sp s m = true := Hcn.out.symm
        obtain ⟨k, rfl⟩ : ∃ k : Nat, m = (k : Int) := ⟨m.toNat, by
          rcases Int.lt_or_le m 0 with hn | hn
          · rw [can4_neg hn] at hcn
            cases hcn
          · omega⟩
        rw [can4_nat] at hcn
        have Hrn : Hid (runW (sucB p sp) (fun s => mvBI p sp s (p.length + s.bufs.length)) (bt0 p sp) (ms.take (i + 1)) = some (nxB p sp s k)) := by
          show _ = _
          rw [Hstep.out]
          exact buf_step hcn
        have HDo : Hid (∀ U, Below w7.heap.size w7 U → Calls Tryz.prog 90 #[.slice A p.length c, .agg #[.slice A1 (s3B s).at_.length c1, .slice A2 (s3B s).regs.length c2, .slice A3 (s3B s).mem.length c3, .slice A4 (s3B s).buf.length c4], .bool sp, .int .i64 k] U (RetS4 U (s3B (nxB p sp s k)))) := fun U hU => l4Do_any p Hp.out sp s Hok.out k hcn U _ (HR.out.le (Le.below (hB0.trans ((hB7.trans (hU.mono hB7.size)).mono (by omega))))) A1 A2 A3 A4 c1 c2 c3 c4 ((hbx7.out.below hU).rep.le (Le.hidP _ _))
        clear Hstep Hnone hcn Hcn
        go_wp2_with fail
        -- REGION7
        obtain ⟨fr7, hfr7⟩ : ∃ f : Nat → Value, f = (fun d => match d with | 29 => .slice A p.length c | 30 => .agg #[.slice A1 (s3B s).at_.length c1, .slice A2 (s3B s).regs.length c2, .slice A3 (s3B s).mem.length c3, .slice A4 (s3B s).buf.length c4] | 31 => .bool sp | 32 => .slice (some ⟨bm, om, none⟩) ms.length cm | 33 => .int .i64 i | 34 => .pointer (some ⟨bm, om + i, none⟩) | 35 => .int .i64 k | _ => undef) := ⟨_, rfl⟩
        have hf29 : fr7 29 = .slice A p.length c := congrFun hfr7 29
        have hf30 : fr7 30 = .agg #[.slice A1 (s3B s).at_.length c1, .slice A2 (s3B s).regs.length c2, .slice A3 (s3B s).mem.length c3, .slice A4 (s3B s).buf.length c4] := congrFun hfr7 30
        have hf31 : fr7 31 = .bool sp := congrFun hfr7 31
        have hf32 : fr7 32 = .slice (some ⟨bm, om, none⟩) ms.length cm := congrFun hfr7 32
        have hf33 : fr7 33 = .int .i64 i := congrFun hfr7 33
        have hf34 : fr7 34 = .pointer (some ⟨bm, om + i, none⟩) := congrFun hfr7 34
        have hf35 : fr7 35 = .int .i64 k := congrFun hfr7 35
        clear hfr7
        refine wp_region_rel [0, 1, 2, 3, 4, 5, 6] [7, 8] (TEq fr7) (fun _ => 0) [29, 30, 31, 32, 33, 34, 35] (by kernel_rfl) (by kernel_rfl) rfl (by simp) teq_nx teq_blk ?_ ?_
        · refine ⟨?_, ?_, ?_, ?_, ?_, ?_, ?_, trivial⟩
          all_goals (intro xs w hw hdep hsep; have hbw := nx_below hw; simp only [shpA, fillL, List.contains_cons, List.contains_nil, Nat.reduceAdd, Nat.reduceBEq, Bool.or_false, Bool.or_true, Bool.false_eq_true, ↓reduceIte])
          · go_wp2_with fail
            exact RelPost.mk (Nx.refl _) _ rfl hf29.symm rfl
          · have q0 := Le.below hbw _ _ q0
            have q1 := Le.below hbw _ _ q1
            have q2 := Le.below hbw _ _ q2
            have q3 := Le.below hbw _ _ q3
            go_wp2_with fail
            exact RelPost.mk (Nx.refl _) _ rfl hf30.symm rfl
          · go_wp2_with fail
            exact RelPost.mk (Nx.refl _) _ rfl hf31.symm rfl
          · go_wp2_with fail
            exact RelPost.mk (Nx.refl _) _ rfl hf32.symm rfl
          · go_wp2_with fail
            exact RelPost.mk (Nx.refl _) _ rfl hf33.symm rfl
          · have e32 : xs 32 = .slice (some ⟨bm, om, none⟩) ms.length cm := (show xs 32 = fr7 32 from hdep 32 (List.mem_of_elem_eq_true (by kernel_rfl))).trans hf32
            have e33 : xs 33 = .int .i64 i := (show xs 33 = fr7 33 from hdep 33 (List.mem_of_elem_eq_true (by kernel_rfl))).trans hf33
            rw [e32, e33]
            go_wp2_with fail
            exact RelPost.mk (Nx.refl _) _ rfl hf34.symm rfl
          · have e34 : xs 34 = .pointer (some ⟨bm, om + i, none⟩) := (show xs 34 = fr7 34 from hdep 34 (List.mem_of_elem_eq_true (by kernel_rfl))).trans hf34
            have q0 := Le.below hbw _ _ k7
            rw [e34]
            go_wp2_with fail
            exact RelPost.mk (Nx.refl _) _ rfl hf35.symm rfl
        · intro xs wn hw hT hsep
          have hbw := nx_below hw
          have e29 : xs 29 = .slice A p.length c := (show xs 29 = fr7 29 from hT 29 (List.mem_of_elem_eq_true (by kernel_rfl))).trans hf29
          have e30 : xs 30 = .agg #[.slice A1 (s3B s).at_.length c1, .slice A2 (s3B s).regs.length c2, .slice A3 (s3B s).mem.length c3, .slice A4 (s3B s).buf.length c4] := (show xs 30 = fr7 30 from hT 30 (List.mem_of_elem_eq_true (by kernel_rfl))).trans hf30
          have e31 : xs 31 = .bool sp := (show xs 31 = fr7 31 from hT 31 (List.mem_of_elem_eq_true (by kernel_rfl))).trans hf31
          have e35 : xs 35 = .int .i64 k := (show xs 35 = fr7 35 from hT 35 (List.mem_of_elem_eq_true (by kernel_rfl))).trans hf35
          show wpList _ _ _ [_, _] _ _
          simp only [shpA, fillL, List.contains_cons, List.contains_nil, Nat.reduceAdd, Nat.reduceBEq, Bool.or_false, Bool.or_true, Bool.false_eq_true, ↓reduceIte]
          rw [e29, e30, e31, e35]
          clear hT hsep hw e29 e30 e31 e35 hf29 hf30 hf31 hf32 hf33 hf34 hf35
          generalize xs 32 = u32x
          generalize xs 33 = u33x
          generalize xs 34 = u34x
        -- END7
          have hdo := HDo.out wn hbw
          have hbxn := Lib.hid (hbx7.out.below hbw)
          have hBn := hB7.trans (hbw.mono hB7.size)
          have hbln := hbxn.out.own.lt
          clear q0 q1 q2 q3 k7 hbx7 hrep7 HDo hbw
          go_wp2_with fail
          refine hdo.mono ?_
          rintro e8 w8 ⟨D1, D2, D3, D4, d1, d2, d3, d4, rfl, hr8, hb8⟩
          have hbx8 := hbxn.out.below hb8
          have hput := Lib.hid (hbx8.put hbln hr8)
          have hrp := Lib.hid ((hr8.setR hbln (.slice D1 (s3B (nxB p sp s k)).at_.length d1) (.slice D2 (s3B (nxB p sp s k)).regs.length d2) (.slice D3 (s3B (nxB p sp s k)).mem.length d3) (.slice D4 (s3B (nxB p sp s k)).buf.length d4)).le (Le.above_mono hBn.size _))
          have hB8 := hBn.trans (hb8.mono hBn.size)
          obtain ⟨p0, p1, p2, p3⟩ := hbx8.cells
          have y0 := hbx8.own.frozen 0
          have y1 := hbx8.own.frozen 1
          have y2 := hbx8.own.frozen 2
          have y3 := hbx8.own.frozen 3
          have hbl8 := hbx8.own.lt
          clear hdo hr8 hbxn hb8
          go_wp2_with fail
          go_roundg (ms.length - (i + 1))
          case measure => omega
          case rel => exact ⟨i + 1, nxB p sp s k, D1, D2, D3, D4, d1, d2, d3, d4, by omega, rfl, by go_num, Hrn.out, hput.out, hrp.out, (((hB8.setCell (p := ⟨b, 0, none⟩) hbW _).setCell (p := ⟨b, 1, none⟩) hbW _).setCell (p := ⟨b, 2, none⟩) hbW _).setCell (p := ⟨b, 3, none⟩) hbW _⟩
    · obtain rfl : i = ms.length := by omega
      have Hr : Hid (runW (sucB p sp) (fun s => mvBI p sp s (p.length + s.bufs.length)) (bt0 p sp) ms = some s) := by
        show _ = _
        have h := hrun.out
        rwa [List.take_length] at h
      have oR := oR0.out wo hb
      have f0 := oR.frozen 0
      have f1 := oR.frozen 1
      have f2 := oR.frozen 2
      have f3 := oR.frozen 3
      have x0 := oR.cell (i := 0) rfl
      have x1 := oR.cell (i := 1) rfl
      have x2 := oR.cell (i := 2) rfl
      have x3 := oR.cell (i := 3) rfl
      have hlR := oR.lt
      clear hre hrun hok hpr oR
      go_wp2_with fail
      refine bodyPost_ret (v := .tuple #[.agg #[.slice A1 (s3B s).at_.length c1, .slice A2 (s3B s).regs.length c2, .slice A3 (s3B s).mem.length c3, .slice A4 (s3B s).buf.length c4], .bool true]) (by simp [results, Tryz.results72, go_sem, x0, x1, x2, x3]) rfl ?_
      exact ⟨s, true, A1, A2, A3, A4, c1, c2, c3, c4, rfl, (hrep.out.setR (by omega) _ _ _ _).le (Le.above_mono hB0.size _), Hre.out, Hr.out, HFin.out wo hb _ _ _ _⟩

set_option maxHeartbeats 2000000 in
theorem specRM_any (p : Prg) (hl : p.length ≤ 1048576) (sp : Bool) (ms : List Int) (W : World) (v : Value) (hr : PrgS W v p) (B : Option Addr) (cm : Nat) (hI : Ints W B cm ms) : Calls Tryz.prog 32 #[v, .bool sp, .slice B ms.length cm] W (RetOv W (mvsR p sp ms)) := by
  have hv := specPrg_any p hl W v hr
  have HR := Lib.hid hr
  have HI := Lib.hid hI
  have hm := hI.len
  obtain ⟨A, c, rfl, _⟩ := hr.slice
  have HF : Hid (prgB p = false → mvsR p sp ms = none) := fun h => by unfold mvsR; rw [h]; rfl
  have HT : Hid (prgB p = true → PrgOk p ∧ mvsR p sp ms = resW (sucB p sp) (fun s => mvBI p sp s (p.length + s.bufs.length)) (doneB p) outB (bt0 p sp) ms) := fun h => ⟨prgB_iff.1 h, by unfold mvsR; rw [if_pos h]⟩
  generalize mvsR p sp ms = r at HF HT
  clear hI
  go_enter Tryz.func32, Tryz.ntmps32
  go_wp2_with fail
  refine hv.mono ?_
  rintro e1 w1 ⟨rfl, hb1⟩
  clear hv
  cases hpb : prgB p
  · obtain rfl := HF.out hpb
    clear hpb HT HF
    go_wp2_with fail
    refine bodyPost_ret (v := .tuple #[.slice (some ⟨w1.heap.size, 0, none⟩) 0 0, .bool false]) (by simp [results, Tryz.results32, go_sem]) rfl ?_
    exact ⟨_, _, rfl, ⟨_, _, rfl, by simp, fun i hi => absurd hi (Nat.not_lt_zero _)⟩, hb1.alloc hb1.size _⟩
  · obtain ⟨hp, hs⟩ := HT.out hpb
    have Hp := Lib.hid hp
    have Hs := Lib.hid hs
    have h3 := hp.1.1
    have haf := l4After_any p hp sp ms w1 _ (HR.out.le (Le.below hb1)) B cm (HI.out.le (Le.below hb1))
    clear hpb HT HF hp hs
    go_wp2_with fail
    refine haf.mono ?_
    rintro e5 w5 ⟨b, ok, A1, A2, A3, A4, c1, c2, c3, c4, rfl, hr5, hre, hrun, hb5⟩
    have hB5 := hb1.trans (hb5.mono hb1.size)
    have Hrun := Lib.hid hrun
    have hok := reachB_ok Hp.out hre
    have Hok := Lib.hid hok
    have Hr5 := Lib.hid hr5
    clear haf hrun hr5 hre hok
    obtain ⟨w6, hw6⟩ : ∃ w6, w6 = w5.alloc (.cells #[.slice A1 (s3B b).at_.length c1, .slice A2 (s3B b).regs.length c2, .slice A3 (s3B b).mem.length c3, .slice A4 (s3B b).buf.length c4] 70) := ⟨_, rfl⟩
    have hb6 : Below w5.heap.size w5 w6 := by rw [hw6]; exact (Below.refl _ _).alloc (Nat.le_refl _) _
    have hB6 := hB5.trans (hb6.mono hB5.size)
    have o6 : Own w6 w5.heap.size 70 #[.slice A1 (s3B b).at_.length c1, .slice A2 (s3B b).regs.length c2, .slice A3 (s3B b).mem.length c3, .slice A4 (s3B b).buf.length c4] := by rw [hw6]; exact Own.new _ _ _
    have q0 := o6.cell (i := 0) rfl
    have q1 := o6.cell (i := 1) rfl
    have q2 := o6.cell (i := 2) rfl
    have q3 := o6.cell (i := 3) rfl
    have hl6 := o6.lt
    have O6 := Lib.hid o6
    clear o6
    go_upto_region 4 with (fail)
    rw [← hw6]
    clear hw6
    cases ok
    · obtain rfl : r = none := by rw [Hs.out]; unfold resW; rw [Hrun.out]; rfl
      go_wp2_with fail
      refine bodyPost_ret (v := .tuple #[.slice (some ⟨w6.heap.size, 0, none⟩) 0 0, .bool false]) (by simp [results, Tryz.results32, go_sem]) rfl ?_
      exact ⟨_, _, rfl, ⟨_, _, rfl, by simp, fun i hi => absurd hi (Nat.not_lt_zero _)⟩, hB6.alloc hB6.size _⟩
    · have hdn := l4Done_any p Hp.out sp b Hok.out w6 _ (HR.out.le (Le.below hB6)) A1 A2 A3 A4 c1 c2 c3 c4 (Hr5.out.le ((Le.above _ _).trans (Le.below hb6)))
      have Hr : Hid (r = if doneB p b = true then some (outB b) else none) := by
        show _ = _
        rw [Hs.out]
        unfold resW
        rw [Hrun.out]
        rfl
      go_wp2_with fail
      refine hdn.mono ?_
      rintro e8 w8 ⟨rfl, hb8⟩
      have hB8 := hB6.trans (hb8.mono hB6.size)
      have o8 := O6.out.under hb8
      have p0 := o8.cell (i := 0) rfl
      have p1 := o8.cell (i := 1) rfl
      have p2 := o8.cell (i := 2) rfl
      have p3 := o8.cell (i := 3) rfl
      have hl8 := o8.lt
      clear hdn q0 q1 q2 q3 o8
      cases hdo : doneB p b
      · obtain rfl : r = none := by rw [Hr.out, hdo]; rfl
        clear hdo Hr
        go_wp2_with fail
        refine bodyPost_ret (v := .tuple #[.slice (some ⟨w8.heap.size, 0, none⟩) 0 0, .bool false]) (by simp [results, Tryz.results32, go_sem]) rfl ?_
        exact ⟨_, _, rfl, ⟨_, _, rfl, by simp, fun i hi => absurd hi (Nat.not_lt_zero _)⟩, hB8.alloc hB8.size _⟩
      · obtain rfl : r = some (outB b) := by rw [Hr.out, hdo]; rfl
        have hou := l3Outcome_any (s3B b) (by show b.s.regs.length ≤ _; rw [Hok.out.ok.regl]; omega) (by show b.s.mem.length ≤ _; rw [Hok.out.ok.meml]; omega) w8 A1 A2 A3 A4 c1 c2 c3 c4 (Hr5.out.le (((Le.above _ _).trans (Le.below hb6)).trans (Le.below hb8)))
        clear hdo Hr
        go_wp2_with fail
        refine hou.mono ?_
        rintro e9 w9 ⟨A9, c9, rfl, hrow9, hb9⟩
        have hB9 := hB8.trans (hb9.mono hB8.size)
        have hsz := hB8.size
        have Hrow := Lib.hid hrow9
        clear hou hrow9
        go_wp2_with fail
        refine bodyPost_ret (v := .tuple #[.slice A9 ((s3B b).regs ++ (s3B b).mem).length c9, .bool true]) (by simp [results, Tryz.results32, go_sem]) rfl ?_
        obtain ⟨A4, c4, e4, hi4⟩ := RowI.ints Hrow.out
        injection e4 with e4 _ e5
        subst e4 e5
        exact ⟨A9, c9, rfl, hi4.le (Le.above_mono hsz _), hB9⟩

end Go.Proofs.YtahegjofooahkaaGreat

/-! The draw of moves: l4Moves, DrawRunMoves. -/
namespace Go.Proofs.YtahegjofooahkaaGreat
open Go.RowKit
set_option linter.unusedVariables false
set_option maxRecDepth 100000

/-- Nobody gets stuck. -/
theorem buf_live {p : Prg} {sp : Bool} {s : BSt} (hd : doneB p s = false) : ∃ m, m < p.length + s.bufs.length ∧ canB p sp s m = true := by
  by_cases he : ∀ k, k < s.bufs.length → bufB s k = []
  · have he' : ∀ k, bufB s k = [] := fun k => by
      rcases Nat.lt_or_ge k s.bufs.length with h | h
      · exact he k h
      · exact buf_out h
    have hn : ¬ doneS p s.s = true := fun h => by rw [done_of h he] at hd; cases hd
    obtain ⟨t, ht⟩ := not_done hn
    unfold mvS at ht
    rw [List.mem_filter, List.mem_range] at ht
    refine ⟨t, by omega, ?_⟩
    unfold canB
    have hem : empB sp s t = true := by
      unfold empB
      rw [List.all_eq_true]
      intro l _
      rw [he']
      rfl
    rw [if_pos ht.1, ht.2, hem]
    simp
  · obtain ⟨k, hk⟩ := Classical.not_forall.1 he
    obtain ⟨h1, h2⟩ := Classical.not_imp.1 hk
    refine ⟨p.length + k, by omega, ?_⟩
    rw [canB_buf, decide_eq_true_iff]
    exact List.length_pos_iff.2 h2
/-- What l4Moves hands back. -/
def RetMo (w : World) (R q : Nat) (e : Ending) (w' : World) : Prop := ∃ (A : Option Addr) (c : Nat) (ms : List Int) (q' : Nat), e = .returned (.slice A ms.length c) ∧ Ints (above w.heap.size w') A c ms ∧ ms.length ≤ 101 ∧ Mv R w w' ∧ Rd w' R q' ∧ q' ≤ q + 1000

set_option maxHeartbeats 4000000 in
theorem moves4_any (p : Prg) (hp : PrgOk p) (sp : Bool) (W : World) (R q : Nat) (hq : q ≤ 900000000) (hr : Rd W R q) (v : Value) (hv : PrgS (above (R + 1) W) v p) : Calls Tryz.prog 71 #[.pointer (some ⟨R, 0, none⟩), v, .bool sp] W (RetMo W R q) := by
  obtain ⟨i0, hi0, hz0, hz1, hz2⟩ := info_parts Tryz.infoInt
  obtain ⟨A, c, rfl, _⟩ := hv.slice
  have hR := hr.lt
  have HV : Hid (∀ U, Mv R W U → PrgS U (.slice A p.length c) p) := fun U hU => PrgS.le hv ((Mv.above hU).trans (Le.above _ _))
  have Hp := Lib.hid hp
  have h3 := hp.1.1
  obtain ⟨w1, hw1⟩ : ∃ w1, w1 = W.alloc (.cells #[] 3) := ⟨_, rfl⟩
  have hb1 : Below W.heap.size W w1 := by rw [hw1]; exact (Below.refl _ _).alloc (Nat.le_refl _) _
  have hs1 : w1.heap.size = W.heap.size + 1 := by rw [hw1]; simp
  have hrow1 : Hid (RowI w1 W.heap.size (.slice (some ⟨W.heap.size, 0, none⟩) 0 0) []) := by show RowI _ _ _ _; rw [hw1]; exact RowOf.made _ (Own.new W _ _) (Nat.le_refl _)
  have hst := l4Start_any p hp sp w1 _ (HV.out w1 (Mv.of_below hb1))
  have Hr := Lib.hid hr
  clear hv hp hr
  go_enter Tryz.func71, Tryz.ntmps71
  go_upto_region 2 with (fail)
  rw [← hw1]
  clear hw1
  go_wp2_with fail
  refine hst.mono ?_
  rintro e5 w5 ⟨A1, A2, A3, A4, c1, c2, c3, c4, rfl, hr5, hb5⟩
  clear hst
  have Hok0 : Hid (BOk p sp (bt0 p sp)) := BOk.start p sp
  obtain ⟨s0, hs0⟩ : ∃ s0, s0 = bt0 p sp := ⟨_, rfl⟩
  rw [← hs0] at hr5 Hok0 ⊢
  obtain ⟨b, hbe⟩ : ∃ b, b = w5.heap.size := ⟨_, rfl⟩
  have hs15 := hb5.size
  obtain ⟨w6, hw6⟩ : ∃ w6, w6 = w5.alloc (.cells #[.slice A1 (s3B s0).at_.length c1, .slice A2 (s3B s0).regs.length c2, .slice A3 (s3B s0).mem.length c3, .slice A4 (s3B s0).buf.length c4] 70) := ⟨_, rfl⟩
  have hb56 : Below w5.heap.size w5 w6 := by rw [hw6]; exact (Below.refl _ _).alloc (Nat.le_refl _) _
  have hs6 : w6.heap.size = w5.heap.size + 1 := by rw [hw6]; simp
  have HO6 : Hid (Own w6 b 70 #[.slice A1 (s3B s0).at_.length c1, .slice A2 (s3B s0).regs.length c2, .slice A3 (s3B s0).mem.length c3, .slice A4 (s3B s0).buf.length c4]) := by show Own _ _ _ _; rw [hw6, hbe]; exact Own.new _ _ _
  have hb16 : Below w1.heap.size w1 w6 := hb5.trans (hb56.mono hs15)
  have HR6 : Hid (Rep4 (above w1.heap.size w6) A1 A2 A3 A4 c1 c2 c3 c4 (s3B s0)) := hr5.le (Le.above_le _ (Le.below hb56))
  have hrow6 : Hid (RowI w6 W.heap.size (.slice (some ⟨W.heap.size, 0, none⟩) 0 0) []) := RowOf.below hrow1.out hb16
  have hm6 : Mv R W w6 := Mv.of_below (hb1.trans (hb16.mono (by omega)))
  have hrd6 : Hid (Rd w6 R q) := Hr.out.below (hb1.trans (hb16.mono (by omega)))
  clear hr5 hb5 hs0 hrow1 Hr
  go_upto_region 3 with (fail)
  rw [← hw6, ← hbe]
  clear hw6
  obtain ⟨V7, hV7⟩ : ∃ V7, V7 = w6.alloc (.cells #[.int .i64 100, .int .i64 100, .int .i64 3, .int .i64 1, .int .i64 0] 3) := ⟨_, rfl⟩
  have oX : Own V7 w6.heap.size 3 #[.int .i64 100, .int .i64 100, .int .i64 3, .int .i64 1, .int .i64 0] := by rw [hV7]; exact Own.new _ _ _
  have hb67 : Below w6.heap.size w6 V7 := by rw [hV7]; exact (Below.refl _ _).alloc (Nat.le_refl _) _
  have hs7 : V7.heap.size = w6.heap.size + 1 := by rw [hV7]; simp
  have hnum := num5_any V7 R q w6.heap.size 100 100 3 1 0 (by omega) (hrd6.out.below hb67) oX (by omega)
  have HS := Lib.hid (And.intro hs1 (And.intro hs6 (And.intro hs7 hbe)))
  clear hs1 hs6 hs7 hbe
  rw [hV7] at hnum
  go_wp2_with fail
  refine hnum.mono ?_
  rw [← hV7]
  rintro e8 w8 ⟨stop, rfl, hstop, m8, r8⟩
  obtain ⟨hs1, hs6, hs7, hbe⟩ := HS.out
  clear hnum hV7 oX
  have hst100 : stop ≤ 100 := by
    simp only [List.mem_cons, List.not_mem_nil, or_false] at hstop
    omega
  have hs8 := m8.size
  have hbK : W.heap.size + 1 ≤ b := by omega
  have HO8 := Lib.hid ((HO6.out.under hb67).of_block (m8.block (by omega) (by omega)))
  have HR8 := Lib.hid (HR6.out.le ((Le.above_le _ (Le.below hb67)).trans (m8.aboveB (by omega))))
  have hrow8 : Hid (RowI w8 W.heap.size (.slice (some ⟨W.heap.size, 0, none⟩) 0 0) []) := RowI.mvR2 (RowOf.below hrow6.out hb67) m8 hR
  have hrd8 := Lib.hid r8
  have hm8 : Mv R W w8 := (hm6.trans (Mv.of_below hb67)).trans m8
  have hbl8 : b < w8.heap.size := by omega
  have hK1 : R < w1.heap.size := by omega
  clear hstop m8 r8 HO6 HR6 hrow6 hrd6 hm6 hbe hs6 hs7 hs15 hs8 hs1 HS hb67 hb16 hb56
  go_wp2_with fail
  go_loopg [7] 100 (fun g s7 wr => ∃ (s : BSt) (ms : List Int) (q' K : Nat) (v7 : Value) (A1 A2 A3 A4 : Option Addr) (c1 c2 c3 c4 : Nat), g = 100 - ms.length ∧ v7 = s7 ∧ ms.length ≤ 100 ∧ Hid (BOk p sp s) ∧ Hid (RowI wr W.heap.size v7 ms ∧ ∀ g, v7.ownBlock = some g → g ≠ b) ∧ Hid (Own wr b 70 #[.slice A1 (s3B s).at_.length c1, .slice A2 (s3B s).regs.length c2, .slice A3 (s3B s).mem.length c3, .slice A4 (s3B s).buf.length c4]) ∧ R < K ∧ Hid (Rep4 (above K wr) A1 A2 A3 A4 c1 c2 c3 c4 (s3B s)) ∧ Hid (Rd wr R q') ∧ q' ≤ q + 1 + ms.length ∧ Mv R W wr)
  case atStart => exact ⟨s0, [], q + 1, w1.heap.size, _, A1, A2, A3, A4, c1, c2, c3, c4, rfl, rfl, by simp, Hok0.out, ⟨hrow8.out, fun g hg => by simp only [Value.ownBlock, Option.some.injEq] at hg; omega⟩, HO8.out, hK1, HR8.out, hrd8.out, by simp, hm8⟩
  case round =>
    clear HO8 HR8 hrow8 hrd8 hm8 hbl8 Hok0
    obtain ⟨wo, rfl⟩ : ∃ wo : World, wo = wr := ⟨_, rfl⟩
    obtain ⟨s, ms, q', K, v7, A1, A2, A3, A4, c1, c2, c3, c4, rfl, rfl, hml, hok, hrow, ho, hRK, hrep, hrd, hqq, hmv⟩ := hrel
    obtain ⟨A7, c7, rfl, _, _⟩ := RowOf.slice hrow.out.1
    have hb9 := (s4_lens Hp.out hok.out).2.2.2.1
    have hbn : (s3B s).buf.length = s.bufs.length := s3B_len s
    have Hbn := Lib.hid hbn
    have hbl := ho.out.lt
    have x0 := ho.out.cell (i := 0) rfl
    have x1 := ho.out.cell (i := 1) rfl
    have x2 := ho.out.cell (i := 2) rfl
    have x3 := ho.out.cell (i := 3) rfl
    have hdn := l4Done_any p Hp.out sp s hok.out wo _ (HV.out wo hmv) A1 A2 A3 A4 c1 c2 c3 c4 (hrep.out.le (Le.above _ _))
    clear hbn
    by_cases hlt : (ms.length : Int) < stop
    case' pos =>
      have hlt' : decide ((ms.length : Int) < stop) = true := decide_eq_true hlt
      have hml2 : ms.length < 100 := by omega
      go_wp2_with fail
      refine hdn.mono ?_
      rintro e9 w9 ⟨rfl, hb9'⟩
      have Hb9 := Lib.hid hb9'
      have hs9 := hb9'.size
      have ho9 := Lib.hid (ho.out.under hb9')
      have hrep9 := Lib.hid (hrep.out.le (Le.above_le _ (Le.below hb9')))
      have hrow9 : Hid (RowI w9 W.heap.size (.slice A7 ms.length c7) ms) := RowOf.below hrow.out.1 hb9'
      have Hblk : Hid (∀ g, (Value.slice A7 ms.length c7).ownBlock = some g → g ≠ b) := hrow.out.2
      have hrd9 := Lib.hid (hrd.out.below hb9')
      have hmv9 := hmv.trans (Mv.of_below hb9')
      have hbl9 : b < w9.heap.size := by omega
      clear hdn hb9' x0 x1 x2 x3 ho hrep hrow hrd hlt hmv Hb9 hs9
      cases hdo : doneB p s
      · have hlv := Lib.hid (buf_live (sp := sp) hdo)
        have x0 := ho9.out.cell (i := 0) rfl
        have x1 := ho9.out.cell (i := 1) rfl
        have x2 := ho9.out.cell (i := 2) rfl
        have x3 := ho9.out.cell (i := 3) rfl
        have hpk := pick_any w9 R q' ((p.length : Int) + ((s3B s).buf.length : Int)) (by omega) hrd9.out
        clear hdo
        go_wp2_with fail
        refine hpk.mono ?_
        rintro ea wa ⟨tv, rfl, h0t, htl, ma, ra⟩
        obtain ⟨t0, rfl⟩ : ∃ t0 : Nat, tv = (t0 : Int) := ⟨tv.toNat, by omega⟩
        have hn0 : 0 < p.length + (s3B s).buf.length := by
          obtain ⟨k, hk, _⟩ := hlv.out
          have := Hbn.out
          omega
        have ht0 : t0 < p.length + (s3B s).buf.length := by have := htl (by omega); omega
        have hsa := ma.size
        have hoa := Lib.hid (ho9.out.of_block (ma.block hbl9 (by omega)))
        have hrepa := Lib.hid (hrep9.out.le (ma.aboveB hRK))
        have hrowa := Lib.hid (RowI.mvR2 hrow9.out ma hR)
        have hrda := Lib.hid ra
        have hmva := hmv9.trans ma
        have hbla : b < wa.heap.size := by omega
        clear hpk h0t htl ma ra x0 x1 x2 x3 ho9 hrep9 hrow9 hrd9 hmv9 hsa hbl9
        go_wp2_with fail
        go_loopg [10] (p.length + (s3B s).buf.length + 1) (fun g s10 wz => ∃ j t : Nat, j ≤ p.length + (s3B s).buf.length ∧ g = p.length + (s3B s).buf.length + 1 - j ∧ s10 = .int .i64 t ∧ t < p.length + (s3B s).buf.length ∧ Hid (t = (t0 + j) % (p.length + (s3B s).buf.length) ∧ ∀ i, i < j → canB p sp s ((t0 + i) % (p.length + (s3B s).buf.length)) = false) ∧ Below wa.heap.size wa wz)
        case atStart => exact ⟨0, t0, Nat.zero_le _, rfl, rfl, ht0, ⟨by rw [Nat.add_zero, Nat.mod_eq_of_lt ht0], fun i hi => absurd hi (Nat.not_lt_zero _)⟩, Below.refl _ _⟩
        case round =>
          obtain ⟨wy, rfl⟩ : ∃ wy : World, wy = wr := ⟨_, rfl⟩
          obtain ⟨j, t, hj, rfl, rfl, ht, hjt, hbz⟩ := hrel
          have hoz := Lib.hid (hoa.out.under hbz)
          have hrepz := Lib.hid (hrepa.out.le (Le.above_le _ (Le.below hbz)))
          have hmvz := hmva.trans (Mv.of_below hbz)
          have x0 := hoz.out.cell (i := 0) rfl
          have x1 := hoz.out.cell (i := 1) rfl
          have x2 := hoz.out.cell (i := 2) rfl
          have x3 := hoz.out.cell (i := 3) rfl
          have hblz := hoz.out.lt
          have hcan := l4Can_any p Hp.out sp s hok.out (t : Int) wy _ (HV.out wy hmvz) A1 A2 A3 A4 c1 c2 c3 c4 (hrepz.out.le (Le.above _ _))
          rw [can4_nat] at hcan
          have HV2 := Lib.hid (HV.out wy hmvz)
          go_wp2_with fail
          refine hcan.mono ?_
          rintro ec wc ⟨rfl, hbc⟩
          have hBc := hbz.trans (hbc.mono hbz.size)
          have hoc := Lib.hid (hoz.out.under hbc)
          have hrepc := Lib.hid (hrepz.out.le (Le.above_le _ (Le.below hbc)))
          have hmvc := hmvz.trans (Mv.of_below hbc)
          have y0 := hoc.out.cell (i := 0) rfl
          have y1 := hoc.out.cell (i := 1) rfl
          have y2 := hoc.out.cell (i := 2) rfl
          have y3 := hoc.out.cell (i := 3) rfl
          have hblc := hoc.out.lt
          clear hcan x0 x1 x2 x3 hoz hrepz hblz hbc hbz HV2
          cases hcb : canB p sp s t
          · have Hjn : Hid (j < p.length + (s3B s).buf.length ∧ (t + 1) % (p.length + (s3B s).buf.length) = (t0 + (j + 1)) % (p.length + (s3B s).buf.length) ∧ ∀ i, i < j + 1 → canB p sp s ((t0 + i) % (p.length + (s3B s).buf.length)) = false) := by
              have hall2 : ∀ i, i < j + 1 → canB p sp s ((t0 + i) % (p.length + (s3B s).buf.length)) = false := fun i hi => by
                rcases Nat.lt_succ_iff_lt_or_eq.1 hi with h | h
                · exact hjt.out.2 i h
                · rw [h, ← hjt.out.1]; exact hcb
              refine ⟨?_, ?_, hall2⟩
              · rcases Nat.lt_or_ge j (p.length + (s3B s).buf.length) with h | h
                · exact h
                · exfalso
                  obtain ⟨k, hk, hck⟩ := hlv.out
                  rw [← Hbn.out] at hk
                  obtain ⟨i', h6, h7⟩ := all_round hn0 ht0 k hk
                  rw [← h7, hall2 i' (by omega)] at hck
                  cases hck
              · rw [hjt.out.1, Nat.mod_add_mod]
                rfl
            obtain ⟨hj2, hjn⟩ := Hjn.out
            have HjN := Lib.hid hjn
            have hmod : (((t : Int) + 1).tmod ((p.length : Int) + ((s3B s).buf.length : Int))) = (((t + 1) % (p.length + (s3B s).buf.length) : Nat) : Int) := by
              rw [show (t : Int) + 1 = ((t + 1 : Nat) : Int) by omega, show (p.length : Int) + ((s3B s).buf.length : Int) = ((p.length + (s3B s).buf.length : Nat) : Int) by omega, Int.ofNat_tmod]
            have hm3 : (t + 1) % (p.length + (s3B s).buf.length) < p.length + (s3B s).buf.length := Nat.mod_lt _ hn0
            have hnz : ((p.length : Int) + ((s3B s).buf.length : Int) == 0) = false := by rw [beq_eq_false_iff_ne]; omega
            clear hjt hcb hjn Hjn
            go_wp2_with fail
            go_roundg (p.length + (s3B s).buf.length + 1 - (j + 1))
            case measure => omega
            case rel => exact ⟨j + 1, _, by omega, rfl, congrArg (Value.int .i64) hmod, hm3, HjN.out, hBc⟩
          · have hdo4 := l4Do_any p Hp.out sp s hok.out t hcb wc _ (HV.out wc hmvc) A1 A2 A3 A4 c1 c2 c3 c4 (hrepc.out.le (Le.above _ _))
            have Hok2 : Hid (BOk p sp (nxB p sp s t)) := by
              refine BOk.next Hp.out hok.out ?_
              unfold mvB
              rw [List.mem_filter, List.mem_range]
              exact ⟨by rw [← Hbn.out]; exact ht, hcb⟩
            clear hjt hcb
            go_wp2_with fail
            refine hdo4.mono ?_
            rintro ed wd ⟨D1, D2, D3, D4, d1, d2, d3, d4, rfl, hrd', hbd⟩
            have hod := Lib.hid (hoc.out.under hbd)
            have hrowd : Hid (RowI wd W.heap.size (.slice A7 ms.length c7) ms) := RowOf.below (RowOf.below hrowa.out hBc) hbd
            have hrdd := Lib.hid ((hrda.out.below hBc).below hbd)
            have hmvd := hmvc.trans (Mv.of_below hbd)
            have hsd := hbd.size
            have hsc := hBc.size
            have z0 := hod.out.frozen 0
            have z1 := hod.out.frozen 1
            have z2 := hod.out.frozen 2
            have z3 := hod.out.frozen 3
            have v0 := hod.out.cell (i := 0) rfl
            have v1 := hod.out.cell (i := 1) rfl
            have v2 := hod.out.cell (i := 2) rfl
            have v3 := hod.out.cell (i := 3) rfl
            have hbld := hod.out.lt
            clear hdo4 y0 y1 y2 y3
            obtain ⟨ve, hve⟩ : ∃ ve, ve = (((wd.setCell ⟨b, 0, none⟩ (.slice D1 (s3B (nxB p sp s t)).at_.length d1)).setCell ⟨b, 1, none⟩ (.slice D2 (s3B (nxB p sp s t)).regs.length d2)).setCell ⟨b, 2, none⟩ (.slice D3 (s3B (nxB p sp s t)).mem.length d3)).setCell ⟨b, 3, none⟩ (.slice D4 (s3B (nxB p sp s t)).buf.length d4) := ⟨_, rfl⟩
            have hoe : Hid (Own ve b 70 #[.slice D1 (s3B (nxB p sp s t)).at_.length d1, .slice D2 (s3B (nxB p sp s t)).regs.length d2, .slice D3 (s3B (nxB p sp s t)).mem.length d3, .slice D4 (s3B (nxB p sp s t)).buf.length d4]) := by
              show Own _ _ _ _
              rw [hve]
              exact (((hod.out.set 0 _).set 1 _).set 2 _).set 3 _
            have hrepe : Hid (Rep4 (above wc.heap.size ve) D1 D2 D3 D4 d1 d2 d3 d4 (s3B (nxB p sp s t))) := by
              show Rep4 _ _ _ _ _ _ _ _ _ _
              rw [hve]
              exact hrd'.setR hblc _ _ _ _
            have hve0 : ∀ g, g ≠ b → ve.heap[g]? = wd.heap[g]? := fun g hg => by
              rw [hve, Go.Deep.blk_setCell_other _ _ _ _ hg, Go.Deep.blk_setCell_other _ _ _ _ hg, Go.Deep.blk_setCell_other _ _ _ _ hg, Go.Deep.blk_setCell_other _ _ _ _ hg]
            have hse : wd.heap.size ≤ ve.heap.size := by rw [hve]; simp
            have hmve : Mv R W ve := by
              rw [hve]
              exact (((hmvd.setNew (p := ⟨b, 0, none⟩) (by show W.heap.size ≤ b; omega) _).setNew (p := ⟨b, 1, none⟩) (by show W.heap.size ≤ b; omega) _).setNew (p := ⟨b, 2, none⟩) (by show W.heap.size ≤ b; omega) _).setNew (p := ⟨b, 3, none⟩) (by show W.heap.size ≤ b; omega) _
            have hrowe : RowI ve W.heap.size (.slice A7 ms.length c7) ms := RowOf.of_block hrowd fun g _ hg _ => hve0 g (Hblk.out g hg)
            have hrde : Hid (Rd ve R (q' + 1)) := Rd.of_blocks hrdd.out fun g hg => hve0 g (by omega)
            have Hown0 : Hid (∀ g, (Value.slice A7 ms.length c7).ownBlock = some g → W.heap.size ≤ g ∧ g < wc.heap.size) := fun g hg => by
              have h1 := RowOf.blk (RowOf.below hrowa.out hBc) hg
              exact ⟨h1.1, h1.2⟩
            obtain ⟨cells, hown, hqq8⟩ := hrowe
            have Hown := Lib.hid hown
            have Hqq := Lib.hid hqq8
            clear hown hqq8 hoc hrepc hrowa hrda hoa hrepa hrd' hod hrdd hrowd hmvd hve0
            go_upto_region 9 with (fail)
            rw [← hve]
            clear hve v0 v1 v2 v3 z0 z1 z2 z3
            have hmn : ms.length + 1 ≤ 100 := by omega
            go_wp2_with (at_builtin; refine wpList_append_lies _ (by rfl) _ _ _ (by rfl) W.heap.size 3 i0 _ 1 8 Tryz.underlying24 hi0 hz0 hz1 hz2 rfl (by omega) (.slice A7 ms.length c7) ms.length cells (by rfl) (owns_alloc Hown.out _) ⟨ve.heap.size, 0, none⟩ 1 1 [.int .i64 t] (by rfl) (by rfl) (World.news_of_block (cs := #[.int .i64 t]) (t := 3) (fr := (0, 0)) (heap_alloc_new ve _)) (by simp [Value.oneCell']) (by omega) (by simp [maxLen]; omega) (by omega) (by simp; have := hmve.size; omega) (ve.heap.size + 1) (by simp) ?_; intro gg cap wf hownf hgrowf hatf hltf)
            have hkeep : ∀ k, k < ve.heap.size → (∀ g, (Value.slice A7 ms.length c7).ownBlock = some g → k ≠ g) → wf.heap[k]? = ve.heap[k]? := fun k hk hn => (World.grownBy.block hgrowf k (by simp; omega) (fun e => hn k e.symm rfl)).trans (Go.Deep.blk_alloc_lt _ _ _ hk)
            have hrf := Lib.hid (RowOf.snoc (news := [.int .i64 (t : Int)]) (x := (t : Int)) qint_congr Hown.out Hqq.out rfl rfl hownf)
            have hgb : gg ≠ b := by
              rcases hatf with h | h
              · exact Hblk.out gg h
              · omega
            have hof := Lib.hid (hoe.out.of_block (hkeep b (by omega) (fun g hg e => Hblk.out g hg e.symm)))
            have hrepf := Lib.hid (hrepe.out.le ((Le.above_le _ (Le.alloc ve (.cells #[.int .i64 (t : Int)] 3))).trans (Le.above_grown hgrowf (fun g hg => (Hown0.out g hg).2))))
            have hrdf : Hid (Rd wf R (q' + 1)) := Rd.of_blocks hrde.out fun g hg => hkeep g (by omega) (fun k hk e => by have := (Hown0.out k hk).1; omega)
            have hmvf : Mv R W wf := mv_grown2 (hmve.alloc _) hgrowf (fun g hg => (Hown0.out g hg).1)
            have hRc : R < wc.heap.size := by omega
            clear hgrowf hownf hatf hkeep hoe hrepe hrde hmve
            go_wp2_with fail
            go_roundg (100 - (ms.length + 1))
            case measure => omega
            case rel => exact ⟨nxB p sp s t, ms ++ [(t : Int)], q' + 1, wc.heap.size, _, D1, D2, D3, D4, d1, d2, d3, d4, by simp, rfl, by simp; omega, Hok2.out, ⟨hrf.out, fun g hg => by simp only [Value.ownBlock, Option.some.injEq] at hg; omega⟩, hof.out, hRc, hrepf.out, hrdf.out, by simp; omega, hmvf⟩
    case' neg =>
      have hlt' : decide ((ms.length : Int) < stop) = false := decide_eq_false hlt
      obtain ⟨w9, rfl⟩ : ∃ w9 : World, w9 = wo := ⟨_, rfl⟩
      have hrow9 : Hid (RowI w9 W.heap.size (.slice A7 ms.length c7) ms) := hrow.out.1
      have hrd9 := hrd
      have hmv9 := hmv
      clear hdn x0 x1 x2 x3 ho hrep hrow hrd hlt hmv
    all_goals
      have hpk := pick_any w9 R q' 12 (by omega) hrd9.out
      go_wp2_with fail
      refine hpk.mono ?_
      rintro ea wa ⟨tv, rfl, h0t, htl, ma, ra⟩
      have hrowa := Lib.hid (RowI.mvR2 hrow9.out ma hR)
      have hrda := Lib.hid ra
      have hmva := hmv9.trans ma
      have hsa := ma.size
      have hsW := hmv9.size
      clear hpk h0t htl ma ra hrow9 hrd9 hmv9
      by_cases ht0 : tv = 0
      · subst ht0
        obtain ⟨V7, hV7⟩ : ∃ V7, V7 = wa.alloc (.cells #[.int .i64 0, .int .i64 9, .int .i64 (-1), .int .i64 50] 3) := ⟨_, rfl⟩
        have oX : Own V7 wa.heap.size 3 #[.int .i64 0, .int .i64 9, .int .i64 (-1), .int .i64 50] := by rw [hV7]; exact Own.new _ _ _
        have hs7 : wa.heap.size ≤ V7.heap.size := by rw [hV7]; simp
        have hnum := num4_any V7 R (q' + 1) wa.heap.size 0 9 (-1) 50 (by omega) (by rw [hV7]; exact hrda.out.alloc _) oX (by omega)
        have hrow7 : Hid (RowI V7 W.heap.size (.slice A7 ms.length c7) ms) := by show RowI _ _ _ _; rw [hV7]; exact RowOf.below hrowa.out ((Below.refl _ _).alloc (Nat.le_refl _) _)
        have hmv7 : Mv R W V7 := by rw [hV7]; exact hmva.alloc _
        rw [hV7] at hnum
        clear oX hrowa hrda hmva hsa
        go_wp2_with fail
        refine hnum.mono ?_
        rw [← hV7]
        rintro eb wb ⟨x, rfl, _, mb, rb⟩
        clear hnum hV7
        have hrowb : RowI wb W.heap.size (.slice A7 ms.length c7) ms := RowI.mvR2 hrow7.out mb hR
        have hmvb := hmv7.trans mb
        have hsb := mb.size
        have hrdb := Lib.hid rb
        have Hown0 : Hid (∀ g, (Value.slice A7 ms.length c7).ownBlock = some g → W.heap.size ≤ g) := fun g hg => (RowOf.blk hrowb hg).1
        obtain ⟨cells, hown, hqq8⟩ := hrowb
        have Hown := Lib.hid hown
        have Hqq := Lib.hid hqq8
        clear hown hqq8 mb rb hrow7 hmv7
        go_wp2_with (at_builtin; refine wpList_append_lies _ (by rfl) _ _ _ (by rfl) W.heap.size 3 i0 _ 1 8 Tryz.underlying24 hi0 hz0 hz1 hz2 rfl (by omega) (.slice A7 ms.length c7) ms.length cells (by rfl) (owns_alloc Hown.out _) ⟨wb.heap.size, 0, none⟩ 1 1 [.int .i64 x] (by rfl) (by rfl) (World.news_of_block (cs := #[.int .i64 x]) (t := 3) (fr := (0, 0)) (heap_alloc_new wb _)) (by simp [Value.oneCell']) (by omega) (by simp [maxLen]; omega) (by omega) (by simp; have := hmvb.size; omega) (wb.heap.size + 1) (by simp) ?_; intro gg cap wf hownf hgrowf hatf hltf)
        have hrf := Lib.hid (RowOf.snoc (news := [.int .i64 x]) (x := x) qint_congr Hown.out Hqq.out rfl rfl hownf)
        have hrdf : Hid (Rd wf R (q' + 1 + 1)) := Rd.of_blocks hrdb.out fun g hg => (World.grownBy.block hgrowf g (by simp; have := hmvb.size; omega) (fun e => by have := Hown0.out g e.symm; omega)).trans (Go.Deep.blk_alloc_lt _ _ _ (by have := hmvb.size; omega))
        have hmvf : Mv R W wf := mv_grown2 (hmvb.alloc _) hgrowf (fun g hg => Hown0.out g hg)
        clear hgrowf hownf hatf hrdb hmvb
        go_wp2_with fail
        go_ret
        obtain ⟨A9, c9, e9, hi9⟩ := RowI.ints hrf.out
        have hlx : (ms ++ [x]).length = ms.length + 1 := by simp
        rw [hlx] at e9
        injection e9 with e9 _ e10
        subst e9 e10
        exact ⟨_, _, ms ++ [x], _, by rw [hlx]; rfl, hi9, by rw [hlx]; omega, hmvf, hrdf.out, by omega⟩
      · have hd0 : (tv == 0) = false := beq_eq_false_iff_ne.2 ht0
        go_wp2_with fail
        go_ret
        obtain ⟨A9, c9, e9, hi9⟩ := RowI.ints hrowa.out
        injection e9 with e9 _ e10
        subst e9 e10
        exact ⟨_, _, ms, _, rfl, hi9, by omega, hmva, hrda.out, by omega⟩

/-- A program, whether buffers are split, and a list of numbers. -/
def RetD3 (w : World) (e : Ending) (w' : World) : Prop := ∃ (p : Prg) (v : Value) (sp : Bool) (A : Option Addr) (c : Nat) (o : List Int), e = .returned (.tuple #[v, .bool sp, .slice A o.length c]) ∧ PrgS (above w.heap.size w') v p ∧ Few 2000 2000 p ∧ Ints (above w.heap.size w') A c o ∧ o.length ≤ 101 ∧ Below w.heap.size w w'

set_option maxHeartbeats 1000000 in
theorem drawRM_any (w : World) (A : Option Addr) (n c : Nat) (h : Bys w A n) (hnc : n ≤ c) (hA : A = none → n = 0) : Calls Tryz.prog 31 #[.slice A n c] w (RetD3 w) := by
  have hop := open_any w A n c h hnc hA
  go_enter Tryz.func31, Tryz.ntmps31
  go_wp2_with fail
  refine hop.mono ?_
  rintro e1 w1 ⟨R, rfl, hR, hr1, hb1⟩
  have hod := drawP_any w1 R 0 (by omega) hr1
  have hRl := hr1.lt
  clear hop hr1
  go_wp2_with fail
  refine hod.mono ?_
  rintro e2 w2 ⟨p, v, q', rfl, hp, hpq, hfew, m2, r2, hq⟩
  have hpk := pick_any w2 R q' 2 (by omega) r2
  have HPQ := Lib.hid hpq
  have Hp := Lib.hid hp
  have Hfew := Lib.hid hfew
  have hs2 := m2.size
  have hb2 := Mv.belowR hb1 hR m2
  have hw1 := hb1.size
  clear hod hp hpq hfew r2
  go_wp2_with fail
  refine hpk.mono ?_
  rintro e3 w3 ⟨tv, rfl, _, _, m3, r3⟩
  have hb3 := Mv.belowR hb2 hR m3
  have hs3 := m3.size
  obtain ⟨sp, hsp⟩ : ∃ sp : Bool, sp = (tv == 0) := ⟨_, rfl⟩
  have HP3 : Hid (PrgS (above w1.heap.size w3) v p) := PrgS.le HPQ.out.1 (m3.aboveB hRl)
  have hmo := moves4_any p Hp.out sp w3 R (q' + 1) (by omega) r3 v (HP3.out.le (Le.above_mono (by omega) _))
  have Hm3 := Lib.hid m3
  clear hpk r3
  rw [hsp] at hmo
  go_wp2_with fail
  refine hmo.mono ?_
  rw [← hsp]
  rintro e4 w4 ⟨B, d, ms, q4, rfl, hi4, hml, m4, r4, hq4⟩
  have hb4 := Mv.belowR hb3 hR m4
  have hs4 := m4.size
  have HP4 : Hid (PrgS (above w1.heap.size w4) v p) := PrgS.le HP3.out (m4.aboveB hRl)
  have hmu := mutP_any w4 R q4 v p (by omega) r4 (PrgS.le HP4.out (Le.above _ _)) (Hfew.out.mono (by omega) (by omega))
  have HI4 := Lib.hid hi4
  clear hmo hi4 r4 hsp
  go_wp2_with fail
  refine hmu.mono ?_
  rintro e5 w5 ⟨p5, v5, q5, rfl, hpq5, hfew5, m5, r5, hq5⟩
  have hb5 := Mv.belowR hb4 hR m5
  have HI5 := Lib.hid (((HI4.out.le (m5.aboveB (by omega))).le (Le.above_mono (show w.heap.size ≤ w3.heap.size by omega) _)))
  have HP5 := Lib.hid hpq5
  have Hfew5 := Lib.hid hfew5
  clear hmu hpq5 r5 hfew5
  go_wp2_with fail
  refine bodyPost_ret (v := .tuple #[v5, .bool sp, .slice B ms.length d]) (by simp [results, Tryz.results31, go_sem]) rfl ?_
  exact ⟨p5, v5, sp, B, d, ms, rfl, PrgS.le HP5.out.1 (Le.above_mono (by omega) _), Hfew5.out, HI5.out, hml, hb5⟩

end Go.Proofs.YtahegjofooahkaaGreat
