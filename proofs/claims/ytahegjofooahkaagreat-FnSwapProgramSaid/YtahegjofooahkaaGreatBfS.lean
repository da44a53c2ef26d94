/-
  BufferStates in the reference.
-/
import Derived.Test.YtahegjofooahkaaGreatBfI
import Derived.Test.YtahegjofooahkaaGreatS4R
namespace Go.Proofs.YtahegjofooahkaaGreat
open Go.RowKit
set_option linter.unusedVariables false
set_option maxRecDepth 100000

theorem fldB (n : Int) (A : Option Addr) (k c : Nat) : (∀ w, (Instr.field 60 (.agg #[.int .i64 n, .slice A k c]) 0).run Tryz.prog w = .ok (.int .i64 n) w) ∧ (∀ w, (Instr.field 60 (.agg #[.int .i64 n, .slice A k c]) 1).run Tryz.prog w = .ok (.slice A k c) w) :=
  ⟨fun w => by kernel_rfl, fun w => by kernel_rfl⟩

set_option maxHeartbeats 1000000 in
theorem specBS_any (p : Prg) (hl : p.length ≤ 1048576) (sp : Bool) (W : World) (v : Value) (hr : PrgS W v p) : Calls Tryz.prog 36 #[v, .bool sp] W (RetCntB p sp W) := by
  have hv := specPrg_any p hl W v hr
  have HR := Lib.hid hr
  obtain ⟨A, c, rfl, _⟩ := hr.slice
  have HF : Hid (prgB p = false → ¬ PrgOk p) := fun h => prgB_false.1 h
  have HT : Hid (prgB p = true → PrgOk p) := fun h => prgB_iff.1 h
  go_enter Tryz.func36, Tryz.ntmps36
  go_wp2_with fail
  refine hv.mono ?_
  rintro e1 w1 ⟨rfl, hb1⟩
  clear hv
  cases hpb : prgB p
  · have Hn : Hid (¬ PrgOk p) := HF.out hpb
    clear hpb HT HF
    go_wp2_with fail
    go_ret
    exact ⟨0, rfl, .inr ⟨Hn.out, rfl⟩, hb1⟩
  · have Hp : Hid (PrgOk p) := HT.out hpb
    have hns := l4Run_any p Hp.out sp w1 _ (HR.out.le (Le.below hb1))
    clear hpb HT HF
    go_wp2_with fail
    refine hns.mono ?_
    rintro e2 w2 ⟨V, L, go, oo, co, rfl, hdfs, _, _, _, hb2⟩
    have hB2 := hb1.trans (hb2.mono hb1.size)
    have Hd : Hid (IsCntB p sp V.length) := .inl ⟨Hp.out, V, hdfs, rfl⟩
    clear hns hdfs
    obtain ⟨hf0, hf1⟩ := fldB (V.length : Int) (some ⟨go, oo, none⟩) L.length co
    go_wp2_with fail
    go_ret
    exact ⟨V.length, rfl, Hd.out, hB2⟩

end Go.Proofs.YtahegjofooahkaaGreat
