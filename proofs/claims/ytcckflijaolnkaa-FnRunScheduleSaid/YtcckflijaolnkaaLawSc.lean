/-
  The walk of FnRunSchedule: it answers true.
-/
import Derived.Test.YtcckflijaolnkaaSch
import Derived.Test.YtcckflijaolnkaaODr
import Derived.Test.YtcckflijaolnkaaRunSq
import Derived.Test.YtcckflijaolnkaaSrt
import Derived.Test.YtcckflijaolnkaaOutV
namespace Go.Proofs.Ytcckflijaolnkaa
open Go.RowKit
set_option linter.unusedVariables false
set_option maxRecDepth 100000

theorem sch_out {p : Prg} {ms : List Int} {o : List Int} (h : schR p ms = some o) : PrgOk p ∧ OutOk p o ∧ ∀ L, IsOut p L → o ∈ L := by
  unfold schR at h
  cases hpb : prgB p
  · rw [hpb] at h; cases h
  · rw [if_pos hpb] at h
    have hp := prgB_iff.1 hpb
    unfold resW at h
    cases hr : runW (sucS p) (fun s => mvI p s p.length) (st0 p) ms with
    | none => rw [hr] at h; cases h
    | some t =>
      rw [hr] at h
      simp only [Option.bind_some] at h
      split at h
      · rename_i hd
        injection h with h
        have hre := run_reach (seq_len p) _ _ .start hr
        have hok := reach_ok hp hre
        refine ⟨hp, ⟨hp, ?_, fun v hv => ?_⟩, fun L hL => (hL.iff hp o).2 ⟨t, hre, hd, h⟩⟩
        · rw [← h]
          unfold outS
          rw [List.length_append, hok.regl, hok.meml]
        · rw [← h] at hv
          unfold outS at hv
          rcases List.mem_append.1 hv with hv | hv
          · exact hok.regb v hv
          · exact hok.memb v hv
      · cases h

set_option maxHeartbeats 4000000 in
theorem lawSc_walk (w : World) (A : Option Addr) (n c : Nat) (h : Bys w A n) (hnc : n ≤ c) (hA : A = none → n = 0) :
    Calls Try.prog 5 #[.slice A n c] w (RetB w true) := by
  have hdr := drawSc_any w A n c h hnc hA
  have hn := h.1
  clear h
  go_enter Try.func5, Try.ntmps5
  by_cases hsz : (1048576 : Int) < (n : Int)
  · have hd : decide ((n : Int) > 1048576) = true := by simpa using hsz
    go_wp2_with fail
    go_ret
    exact ⟨rfl, Below.refl _ _⟩
  have hd : decide ((n : Int) > 1048576) = false := by simpa using hsz
  go_wp2_with fail
  refine hdr.mono ?_
  rintro e1 w1 ⟨p, v, B1, d1, ms, rfl, hps, hfew, hi1, hml, hb1⟩
  have hp1 : PrgS w1 v p := PrgS.le hps (Le.above _ _)
  obtain ⟨A1, c1, rfl, hpl⟩ := hp1.slice
  have hl : p.length ≤ 1048576 := by have := hfew.1; omega
  have Hls := Lib.hid (hfew.mil (by omega))
  have HP1 := Lib.hid hp1
  have HI1 := Lib.hid (hi1.le (Le.above _ _))
  have hsc := implSc_any p hl Hls.out ms w1 _ hp1 B1 d1 HI1.out
  have Hr : Hid (∀ o, schR p ms = some o → PrgOk p ∧ OutOk p o ∧ ∀ L, IsOut p L → o ∈ L) := fun o h => sch_out h
  have HSp : Hid (∀ U, Below w1.heap.size w1 U → Calls Try.prog 23 #[.slice A1 p.length c1, .slice B1 ms.length d1] U (RetO U (schR p ms))) := fun U hU => specSc_any p hl ms U _ (HP1.out.le (Le.below hU)) B1 d1 (HI1.out.le (Le.below hU))
  generalize schR p ms = r at hsc Hr HSp
  clear hps hdr hp1 hfew hi1
  go_wp2_with fail
  refine hsc.mono ?_
  rintro e2 w2 ⟨A2, c2, rfl, hi2, hb2⟩
  have hB2 := hb1.trans (hb2.mono hb1.size)
  have HI2 := Lib.hid (hi2.le (Le.above _ _))
  have hsp := HSp.out w2 hb2
  clear hsc hi2 HSp
  cases r with
  | none =>
    go_wp2_with fail
    refine hsp.mono ?_
    rintro e3 w3 ⟨A3, c3, rfl, hi3, hb3⟩
    have hB3 := hB2.trans (hb3.mono hB2.size)
    have HI3 := Lib.hid (hi3.le (Le.above _ _))
    have hwm := wmInts_any [] [] w3 A2 A3 c2 c3 (HI2.out.le (Le.below hb3)) HI3.out
    rw [eqB_self] at hwm
    clear hsp hi3
    go_wp2_with fail
    refine hwm.mono ?_
    rintro e4 w4 ⟨rfl, hb4⟩
    have hB4 := hB3.trans (hb4.mono hB3.size)
    have hwm := wmInts_any [] [] w4 A2 A3 c2 c3 (HI2.out.le (Le.below (hb3.trans (hb4.mono hb3.size)))) (HI3.out.le (Le.below hb4))
    rw [eqB_self] at hwm
    go_wp2_with fail
    refine hwm.mono ?_
    rintro e5 w5 ⟨rfl, hb5⟩
    go_wp2_with fail
    go_ret
    exact ⟨rfl, hB4.trans (hb5.mono hB4.size)⟩
  | some o =>
    obtain ⟨hp, hok, hin⟩ := Hr.out o rfl
    have Hok := Lib.hid hok
    have Hin := Lib.hid hin
    clear hp hok hin Hr
    have HI2' : Hid (Ints w2 A2 c2 o) := HI2.out
    obtain ⟨m, hm⟩ : ∃ m, m = o.length := ⟨_, rfl⟩
    have Hm := Lib.hid hm
    have e0 : ((some o).getD []).length = m := hm.symm
    rw [e0]
    have hsp' : Calls Try.prog 23 #[.slice A1 p.length c1, .slice B1 ms.length d1] w2 (fun e W' => ∃ A c, e = .returned (.tuple #[.slice A m c, .bool true]) ∧ Ints W' A c o ∧ Below w2.heap.size w2 W') := hsp.mono fun e W' ⟨A, c, h1, h2, h3⟩ => ⟨A, c, by rw [h1, e0]; rfl, h2.le (Le.above _ _), h3⟩
    clear hsp HI2 e0 hm
    simp only [Option.isSome_some]
    go_wp2_with fail
    refine hsp'.mono ?_
    rintro e3 w3 ⟨A3, c3, rfl, hi3, hb3⟩
    have hB3 := hB2.trans (hb3.mono hB2.size)
    have hwm := wmInts_any o o w3 A2 A3 c2 c3 (HI2'.out.le (Le.below hb3)) hi3
    rw [eqB_self, ← Hm.out] at hwm
    clear hsp' hi3
    go_wp2_with fail
    refine hwm.mono ?_
    rintro e4 w4 ⟨rfl, hb4⟩
    have hB4 := hB3.trans (hb4.mono hB3.size)
    have hb24 := hb3.trans (hb4.mono hb3.size)
    have hb14 := hb2.trans (hb24.mono hb2.size)
    have HP4 := Lib.hid (HP1.out.le (Le.below hb14))
    have HI4 := Lib.hid (HI2'.out.le (Le.below hb24))
    have hov := implOV_any p hl Hls.out o w4 _ HP4.out A2 c2 HI4.out
    rw [ovB_iff.2 Hok.out, ← Hm.out] at hov
    clear hwm
    go_wp2_with fail
    refine hov.mono ?_
    rintro e5 w5 ⟨rfl, hb5⟩
    have hB5 := hB4.trans (hb5.mono hB4.size)
    have hrn := implRn_any p hl Hls.out w5 _ (PrgS.le HP4.out (Le.below hb5))
    have HI5 := Lib.hid (HI4.out.le (Le.below hb5))
    clear hov
    go_wp2_with fail
    refine hrn.mono ?_
    rintro e6 w6 ⟨v6, L, F6, rfl, ho6, _, _, hout6, _, hb6⟩
    have hB6 := hB5.trans (hb6.mono hB5.size)
    obtain ⟨A6, c6, e6', _, _⟩ := OwRow.slice ho6
    subst e6'
    have hwo := wmOut_any L o w6 A6 A2 c6 c2 ho6.intss0 (HI5.out.le (Le.below hb6))
    rw [inL_iff.2 (Hin.out L hout6), ← Hm.out] at hwo
    clear hrn ho6 hout6
    go_wp2_with fail
    refine hwo.mono ?_
    rintro e7 w7 ⟨rfl, hb7⟩
    go_wp2_with fail
    go_ret
    exact ⟨rfl, hB6.trans (hb7.mono hB6.size)⟩

end Go.Proofs.Ytcckflijaolnkaa
