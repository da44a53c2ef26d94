/-
  The walk of FnOutcomeSize: it answers true.
-/
import Derived.Test.YtcckflijaolnkaaODr
import Derived.Test.YtcckflijaolnkaaRunSq
import Derived.Test.YtcckflijaolnkaaOutV
namespace Go.Proofs.Ytcckflijaolnkaa
open Go.RowKit
set_option linter.unusedVariables false
set_option maxRecDepth 100000

theorem isOut_ok {p : Prg} {L : List (List Int)} (hp : PrgOk p) (h : IsOut p L) : ∀ x ∈ L, OutOk p x := fun x hx => by
  obtain ⟨s, h1, _, rfl⟩ := (h.iff hp x).1 hx
  have hok := reach_ok hp h1
  refine ⟨hp, ?_, fun v hv => ?_⟩
  · unfold outS
    rw [List.length_append, hok.regl, hok.meml]
  · unfold outS at hv
    rcases List.mem_append.1 hv with hv | hv
    · exact hok.regb v hv
    · exact hok.memb v hv

set_option maxHeartbeats 4000000 in
theorem lawOS_walk (w : World) (A : Option Addr) (n c : Nat) (h : Bys w A n) (hnc : n ≤ c) (hA : A = none → n = 0) :
    Calls Try.prog 6 #[.slice A n c] w (RetB w true) := by
  have hdr := drawOV_any w A n c h hnc hA
  have hn := h.1
  clear h
  go_enter Try.func6, Try.ntmps6
  by_cases hsz : (1048576 : Int) < (n : Int)
  · have hd : decide ((n : Int) > 1048576) = true := by simpa using hsz
    go_wp2_with fail
    go_ret
    exact ⟨rfl, Below.refl _ _⟩
  have hd : decide ((n : Int) > 1048576) = false := by simpa using hsz
  go_wp2_with fail
  refine hdr.mono ?_
  rintro e1 w1 ⟨p, v, B1, d1, o, rfl, hps, hfew, hi1, hol, hb1⟩
  have hp1 : PrgS w1 v p := PrgS.le hps (Le.above _ _)
  obtain ⟨A1, c1, rfl, hpl⟩ := hp1.slice
  have hl : p.length ≤ 1048576 := by have := hfew.1; omega
  have Hls := Lib.hid (hfew.mil (by omega))
  have HP1 := Lib.hid hp1
  have HI1 := Lib.hid (hi1.le (Le.above _ _))
  have hov := implOV_any p hl Hls.out o w1 _ hp1 B1 d1 HI1.out
  have HSp : Hid (∀ U, Below w1.heap.size w1 U → Calls Try.prog 28 #[.slice A1 p.length c1, .slice B1 o.length d1] U (RetB U (ovB p o))) := fun U hU => specOV_any p hl o U _ (HP1.out.le (Le.below hU)) B1 d1 (HI1.out.le (Le.below hU))
  have HNo : Hid (prgB p = false → ovB p o = false) := fun h => ovB_false.2 fun k => prgB_false.1 h k.1
  generalize ovB p o = ok at hov HSp HNo
  clear hps hdr hp1 hfew hi1
  go_wp2_with fail
  refine hov.mono ?_
  rintro e2 w2 ⟨rfl, hb2⟩
  have hB2 := hb1.trans (hb2.mono hb1.size)
  have hsp := HSp.out w2 hb2
  have hne : (ok != ok) = false := by cases ok <;> rfl
  have heq : (ok == ok) = true := by cases ok <;> rfl
  clear hov
  go_wp2_with fail
  refine hsp.mono ?_
  rintro e3 w3 ⟨rfl, hb3⟩
  have hB3 := hB2.trans (hb3.mono hB2.size)
  have hb13 := hb2.trans (hb3.mono hb2.size)
  have hiv := implPrg_any p hl Hls.out w3 _ (PrgS.le HP1.out (Le.below hb13))
  have HT : Hid (prgB p = true → PrgOk p) := fun h => prgB_iff.1 h
  clear hsp
  go_wp2_with fail
  refine hiv.mono ?_
  rintro e4 w4 ⟨rfl, hb4⟩
  have hB4 := hB3.trans (hb4.mono hB3.size)
  have hb14 := hb13.trans (hb4.mono hb13.size)
  clear hiv
  cases hpb : prgB p
  · obtain rfl := HNo.out hpb
    have hsp := HSp.out w4 hb14
    clear hpb HT HNo
    go_wp2_with fail
    refine hsp.mono ?_
    rintro e5 w5 ⟨rfl, hb5⟩
    go_wp2_with fail
    go_ret
    exact ⟨rfl, hB4.trans (hb5.mono hB4.size)⟩
  · have Hp : Hid (PrgOk p) := HT.out hpb
    have hrn := implRn_any p hl Hls.out w4 _ (PrgS.le HP1.out (Le.below hb14))
    have h3 := Hp.out.1.1
    clear hpb HT HNo HSp
    go_wp2_with fail
    refine hrn.mono ?_
    rintro e5 w5 ⟨v5, L, F5, rfl, ho5, _, _, hout5, _, hb5⟩
    have hB5 := hB4.trans (hb5.mono hB4.size)
    have hb15 := hb14.trans (hb5.mono hb14.size)
    obtain ⟨A5, c5, e5', _, _⟩ := OwRow.slice ho5
    subst e5'
    have HL := Lib.hid ho5.intss0
    have HOk := Lib.hid (isOut_ok Hp.out hout5)
    have hLm := ho5.intss0.len
    clear hrn ho5 hout5
    go_wp2_with fail
    go_loopg [7] L.length (fun g s7 wr => ∃ i : Nat, i ≤ L.length ∧ g = L.length - i ∧ s7 = .int .i64 i ∧ Below w5.heap.size w5 wr)
    case atStart => exact ⟨0, Nat.zero_le _, rfl, rfl, Below.refl _ _⟩
    case round =>
      obtain ⟨i, hi, rfl, rfl, hb⟩ := hrel
      by_cases hlt : i < L.length
      · obtain ⟨b, o', A6, c6, rfl, hbl, k0, h6⟩ := (HL.out.le (Le.below hb)).get hlt
        have hxk := HOk.out _ (List.getElem_mem hlt)
        have hov := implOV_any p hl Hls.out L[i] wr _ (PrgS.le HP1.out (Le.below (hb15.trans (hb.mono hb15.size)))) A6 c6 h6
        rw [ovB_iff.2 hxk] at hov
        rw [hxk.2.1] at k0 hov
        have HK0 : Hid (∀ U, Le wr U → U.cell? ⟨b, o' + i, none⟩ = some (.slice A6 (p.length * 3 + 3) c6)) := fun U hU => hU _ _ k0
        have hne2 : ((p.length : Int) * 3 + 3 != (p.length : Int) * 3 + 2 + 1) = false := by
          have : (p.length : Int) * 3 + 3 = (p.length : Int) * 3 + 2 + 1 := by omega
          rw [this]; simp
        clear hxk h6
        go_wp2_with fail
        refine hov.mono ?_
        rintro e7 w7 ⟨rfl, hb7⟩
        have k7 := HK0.out w7 (Le.below hb7)
        have hbl7 : b < w7.heap.size := World.block_lt_of_cell? _ _ k7
        clear hov k0
        go_wp2_with fail
        go_roundg (L.length - (i + 1))
        case measure => omega
        case rel => exact ⟨i + 1, by omega, rfl, by go_num, hb.trans (hb7.mono hb.size)⟩
      · obtain rfl : i = L.length := by omega
        go_wp2_with fail
        go_ret
        exact ⟨rfl, hB5.trans (hb.mono hB5.size)⟩

end Go.Proofs.Ytcckflijaolnkaa
