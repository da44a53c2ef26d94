/-
  The walk of FnRunTso: it answers true.
-/
import Derived.Test.YtahegjofooahkaaGreatWiB
import Derived.Test.YtahegjofooahkaaGreatDpCP
namespace Go.Proofs.YtahegjofooahkaaGreat
open Go.RowKit
set_option linter.unusedVariables false
set_option maxRecDepth 100000

theorem dTs_any (w : World) (A : Option Addr) (n c : Nat) (h : Bys w A n) (hnc : n ≤ c) (hA : A = none → n = 0) : Calls Tryz.prog 39 #[.slice A n c] w (RetDrP w) := by
  have hd := drawPV_any w A n c h hnc hA
  go_enter Tryz.func39, Tryz.ntmps39
  go_wp2_with fail
  refine hd.mono ?_
  rintro e1 w1 ⟨pr, v, rfl, h1, h2, h3⟩
  go_wp2_with fail
  go_ret
  exact ⟨pr, v, rfl, h1, h2, h3⟩

set_option maxHeartbeats 4000000 in
theorem lawTs_walk (w : World) (A : Option Addr) (n c : Nat) (h : Bys w A n) (hnc : n ≤ c) (hA : A = none → n = 0) :
    Calls Tryz.prog 12 #[.slice A n c] w (RetB w true) := by
  have hdr := dTs_any w A n c h hnc hA
  have hn := h.1
  clear h
  go_enter Tryz.func12, Tryz.ntmps12
  by_cases hsz : (1048576 : Int) < (n : Int)
  · have hd : decide ((n : Int) > 1048576) = true := by simpa using hsz
    go_wp2_with fail
    go_ret
    exact ⟨rfl, Below.refl _ _⟩
  have hd : decide ((n : Int) > 1048576) = false := by simpa using hsz
  go_wp2_with fail
  refine hdr.mono ?_
  rintro e1 w1 ⟨p, v, rfl, hps, hfew, hB1⟩
  have hp1 : PrgS w1 v p := PrgS.le hps (Le.above _ _)
  obtain ⟨A1, c1, rfl, hpl⟩ := hp1.slice
  have hl : p.length ≤ 1048576 := by have := hfew.1; omega
  have Hls := Lib.hid (hfew.mil (by omega))
  have HP1 := Lib.hid hp1
  clear hps hdr hp1 hfew
  have hc2 := implRt_any p hl Hls.out w1 _ HP1.out
  go_wp2_with fail
  refine hc2.mono ?_
  rintro e2 w2 ⟨v2, LT, F2, rfl, ho2, _, _, hout2, _, hb2⟩
  have hB2 := hB1.trans (hb2.mono hB1.size)
  have HP2 := Lib.hid (PrgS.le HP1.out (Le.below hb2))
  obtain ⟨AT, cT, ef⟩ := OwI2.form ho2
  subst ef
  have HoT := Lib.hid hout2
  have HiT2 := Lib.hid ho2.intss0
  clear hc2 ho2 hout2
  have hc3 := specRt_any p hl w2 _ HP2.out
  go_wp2_with fail
  refine hc3.mono ?_
  rintro e3 w3 ⟨A3, L3, c3, rfl, hi3, hout3, hb3⟩
  have hB3 := hB2.trans (hb3.mono hB2.size)
  have HP3 := Lib.hid (PrgS.le HP2.out (Le.below hb3))
  have HiT3 := Lib.hid (Intss.le HiT2.out (Le.below hb3))
  obtain rfl : LT = L3 := (HoT.out.same hout3)
  clear hc3 hout3
  have hc4 := (show Calls _ _ _ _ (RetB w3 true) from by have h := wmLists_any LT LT w3 AT A3 cT c3 HiT3.out hi3; rw [eqB_self] at h; exact h)
  go_wp2_with fail
  refine hc4.mono ?_
  rintro e4 w4 ⟨rfl, hb4⟩
  have hB4 := hB3.trans (hb4.mono hB3.size)
  have HP4 := Lib.hid (PrgS.le HP3.out (Le.below hb4))
  have HiT4 := Lib.hid (Intss.le HiT3.out (Le.below hb4))
  clear hc4
  clear hi3
  have hc5 := implPrg_any p hl Hls.out w4 _ HP4.out
  have HF : Hid (prgB p = false → LT = []) := fun h => HoT.out.none (prgB_false.1 h)
  have HT : Hid (prgB p = true → PrgOk p) := fun h => prgB_iff.1 h
  go_wp2_with fail
  refine hc5.mono ?_
  rintro e5 w5 ⟨rfl, hb5⟩
  have hB5 := hB4.trans (hb5.mono hB4.size)
  have HP5 := Lib.hid (PrgS.le HP4.out (Le.below hb5))
  have HiT5 := Lib.hid (Intss.le HiT4.out (Le.below hb5))
  clear hc5
  cases hpb : prgB p
  · skip
    obtain rfl := HF.out hpb
    have Hpb := Lib.hid hpb
    clear hpb HT HF
    have hc6 := specRt_any p hl w5 _ HP5.out
    go_wp2_with fail
    refine hc6.mono ?_
    rintro e6 w6 ⟨A6, L6, c6, rfl, hi6, hout6, hb6⟩
    have hB6 := hB5.trans (hb6.mono hB5.size)
    have HP6 := Lib.hid (PrgS.le HP5.out (Le.below hb6))
    have HiT6 := Lib.hid (Intss.le HiT5.out (Le.below hb6))
    obtain rfl : ([] : List (List Int)) = L6 := (HoT.out.same hout6)
    clear hc6 hout6
    have hc7 := (show Calls _ _ _ _ (RetB w6 true) from by have h := wmLists_any [] [] w6 AT A6 cT c6 HiT6.out hi6; rw [eqB_self] at h; exact h)
    go_wp2_with fail
    refine hc7.mono ?_
    rintro e7 w7 ⟨rfl, hb7⟩
    have hB7 := hB6.trans (hb7.mono hB6.size)
    have HP7 := Lib.hid (PrgS.le HP6.out (Le.below hb7))
    have HiT7 := Lib.hid (Intss.le HiT6.out (Le.below hb7))
    clear hc7
    clear hi6
    have hc8 := (show Calls _ _ _ _ (RetB w7 false) from by have h := implPrg_any p hl Hls.out w7 _ HP7.out; rw [Hpb.out] at h; exact h)
    go_wp2_with fail
    refine hc8.mono ?_
    rintro e8 w8 ⟨rfl, hb8⟩
    have hB8 := hB7.trans (hb8.mono hB7.size)
    have HP8 := Lib.hid (PrgS.le HP7.out (Le.below hb8))
    have HiT8 := Lib.hid (Intss.le HiT7.out (Le.below hb8))
    clear hc8
    go_wp2_with fail
    go_ret
    exact ⟨rfl, hB8⟩
  · skip
    have Hp : Hid (PrgOk p) := HT.out hpb
    clear hpb HT HF
    have hc6 := implRp_any p hl Hls.out w5 _ HP5.out
    go_wp2_with fail
    refine hc6.mono ?_
    rintro e6 w6 ⟨v6, LQ, F6, rfl, ho6, _, _, hout6, _, hb6⟩
    have hB6 := hB5.trans (hb6.mono hB5.size)
    have HP6 := Lib.hid (PrgS.le HP5.out (Le.below hb6))
    have HiT6 := Lib.hid (Intss.le HiT5.out (Le.below hb6))
    obtain ⟨AQ, cQ, ef⟩ := OwI2.form ho6
    subst ef
    have HoQ := Lib.hid hout6
    have HiQ6 := Lib.hid ho6.intss0
    clear hc6 ho6 hout6
    have hc7 := sorted_any LT (p.length * 3 + 3) HoT.out.size HoT.out.asc w6 AT cT HiT6.out
    go_wp2_with fail
    refine hc7.mono ?_
    rintro e7 w7 ⟨rfl, hb7⟩
    have hB7 := hB6.trans (hb7.mono hB6.size)
    have HP7 := Lib.hid (PrgS.le HP6.out (Le.below hb7))
    have HiT7 := Lib.hid (Intss.le HiT6.out (Le.below hb7))
    have HiQ7 := Lib.hid (Intss.le HiQ6.out (Le.below hb7))
    clear hc7
    have hc8 := sorted_any LQ (p.length * 3 + 3) HoQ.out.size HoQ.out.asc w7 AQ cQ HiQ7.out
    go_wp2_with fail
    refine hc8.mono ?_
    rintro e8 w8 ⟨rfl, hb8⟩
    have hB8 := hB7.trans (hb8.mono hB7.size)
    have HP8 := Lib.hid (PrgS.le HP7.out (Le.below hb8))
    have HiT8 := Lib.hid (Intss.le HiT7.out (Le.below hb8))
    have HiQ8 := Lib.hid (Intss.le HiQ7.out (Le.below hb8))
    clear hc8
    have hc9 := implRn_any p hl Hls.out w8 _ HP8.out
    go_wp2_with fail
    refine hc9.mono ?_
    rintro e9 w9 ⟨v9, LS, F9, rfl, ho9, _, _, hout9, _, hb9⟩
    have hB9 := hB8.trans (hb9.mono hB8.size)
    have HP9 := Lib.hid (PrgS.le HP8.out (Le.below hb9))
    have HiT9 := Lib.hid (Intss.le HiT8.out (Le.below hb9))
    have HiQ9 := Lib.hid (Intss.le HiQ8.out (Le.below hb9))
    obtain ⟨AS, cS, ef⟩ := OwI2.form ho9
    subst ef
    have HoS := Lib.hid hout9
    have HiS9 := Lib.hid ho9.intss0
    clear hc9 ho9 hout9
    have hc10 := wmWi_any LS LT (fun x hx => (HoT.out.iff Hp.out x).2 (out_sc false Hp.out ((HoS.out.iff Hp.out x).1 hx))) w9 AS AT cS cT HiS9.out HiT9.out
    go_wp2_with fail
    refine hc10.mono ?_
    rintro e10 w10 ⟨rfl, hb10⟩
    have hB10 := hB9.trans (hb10.mono hB9.size)
    have HP10 := Lib.hid (PrgS.le HP9.out (Le.below hb10))
    have HiT10 := Lib.hid (Intss.le HiT9.out (Le.below hb10))
    have HiQ10 := Lib.hid (Intss.le HiQ9.out (Le.below hb10))
    have HiS10 := Lib.hid (Intss.le HiS9.out (Le.below hb10))
    clear hc10
    have hc11 := wmWi_any LT LQ (fun x hx => (HoQ.out.iff Hp.out x).2 (out_pso Hp.out ((HoT.out.iff Hp.out x).1 hx))) w10 AT AQ cT cQ HiT10.out HiQ10.out
    go_wp2_with fail
    refine hc11.mono ?_
    rintro e11 w11 ⟨rfl, hb11⟩
    have hB11 := hB10.trans (hb11.mono hB10.size)
    have HP11 := Lib.hid (PrgS.le HP10.out (Le.below hb11))
    have HiT11 := Lib.hid (Intss.le HiT10.out (Le.below hb11))
    have HiQ11 := Lib.hid (Intss.le HiQ10.out (Le.below hb11))
    have HiS11 := Lib.hid (Intss.le HiS10.out (Le.below hb11))
    clear hc11
    go_wp2_with fail
    go_ret
    exact ⟨rfl, hB11⟩

end Go.Proofs.YtahegjofooahkaaGreat
