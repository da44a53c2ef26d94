/-
  The walk of FnSwapProgram: it answers true.
-/
import Derived.Test.YtahegjofooahkaaGreatWiB
import Derived.Test.YtahegjofooahkaaGreatDpCP
import Derived.Test.YtahegjofooahkaaGreatCnt
namespace Go.Proofs.YtahegjofooahkaaGreat
open Go.RowKit
set_option linter.unusedVariables false
set_option maxRecDepth 100000

theorem opO_le {p : Prg} (hp : PrgOk p) (o : Int) : opO o p ≤ 100 := by
  unfold opO
  split
  · have key : ∀ q : Prg, (∀ t ∈ q, t.length ≤ 7) → opN o q ≤ q.length * 7 := fun q => by
      induction q with
      | nil => intro _; exact Nat.le_refl _
      | cons t q ih =>
        intro h
        have h1 := ih fun t ht => h t (List.mem_cons_of_mem _ ht)
        have h2 := h t (List.mem_cons_self)
        have h3 := opT_le o t
        unfold opN at h1 ⊢
        simp only [wSum, List.length_cons]
        omega
    have h1 := key p fun t ht => (hp.1.2.1 t ht).1
    have := hp.1.1
    omega
  · omega
theorem opN_none {o : Int} : ∀ {p : Prg}, opN o p = 0 → ∀ t ∈ p, ∀ x ∈ t, x.op ≠ o
  | [], _, t, ht => by cases ht
  | u :: p, h, t, ht => by
    unfold opN at h
    simp only [wSum] at h
    rcases List.mem_cons.1 ht with rfl | ht
    · have h1 : opT o t = 0 := by omega
      unfold opT at h1
      rw [List.countP_eq_zero] at h1
      exact fun x hx e => h1 x hx (by simpa using e)
    · exact opN_none (p := p) (by unfold opN; omega) t ht
theorem swp_of {p : Prg} (hp : PrgOk p) (h2 : opO 2 p = 0) (h3 : opO 3 p = 0) : SwpP p := fun t x hx => by
  unfold opO at h2 h3
  rw [if_pos (prgB_iff.2 hp)] at h2 h3
  rcases Nat.lt_or_ge t p.length with ht | ht
  · rw [thrP_getB ht] at hx
    have e2 := opN_none h2 _ (List.getElem_mem ht) x hx
    have e3 := opN_none h3 _ (List.getElem_mem ht) x hx
    rintro (h | h)
    · exact e2 h
    · exact e3 h
  · unfold thrP at hx
    rw [List.getD_eq_getElem?_getD, List.getElem?_eq_none ht] at hx
    cases hx

theorem dSw_any (w : World) (A : Option Addr) (n c : Nat) (h : Bys w A n) (hnc : n ≤ c) (hA : A = none → n = 0) : Calls Tryz.prog 39 #[.slice A n c] w (RetDrP w) := by
  have hd := drawPV_any w A n c h hnc hA
  go_enter Tryz.func39, Tryz.ntmps39
  go_wp2_with fail
  refine hd.mono ?_
  rintro e1 w1 ⟨pr, v, rfl, h1, h2, h3⟩
  go_wp2_with fail
  go_ret
  exact ⟨pr, v, rfl, h1, h2, h3⟩

set_option maxHeartbeats 4000000 in
theorem lawSw_walk (w : World) (A : Option Addr) (n c : Nat) (h : Bys w A n) (hnc : n ≤ c) (hA : A = none → n = 0) :
    Calls Tryz.prog 10 #[.slice A n c] w (RetB w true) := by
  have hdr := dSw_any w A n c h hnc hA
  have hn := h.1
  clear h
  go_enter Tryz.func10, Tryz.ntmps10
  by_cases hsz : (1048576 : Int) < (n : Int)
  · have hd : decide ((n : Int) > 1048576) = true := by simpa using hsz
    go_wp2_with fail
    go_ret
    exact ⟨rfl, Below.refl _ _⟩
  have hd : decide ((n : Int) > 1048576) = false := by simpa using hsz
  go_wp2_with fail
  refine hdr.mono ?_
  rintro e1 w1 ⟨p, v, rfl, hps, hfew, hB1⟩
  have hp1 : PrgS w1 v p := PrgS.le hps (Le.above _ _)
  obtain ⟨A1, c1, rfl, hpl⟩ := hp1.slice
  have hl : p.length ≤ 1048576 := by have := hfew.1; omega
  have Hls := Lib.hid (hfew.mil (by omega))
  have HP1 := Lib.hid hp1
  clear hps hdr hp1 hfew
  have hc2 := implRt_any p hl Hls.out w1 _ HP1.out
  go_wp2_with fail
  refine hc2.mono ?_
  rintro e2 w2 ⟨v2, LT, F2, rfl, ho2, _, _, hout2, _, hb2⟩
  have hB2 := hB1.trans (hb2.mono hB1.size)
  have HP2 := Lib.hid (PrgS.le HP1.out (Le.below hb2))
  obtain ⟨AT, cT, ef⟩ := OwI2.form ho2
  subst ef
  have HoT := Lib.hid hout2
  have HiT2 := Lib.hid ho2.intss0
  clear hc2 ho2 hout2
  have hc3 := specRt_any p hl w2 _ HP2.out
  go_wp2_with fail
  refine hc3.mono ?_
  rintro e3 w3 ⟨A3, L3, c3, rfl, hi3, hout3, hb3⟩
  have hB3 := hB2.trans (hb3.mono hB2.size)
  have HP3 := Lib.hid (PrgS.le HP2.out (Le.below hb3))
  have HiT3 := Lib.hid (Intss.le HiT2.out (Le.below hb3))
  obtain rfl : LT = L3 := (HoT.out.same hout3)
  clear hc3 hout3
  have hc4 := (show Calls _ _ _ _ (RetB w3 true) from by have h := wmLists_any LT LT w3 AT A3 cT c3 HiT3.out hi3; rw [eqB_self] at h; exact h)
  go_wp2_with fail
  refine hc4.mono ?_
  rintro e4 w4 ⟨rfl, hb4⟩
  have hB4 := hB3.trans (hb4.mono hB3.size)
  have HP4 := Lib.hid (PrgS.le HP3.out (Le.below hb4))
  have HiT4 := Lib.hid (Intss.le HiT3.out (Le.below hb4))
  clear hc4
  clear hi3
  have hc5 := implPrg_any p hl Hls.out w4 _ HP4.out
  have HT : Hid (prgB p = true → PrgOk p) := fun h => prgB_iff.1 h
  go_wp2_with fail
  refine hc5.mono ?_
  rintro e5 w5 ⟨rfl, hb5⟩
  have hB5 := hB4.trans (hb5.mono hB4.size)
  have HP5 := Lib.hid (PrgS.le HP4.out (Le.below hb5))
  have HiT5 := Lib.hid (Intss.le HiT4.out (Le.below hb5))
  clear hc5
  cases hpb : prgB p
  · skip
    clear hpb HT
    have hc6 := specRt_any p hl w5 _ HP5.out
    go_wp2_with fail
    refine hc6.mono ?_
    rintro e6 w6 ⟨A6, L6, c6, rfl, hi6, hout6, hb6⟩
    have hB6 := hB5.trans (hb6.mono hB5.size)
    have HP6 := Lib.hid (PrgS.le HP5.out (Le.below hb6))
    have HiT6 := Lib.hid (Intss.le HiT5.out (Le.below hb6))
    obtain rfl : LT = L6 := (HoT.out.same hout6)
    clear hc6 hout6
    have hc7 := (show Calls _ _ _ _ (RetB w6 true) from by have h := wmLists_any LT LT w6 AT A6 cT c6 HiT6.out hi6; rw [eqB_self] at h; exact h)
    go_wp2_with fail
    refine hc7.mono ?_
    rintro e7 w7 ⟨rfl, hb7⟩
    have hB7 := hB6.trans (hb7.mono hB6.size)
    have HP7 := Lib.hid (PrgS.le HP6.out (Le.below hb7))
    have HiT7 := Lib.hid (Intss.le HiT6.out (Le.below hb7))
    clear hc7
    clear hi6
    go_wp2_with fail
    go_ret
    exact ⟨rfl, hB7⟩
  · skip
    have Hp : Hid (PrgOk p) := HT.out hpb
    clear hpb HT
    obtain ⟨n2, hn2⟩ : ∃ n, n = opO 2 p := ⟨_, rfl⟩
    obtain ⟨n3, hn3⟩ : ∃ n, n = opO 3 p := ⟨_, rfl⟩
    have hn2s : n2 ≤ 100 := by rw [hn2]; exact opO_le Hp.out 2
    have hn3s : n3 ≤ 100 := by rw [hn3]; exact opO_le Hp.out 3
    have HN := Lib.hid (And.intro hn2 hn3)
    clear hn2 hn3
    have hc6 := (show Calls _ _ _ _ (RetI w5 (n2 : Nat)) from by have h := cntOps_any p 2 hl Hls.out w5 _ HP5.out; rw [← HN.out.1] at h; exact h)
    go_wp2_with fail
    refine hc6.mono ?_
    rintro e6 w6 ⟨rfl, hb6⟩
    have hB6 := hB5.trans (hb6.mono hB5.size)
    have HP6 := Lib.hid (PrgS.le HP5.out (Le.below hb6))
    have HiT6 := Lib.hid (Intss.le HiT5.out (Le.below hb6))
    clear hc6
    have hc7 := (show Calls _ _ _ _ (RetI w6 (n3 : Nat)) from by have h := cntOps_any p 3 hl Hls.out w6 _ HP6.out; rw [← HN.out.2] at h; exact h)
    go_wp2_with fail
    refine hc7.mono ?_
    rintro e7 w7 ⟨rfl, hb7⟩
    have hB7 := hB6.trans (hb7.mono hB6.size)
    have HP7 := Lib.hid (PrgS.le HP6.out (Le.below hb7))
    have HiT7 := Lib.hid (Intss.le HiT6.out (Le.below hb7))
    clear hc7
    by_cases hs : 0 < n2 + n3
    · skip
      have hd1 : decide ((0 : Int) < (n2 : Int) + (n3 : Int)) = true := by rw [decide_eq_true_iff]; omega
      have hd2 : decide (0 < n2 + n3) = true := by rw [decide_eq_true_iff]; exact hs
      clear hs
      have hc8 := specRt_any p hl w7 _ HP7.out
      go_wp2_with fail
      refine hc8.mono ?_
      rintro e8 w8 ⟨A8, L8, c8, rfl, hi8, hout8, hb8⟩
      have hB8 := hB7.trans (hb8.mono hB7.size)
      have HP8 := Lib.hid (PrgS.le HP7.out (Le.below hb8))
      have HiT8 := Lib.hid (Intss.le HiT7.out (Le.below hb8))
      obtain rfl : LT = L8 := (HoT.out.same hout8)
      clear hc8 hout8
      have hc9 := (show Calls _ _ _ _ (RetB w8 true) from by have h := wmLists_any LT LT w8 AT A8 cT c8 HiT8.out hi8; rw [eqB_self] at h; exact h)
      go_wp2_with fail
      refine hc9.mono ?_
      rintro e9 w9 ⟨rfl, hb9⟩
      have hB9 := hB8.trans (hb9.mono hB8.size)
      have HP9 := Lib.hid (PrgS.le HP8.out (Le.below hb9))
      have HiT9 := Lib.hid (Intss.le HiT8.out (Le.below hb9))
      clear hc9
      clear hi8
      go_wp2_with fail
      go_ret
      exact ⟨rfl, hB9⟩
    · skip
      have hd1 : decide ((0 : Int) < (n2 : Int) + (n3 : Int)) = false := by rw [decide_eq_false_iff_not]; omega
      have hd2 : decide (0 < n2 + n3) = false := by rw [decide_eq_false_iff_not]; exact hs
      have Hsw : Hid (SwpP p) := swp_of Hp.out (by have := HN.out.1; omega) (by have := HN.out.2; omega)
      have hc8 := implRn_any p hl Hls.out w7 _ HP7.out
      go_wp2_with fail
      refine hc8.mono ?_
      rintro e8 w8 ⟨v8, LS, F8, rfl, ho8, _, _, hout8, _, hb8⟩
      have hB8 := hB7.trans (hb8.mono hB7.size)
      have HP8 := Lib.hid (PrgS.le HP7.out (Le.below hb8))
      have HiT8 := Lib.hid (Intss.le HiT7.out (Le.below hb8))
      obtain ⟨AS, cS, ef⟩ := OwI2.form ho8
      subst ef
      have HoS := Lib.hid hout8
      have HiS8 := Lib.hid ho8.intss0
      clear hc8 ho8 hout8
      obtain rfl : LT = LS := outB_eq Hp.out HoT.out HoS.out fun y h => out_swp Hp.out Hsw.out h
      have hc9 := (show Calls _ _ _ _ (RetB w8 true) from by have h := wmLists_any LT LT w8 AT AS cT cS HiT8.out HiS8.out; rw [eqB_self] at h; exact h)
      clear hs hd1 hd2
      go_wp2_with fail
      refine hc9.mono ?_
      rintro e9 w9 ⟨rfl, hb9⟩
      have hB9 := hB8.trans (hb9.mono hB8.size)
      have HP9 := Lib.hid (PrgS.le HP8.out (Le.below hb9))
      have HiT9 := Lib.hid (Intss.le HiT8.out (Le.below hb9))
      have HiS9 := Lib.hid (Intss.le HiS8.out (Le.below hb9))
      clear hc9
      have hc10 := implRp_any p hl Hls.out w9 _ HP9.out
      go_wp2_with fail
      refine hc10.mono ?_
      rintro e10 w10 ⟨v10, LQ, F10, rfl, ho10, _, _, hout10, _, hb10⟩
      have hB10 := hB9.trans (hb10.mono hB9.size)
      have HP10 := Lib.hid (PrgS.le HP9.out (Le.below hb10))
      have HiT10 := Lib.hid (Intss.le HiT9.out (Le.below hb10))
      have HiS10 := Lib.hid (Intss.le HiS9.out (Le.below hb10))
      obtain ⟨AQ, cQ, ef⟩ := OwI2.form ho10
      subst ef
      have HoQ := Lib.hid hout10
      have HiQ10 := Lib.hid ho10.intss0
      clear hc10 ho10 hout10
      obtain rfl : LT = LQ := (outB_eq Hp.out HoQ.out HoS.out fun y h => out_swp Hp.out Hsw.out h).symm
      have hc11 := (show Calls _ _ _ _ (RetB w10 true) from by have h := wmLists_any LT LT w10 AQ AT cQ cT HiQ10.out HiT10.out; rw [eqB_self] at h; exact h)
      go_wp2_with fail
      refine hc11.mono ?_
      rintro e11 w11 ⟨rfl, hb11⟩
      have hB11 := hB10.trans (hb11.mono hB10.size)
      have HP11 := Lib.hid (PrgS.le HP10.out (Le.below hb11))
      have HiT11 := Lib.hid (Intss.le HiT10.out (Le.below hb11))
      have HiS11 := Lib.hid (Intss.le HiS10.out (Le.below hb11))
      have HiQ11 := Lib.hid (Intss.le HiQ10.out (Le.below hb11))
      clear hc11
      have hc12 := implBS_any p hl Hls.out true w11 _ HP11.out
      go_wp2_with fail
      refine hc12.mono ?_
      rintro e12 w12 ⟨nb, rfl, hcb, hb12⟩
      have hB12 := hB11.trans (hb12.mono hB11.size)
      have HP12 := Lib.hid (PrgS.le HP11.out (Le.below hb12))
      have HiT12 := Lib.hid (Intss.le HiT11.out (Le.below hb12))
      have HiS12 := Lib.hid (Intss.le HiS11.out (Le.below hb12))
      have HiQ12 := Lib.hid (Intss.le HiQ11.out (Le.below hb12))
      have HCb := Lib.hid hcb
      clear hcb
      clear hc12
      have hc13 := implSt_any p hl Hls.out w12 _ HP12.out
      go_wp2_with fail
      refine hc13.mono ?_
      rintro e13 w13 ⟨ns, rfl, hcs, _, hb13⟩
      have hB13 := hB12.trans (hb13.mono hB12.size)
      have HP13 := Lib.hid (PrgS.le HP12.out (Le.below hb13))
      have HiT13 := Lib.hid (Intss.le HiT12.out (Le.below hb13))
      have HiS13 := Lib.hid (Intss.le HiS12.out (Le.below hb13))
      have HiQ13 := Lib.hid (Intss.le HiQ12.out (Le.below hb13))
      have hns : nb = ns := by
        rcases HCb.out with ⟨_, V, h1, rfl⟩ | ⟨h, _⟩
        · rcases hcs with ⟨_, V', h2, rfl⟩ | ⟨h, _⟩
          · exact swp_count Hp.out Hsw.out h2 h1
          · exact absurd Hp.out h
        · exact absurd Hp.out h
      obtain rfl := hns
      clear hcs
      clear hc13
      have hee : ((nb : Int) == (nb : Int)) = true := by simp
      go_wp2_with fail
      go_ret
      exact ⟨rfl, hB13⟩

end Go.Proofs.YtahegjofooahkaaGreat
