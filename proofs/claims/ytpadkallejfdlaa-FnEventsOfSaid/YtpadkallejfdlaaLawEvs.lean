/-
  The walk of FnEventsOf: it answers true.
-/
import Derived.Test.YtpadkallejfdlaaDp9
import Derived.Test.YtpadkallejfdlaaCnt
import Derived.Test.YtpadkallejfdlaaLawEv
namespace Go.Proofs.Ytpadkallejfdlaa
open Go.RowKit
set_option linter.unusedVariables false
set_option maxRecDepth 100000

theorem evT_len_op (ti : Nat) (t : List Ins) (i : Nat) : (evT ti i t).length + opT 4 t = t.length := by
  rw [evT_length]
  unfold cntE' opT nf
  induction t with
  | nil => rfl
  | cons x t ih =>
    rw [List.countP_cons, List.countP_cons, List.length_cons]
    by_cases h : x.op = 4
    · simp [h]; omega
    · simp [h]; omega
theorem evN_op (p : Prg) : evN p + opN 4 p = wSum List.length p := by
  unfold evN opN
  induction p with
  | nil => rfl
  | cons t p ih =>
    have := evT_len_op 0 t 0
    rw [evT_length] at this
    simp only [wSum]
    omega
/-- An event of an instruction. -/
theorem mem_evT {ti : Nat} {e : Ev} : ∀ {t : List Ins} {i : Nat}, e ∈ evT ti i t → ∃ x ∈ t, x.op ≠ 4 ∧ e.thr = ti ∧ e.loc = x.loc ∧ e.rd = rdB x ∧ e.wr = wrB x
  | [], _, h => by cases h
  | x :: t, i, h => by
    rw [evT] at h
    rcases List.mem_append.1 h with h | h
    · unfold evI at h
      by_cases h4 : x.op = 4
      · rw [if_pos h4] at h; cases h
      · rw [if_neg h4] at h
        rw [List.mem_singleton.1 h]
        exact ⟨x, by simp, h4, rfl, rfl, rfl, rfl⟩
    · obtain ⟨y, hy, h⟩ := mem_evT h
      exact ⟨y, List.mem_cons_of_mem _ hy, h⟩
theorem mem_evP {e : Ev} : ∀ {p : Prg} {ti : Nat}, e ∈ evP ti p → ∃ t ∈ p, ∃ x ∈ t, x.op ≠ 4 ∧ (0 : Int) ≤ e.thr ∧ e.loc = x.loc ∧ e.rd = rdB x ∧ e.wr = wrB x
  | [], _, h => by cases h
  | t :: p, ti, h => by
    rw [evP] at h
    rcases List.mem_append.1 h with h | h
    · obtain ⟨x, hx, h1, h2, h3⟩ := mem_evT h
      exact ⟨t, by simp, x, hx, h1, by rw [h2]; omega, h3⟩
    · obtain ⟨s, hs, h⟩ := mem_evP h
      exact ⟨s, List.mem_cons_of_mem _ hs, h⟩
theorem evs_get {p : Prg} (h : PrgOk p) {i : Nat} (hi : i < (evs p).length) : ((evs p)[i].rd || (evs p)[i].wr) = true ∧ (decide (i ≤ 2) = decide ((evs p)[i].thr < 0)) := by
  unfold evs at hi ⊢
  by_cases h3 : i < 3
  · rw [List.getElem_append_left (by exact h3)]
    match i, h3 with
    | 0, _ => exact ⟨rfl, rfl⟩
    | 1, _ => exact ⟨rfl, rfl⟩
    | 2, _ => exact ⟨rfl, rfl⟩
  · rw [List.getElem_append_right (by show 3 ≤ i; omega)]
    generalize he : (evP 0 p)[i - ini.length]'(by rw [List.length_append] at hi; show i - 3 < _; have : ini.length = 3 := rfl; omega) = e
    have hm : e ∈ evP 0 p := by rw [← he]; exact List.getElem_mem _
    obtain ⟨t, ht, x, hx, h4, h0, _, hr, hw⟩ := mem_evP hm
    have hop := ((h.1.2.1 t ht).2 x hx).op
    refine ⟨?_, ?_⟩
    · rw [hr, hw]
      unfold rdB wrB
      simp only [Bool.or_eq_true, decide_eq_true_iff]
      omega
    · rw [decide_eq_false (by omega), decide_eq_false (by omega)]

theorem drawEv_any (w : World) (A : Option Addr) (n c : Nat) (h : Bys w A n) (hnc : n ≤ c) (hA : A = none → n = 0) : Calls Try.prog 18 #[.slice A n c] w (RetDrP w) := by
  have hd := drawPV_any w A n c h hnc hA
  go_enter Try.func18, Try.ntmps18
  go_wp2_with fail
  refine hd.mono ?_
  rintro e w' ⟨pr, v, rfl, h1, h2, h3⟩
  go_wp2_with fail
  go_ret
  exact ⟨pr, v, rfl, h1, h2, h3⟩

set_option maxHeartbeats 4000000 in
theorem lawEvs_walk (w : World) (A : Option Addr) (n c : Nat) (h : Bys w A n) (hnc : n ≤ c) (hA : A = none → n = 0) :
    Calls Try.prog 4 #[.slice A n c] w (RetB w true) := by
  have hdr := drawEv_any w A n c h hnc hA
  have hn := h.1
  clear h
  go_enter Try.func4, Try.ntmps4
  by_cases hsz : (1048576 : Int) < (n : Int)
  · have hd : decide ((n : Int) > 1048576) = true := by simpa using hsz
    go_wp2_with fail
    go_ret
    exact ⟨rfl, Below.refl _ _⟩
  have hd : decide ((n : Int) > 1048576) = false := by simpa using hsz
  go_wp2_with fail
  refine hdr.mono ?_
  rintro e1 w1 ⟨p, v1, rfl, hps, hfew, hb1⟩
  obtain ⟨A1, c1, rfl, _⟩ := hps.slice
  have hp1 := PrgS.le hps (Le.above _ _)
  have hl : p.length ≤ 1048576 := by have := hfew.1; omega
  have Hls := Lib.hid (hfew.mil (by omega))
  clear hps hdr hfew
  go_wp2_with fail
  refine (implEv_any p hl Hls.out _ _ hp1).mono ?_
  rintro e2 w2 ⟨v2, F2, rfl, ho2, _, _, hb2⟩
  have hB2 := hb1.trans (hb2.mono hb1.size)
  have hp2 := PrgS.le hp1 (Le.below hb2)
  have he2 := ho2.evS0
  obtain ⟨A2, c2, rfl, _⟩ := he2.slice
  have hle := evO_small p
  clear ho2 hb2 hp1
  go_wp2_with fail
  refine (specEv_any p hl _ _ hp2).mono ?_
  rintro e3 w3 ⟨u3, rfl, hev3, hb3⟩
  have hB3 := hB2.trans (hb3.mono hB2.size)
  have hp3 := PrgS.le hp2 (Le.below hb3)
  have he3 := EvS.le he2 (Le.below hb3)
  obtain ⟨A3, c3, rfl, _⟩ := SlR.slice hev3
  have hpv := fun W (h : PrgS W (.slice A1 p.length c1) p) => implPrg_any p hl Hls.out W _ h
  have hco := fun W (h : PrgS W (.slice A1 p.length c1) p) => cntOps_any p 4 hl Hls.out W _ h
  clear hp2 he2 hb3
  go_wp2_with fail
  cases hv : prgB p
  · simp only [hv] at hpv
    have Hpv := Lib.hid hpv
    clear hpv hco
    refine (Hpv.out _ hp3).mono ?_
    rintro e4 w4 ⟨rfl, hb4⟩
    go_wp2_with fail
    go_ret
    exact ⟨by simp, hB3.trans (hb4.mono hB3.size)⟩
  · simp only [hv] at hpv
    have Hpv := Lib.hid hpv
    have Hco := Lib.hid hco
    have hok := prgB_iff.1 hv
    have He : Hid (evO p = evs p) := by show _ = _; unfold evO; rw [if_pos hv]
    have Hn : Hid (opO 4 p + evN p = wSum List.length p) := by
      show _ = _
      unfold opO; rw [if_pos hv]; have := evN_op p; omega
    have Hok := Lib.hid hok
    have h3 := hok.1.1
    have Hl : Hid ((evs p).length = 3 + evN p) := evs_length p
    clear hpv hco hv hok
    refine (Hpv.out _ hp3).mono ?_
    rintro e4 w4 ⟨rfl, hb4⟩
    have hp4 := PrgS.le hp3 (Le.below hb4)
    have he4 := EvS.le he3 (Le.below hb4)
    have hv4 := EvS.le hev3 (Le.below hb4)
    have hB4 := hB3.trans (hb4.mono hB3.size)
    clear hb4 hp3 he3 hev3
    go_wp2_with fail
    go_loopg [6, 7] p.length (fun g s6 s7 wr => ∃ i : Nat, i ≤ p.length ∧ g = p.length - i ∧ s7 = .int .i64 i ∧ s6 = .int .i64 ((3 + wSum List.length (p.take i) : Nat) : Int) ∧ wSum List.length (p.take i) ≤ 7 * i ∧ wr = w4)
    case atStart => exact ⟨0, Nat.zero_le _, rfl, rfl, by simp [wSum], by simp [wSum], rfl⟩
    case round =>
      obtain ⟨i, hi, rfl, rfl, rfl, hn7, rfl⟩ := hrel
      by_cases hlt : i < p.length
      · obtain ⟨bb, o, A5, c5, rfl, hbl, k0, hlm, hx⟩ := SlR.getSub hp4 hlt
        have htl := (Hok.out.1.2.1 _ (List.getElem_mem hlt)).1
        have Hts := Lib.hid (wSum_take_succ List.length p i hlt)
        generalize hnn : wSum List.length (p.take i) = nn at hn7
        rw [hnn] at Hts
        generalize p[i] = t at hlm k0 Hts htl
        clear hnn hx
        go_wp2_with fail
        go_roundg (p.length - (i + 1))
        case measure => omega
        case rel => exact ⟨i + 1, by omega, rfl, by go_num, congrArg (Value.int .i64) (by rw [Hts.out]; omega), by rw [Hts.out]; omega, rfl⟩
      · obtain rfl : i = p.length := by omega
        rw [List.take_length] at hn7 ⊢
        go_wp2_with fail
        go_loopg [8] (evO p).length (fun g s8 w5 => ∃ i : Nat, i ≤ (evO p).length ∧ g = (evO p).length - i ∧ s8 = .int .i64 i ∧ ∃ nq, w5 = wr.drewN nq)
        case atStart => exact ⟨0, Nat.zero_le _, rfl, rfl, 0, rfl⟩
        case round =>
          obtain ⟨i, hi, rfl, rfl, nq, rfl⟩ := hrel
          by_cases hlt : i < (evO p).length
          · obtain ⟨b, o, rfl, hbl, c0, c1', c2', c3', c4'⟩ := EvS.get he4 hlt
            obtain ⟨b', o', rfl, hbl', d0, d1, d2, d3, d4⟩ := EvS.get hv4 hlt
            have hg := evs_get Hok.out (i := i) (by rw [← He.out]; exact hlt)
            simp only [← He.out] at hg
            obtain ⟨hrw, hthr⟩ := hg
            generalize (evO p)[i] = ev at c0 c1' c2' c3' c4' d0 d1 d2 d3 d4 hrw hthr
            obtain ⟨thr, idx, loc, rd, wrt⟩ := ev
            simp only at c0 c1' c2' c3' c4' d0 d1 d2 d3 d4 hrw hthr
            have hthr' : decide ((i : Int) ≤ 2) = decide (thr < 0) := by rw [← hthr]; exact decide_eq_decide.2 ⟨fun h => by omega, fun h => by omega⟩
            clear hthr
            cases hb2 : decide (thr < 0)
            all_goals
              rw [hb2] at hthr'
              cases rd
              all_goals
                cases wrt
                all_goals
                  first
                    | (exfalso; revert hrw; decide)
                    | (go_wp2_with fail
                       go_quiet (fail)
                       go_wp2_with fail
                       go_roundg ((evO p).length - (i + 1))
                       case measure => omega
                       case rel => exact ⟨i + 1, by omega, rfl, by go_num, _, rfl⟩)
          · obtain rfl : i = (evO p).length := by omega
            have hN : 3 + wSum List.length p = (evO p).length + opO 4 p := by
              have h1 := Hl.out
              have h2 := Hn.out
              rw [← He.out] at h1
              omega
            have hK : opO 4 p ≤ 100 := by have h2 := Hn.out; omega
            have Hc := Lib.hid (Hco.out (wr.drewN nq) hp4)
            generalize (evO p).length = L at hle hN
            generalize opO 4 p = K at hN hK Hc
            generalize 3 + wSum List.length p = N at hN
            subst hN
            have hsub : ((L + K : Nat) : Int) - (K : Int) = L := by omega
            have hb16 : decide ((L : Int) ≤ 16) = true := by rw [decide_eq_true_iff]; omega
            have heq : ((L : Int) == ((L + K : Nat) : Int) - (K : Int)) = true := by rw [beq_iff_eq]; omega
            go_wp2_with fail
            refine Hc.out.mono ?_
            rintro e9 w9 ⟨rfl, hb9⟩
            go_wp2_with fail
            go_ret
            refine ⟨?_, (below_drewN hB4 nq).trans (hb9.mono hB4.size)⟩
            simp <;> omega

end Go.Proofs.Ytpadkallejfdlaa
