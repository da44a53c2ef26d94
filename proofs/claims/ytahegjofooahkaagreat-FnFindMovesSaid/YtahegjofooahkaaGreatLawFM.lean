/-
  The program's FindMoves; the walk of FnFindMoves: it answers true.
-/
import Derived.Test.YtahegjofooahkaaGreatFndB
import Derived.Test.YtahegjofooahkaaGreatFnSB
import Derived.Test.YtahegjofooahkaaGreatDrM
import Derived.Test.YtahegjofooahkaaGreatRunI
import Derived.Test.YtahegjofooahkaaGreatSrt
namespace Go.Proofs.YtahegjofooahkaaGreat
open Go.RowKit
set_option linter.unusedVariables false
set_option maxRecDepth 100000

theorem bufM_E {p : Prg} (hp : PrgOk p) (sp : Bool) (Ap : Option Addr) (cp : Nat) : MachE (bufM p sp Ap cp) potB where
  dec := fun s t hs ht => potB_lt hp hs ht
  low := fun s hs => by
    have := potB_le hp (reachB_ok hp hs)
    omega

set_option maxHeartbeats 1000000 in
theorem implFM_any (p : Prg) (hl : p.length ≤ 1048576) (hls : ∀ t ∈ p, t.length ≤ 1048576) (sp : Bool) (o : List Int) (W : World) (v : Value) (hr : PrgS W v p) (B : Option Addr) (d : Nat) (hI : Ints W B d o) : Calls Tryz.prog 14 #[v, .bool sp, .slice B o.length d] W (RetFSB p sp o W) := by
  have hov := implOV_any p hl hls o W v hr B d hI
  have HR := Lib.hid hr
  have HI := Lib.hid hI
  have hm := hI.len
  obtain ⟨A, c, rfl, _⟩ := hr.slice
  have HF : Hid (ovB p o = false → ¬ OutOk p o) := fun h => ovB_false.1 h
  have HT : Hid (ovB p o = true → OutOk p o) := fun h => ovB_iff.1 h
  clear hI
  go_enter Tryz.func14, Tryz.ntmps14
  go_wp2_with fail
  refine hov.mono ?_
  rintro e1 w1 ⟨rfl, hb1⟩
  clear hov
  cases hb : ovB p o
  · have Hn := Lib.hid (HF.out hb)
    clear hb HT HF
    go_wp2_with fail
    refine bodyPost_ret (v := .tuple #[.slice none 0 0, .bool false]) (by simp [results, Tryz.results14, go_sem]) rfl ?_
    exact ⟨none, 0, none, rfl, Ints.nil _ _, hb1, .inr ⟨Hn.out, rfl⟩⟩
  · have Hok : Hid (OutOk p o) := HT.out hb
    have hns := newBuffers_any p (by have := Hok.out.1.1.1; omega) sp w1 _ (HR.out.le (Le.below hb1))
    clear hb HT HF
    go_wp2_with fail
    refine hns.mono ?_
    rintro e2 w2 ⟨Ap, cp, b, e, rfl, hR, hpr2, hb2⟩
    injection e with e1 _ e3
    subst e1 e3
    have hB2 := hb1.trans (hb2.mono hb1.size)
    have hse := search_any (bufM p sp A c) (bufM_P Hok.out.1 sp A c) (bufM_C Hok.out.1 sp A c) potB (bufM_E Hok.out.1 sp A c) o w2 b ⟨hR, hpr2⟩ B d (HI.out.le (Le.below hB2))
    clear hns hR hpr2
    go_wp2_with fail
    refine hse.mono ?_
    rintro e3 w3 ⟨A3, c3, r, rfl, hi3, hb3, hf3⟩
    have hB3 := hB2.trans (hb3.mono hB2.size)
    have Hi3 := Lib.hid hi3
    have Hf3 := Lib.hid hf3
    clear hse hi3 hf3
    go_wp2_with fail
    refine bodyPost_ret (v := .tuple #[.slice A3 (r.getD []).length c3, .bool r.isSome]) (by simp [results, Tryz.results14, go_sem]) rfl ?_
    exact ⟨A3, c3, r, rfl, Hi3.out.le (Le.above _ _), hB3, .inl ⟨Hok.out, Hf3.out⟩⟩

theorem good_outB {p : Prg} {sp : Bool} {o : List Int} {L : List (List Int)} (hp : PrgOk p) (hL : IsOutB p sp L) : o ∈ L ↔ Good (sucB p sp) (goalB p o) (bt0 p sp) := by
  rw [hL.iff hp o, good_iff]
  constructor
  · rintro ⟨s, h1, h2, h3⟩
    exact ⟨s, h1, by unfold goalB; rw [h2, h3, eqB_self]; rfl⟩
  · rintro ⟨s, h1, h2⟩
    unfold goalB at h2
    rw [Bool.and_eq_true, eqB_iff] at h2
    exact ⟨s, h1, h2⟩
theorem mvBI_nodup (p : Prg) (sp : Bool) (s : BSt) : (mvBI p sp s (p.length + s.bufs.length)).Nodup := by
  rw [mvBI_eq, List.Nodup, List.pairwise_map]
  have h : (mvB p sp s).Nodup := by unfold mvB; exact List.Pairwise.filter _ List.nodup_range
  exact h.imp fun h e => h (by omega)
theorem fst_runB {p : Prg} {sp : Bool} {o : List Int} {l : List Int} (hp : PrgOk p) (h : FstP (sucB p sp) (mvF p sp) (goalB p o) (bt0 p sp) l) : mvsR p sp l = some o := by
  obtain ⟨t, h1, h2⟩ := h.way
  have hr : runW (sucB p sp) (mvF p sp) (bt0 p sp) l = some t := Way.run (fun s _ => mvF_len p sp s) (fun s _ => mvBI_nodup p sp s) h1 .start
  unfold goalB at h2
  rw [Bool.and_eq_true, eqB_iff] at h2
  unfold mvsR
  rw [if_pos (prgB_iff.2 hp)]
  unfold resW
  rw [show runW (sucB p sp) (fun s => mvBI p sp s (p.length + s.bufs.length)) (bt0 p sp) l = some t from hr]
  simp only [Option.bind_some]
  rw [if_pos h2.1, h2.2]

set_option maxHeartbeats 6000000 in
theorem lawFM_walk (w : World) (A : Option Addr) (n c : Nat) (h : Bys w A n) (hnc : n ≤ c) (hA : A = none → n = 0) :
    Calls Tryz.prog 3 #[.slice A n c] w (RetB w true) := by
  have hdr := drawFM_any w A n c h hnc hA
  have hn := h.1
  clear h
  go_enter Tryz.func3, Tryz.ntmps3
  by_cases hsz : (1048576 : Int) < (n : Int)
  · have hd : decide ((n : Int) > 1048576) = true := by simpa using hsz
    go_wp2_with fail
    go_ret
    exact ⟨rfl, Below.refl _ _⟩
  have hd : decide ((n : Int) > 1048576) = false := by simpa using hsz
  go_wp2_with fail
  refine hdr.mono ?_
  rintro e1 w1 ⟨p, v, sp, B1, d1, o, rfl, hps, hfew, hi1, hol, hb1⟩
  have hp1 : PrgS w1 v p := PrgS.le hps (Le.above _ _)
  obtain ⟨A1, c1, rfl, hpl⟩ := hp1.slice
  have hl : p.length ≤ 1048576 := by have := hfew.1; omega
  have Hls := Lib.hid (hfew.mil (by omega))
  have HP1 := Lib.hid hp1
  have HI1 := Lib.hid (hi1.le (Le.above _ _))
  have hfi := implFM_any p hl Hls.out sp o w1 _ hp1 B1 d1 HI1.out
  clear hps hdr hp1 hfew hi1
  go_wp2_with fail
  refine hfi.mono ?_
  rintro e2 w2 ⟨A2, c2, r, rfl, hi2, hb2, hf2⟩
  have hB2 := hb1.trans (hb2.mono hb1.size)
  have HI2 := Lib.hid hi2
  have Hf2 := Lib.hid hf2
  have hfs := specFM_any p hl sp o w2 _ (HP1.out.le (Le.below hb2)) B1 d1 (HI1.out.le (Le.below hb2))
  clear hfi hi2 hf2
  obtain ⟨xs, hxs⟩ : ∃ xs, xs = r.getD [] := ⟨_, rfl⟩
  obtain ⟨bo, hbo⟩ : ∃ bo, bo = r.isSome := ⟨_, rfl⟩
  have Hxs := Lib.hid (And.intro hxs hbo)
  rw [← hxs] at HI2
  rw [← hxs, ← hbo]
  clear hxs hbo
  go_wp2_with fail
  refine hfs.mono ?_
  rintro e3 w3 ⟨A3, c3, r', rfl, hi3, hb3, hf3⟩
  obtain rfl := hf3.uniq Hf2.out
  have hB3 := hB2.trans (hb3.mono hB2.size)
  rw [← Hxs.out.1] at hi3
  rw [← Hxs.out.1, ← Hxs.out.2]
  have HI3 := Lib.hid hi3
  have hne : (bo != bo) = false := by cases bo <;> rfl
  have heq : (bo == bo) = true := by cases bo <;> rfl
  have hwm := wmInts_any xs xs w3 A2 A3 c2 c3 (HI2.out.le (Le.below hb3)) hi3
  rw [eqB_self] at hwm
  clear hfs hi3 hf3
  go_wp2_with fail
  refine hwm.mono ?_
  rintro e4 w4 ⟨rfl, hb4⟩
  have hB4 := hB3.trans (hb4.mono hB3.size)
  have hb34 := hb3.trans (hb4.mono hb3.size)
  have hb14 := hb2.trans (hb34.mono hb2.size)
  have HP4 := Lib.hid (HP1.out.le (Le.below hb14))
  have HO4 := Lib.hid (HI1.out.le (Le.below hb14))
  have HX4 := Lib.hid (HI2.out.le (Le.below hb34))
  have HY4 := Lib.hid (HI3.out.le (Le.below hb4))
  have hov := implOV_any p hl Hls.out o w4 _ HP4.out B1 d1 HO4.out
  have HF : Hid (ovB p o = false → ¬ OutOk p o) := fun h => ovB_false.1 h
  have HT : Hid (ovB p o = true → OutOk p o) := fun h => ovB_iff.1 h
  clear hwm
  go_wp2_with fail
  refine hov.mono ?_
  rintro e5 w5 ⟨rfl, hb5⟩
  have hB5 := hB4.trans (hb5.mono hB4.size)
  clear hov
  cases hob : ovB p o
  · have hwm := wmInts_any xs xs w5 A2 A3 c2 c3 (HX4.out.le (Le.below hb5)) (HY4.out.le (Le.below hb5))
    rw [eqB_self] at hwm
    clear hob HF HT
    go_wp2_with fail
    refine hwm.mono ?_
    rintro e6 w6 ⟨rfl, hb6⟩
    go_wp2_with fail
    go_ret
    exact ⟨rfl, hB5.trans (hb6.mono hB5.size)⟩
  · have Hok : Hid (OutOk p o) := HT.out hob
    have HP5 := Lib.hid (HP4.out.le (Le.below hb5))
    have HO5 := Lib.hid (HO4.out.le (Le.below hb5))
    have HX5 := Lib.hid (HX4.out.le (Le.below hb5))
    clear hob HF HT
    have HQ : Hid ((bo = true ∧ mvsR p sp xs = some o ∧ ∀ L, IsOutB p sp L → o ∈ L) ∨ (bo = false ∧ ∀ L, IsOutB p sp L → o ∉ L)) := by
      rcases Hf2.out with ⟨_, ⟨l, e, hf⟩ | ⟨e, hg⟩⟩ | ⟨hn, _⟩
      · left
        subst e
        have e1 : xs = l := Hxs.out.1
        refine ⟨Hxs.out.2, by rw [e1]; exact fst_runB Hok.out.1 hf, fun L hL => (good_outB Hok.out.1 hL).2 hf.good⟩
      · right
        subst e
        exact ⟨Hxs.out.2, fun L hL h => hg ((good_outB Hok.out.1 hL).1 h)⟩
      · exact absurd Hok.out hn
    have HRm : Hid (∀ U, Below w5.heap.size w5 U → Calls Tryz.prog 20 #[.slice A1 p.length c1, .bool sp, .slice A2 xs.length c2] U (RetOv U (mvsR p sp xs))) := fun U hU => implRM_any p hl Hls.out sp xs U _ (HP5.out.le (Le.below hU)) A2 c2 (HX5.out.le (Le.below hU))
    generalize mvsR p sp xs = sr at HRm HQ
    have hrt := implRt_any p hl Hls.out w5 _ HP5.out
    clear Hf2
    go_wp2_with fail
    refine hrt.mono ?_
    rintro e6 w6 ⟨v6, LT, F6, rfl, ho6, _, _, hout6, _, hb6⟩
    obtain ⟨A6, c6, e6', _, _⟩ := OwRow.slice ho6
    subst e6'
    have hB6 := hB5.trans (hb6.mono hB5.size)
    have Hss6 := Lib.hid ho6.intss0
    have Hout6 := Lib.hid hout6
    clear hrt ho6 hout6
    cases sp
    case' false =>
      have HL : Hid ((bo = true ∧ sr = some o ∧ inL LT o = true) ∨ (bo = false ∧ inL LT o = false)) := by
        rcases HQ.out with ⟨h1, h2, h3⟩ | ⟨h1, h2⟩
        · exact .inl ⟨h1, h2, inL_iff.2 (h3 LT Hout6.out)⟩
        · exact .inr ⟨h1, inL_false.2 (h2 LT Hout6.out)⟩
      obtain ⟨w7, rfl⟩ : ∃ w7 : World, w7 = w6 := ⟨_, rfl⟩
      obtain ⟨LL, rfl⟩ : ∃ LL : List (List Int), LL = LT := ⟨_, rfl⟩
      obtain ⟨A7, rfl⟩ : ∃ A7 : Option Addr, A7 = A6 := ⟨_, rfl⟩
      obtain ⟨c7, rfl⟩ : ∃ c7 : Nat, c7 = c6 := ⟨_, rfl⟩
      have hB7 := hB6
      have hb57 := hb6
      have Hss7 := Hss6
    case' true =>
      have hrp := implRp_any p hl Hls.out w6 _ (HP5.out.le (Le.below hb6))
      go_wp2_with fail
      refine hrp.mono ?_
      rintro e7 w7 ⟨v7, LL, F7, rfl, ho7, _, _, hout7, _, hb7⟩
      obtain ⟨A7, c7, e7', _, _⟩ := OwRow.slice ho7
      subst e7'
      have hB7 := hB6.trans (hb7.mono hB6.size)
      have hb57 := hb6.trans (hb7.mono hb6.size)
      have Hss7 := Lib.hid ho7.intss0
      have HL : Hid ((bo = true ∧ sr = some o ∧ inL LL o = true) ∨ (bo = false ∧ inL LL o = false)) := by
        rcases HQ.out with ⟨h1, h2, h3⟩ | ⟨h1, h2⟩
        · exact .inl ⟨h1, h2, inL_iff.2 (h3 LL hout7)⟩
        · exact .inr ⟨h1, inL_false.2 (h2 LL hout7)⟩
      clear hrp ho7 hout7
    all_goals
      have hrm := HRm.out w7 hb57
      have HO7 := Lib.hid (HO5.out.le (Le.below hb57))
      clear HQ HRm
      obtain ⟨ys, hys⟩ : ∃ ys, ys = sr.getD [] := ⟨_, rfl⟩
      obtain ⟨fo, hfo⟩ : ∃ fo, fo = sr.isSome := ⟨_, rfl⟩
      have Hys := Lib.hid (And.intro hys hfo)
      clear hys hfo
      go_wp2_with fail
      refine hrm.mono ?_
      rintro e8 w8 ⟨A8, c8, rfl, hi8, hb8⟩
      have hB8 := hB7.trans (hb8.mono hB7.size)
      rw [← Hys.out.1] at hi8
      rw [← Hys.out.1, ← Hys.out.2]
      have HI8 := Lib.hid (hi8.le (Le.above _ _))
      have HO8 := Lib.hid (HO7.out.le (Le.below hb8))
      have hwo := wmOut_any LL o w8 A7 B1 c7 d1 (Hss7.out.le (Le.below hb8)) HO8.out
      generalize inL LL o = io at hwo HL
      clear hrm hi8
      go_wp2_with fail
      refine hwo.mono ?_
      rintro e9 w9 ⟨rfl, hb9⟩
      have hB9 := hB8.trans (hb9.mono hB8.size)
      clear hwo
      cases bo
      · have Hio : Hid (io = false) := by
          rcases HL.out with ⟨h, _⟩ | ⟨_, h⟩
          · cases h
          · exact h
        obtain rfl := Hio.out
        clear HL Hio
        go_wp2_with fail
        go_ret
        exact ⟨rfl, hB9⟩
      · have Hio : Hid (sr = some o ∧ io = true) := by
          rcases HL.out with ⟨_, h⟩ | ⟨h, _⟩
          · exact h
          · cases h
        obtain ⟨rfl, rfl⟩ := Hio.out
        obtain rfl : ys = o := Hys.out.1
        obtain rfl : fo = true := Hys.out.2
        have hwm := wmInts_any ys ys w9 A8 B1 c8 d1 (HI8.out.le (Le.below hb9)) (HO8.out.le (Le.below hb9))
        rw [eqB_self] at hwm
        clear HL Hio
        go_wp2_with fail
        refine hwm.mono ?_
        rintro ea wa ⟨rfl, hba⟩
        go_wp2_with fail
        go_ret
        exact ⟨rfl, hB9.trans (hba.mono hB9.size)⟩

end Go.Proofs.YtahegjofooahkaaGreat
