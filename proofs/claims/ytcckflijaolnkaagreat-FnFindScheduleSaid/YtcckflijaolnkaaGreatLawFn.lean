/-
  The program's FindSchedule; the walk of FnFindSchedule: it answers true.
-/
import Derived.Test.YtcckflijaolnkaaGreatFnd
import Derived.Test.YtcckflijaolnkaaGreatFnS
import Derived.Test.YtcckflijaolnkaaGreatFol
import Derived.Test.YtcckflijaolnkaaGreatODr
import Derived.Test.YtcckflijaolnkaaGreatRunSq
import Derived.Test.YtcckflijaolnkaaGreatSrt
namespace Go.Proofs.YtcckflijaolnkaaGreat
open Go.RowKit
set_option linter.unusedVariables false
set_option maxRecDepth 100000

theorem seqM_E {p : Prg} (hp : PrgOk p) (Ap : Option Addr) (cp : Nat) : MachE (seqM p Ap cp) potS where
  dec := fun s t hs ht => potS_lt hp hs ht
  low := fun s _ => by unfold potS; omega
theorem goal_eq (p : Prg) (Ap : Option Addr) (cp : Nat) (o : List Int) : goalM (seqM p Ap cp) o = goalS p o := rfl

set_option maxHeartbeats 1000000 in
theorem implFn_any (p : Prg) (hl : p.length ≤ 1048576) (hls : ∀ t ∈ p, t.length ≤ 1048576) (o : List Int) (W : World) (v : Value) (hr : PrgS W v p) (B : Option Addr) (d : Nat) (hI : Ints W B d o) : Calls Tryz.prog 5 #[v, .slice B o.length d] W (RetFS p o W) := by
  have hov := implOV_any p hl hls o W v hr B d hI
  have HR := Lib.hid hr
  have HI := Lib.hid hI
  have hm := hI.len
  obtain ⟨A, c, rfl, _⟩ := hr.slice
  have HF : Hid (ovB p o = false → ¬ OutOk p o) := fun h => ovB_false.1 h
  have HT : Hid (ovB p o = true → OutOk p o) := fun h => ovB_iff.1 h
  clear hI
  go_enter Tryz.func5, Tryz.ntmps5
  go_wp2_with fail
  refine hov.mono ?_
  rintro e1 w1 ⟨rfl, hb1⟩
  clear hov
  cases hb : ovB p o
  · have Hn := Lib.hid (HF.out hb)
    clear hb HT HF
    go_wp2_with fail
    refine bodyPost_ret (v := .tuple #[.slice none 0 0, .bool false]) (by simp [results, Tryz.results5, go_sem]) rfl ?_
    exact ⟨none, 0, none, rfl, Ints.nil _ _, hb1, .inr ⟨Hn.out, rfl⟩⟩
  · have Hok : Hid (OutOk p o) := HT.out hb
    have hns := newSeq_any p w1 _ (HR.out.le (Le.below hb1))
    clear hb HT HF
    go_wp2_with fail
    refine hns.mono ?_
    rintro e2 w2 ⟨Ap, cp, b, e, rfl, hR, hb2⟩
    injection e with e1 _ e3
    subst e1 e3
    have hB2 := hb1.trans (hb2.mono hb1.size)
    have hse := search_any (seqM p A c) (seqM_P Hok.out.1 A c) (seqM_C Hok.out.1 A c) potS (seqM_E Hok.out.1 A c) o w2 b hR B d (HI.out.le (Le.below hB2))
    clear hns hR
    go_wp2_with fail
    refine hse.mono ?_
    rintro e3 w3 ⟨A3, c3, r, rfl, hi3, hb3, hf3⟩
    have hB3 := hB2.trans (hb3.mono hB2.size)
    have Hi3 := Lib.hid hi3
    have Hf3 := Lib.hid hf3
    clear hse hi3 hf3
    go_wp2_with fail
    refine bodyPost_ret (v := .tuple #[.slice A3 (r.getD []).length c3, .bool r.isSome]) (by simp [results, Tryz.results5, go_sem]) rfl ?_
    exact ⟨A3, c3, r, rfl, Hi3.out.le (Le.above _ _), hB3, .inl ⟨Hok.out, Hf3.out⟩⟩

theorem drawFn_any (w : World) (A : Option Addr) (n c : Nat) (h : Bys w A n) (hnc : n ≤ c) (hA : A = none → n = 0) : Calls Tryz.prog 4 #[.slice A n c] w (RetD2 w) := by
  have hd := drawOV_any w A n c h hnc hA
  go_enter Tryz.func4, Tryz.ntmps4
  go_wp2_with fail
  refine hd.mono ?_
  rintro e1 w1 ⟨p, v, B, d, o, rfl, h1, h2, h3, h4, h5⟩
  have HX := Lib.hid (And.intro h1 (And.intro h2 (And.intro h3 (And.intro h4 h5))))
  clear hd h1 h2 h3 h4 h5
  go_wp2_with fail
  refine bodyPost_ret (v := .tuple #[v, .slice B o.length d]) (by simp [results, Tryz.results4, go_sem]) rfl ?_
  exact ⟨p, v, B, d, o, rfl, HX.out⟩
theorem good_out {p : Prg} {o : List Int} {L : List (List Int)} (hp : PrgOk p) (hL : IsOut p L) : o ∈ L ↔ Good (sucS p) (goalS p o) (st0 p) := by
  rw [hL.iff hp o, good_iff]
  constructor
  · rintro ⟨s, h1, h2, h3⟩
    exact ⟨s, h1, by unfold goalS; rw [h2, h3, eqB_self]; rfl⟩
  · rintro ⟨s, h1, h2⟩
    unfold goalS at h2
    rw [Bool.and_eq_true, eqB_iff] at h2
    exact ⟨s, h1, h2⟩
theorem mvI_nodup (p : Prg) (s : St) : (mvI p s p.length).Nodup := by
  rw [mvI_eq, List.Nodup, List.pairwise_map]
  have h : (mvS p s).Nodup := by unfold mvS; exact List.Pairwise.filter _ List.nodup_range
  exact h.imp fun h e => h (by omega)
theorem fst_run {p : Prg} {o : List Int} {l : List Int} (hp : PrgOk p) (h : FstP (sucS p) (mvA p) (goalS p o) (st0 p) l) : schR p l = some o := by
  obtain ⟨t, h1, h2⟩ := h.way
  have hr : runW (sucS p) (mvA p) (st0 p) l = some t := Way.run (fun s _ => mvA_len p s) (fun s _ => mvI_nodup p s) h1 .start
  unfold goalS at h2
  rw [Bool.and_eq_true, eqB_iff] at h2
  unfold schR
  rw [if_pos (prgB_iff.2 hp)]
  unfold resW
  rw [show runW (sucS p) (fun s => mvI p s p.length) (st0 p) l = some t from hr]
  simp only [Option.bind_some]
  rw [if_pos h2.1, h2.2]

set_option maxHeartbeats 6000000 in
theorem lawFn_walk (w : World) (A : Option Addr) (n c : Nat) (h : Bys w A n) (hnc : n ≤ c) (hA : A = none → n = 0) :
    Calls Tryz.prog 3 #[.slice A n c] w (RetB w true) := by
  have hdr := drawFn_any w A n c h hnc hA
  have hn := h.1
  clear h
  go_enter Tryz.func3, Tryz.ntmps3
  by_cases hsz : (1048576 : Int) < (n : Int)
  · have hd : decide ((n : Int) > 1048576) = true := by simpa using hsz
    go_wp2_with fail
    go_ret
    exact ⟨rfl, Below.refl _ _⟩
  have hd : decide ((n : Int) > 1048576) = false := by simpa using hsz
  go_wp2_with fail
  refine hdr.mono ?_
  rintro e1 w1 ⟨p, v, B1, d1, o, rfl, hps, hfew, hi1, hol, hb1⟩
  have hp1 : PrgS w1 v p := PrgS.le hps (Le.above _ _)
  obtain ⟨A1, c1, rfl, hpl⟩ := hp1.slice
  have hl : p.length ≤ 1048576 := by have := hfew.1; omega
  have Hls := Lib.hid (hfew.mil (by omega))
  have HP1 := Lib.hid hp1
  have HI1 := Lib.hid (hi1.le (Le.above _ _))
  have hfi := implFn_any p hl Hls.out o w1 _ hp1 B1 d1 HI1.out
  clear hps hdr hp1 hfew hi1
  go_wp2_with fail
  refine hfi.mono ?_
  rintro e2 w2 ⟨A2, c2, r, rfl, hi2, hb2, hf2⟩
  have hB2 := hb1.trans (hb2.mono hb1.size)
  have HI2 := Lib.hid hi2
  have Hf2 := Lib.hid hf2
  have hfs := specFn_any p hl o w2 _ (HP1.out.le (Le.below hb2)) B1 d1 (HI1.out.le (Le.below hb2))
  clear hfi hi2 hf2
  obtain ⟨xs, hxs⟩ : ∃ xs, xs = r.getD [] := ⟨_, rfl⟩
  obtain ⟨bo, hbo⟩ : ∃ bo, bo = r.isSome := ⟨_, rfl⟩
  have Hxs := Lib.hid (And.intro hxs hbo)
  rw [← hxs] at HI2
  rw [← hxs, ← hbo]
  clear hxs hbo
  go_wp2_with fail
  refine hfs.mono ?_
  rintro e3 w3 ⟨A3, c3, r', rfl, hi3, hb3, hf3⟩
  obtain rfl := hf3.uniq Hf2.out
  have hB3 := hB2.trans (hb3.mono hB2.size)
  rw [← Hxs.out.1] at hi3
  rw [← Hxs.out.1, ← Hxs.out.2]
  have HI3 := Lib.hid hi3
  have hne : (bo != bo) = false := by cases bo <;> rfl
  have heq : (bo == bo) = true := by cases bo <;> rfl
  have hwm := wmInts_any xs xs w3 A2 A3 c2 c3 (HI2.out.le (Le.below hb3)) hi3
  rw [eqB_self] at hwm
  clear hfs hi3 hf3
  go_wp2_with fail
  refine hwm.mono ?_
  rintro e4 w4 ⟨rfl, hb4⟩
  have hB4 := hB3.trans (hb4.mono hB3.size)
  have hb34 := hb3.trans (hb4.mono hb3.size)
  have hb14 := hb2.trans (hb34.mono hb2.size)
  have HP4 := Lib.hid (HP1.out.le (Le.below hb14))
  have HO4 := Lib.hid (HI1.out.le (Le.below hb14))
  have HX4 := Lib.hid (HI2.out.le (Le.below hb34))
  have HY4 := Lib.hid (HI3.out.le (Le.below hb4))
  have hov := implOV_any p hl Hls.out o w4 _ HP4.out B1 d1 HO4.out
  have HF : Hid (ovB p o = false → ¬ OutOk p o) := fun h => ovB_false.1 h
  have HT : Hid (ovB p o = true → OutOk p o) := fun h => ovB_iff.1 h
  clear hwm
  go_wp2_with fail
  refine hov.mono ?_
  rintro e5 w5 ⟨rfl, hb5⟩
  have hB5 := hB4.trans (hb5.mono hB4.size)
  clear hov
  cases hob : ovB p o
  · have Hob := Lib.hid hob
    have hwm := wmInts_any xs xs w5 A2 A3 c2 c3 (HX4.out.le (Le.below hb5)) (HY4.out.le (Le.below hb5))
    rw [eqB_self] at hwm
    clear hob HF HT
    go_wp2_with fail
    refine hwm.mono ?_
    rintro e6 w6 ⟨rfl, hb6⟩
    have hB6 := hB5.trans (hb6.mono hB5.size)
    have hb46 := hb5.trans (hb6.mono hb5.size)
    have hov := implOV_any p hl Hls.out o w6 _ (HP4.out.le (Le.below hb46)) B1 d1 (HO4.out.le (Le.below hb46))
    rw [Hob.out] at hov
    clear hwm
    go_wp2_with fail
    refine hov.mono ?_
    rintro e7 w7 ⟨rfl, hb7⟩
    have hB7 := hB6.trans (hb7.mono hB6.size)
    have hb47 := hb46.trans (hb7.mono hb46.size)
    have hos := specOV_any p hl o w7 _ (HP4.out.le (Le.below hb47)) B1 d1 (HO4.out.le (Le.below hb47))
    rw [Hob.out] at hos
    clear hov
    go_wp2_with fail
    refine hos.mono ?_
    rintro e8 w8 ⟨rfl, hb8⟩
    go_wp2_with fail
    go_ret
    exact ⟨rfl, hB7.trans (hb8.mono hB7.size)⟩
  · have Hok : Hid (OutOk p o) := HT.out hob
    have HP5 := Lib.hid (HP4.out.le (Le.below hb5))
    have HO5 := Lib.hid (HO4.out.le (Le.below hb5))
    have hrs := implSc_any p hl Hls.out xs w5 _ HP5.out A2 c2 (HX4.out.le (Le.below hb5))
    clear hob HF HT
    have HQ : Hid ((bo = true ∧ schR p xs = some o ∧ ∀ L, IsOut p L → o ∈ L) ∨ (bo = false ∧ ∀ L, IsOut p L → o ∉ L)) := by
      rcases Hf2.out with ⟨_, ⟨l, e, hf⟩ | ⟨e, hg⟩⟩ | ⟨hn, _⟩
      · left
        subst e
        have e1 : xs = l := Hxs.out.1
        refine ⟨Hxs.out.2, by rw [e1]; exact fst_run Hok.out.1 hf, fun L hL => (good_out Hok.out.1 hL).2 hf.good⟩
      · right
        subst e
        exact ⟨Hxs.out.2, fun L hL h => hg ((good_out Hok.out.1 hL).1 h)⟩
      · exact absurd Hok.out hn
    generalize schR p xs = sr at hrs HQ
    go_wp2_with fail
    refine hrs.mono ?_
    rintro e6 w6 ⟨A6, c6, rfl, hi6, hb6⟩
    have hB6 := hB5.trans (hb6.mono hB5.size)
    have HI6 := Lib.hid (hi6.le (Le.above _ _))
    have HP6 := Lib.hid (HP5.out.le (Le.below hb6))
    have HO6 := Lib.hid (HO5.out.le (Le.below hb6))
    have hrn := implRn_any p hl Hls.out w6 _ HP6.out
    clear hrs hi6
    obtain ⟨ys, hys⟩ : ∃ ys, ys = sr.getD [] := ⟨_, rfl⟩
    obtain ⟨fo, hfo⟩ : ∃ fo, fo = sr.isSome := ⟨_, rfl⟩
    have Hys := Lib.hid (And.intro hys hfo)
    rw [← hys] at HI6
    rw [← hys, ← hfo]
    clear hys hfo
    go_wp2_with fail
    refine hrn.mono ?_
    rintro e7 w7 ⟨v7, L, F7, rfl, ho7, _, _, hout7, _, hb7⟩
    have hB7 := hB6.trans (hb7.mono hB6.size)
    obtain ⟨A7, c7, e7', _, _⟩ := OwRow.slice ho7
    subst e7'
    have hwo := wmOut_any L o w7 A7 B1 c7 d1 ho7.intss0 (HO6.out.le (Le.below hb7))
    have HQL : Hid ((bo = true ∧ sr = some o ∧ inL L o = true) ∨ (bo = false ∧ inL L o = false)) := by
      rcases HQ.out with ⟨h1, h2, h3⟩ | ⟨h1, h2⟩
      · exact .inl ⟨h1, h2, inL_iff.2 (h3 L hout7)⟩
      · exact .inr ⟨h1, inL_false.2 (h2 L hout7)⟩
    have HO7 := Lib.hid (HO6.out.le (Le.below hb7))
    have HI7 := Lib.hid (HI6.out.le (Le.below hb7))
    generalize inL L o = io at hwo HQL
    clear hrn ho7 hout7
    go_wp2_with fail
    refine hwo.mono ?_
    rintro e8 w8 ⟨rfl, hb8⟩
    have hB8 := hB7.trans (hb8.mono hB7.size)
    clear hwo
    cases bo
    · have Hio : Hid (io = false) := by
        rcases HQL.out with ⟨h, _⟩ | ⟨_, h⟩
        · cases h
        · exact h
      obtain rfl := Hio.out
      clear HQL HQ Hio
      go_wp2_with fail
      go_ret
      exact ⟨rfl, hB8⟩
    · have Hio : Hid (sr = some o ∧ io = true) := by
        rcases HQL.out with ⟨_, h⟩ | ⟨h, _⟩
        · exact h
        · cases h
      obtain ⟨rfl, rfl⟩ := Hio.out
      obtain rfl : ys = o := Hys.out.1
      obtain rfl : fo = true := Hys.out.2
      have hwm := wmInts_any ys ys w8 A6 B1 c6 d1 (HI7.out.le (Le.below hb8)) (HO7.out.le (Le.below hb8))
      rw [eqB_self] at hwm
      clear HQL HQ Hio
      go_wp2_with fail
      refine hwm.mono ?_
      rintro e9 w9 ⟨rfl, hb9⟩
      go_wp2_with fail
      go_ret
      exact ⟨rfl, hB8.trans (hb9.mono hB8.size)⟩

end Go.Proofs.YtcckflijaolnkaaGreat
