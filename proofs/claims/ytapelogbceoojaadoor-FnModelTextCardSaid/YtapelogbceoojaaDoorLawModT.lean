/-
  The walk of FnModelText: it answers true.
-/
import Derived.Test.YtapelogbceoojaaDoorLawModR
import Derived.Test.YtapelogbceoojaaDoorLawParseM
namespace Go.Proofs.YtapelogbceoojaaDoor
open Go.RowKit
set_option linter.unusedVariables false
set_option maxRecDepth 100000

theorem mt_ne {rs : List RU} (h : MOk rs) : mt rs ≠ ⟨#[]⟩ := fun e => by
  have h1 := cut_mt h
  rw [e] at h1
  have h2 := congrArg List.length h1
  have h3 : cutB ⟨#[]⟩ 47 = [⟨#[]⟩] := rfl
  rw [h3, List.length_map] at h2
  obtain ⟨h4, h5, h6⟩ := h
  match rs, h2, h1, h6 with
  | [r], _, h1, h6 =>
    rw [h3] at h1
    simp only [List.map_cons, List.map_nil, List.cons.injEq, and_true] at h1
    have h7 := congrArg ByteArray.size h1
    have h8 := h6 r (by simp)
    unfold part at h7
    rw [ByteArray.size_append, ByteArray.size_append] at h7
    have : (⟨#[32]⟩ : ByteArray).size = 1 := rfl
    have : (⟨#[]⟩ : ByteArray).size = 0 := rfl
    omega
theorem readM_fmt {x y : List RU} {b : Bool} (h : ReadM (fmtM x) y b) : (mB x = true → b = true ∧ y = x) ∧ (mB x = false → b = false) := by
  refine ⟨fun hv => ?_, fun hv => ?_⟩
  · have hV := mB_iff.1 hv
    rw [fmtM_true hv] at h
    obtain ⟨rfl, rfl⟩ := h.uniq (Or.inl ⟨rfl, hV, rfl⟩)
    exact ⟨rfl, rfl⟩
  · rw [fmtM_false hv] at h
    rcases h with ⟨_, h1, h2⟩ | ⟨h, _⟩
    · exact absurd h2 (mt_ne h1)
    · exact h
theorem fmtM_size (rs : List RU) : (fmtM rs).size ≤ 3000 := by
  cases hv : mB rs
  · rw [fmtM_false hv]; exact Nat.zero_le _
  · rw [fmtM_true hv]; exact mt_size (mB_iff.1 hv)

set_option maxHeartbeats 4000000 in
theorem lawModT_walk (w : World) (A A' : Option Addr) (n c n' c' : Nat) (hg : GN w) (hgr : GR w) (hgm : GM w) (h : Bys w A n) (hnc : n ≤ c) (hA : A = none → n = 0) (h' : Bys w A' n') (hnc' : n' ≤ c') (hA' : A' = none → n' = 0) :
    Calls Tryd.prog 12 #[.slice A n c, .slice A' n' c'] w (RetB w true) := by
  have hdr := drawFmtM_any w A n c h hnc hA
  have hn := h.1
  have hn' := h'.1
  clear h
  go_enter Tryd.func12, Tryd.ntmps12
  by_cases hsz : (1048576 : Int) < (n : Int)
  · have hd : decide ((n : Int) > 1048576) = true := by simpa using hsz
    go_wp2_with fail
    go_ret
    exact ⟨rfl, Below.refl _ _⟩
  have hd : decide ((n : Int) > 1048576) = false := by simpa using hsz
  by_cases hsz' : (1048576 : Int) < (n' : Int)
  · have hd' : decide ((n' : Int) > 1048576) = true := by simpa using hsz'
    go_wp2_with fail
    go_ret
    exact ⟨rfl, Below.refl _ _⟩
  have hd' : decide ((n' : Int) > 1048576) = false := by simpa using hsz'
  go_wp2_with fail
  refine hdr.mono ?_
  rintro e1 w1 ⟨rs, v, rfl, hl6, hcnt, hsl, hb1, _⟩
  have Hcnt : Hid (∀ r ∈ rs, cntE r.e ≤ 1048577) := fun r hr => by have := hcnt r hr; omega
  clear hdr hcnt
  go_wp2_with fail
  refine (formatM_any rs _ v (hg.le (Le.below hb1)) (hgr.le (Le.below hb1)) hsl).mono ?_
  rintro e2 w2 ⟨rfl, hb2⟩
  have hB2 := hb1.trans (hb2.mono hb1.size)
  have hsl2 := RepUs.le hsl (Le.below hb2)
  have hfs := fmtM_size rs
  clear hsl hb2
  go_wp2_with fail
  refine (parseM_any (fmtM rs) _ (by omega) (hg.le (Le.below hB2)) (hgr.le (Le.below hB2)) (hgm.le (Le.below hB2))).mono ?_
  rintro e3 w3 ⟨ps, v3, b3, F3, rfl, hrd, ho3, _, _, hb3⟩
  have hB3 := hB2.trans (hb3.mono hB2.size)
  have hsl3 := RepUs.le hsl2 (Le.below hb3)
  obtain ⟨hrT, hrF⟩ := readM_fmt hrd
  have HrT := Lib.hid hrT
  have HrF := Lib.hid hrF
  have Hps := Lib.hid ho3.slR
  clear hsl2 hb3 hrT hrF hrd ho3
  go_wp2_with fail
  refine (specFormatM_any rs Hcnt.out _ v hsl3).mono ?_
  rintro e4 w4 ⟨rfl, hb4⟩
  have hB4 := hB3.trans (hb4.mono hB3.size)
  have hsl4 := RepUs.le hsl3 (Le.below hb4)
  have Hps4 := Lib.hid (RepUs.le Hps.out (Le.below hb4))
  have hsb := str_eq_true (a := fmtM rs) rfl
  clear hsl3 hb4 Hps
  go_wp2_with fail
  refine (modValid_any rs _ v (hg.le (Le.below hB4)) hsl4).mono ?_
  rintro e5 w5 ⟨rfl, hb5⟩
  have hB5 := hB4.trans (hb5.mono hB4.size)
  have hsl5 := RepUs.le hsl4 (Le.below hb5)
  have Hps5 := Lib.hid (RepUs.le Hps4.out (Le.below hb5))
  clear hsl4 hb5 Hps4
  go_wp2_with fail
  refine (specModValid_any rs Hcnt.out _ v hsl5).mono ?_
  rintro e6 w6 ⟨rfl, hb6⟩
  have hB6 := hB5.trans (hb6.mono hB5.size)
  have hsl6 := RepUs.le hsl5 (Le.below hb6)
  have Hps6 := Lib.hid (RepUs.le Hps5.out (Le.below hb6))
  clear hsl5 hb6 Hps5
  cases hv : mB rs
  case' false =>
    have hb3f := HrF.out hv
    subst hb3f
    have hE : (fmtM rs).toList.isEmpty = true := by rw [fmtM_false hv, Go.ByteArray.toList_eq]; rfl
    have Hv := Lib.hid hv
    have hcall := specModValid_any rs Hcnt.out w6 v hsl6
    rw [hv] at hcall
    have Hcall := Lib.hid hcall
    clear hv hcall HrT HrF
    go_wp2_with fail
    refine Hcall.out.mono ?_
    rintro e7 w7 ⟨rfl, hb7⟩
    have hB7 := hB6.trans (hb7.mono hB6.size)
    clear Hcall hsl6 hb7 Hps6
    go_wp2_with fail
  case' true =>
    obtain ⟨rfl, hpsr⟩ := HrT.out hv
    subst hpsr
    have hE : (fmtM ps).toList.isEmpty = false := by
      rw [fmtM_true hv]
      exact str_ne_nil (mt_ne (mB_iff.1 hv))
    have Hv := Lib.hid hv
    have hcall := specModValid_any ps Hcnt.out w6 v hsl6
    rw [hv] at hcall
    have Hcall := Lib.hid hcall
    clear hv hcall HrT HrF
    go_wp2_with fail
    refine Hcall.out.mono ?_
    rintro e7 w8 ⟨rfl, hb7⟩
    have hB8 := hB6.trans (hb7.mono hB6.size)
    have Hps8 := RepUs.le Hps6.out (Le.below hb7)
    have hsl8 := RepUs.le hsl6 (Le.below hb7)
    clear Hcall hsl6 hb7 Hps6
    go_wp2_with fail
    refine (wm_any ps _ _ _ Hps8 hsl8).mono ?_
    rintro e8 w7 ⟨rfl, hb8⟩
    have hB7 := hB8.trans (hb8.mono hB8.size)
    clear Hps8 hsl8 hb8 hB8
    go_wp2_with fail
  all_goals
    have h7 := h'.le (Le.below hB7)
    have hg7 := hg.le (Le.below hB7)
    have hgr7 := hgr.le (Le.below hB7)
    have hgm7 := hgm.le (Le.below hB7)
    clear h' hg hgr hgm Hcnt
    refine (drawPM_any w7 A' n' c' h7 hnc' hA').mono ?_
    rintro e9 w9 ⟨t, rfl, ht, hb9⟩
    have hB9 := hB7.trans (hb9.mono hB7.size)
    have hg9 := hg7.le (Le.below hb9)
    have hgr9 := hgr7.le (Le.below hb9)
    have hgm9 := hgm7.le (Le.below hb9)
    clear h7 hg7 hgr7 hgm7 hb9 hB7
    go_wp2_with fail
    refine (parseM_any t _ ht hg9 hgr9 hgm9).mono ?_
    rintro e10 w10 ⟨us, v10, b10, F10, rfl, hrd10, ho10, _, _, hb10⟩
    have hB10 := hB9.trans (hb10.mono hB9.size)
    have hg10 := hg9.le (Le.below hb10)
    have hgr10 := hgr9.le (Le.below hb10)
    have Hrd := Lib.hid hrd10
    have Hus := Lib.hid ho10.slR
    clear hrd10 ho10 hb10 hg9 hgr9 hgm9 hB9
    go_wp2_with fail
    refine (specParseM_any t _ ht).mono ?_
    rintro e11 w11 ⟨us2, v11, b11, rfl, hrd11, hsl11, hb11⟩
    obtain ⟨rfl, rfl⟩ := Hrd.out.uniq hrd11
    have hB11 := hB10.trans (hb11.mono hB10.size)
    have hg11 := hg10.le (Le.below hb11)
    have hgr11 := hgr10.le (Le.below hb11)
    have Hus11 := Lib.hid (RepUs.le Hus.out (Le.below hb11))
    have Hsp11 := Lib.hid (RepUs.le hsl11 (Le.above _ _))
    clear hrd11 hsl11 hb11 hg10 hgr10 hB10 Hus
    cases b10
    · go_wp2_with fail
      refine (wm_any us _ _ _ Hus11.out Hsp11.out).mono ?_
      rintro e12 w12 ⟨rfl, hb12⟩
      have hB12 := hB11.trans (hb12.mono hB11.size)
      go_wp2_with fail
      go_ret
      exact ⟨rfl, hB12⟩
    · have Hfm : Hid (fmtM us = t) := by
        rcases Hrd.out with ⟨_, h1, h2⟩ | ⟨h, _⟩
        · exact (fmtM_true (mB_iff.2 h1)).trans h2
        · cases h
      go_wp2_with fail
      refine (wm_any us _ _ _ Hus11.out Hsp11.out).mono ?_
      rintro e12 w12 ⟨rfl, hb12⟩
      have hB12 := hB11.trans (hb12.mono hB11.size)
      have hus12 := RepUs.le Hus11.out (Le.below hb12)
      go_wp2_with fail
      refine (formatM_any us _ _ (hg11.le (Le.below hb12)) (hgr11.le (Le.below hb12)) hus12).mono ?_
      rintro e13 w13 ⟨rfl, hb13⟩
      have hB13 := hB12.trans (hb13.mono hB12.size)
      have hsb13 := str_eq_true Hfm.out
      go_wp2_with fail
      go_ret
      exact ⟨rfl, hB13⟩

end Go.Proofs.YtapelogbceoojaaDoor
