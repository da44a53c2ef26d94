/-
  The walk of FnModelRules: it answers true.
-/
import Derived.Test.YtapelogbceoojaaDoorDraw
import Derived.Test.YtapelogbceoojaaDoorWFmtM
namespace Go.Proofs.YtapelogbceoojaaDoor
open Go.RowKit
set_option linter.unusedVariables false
set_option maxRecDepth 100000

theorem fmtM_one {r : RU} (h : UOk r) : fmtM [r] = part r := by
  rw [fmtM_true (mB_iff.2 (mok_of (by simp) (by simp) (fun x hx => by rw [List.mem_singleton.1 hx]; exact h))), mt_one]
theorem mt_take {rs : List RU} {i : Nat} (hi : i < rs.length) : mt (rs.take (i + 1)) = (if 0 < i then mt (rs.take i) ++ ⟨#[47]⟩ else mt (rs.take i)) ++ part rs[i] := by
  rw [List.take_succ_eq_append_getElem hi]
  by_cases h0 : 0 < i
  · rw [if_pos h0, mt_snoc _ _ (fun e => by have := congrArg List.length e; rw [List.length_take, List.length_nil] at this; omega)]
  · obtain rfl : i = 0 := by omega
    rw [if_neg h0, List.take_zero, List.nil_append, mt_one, mt_nil]
    exact (nil_app _).symm

set_option maxHeartbeats 4000000 in
theorem lawModR_walk (w : World) (A : Option Addr) (n c : Nat) (hg : GN w) (hgr : GR w) (h : Bys w A n) (hnc : n ≤ c) (hA : A = none → n = 0) :
    Calls Tryd.prog 10 #[.slice A n c] w (RetB w true) := by
  have hdr := drawFmtM_any w A n c h hnc hA
  have hn := h.1
  clear h
  go_enter Tryd.func10, Tryd.ntmps10
  by_cases hsz : (1048576 : Int) < (n : Int)
  · have hd : decide ((n : Int) > 1048576) = true := by simpa using hsz
    go_wp2_with fail
    go_ret
    exact ⟨rfl, Below.refl _ _⟩
  have hd : decide ((n : Int) > 1048576) = false := by simpa using hsz
  go_wp2_with fail
  refine hdr.mono ?_
  rintro e1 w1 ⟨rs, v, rfl, hl6, hcnt, hsl, hb1, hcap⟩
  have Hcnt : Hid (∀ r ∈ rs, cntE r.e ≤ 1048577) := fun r hr => by have := hcnt r hr; omega
  have Hcap := Lib.hid hcap
  clear hdr hcnt hcap
  go_wp2_with fail
  refine (formatM_any rs _ v (hg.le (Le.below hb1)) (hgr.le (Le.below hb1)) hsl).mono ?_
  rintro e2 w2 ⟨rfl, hb2⟩
  have hB2 := hb1.trans (hb2.mono hb1.size)
  have hsl2 := RepUs.le hsl (Le.below hb2)
  clear hsl hb2
  go_wp2_with fail
  refine (specFormatM_any rs Hcnt.out _ v hsl2).mono ?_
  rintro e3 w3 ⟨rfl, hb3⟩
  have hB3 := hB2.trans (hb3.mono hB2.size)
  have hsl3 := RepUs.le hsl2 (Le.below hb3)
  have hsb := str_eq_true (a := fmtM rs) rfl
  clear hsl2 hb3
  go_wp2_with fail
  refine (modValid_any rs _ v (hg.le (Le.below hB3)) hsl3).mono ?_
  rintro e4 w4 ⟨rfl, hb4⟩
  have hB4 := hB3.trans (hb4.mono hB3.size)
  have hsl4 := RepUs.le hsl3 (Le.below hb4)
  clear hsl3 hb4
  cases hv : mB rs
  · have Hv := Lib.hid hv
    clear hv
    go_wp2_with fail
    refine (specFormatM_any rs Hcnt.out _ v hsl4).mono ?_
    rintro e5 w5 ⟨rfl, hb5⟩
    have hB5 := hB4.trans (hb5.mono hB4.size)
    go_wp2_with fail
    go_ret
    exact ⟨rfl, hB5⟩
  · have hok := mB_iff.1 hv
    have hfm := fmtM_true hv
    have Hok := Lib.hid hok
    have Hfm := Lib.hid hfm
    have Hv := Lib.hid hv
    have hl1 := hok.1
    have hl5 := hok.2.1
    clear hv hok hfm
    obtain ⟨A4, c4, rfl, _⟩ := hsl4.slice
    obtain ⟨b, o, rfl, _⟩ := hsl4.news (by omega) hl1
    have hcap : rs.length ≤ c4 := Hcap.out _ _ _ rfl
    go_wp2_with fail
    go_loopg [5, 6] rs.length (fun g s5 s6 wr => ∃ i : Nat, i ≤ rs.length ∧ g = rs.length - i ∧ s6 = .int .i64 i ∧ s5 = .string (mt (rs.take i)) ∧ Below w4.heap.size w4 wr)
    case atStart => exact ⟨0, Nat.zero_le _, rfl, rfl, by rw [List.take_zero]; rfl, Below.refl _ _⟩
    case round =>
      obtain ⟨i, hi, rfl, rfl, rfl, hb⟩ := hrel
      have hBr := hB4.trans (hb.mono hB4.size)
      by_cases hlt : i < rs.length
      · have hone : SlR 4 RepU wr (.slice (some ⟨b, o + i * 4, none⟩) 1 (c4 - i)) [rs[i]] := (RepUs.le hsl4 (Le.below hb)).one hlt
        have hu := Hok.out.2.2 _ (List.getElem_mem hlt)
        have hf1 := fmtM_one hu
        have hnx := mt_take hlt
        have Hnx := Lib.hid hnx
        have hcall := formatM_any [rs[i]] wr _ (hg.le (Le.below hBr)) (hgr.le (Le.below hBr)) hone
        rw [hf1] at hcall
        have Hcall := Lib.hid hcall
        have hsz1 : (mt (rs.take i)).size ≤ 3000 := by
          rcases Nat.eq_zero_or_pos i with h | h
          · rw [h, List.take_zero, mt_nil]; exact Nat.zero_le _
          · exact mt_size (mok_of (by rw [List.length_take]; omega) (by rw [List.length_take]; omega) (fun x hx => Hok.out.2.2 x (List.mem_of_mem_take hx)))
        have hsz2 := size_part hu
        clear hu hf1 hnx hcall hone
        by_cases h0 : 0 < i
        · have hd0 : decide ((i : Int) > 0) = true := by rw [decide_eq_true_iff]; omega
          go_wp2_with fail
          refine Hcall.out.mono ?_
          rintro e6 w6 ⟨rfl, hb6⟩
          have hb7 := hb.trans (hb6.mono hb.size)
          go_wp2_with fail
          go_roundg (rs.length - (i + 1))
          case measure => omega
          case rel => exact ⟨i + 1, by omega, rfl, by go_num, congrArg Value.string (by rw [Hnx.out, if_pos h0]), hb7⟩
        · have hd0 : decide ((i : Int) > 0) = false := by rw [decide_eq_false_iff_not]; omega
          go_wp2_with fail
          refine Hcall.out.mono ?_
          rintro e6 w6 ⟨rfl, hb6⟩
          have hb7 := hb.trans (hb6.mono hb.size)
          go_wp2_with fail
          go_roundg (rs.length - (i + 1))
          case measure => omega
          case rel => exact ⟨i + 1, by omega, rfl, by go_num, congrArg Value.string (by rw [Hnx.out, if_neg h0]), hb7⟩
      · obtain rfl : i = rs.length := by omega
        go_wp2_with fail
        go_ret
        exact ⟨ret_bool (str_eq_true Hfm.out), hBr⟩

end Go.Proofs.YtapelogbceoojaaDoor
