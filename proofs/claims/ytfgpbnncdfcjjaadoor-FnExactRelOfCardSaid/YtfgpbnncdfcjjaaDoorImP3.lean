/-
  The program's ProgramValid.
-/
import Derived.Test.YtfgpbnncdfcjjaaDoorImP2
namespace Go.Proofs.YtfgpbnncdfcjjaaDoor
open Go.RowKit
set_option linter.unusedVariables false
set_option maxRecDepth 100000

theorem prgB_im {p : Prg} (h1 : 1 ≤ p.length) (h3 : p.length ≤ 3) (hok : ∀ t ∈ p, t.length ≤ 7 ∧ ∀ x ∈ t, InsOk x) : prgB p = (decide (evN p ≤ 12) && decide (cap (exN p) ≤ 3000)) := by
  rw [Bool.eq_iff_iff, prgB_iff, Bool.and_eq_true, decide_eq_true_iff, decide_eq_true_iff]
  have h2 : cap (exN p) ≤ 3000 ↔ exN p ≤ 3000 := by unfold cap; omega
  rw [h2]
  exact ⟨fun h => ⟨h.1.2.2, h.2.2⟩, fun h => ⟨⟨h3, hok, h.1⟩, h1, h.2⟩⟩

set_option maxHeartbeats 4000000 in
theorem implPrg_any (p : Prg) (hl : p.length ≤ 1048576) (hls : ∀ t ∈ p, t.length ≤ 1048576) (w : World) (v : Value) (hr : PrgS w v p) : Calls Tryd.prog 48 #[v] w (RetB w (prgB p)) := by
  obtain ⟨A, c, rfl, _⟩ := hr.slice
  have Hls := Lib.hid hls
  clear hls
  go_enter Tryd.func48, Tryd.ntmps48
  by_cases h13 : 1 ≤ p.length ∧ p.length ≤ 3
  · obtain ⟨h1, h3⟩ := h13
    have hw : wtn (p.length : Int) 1 3 = true := by simp [wtn]; omega
    go_wp2_with fail
    refine (withinQ_any _ _ _ _).mono ?_
    rintro e1 w1 ⟨rfl, rfl⟩
    go_wp2_with fail
    go_loopg [3, 14] p.length (fun g s3 s14 wr => ∃ i : Nat, i ≤ p.length ∧ g = p.length - i ∧ s14 = .int .i64 i ∧ s3 = .int .i64 (evN (p.take i) : Nat) ∧ evN (p.take i) ≤ 7 * i ∧ Hid (∀ t ∈ p.take i, t.length ≤ 7 ∧ ∀ x ∈ t, InsOk x) ∧ Below w.heap.size w wr)
    case atStart => exact ⟨0, Nat.zero_le _, rfl, rfl, by simp [evN, wSum], by simp [evN, wSum], fun t ht => absurd ht (by simp), Below.refl _ _⟩
    case round =>
      obtain ⟨wo, rfl⟩ : ∃ wo : World, wo = wr := ⟨_, rfl⟩
      obtain ⟨i, hi, rfl, rfl, rfl, hn, hok, hb⟩ := hrel
      by_cases hlt : i < p.length
      · obtain ⟨bb, o, A1, c1, rfl, hbl, k0, hlm, hx⟩ := SlR.getSub (PrgS.le hr (Le.below hb)) hlt
        have hmem := List.getElem_mem hlt
        have htl := Hls.out _ hmem
        have Hts := Lib.hid (evN_take_succ p i hlt)
        have Htk := Lib.hid (List.take_succ_eq_append_getElem hlt)
        have Hbad : Hid (∀ (q : ¬ (p[i].length ≤ 7 ∧ ∀ x ∈ p[i], InsOk x)), prgB p = false) := fun q => prgB_false.2 fun h => q (h.1.2.1 _ hmem)
        generalize hnn : evN (p.take i) = nn at hn
        rw [hnn] at Hts
        generalize htt : p[i] = t at hx hlm k0 Hts Htk Hbad htl
        clear hr hnn htt hmem
        go_wp2_with fail
        go_loopg [3, 20] t.length (fun g s3 s20 wr => ∃ k : Nat, k ≤ t.length ∧ g = t.length - k ∧ s20 = .int .i64 k ∧ s3 = .int .i64 ((nn + cntE' (t.take k) : Nat) : Int) ∧ cntE' (t.take k) ≤ k ∧ Hid (∀ x ∈ t.take k, InsOk x) ∧ Below wo.heap.size wo wr)
        case atStart => exact ⟨0, Nat.zero_le _, rfl, rfl, by simp [cntE'], by simp [cntE'], fun x hx => absurd hx (by simp), Below.refl _ _⟩
        case round =>
          obtain ⟨wk, rfl⟩ : ∃ wk : World, wk = wr := ⟨_, rfl⟩
          obtain ⟨k, hk, rfl, rfl, rfl, hm, hokx, hbk⟩ := hrel
          by_cases hkt : k < t.length
          · obtain ⟨b2, o2, rfl, hbl2, d0, d1, d2, d3⟩ := (InsS.le hx (Le.below hbk)).get hkt
            have hmem := List.getElem_mem hkt
            have Hkts := Lib.hid (cntE'_take_succ t k hkt)
            have Htx := Lib.hid (List.take_succ_eq_append_getElem hkt)
            have Hbx : Hid (∀ (q : ¬ InsOk t[k]), prgB p = false) := fun q => Hbad.out fun h => q (h.2 _ hmem)
            generalize hmm : cntE' (t.take k) = mm at hm
            rw [hmm] at Hkts
            generalize hxx : t[k] = x at d0 d1 d2 d3 Hkts Htx Hbx
            clear hmm hxx hmem k0
            obtain ⟨V, hV⟩ : ∃ V, V = wk.alloc (.cells #[.int .i64 x.op, .int .i64 x.loc, .int .i64 x.reg, .int .i64 x.val] 89) := ⟨_, rfl⟩
            have bx : Own V wk.heap.size 89 #[.int .i64 x.op, .int .i64 x.loc, .int .i64 x.reg, .int .i64 x.val] := by rw [hV]; exact Own.new _ _ _
            have hbV : Below wo.heap.size wo V := by rw [hV]; exact hbk.alloc hbk.size _
            have Bx := Lib.hid bx
            clear bx
            cases hv : insB x
            · have Hv : Hid (prgB p = false) := Hbx.out (insB_false.1 hv)
              have hcall := fun W => implIns_any x W
              rw [hv] at hcall
              have Hcall := Lib.hid hcall
              clear hv hcall
              go_wp2_with fail
              rw [← hV]
              refine (Hcall.out _).mono ?_
              rintro e5 w5 ⟨rfl, hb5⟩
              have hB5 := hbV.trans (hb5.mono hbV.size)
              clear hV
              go_wp2_with fail
              go_ret
              exact ⟨ret_bool Hv.out.symm, hb.trans (hB5.mono hb.size)⟩
            · have Hx : Hid (InsOk x) := insB_iff.1 hv
              have hcall := fun W => implIns_any x W
              rw [hv] at hcall
              have Hcall := Lib.hid hcall
              clear hv hcall
              have hokn : Hid (∀ y ∈ t.take (k + 1), InsOk y) := fun y hy => by
                rw [Htx.out] at hy
                rcases List.mem_append.1 hy with hy | hy
                · exact hokx.out y hy
                · rw [List.mem_singleton.1 hy]; exact Hx.out
              go_wp2_with fail
              rw [← hV]
              refine (Hcall.out _).mono ?_
              rintro e5 w5 ⟨rfl, hb5⟩
              have hB5 := hbV.trans (hb5.mono hbV.size)
              have x5 := (Bx.out.under hb5).cell (i := 0) rfl
              clear d0 d1 d2 d3 hb5 Hcall hbk hV
              by_cases h4 : x.op = 4
              · have e4 : ((x.op : Int) != 4) = false := by simp [h4]
                have Hn : Hid (nf x = false) := by show _ = _; simp [nf, h4]
                clear h4
                go_wp2_with fail
                go_roundg (t.length - (k + 1))
                case measure => omega
                case rel => exact ⟨k + 1, by omega, rfl, by go_num, congrArg (Value.int .i64) (by rw [Hkts.out, Hn.out]; simp), by rw [Hkts.out, Hn.out]; simp; omega, hokn, hB5⟩
              · have e4 : ((x.op : Int) != 4) = true := by simpa using h4
                have Hn : Hid (nf x = true) := by show _ = _; simp [nf, h4]
                clear h4
                go_wp2_with fail
                go_roundg (t.length - (k + 1))
                case measure => omega
                case rel => exact ⟨k + 1, by omega, rfl, by go_num, congrArg (Value.int .i64) (by rw [Hkts.out, Hn.out]; simp; omega), by rw [Hkts.out, Hn.out]; simp; omega, hokn, hB5⟩
          · obtain rfl : k = t.length := by omega
            rw [List.take_length] at hm hokx ⊢
            by_cases h7 : t.length ≤ 7
            · have h7i : ¬ (7 : Int) < (t.length : Int) := by omega
              go_wp2_with fail
              go_roundg (p.length - (i + 1))
              case measure => omega
              case rel =>
                refine ⟨i + 1, by omega, rfl, by go_num, congrArg (Value.int .i64) (by rw [Hts.out]; omega), by rw [Hts.out]; omega, fun y hy => ?_, hb.trans (hbk.mono hb.size)⟩
                rw [Htk.out] at hy
                rcases List.mem_append.1 hy with hy | hy
                · exact hok.out y hy
                · rw [List.mem_singleton.1 hy]; exact ⟨h7, hokx.out⟩
            · have h7i : (7 : Int) < (t.length : Int) := by omega
              have Hv : Hid (prgB p = false) := Hbad.out fun h => h7 h.1
              clear h7
              go_wp2_with fail
              go_ret
              exact ⟨ret_bool Hv.out.symm, hb.trans (hbk.mono hb.size)⟩
      · obtain rfl : i = p.length := by omega
        rw [List.take_length] at hn hok ⊢
        have Hv := Lib.hid (prgB_im h1 h3 hok.out)
        by_cases h12 : evN p ≤ 12
        · have h12i : (evN p : Int) ≤ 12 := by omega
          have hex := fun (W : World) (hW : Le w W) => execs_any p h3 (fun t ht => (hok.out t ht).1) (ShapeOk.small ⟨h3, hok.out, h12⟩) W _ (PrgS.le hr hW)
          have Hex := Lib.hid hex
          have hc := cap_le (exN p)
          generalize cap (exN p) = n at hc Hv Hex
          clear hr hex
          go_wp2_with fail
          refine (Hex.out wo (Le.below hb)).mono ?_
          rintro e2 w2 ⟨rfl, hb2⟩
          go_wp2_with fail
          go_ret
          refine ⟨ret_bool ?_, hb.trans (hb2.mono hb.size)⟩
          rw [Hv.out]
          simp [h12]
          omega
        · have h12i : ¬ (evN p : Int) ≤ 12 := by omega
          go_wp2_with fail
          go_ret
          refine ⟨ret_bool ?_, hb⟩
          rw [Hv.out]
          simp [h12]
  · have hw : wtn (p.length : Int) 1 3 = false := by simp [wtn]; omega
    have Hv : Hid (prgB p = false) := prgB_false.2 fun h => h13 ⟨h.2.1, h.1.1⟩
    go_wp2_with fail
    refine (withinQ_any _ _ _ _).mono ?_
    rintro e1 w1 ⟨rfl, rfl⟩
    go_wp2_with fail
    go_ret
    exact ⟨ret_bool Hv.out.symm, Below.refl _ _⟩

end Go.Proofs.YtfgpbnncdfcjjaaDoor
