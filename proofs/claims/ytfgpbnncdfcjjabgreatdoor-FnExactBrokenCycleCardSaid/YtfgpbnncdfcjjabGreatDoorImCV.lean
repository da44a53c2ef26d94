/-
  The walk of impl.ExecValid.
-/
import Derived.Test.YtfgpbnncdfcjjabGreatDoorWrCV
import Derived.Test.YtfgpbnncdfcjjabGreatDoorImEv
namespace Go.Proofs.YtfgpbnncdfcjjabGreatDoor
open Go.RowKit
set_option linter.unusedVariables false
set_option maxRecDepth 100000

set_option maxHeartbeats 8000000 in
theorem implCand_any (p : Prg) (hl : p.length ≤ 1048576) (hls : ∀ t ∈ p, t.length ≤ 1048576) (x : Ex) (w : World) (v : Value) (A B : Option Addr) (c d : Nat) (hp : PrgS w v p) (hr : RepX w A c B d x) (hbig : wX x ≤ 1048576) :
    Calls Tryz.prog 27 #[v, .agg #[.slice A x.from_.length c, .slice B x.order.length d]] w (RetB w (candB p x)) := by
  obtain ⟨Ap, cp, rfl, _⟩ := SlR.slice hp
  have hlf := hr.1.len
  have hlo := hr.2.len
  obtain ⟨w0, hw0⟩ : ∃ w0, w0 = w.alloc (.cells #[.slice A x.from_.length c, .slice B x.order.length d] 34) := ⟨_, rfl⟩
  have bx0 : Own w0 w.heap.size 34 #[.slice A x.from_.length c, .slice B x.order.length d] := by rw [hw0]; exact Own.new _ _ _
  have hB0 : Below w.heap.size w w0 := by rw [hw0]; exact (Below.refl _ _).alloc (Nat.le_refl _) _
  have hp0 : PrgS w0 (.slice Ap p.length cp) p := by rw [hw0]; exact PrgS.le hp (Le.alloc _ _)
  have hr0 : RepX w0 A c B d x := by rw [hw0]; exact hr.le (Le.alloc _ _)
  have hpv := implPrg_any p hl hls w0 _ hp0
  have Bx0 := Lib.hid bx0
  clear hp hr bx0 hls
  go_enter Tryz.func27, Tryz.ntmps27
  go_wp2_with fail
  rw [← hw0]
  clear hw0
  cases hv : prgB p
  · rw [hv] at hpv
    have Hv : Hid (candB p x = false) := candB_false.2 fun h => prgB_false.1 hv h.1
    clear hv
    refine hpv.mono ?_
    rintro e1 w1 ⟨rfl, hb1⟩
    go_wp2_with fail
    go_ret
    exact ⟨ret_bool Hv.out.symm, hB0.trans (hb1.mono hB0.size)⟩
  rw [hv] at hpv
  have hok := prgB_iff.1 hv
  have Hok := Lib.hid hok
  have hL15 := cand_len hok
  clear hv
  refine hpv.mono ?_
  rintro e1 w1 ⟨rfl, hb1⟩
  have hB1 := hB0.trans (hb1.mono hB0.size)
  have hev := events_any p hok.1 w1 _ (PrgS.le hp0 (Le.below hb1))
  have hr1 := hr0.le (Le.below hb1)
  have Bx1 := Lib.hid (Bx0.out.under hb1)
  clear hpv hb1 hp0 hr0 Bx0 hok
  go_wp2_with fail
  refine hev.mono ?_
  rintro e2 w2 ⟨u, rfl, hrow, hb2⟩
  have hL : EvS w2 u (evs p) := EvS.le hrow.evS (Le.above _ _)
  have hB2 := hB1.trans (hb2.mono hB1.size)
  have hr2 := hr1.le (Le.below hb2)
  have Bx2 := Lib.hid (Bx1.out.under hb2)
  obtain ⟨Au, cu, rfl, _⟩ := SlR.slice hL
  have q0 := Bx2.out.cell (i := 0) (v := .slice A x.from_.length c) rfl
  have q1 := Bx2.out.cell (i := 1) (v := .slice B x.order.length d) rfl
  have Hcb : Hid (candB p x = true ↔ OkF (evs p) x.from_ ∧ OkO (evs p) x.order) := by
    show _ ↔ _
    rw [candB_iff]
    exact ⟨fun h => h.2, fun h => ⟨Hok.out, h⟩⟩
  have Hw : Hid (∀ l : Nat, l ≤ 2 → ∃ r, wrs (evs p) l = (l : Int) :: r) := fun l hl => wrs_evs p l hl
  clear hev hrow hr1 Bx1
  generalize evs p = L at hL hL15 Hcb Hw
  have Hcf : Hid (¬ (OkF L x.from_ ∧ OkO L x.order) → candB p x = false) := fun h => by
    cases hc : candB p x
    · rfl
    · exact absurd (Hcb.out.1 hc) h
  by_cases hl1 : x.from_.length = L.length
  · by_cases hl2 : x.order.length = 3
    · have b1 : ((x.from_.length : Int) != (L.length : Int)) = false := by simp [hl1]
      have b2 : ((x.order.length : Int) != 3) = false := by simp [hl2]
      have Hl1 := Lib.hid hl1
      have Hl2 := Lib.hid hl2
      clear hl1 hl2
      go_wp2_with fail
      go_loopg [31] L.length (fun g s31 wr => ∃ k : Nat, k ≤ L.length ∧ g = L.length - k ∧ s31 = .int .i64 k ∧ Hid (∀ j, j < k → ∀ hj : j < L.length, okF1 L x.from_ j L[j]) ∧ Below w2.heap.size w2 wr)
      case atStart => exact ⟨0, Nat.zero_le _, rfl, rfl, (fun j hj => absurd hj (Nat.not_lt_zero _)), Below.refl _ _⟩
      case round =>
        obtain ⟨k, hk, rfl, rfl, hpre, hb⟩ := hrel
        by_cases hlt : k < L.length
        · have hLr := EvS.le hL (Le.below hb)
          obtain ⟨b, o, rfl, hbl, c0, c1, c2, c3, c4⟩ := EvS.get hLr hlt
          have hkf : k < x.from_.length := by rw [Hl1.out]; exact hlt
          obtain ⟨bf, of, rfl, hblf, f0⟩ := (hr2.1.le (Le.below hb)).get hkf
          have r0 := Le.below hb _ _ q0
          have hbw := (World.block_lt_of_cell? _ _ r0)
          have Hnext : Hid (okF1 L x.from_ k L[k] → ∀ j, j < k + 1 → ∀ hj : j < L.length, okF1 L x.from_ j L[j]) := fun h j hj hj' => by
            by_cases e : j = k
            · subst e; exact h
            · exact hpre.out j (by omega) hj'
          have Hbad : Hid (¬ okF1 L x.from_ k L[k] → candB p x = false) := fun h => Hcf.out fun ⟨h1, _⟩ => h (by have := h1.2 k hlt; exact this)
          have hwl := wrs_length L L[k].loc
          have hlk : x.from_[k] = x.from_.getD k 0 := by simp [hkf]
          rw [hlk] at f0
          unfold okF1 at Hnext Hbad
          generalize L[k] = e at c0 c1 c2 c3 c4 Hnext Hbad hwl
          generalize x.from_.getD k 0 = fr at f0 Hnext Hbad
          obtain ⟨thr, idx, lc, rd, wrt⟩ := e
          simp only at c0 c1 c2 c3 c4 Hnext Hbad hwl
          have Hr := Lib.hid hLr
          clear hlk hLr hl
          cases rd
          · simp only [Bool.false_eq_true, if_false] at Hnext Hbad
            by_cases hm : fr = -1
            · have bm : ((fr : Int) != -1) = false := by simp [hm]
              have Hn := Lib.hid (Hnext.out hm)
              clear hm
              go_wp2_with fail
              go_roundg (L.length - (k + 1))
              case measure => omega
              case rel => exact ⟨k + 1, by omega, rfl, by go_num, Hn.out, hb.alloc hb.size _⟩
            · have bm : ((fr : Int) != -1) = true := by simpa using hm
              have Hv := Lib.hid (Hbad.out hm)
              clear hm
              go_wp2_with fail
              go_ret
              exact ⟨ret_bool Hv.out.symm, hB2.trans ((hb.alloc hb.size _).mono hB2.size)⟩
          · simp only [if_true] at Hnext Hbad
            by_cases hki : fr = k
            · have bk : ((fr : Int) == (k : Int)) = true := by rw [beq_iff_eq]; exact hki
              have Hv := Lib.hid (Hbad.out fun h => h.2 hki)
              clear hki
              go_wp2_with fail
              go_ret
              exact ⟨ret_bool Hv.out.symm, hB2.trans ((hb.alloc hb.size _).mono hB2.size)⟩
            · have bk : ((fr : Int) == (k : Int)) = false := by rw [beq_eq_false_iff_ne]; exact hki
              have Hki := Lib.hid hki
              clear hki
              go_wp2_with fail
              refine (imWr_any L lc (by omega) _ _ (EvS.le Hr.out (Le.alloc _ _))).mono ?_
              rintro e5 w5 ⟨A5, c5, rfl, hrow5, hb5⟩
              have hi5 : Ints w5 A5 c5 (wrs L lc) := row_ints hrow5
              have hb5' : Below w2.heap.size w2 w5 := (hb.alloc hb.size _).trans (hb5.mono (by have := hb.size; simp; omega))
              clear hb5 hrow5 c0 c1 c2 c3 c4 r0 f0
              by_cases hin : fr ∈ wrs L lc
              · have hc := contI_any (wrs L lc) fr w5 A5 c5 hi5
                rw [decide_eq_true hin] at hc
                have Hc := Lib.hid hc
                have Hn := Lib.hid (Hnext.out ⟨hin, Hki.out⟩)
                clear hin hc
                go_wp2_with fail
                refine Hc.out.mono ?_
                rintro e6 w6 ⟨rfl, rfl⟩
                go_wp2_with fail
                go_roundg (L.length - (k + 1))
                case measure => omega
                case rel => exact ⟨k + 1, by omega, rfl, by go_num, Hn.out, hb5'⟩
              · have hc := contI_any (wrs L lc) fr w5 A5 c5 hi5
                rw [decide_eq_false hin] at hc
                have Hc := Lib.hid hc
                have Hv := Lib.hid (Hbad.out fun h => hin h.1)
                clear hin hc
                go_wp2_with fail
                refine Hc.out.mono ?_
                rintro e6 w6 ⟨rfl, rfl⟩
                go_wp2_with fail
                go_ret
                exact ⟨ret_bool Hv.out.symm, hB2.trans (hb5'.mono hB2.size)⟩
        · obtain rfl : k = L.length := by omega
          have HF : Hid (OkF L x.from_) := okF_of Hl1.out hpre.out
          have q1r := Le.below hb _ _ q1
          have hsm : ∀ o ∈ x.order, o.length ≤ 1048576 := fun o ho => by have := wSum_mem List.length ho; unfold wX at hbig; omega
          have Hsm := Lib.hid hsm
          clear hpre hsm
          go_wp2_with fail
          go_loopg [70] 3 (fun g s70 w9 => ∃ l : Nat, l ≤ 3 ∧ g = 3 - l ∧ s70 = .int .i64 l ∧ Hid (∀ j, j < l → okO1 L j (x.order.getD j [])) ∧ Below wr.heap.size wr w9)
          case atStart => exact ⟨0, by omega, rfl, rfl, (fun j hj => absurd hj (Nat.not_lt_zero _)), Below.refl _ _⟩
          case round =>
            obtain ⟨l, hl3, rfl, rfl, hpre, hb9⟩ := hrel
            by_cases hlt3 : l < 3
            · have hlo' : l < x.order.length := by rw [Hl2.out]; omega
              have bl : decide ((l : Int) < (x.order.length : Int)) = true := by rw [decide_eq_true_iff]; omega
              obtain ⟨bo, oo, Ao, co, rfl, hblo, k0, hio⟩ := (hr2.2.le (Le.below (hb.trans (hb9.mono hb.size)))).get hlo'
              have hlk : x.order[l] = x.order.getD l [] := by simp [hlo']
              have hol := Hsm.out _ (List.getElem_mem hlo')
              rw [hlk] at k0 hio hol
              have Hnext : Hid (okO1 L l (x.order.getD l []) → ∀ j, j < l + 1 → okO1 L j (x.order.getD j [])) := fun h j hj => by
                by_cases e : j = l
                · subst e; exact h
                · exact hpre.out j (by omega)
              have Hbad : Hid (¬ okO1 L l (x.order.getD l []) → candB p x = false) := fun h => Hcf.out fun ⟨_, h1⟩ => h (h1.2 l (by omega))
              have Hpos : Hid (∃ r, wrs L l = (l : Int) :: r) := Hw.out l (by omega)
              generalize x.order.getD l [] = od at k0 hio Hnext Hbad hol
              have hL9 := EvS.le hL (Le.below (hb.trans (hb9.mono hb.size)))
              have HL9 := Lib.hid hL9
              have Hio := Lib.hid hio
              have hwl := wrs_length L l
              clear hlk hL9 hpre
              go_wp2_with fail
              refine (cloneI_any od _ Ao co Hio.out (by omega)).mono ?_
              rintro e5 w5 ⟨A5, c5, rfl, hrow5, hb5⟩
              have hsc := sortI_any od w5 _ _ hrow5 (by omega)
              have Hrow5 := Lib.hid hrow5
              have hbb5 := hb5
              clear hb5 hrow5
              go_wp2_with fail
              refine hsc.mono ?_
              rintro e6 w6 ⟨rfl, hrow6, hg6⟩
              have hb6 : Below wr.heap.size wr w6 := below_grown hbb5 hg6 (Nat.le_refl _) (fun g hg => (Hrow5.out.blk hg).1)
              have hs6 : Ints w6 A5 c5 (srt od) := row_ints (by rw [srt_length]; exact hrow6)
              clear hsc hrow6 hg6 hbb5
              go_wp2_with fail
              refine (imWr_any L l (by omega) _ _ (EvS.le HL9.out (Le.below hb6))).mono ?_
              rintro e7 w7 ⟨A7, c7, rfl, hrow7, hb7⟩
              have hi7 : Ints w7 A7 c7 (wrs L l) := row_ints hrow7
              have he := equal_any (srt od) (wrs L l) w7 A5 A7 c5 c7 (hs6.le (Le.below hb7)) hi7
              rw [srt_length] at he
              have hb7' : Below wr.heap.size wr w7 := hb6.trans (hb7.mono hb6.size)
              have ho7 : Ints w7 Ao co od := Hio.out.le (Le.below hb7')
              clear hb7 hrow7 hs6
              cases hq : eqB (srt od) (wrs L l)
              · rw [hq] at he
                have He := Lib.hid he
                have Hv := Lib.hid (Hbad.out fun h => eqB_false.1 hq (srt_wrs.2 h.1))
                clear hq he
                go_wp2_with fail
                refine He.out.mono ?_
                rintro e8 w8 ⟨rfl, hb8⟩
                have hb8' := hb7'.trans (hb8.mono hb7'.size)
                go_wp2_with fail
                go_ret
                exact ⟨ret_bool Hv.out.symm, hB2.trans ((hb.trans ((hb9.trans (hb8'.mono hb9.size)).mono hb.size)).mono hB2.size)⟩
              · rw [hq] at he
                have He := Lib.hid he
                have Hperm : Hid (od.Perm (wrs L l)) := srt_wrs.1 (eqB_iff.1 hq)
                have hpos : 0 < od.length := by obtain ⟨r, hr⟩ := Hpos.out; rw [Hperm.out.length_eq, hr]; simp
                obtain ⟨b0, o0, rfl, hbl0, d0⟩ := ho7.get hpos
                rw [Nat.add_zero] at d0
                have Hhd : Hid (od.head? = some od[0]) := by show _ = _; rw [List.head?_eq_getElem?, List.getElem?_eq_getElem hpos]
                have hposi : (0 : Int) < (od.length : Int) := by omega
                clear hq he
                generalize od[0] = n0 at d0 Hhd
                by_cases hn : n0 = l
                · have bn : ((n0 : Int) != (l : Int)) = false := by simp [hn]
                  have Hn := Lib.hid (Hnext.out ⟨Hperm.out, by rw [Hhd.out, hn]⟩)
                  clear hn
                  go_wp2_with fail
                  refine He.out.mono ?_
                  rintro e8 w8 ⟨rfl, hb8⟩
                  have hb8' := hb7'.trans (hb8.mono hb7'.size)
                  have d8 := Le.below hb8 _ _ d0
                  go_wp2_with fail
                  go_roundg (3 - (l + 1))
                  case measure => omega
                  case rel => exact ⟨l + 1, by omega, rfl, by go_num, Hn.out, hb9.trans (hb8'.mono hb9.size)⟩
                · have bn : ((n0 : Int) != (l : Int)) = true := by simpa using hn
                  have Hv := Lib.hid (Hbad.out fun h => hn (by have h2 := h.2; rw [Hhd.out] at h2; exact Option.some.inj h2))
                  clear hn
                  go_wp2_with fail
                  refine He.out.mono ?_
                  rintro e8 w8 ⟨rfl, hb8⟩
                  have hb8' := hb7'.trans (hb8.mono hb7'.size)
                  have d8 := Le.below hb8 _ _ d0
                  go_wp2_with fail
                  go_ret
                  exact ⟨ret_bool Hv.out.symm, hB2.trans ((hb.trans ((hb9.trans (hb8'.mono hb9.size)).mono hb.size)).mono hB2.size)⟩
            · obtain rfl : l = 3 := by omega
              have bl : decide ((3 : Int) < (x.order.length : Int)) = false := by rw [decide_eq_false_iff_not, Hl2.out]; omega
              have Hv : Hid (candB p x = true) := Hcb.out.2 ⟨HF.out, Hl2.out, hpre.out⟩
              go_wp2_with fail
              go_ret
              exact ⟨ret_bool Hv.out.symm, hB2.trans ((hb.trans (hb9.mono hb.size)).mono hB2.size)⟩
    · have b1 : ((x.from_.length : Int) != (L.length : Int)) = false := by simp [hl1]
      have b2 : ((x.order.length : Int) != 3) = true := by simp; omega
      have Hv := Lib.hid (Hcf.out fun h => hl2 h.2.1)
      clear hl1 hl2
      go_wp2_with fail
      go_ret
      exact ⟨ret_bool Hv.out.symm, hB2⟩
  · have b1 : ((x.from_.length : Int) != (L.length : Int)) = true := by simp; omega
    have Hv := Lib.hid (Hcf.out fun h => hl1 h.1.1)
    clear hl1
    go_wp2_with fail
    go_ret
    exact ⟨ret_bool Hv.out.symm, hB2⟩

end Go.Proofs.YtfgpbnncdfcjjabGreatDoor
