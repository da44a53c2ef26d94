/-
  The walk of FnBufferStates: it answers true.
-/
import Derived.Test.YtahegjofooahkaaGreatWiB
import Derived.Test.YtahegjofooahkaaGreatDpCP
import Derived.Test.YtahegjofooahkaaGreatBufA
namespace Go.Proofs.YtahegjofooahkaaGreat
open Go.RowKit
set_option linter.unusedVariables false
set_option maxRecDepth 100000

def RetDrS (w : World) (e : Ending) (w' : World) : Prop := ∃ (pr : Prg) (v : Value) (sp : Bool), e = .returned (.tuple #[v, .bool sp]) ∧ PrgS (above w.heap.size w') v pr ∧ Few 2000 2000 pr ∧ Below w.heap.size w w'
theorem dBs_any (w : World) (A : Option Addr) (n c : Nat) (h : Bys w A n) (hnc : n ≤ c) (hA : A = none → n = 0) : Calls Tryz.prog 34 #[.slice A n c] w (RetDrS w) := by
  have hd := drawPV_any w A n c h hnc hA
  have Ho : Hid (∀ U, Le w U → Calls Tryz.prog 47 #[.slice A n c] U (RetOpen U)) := fun U hU => open_any U A n c (h.le hU) hnc hA
  clear h
  go_enter Tryz.func34, Tryz.ntmps34
  go_wp2_with fail
  refine hd.mono ?_
  rintro e1 w1 ⟨pr, v, rfl, h1, h2, hb1⟩
  have hop := Ho.out w1 (Le.below hb1)
  have H12 := Lib.hid (And.intro h1 h2)
  clear hd h1 h2
  go_wp2_with fail
  refine hop.mono ?_
  rintro e2 w2 ⟨R, rfl, hR, hr2, hb2⟩
  have hpk := pick_any w2 R 0 2 (by omega) hr2
  have hB2 := hb1.trans (hb2.mono hb1.size)
  clear hop hr2
  go_wp2_with fail
  refine hpk.mono ?_
  rintro e3 w3 ⟨x, rfl, hx0, hx1, m3, _⟩
  have hl3 : Le (above w.heap.size w1) (above w.heap.size w3) := Le.above_le _ (Le.below (hb2.trans (m3.below hR hb2.size)))
  clear hpk
  go_wp2_with fail
  refine bodyPost_ret (v := .tuple #[v, .bool (x == 0)]) (by simp [results, Tryz.results34, go_sem]) rfl ?_
  exact ⟨pr, v, x == 0, rfl, PrgS.le H12.out.1 hl3, H12.out.2, hB2.trans (m3.below (Nat.le_trans hb1.size hR) hB2.size)⟩

set_option maxHeartbeats 4000000 in
theorem lawBs_walk (w : World) (A : Option Addr) (n c : Nat) (h : Bys w A n) (hnc : n ≤ c) (hA : A = none → n = 0) :
    Calls Tryz.prog 7 #[.slice A n c] w (RetB w true) := by
  have hdr := dBs_any w A n c h hnc hA
  have hn := h.1
  clear h
  go_enter Tryz.func7, Tryz.ntmps7
  by_cases hsz : (1048576 : Int) < (n : Int)
  · have hd : decide ((n : Int) > 1048576) = true := by simpa using hsz
    go_wp2_with fail
    go_ret
    exact ⟨rfl, Below.refl _ _⟩
  have hd : decide ((n : Int) > 1048576) = false := by simpa using hsz
  go_wp2_with fail
  refine hdr.mono ?_
  rintro e1 w1 ⟨p, v, sp, rfl, hps, hfew, hB1⟩
  have hp1 : PrgS w1 v p := PrgS.le hps (Le.above _ _)
  obtain ⟨A1, c1, rfl, hpl⟩ := hp1.slice
  have hl : p.length ≤ 1048576 := by have := hfew.1; omega
  have Hls := Lib.hid (hfew.mil (by omega))
  have HP1 := Lib.hid hp1
  clear hps hdr hp1 hfew
  have hc2 := implBS_any p hl Hls.out sp w1 _ HP1.out
  go_wp2_with fail
  refine hc2.mono ?_
  rintro e2 w2 ⟨nb, rfl, hcb, hb2⟩
  have hB2 := hB1.trans (hb2.mono hB1.size)
  have HP2 := Lib.hid (PrgS.le HP1.out (Le.below hb2))
  have HCb := Lib.hid hcb
  have hnb := hcb.le
  clear hcb
  clear hc2
  have hc3 := specBS_any p hl sp w2 _ HP2.out
  go_wp2_with fail
  refine hc3.mono ?_
  rintro e3 w3 ⟨nc, rfl, hcc, hb3⟩
  have hB3 := hB2.trans (hb3.mono hB2.size)
  have HP3 := Lib.hid (PrgS.le HP2.out (Le.below hb3))
  obtain rfl : nb = nc := HCb.out.same hcc
  clear hcc
  clear hc3
  have hne : ((nb : Int) != (nb : Int)) = false := by simp
  have hee : ((nb : Int) == (nb : Int)) = true := by simp
  have hc4 := implPrg_any p hl Hls.out w3 _ HP3.out
  have HF : Hid (prgB p = false → nb = 0) := fun h => by
    rcases HCb.out with ⟨k, _⟩ | ⟨_, k⟩
    · exact absurd k (prgB_false.1 h)
    · exact k
  have HT : Hid (prgB p = true → PrgOk p) := fun h => prgB_iff.1 h
  go_wp2_with fail
  refine hc4.mono ?_
  rintro e4 w4 ⟨rfl, hb4⟩
  have hB4 := hB3.trans (hb4.mono hB3.size)
  have HP4 := Lib.hid (PrgS.le HP3.out (Le.below hb4))
  clear hc4
  cases hpb : prgB p
  · skip
    obtain rfl := HF.out hpb
    have Hpb := Lib.hid hpb
    clear hpb HT HF
    have hc5 := specBS_any p hl sp w4 _ HP4.out
    go_wp2_with fail
    refine hc5.mono ?_
    rintro e5 w5 ⟨nc, rfl, hcc, hb5⟩
    have hB5 := hB4.trans (hb5.mono hB4.size)
    have HP5 := Lib.hid (PrgS.le HP4.out (Le.below hb5))
    obtain rfl : 0 = nc := HCb.out.same hcc
    clear hcc
    clear hc5
    have hc6 := (show Calls _ _ _ _ (RetB w5 false) from by have h := implPrg_any p hl Hls.out w5 _ HP5.out; rw [Hpb.out] at h; exact h)
    go_wp2_with fail
    refine hc6.mono ?_
    rintro e6 w6 ⟨rfl, hb6⟩
    have hB6 := hB5.trans (hb6.mono hB5.size)
    have HP6 := Lib.hid (PrgS.le HP5.out (Le.below hb6))
    clear hc6
    go_wp2_with fail
    go_ret
    exact ⟨rfl, hB6⟩
  · skip
    have Hp : Hid (PrgOk p) := HT.out hpb
    clear hpb HT HF
    have hc5 := implSt_any p hl Hls.out w4 _ HP4.out
    go_wp2_with fail
    refine hc5.mono ?_
    rintro e5 w5 ⟨ns, rfl, hcs, _, hb5⟩
    have hB5 := hB4.trans (hb5.mono hB4.size)
    have HP5 := Lib.hid (PrgS.le HP4.out (Le.below hb5))
    have hle1 : ns ≤ nb := by
      rcases HCb.out with ⟨_, V, h1, rfl⟩ | ⟨h, _⟩
      · rcases hcs with ⟨_, V', h2, rfl⟩ | ⟨h, _⟩
        · exact sc_count Hp.out h2 h1
        · exact absurd Hp.out h
      · exact absurd Hp.out h
    clear hcs
    have hd1 : decide ((nb : Int) ≥ (ns : Int)) = true := by rw [decide_eq_true_iff]; omega
    have hd1' : decide ((ns : Int) ≤ (nb : Int)) = true := by rw [decide_eq_true_iff]; omega
    have hd1'' : decide (ns ≤ nb) = true := by rw [decide_eq_true_iff]; exact hle1
    clear hc5
    have hc6 := implBS_any p hl Hls.out true w5 _ HP5.out
    go_wp2_with fail
    refine hc6.mono ?_
    rintro e6 w6 ⟨np, rfl, hcp, hb6⟩
    have hB6 := hB5.trans (hb6.mono hB5.size)
    have HP6 := Lib.hid (PrgS.le HP5.out (Le.below hb6))
    have HCp := Lib.hid hcp
    clear hcp
    clear hc6
    have hc7 := implBS_any p hl Hls.out false w6 _ HP6.out
    go_wp2_with fail
    refine hc7.mono ?_
    rintro e7 w7 ⟨nt, rfl, hct, hb7⟩
    have hB7 := hB6.trans (hb7.mono hB6.size)
    have HP7 := Lib.hid (PrgS.le HP6.out (Le.below hb7))
    have hle2 : nt ≤ np := by
      rcases HCp.out with ⟨_, V, h1, rfl⟩ | ⟨h, _⟩
      · rcases hct with ⟨_, V', h2, rfl⟩ | ⟨h, _⟩
        · exact pso_count Hp.out h2 h1
        · exact absurd Hp.out h
      · exact absurd Hp.out h
    clear hct
    have hd2 : decide ((np : Int) ≥ (nt : Int)) = true := by rw [decide_eq_true_iff]; omega
    have hd2' : decide ((nt : Int) ≤ (np : Int)) = true := by rw [decide_eq_true_iff]; omega
    have hd2'' : decide (nt ≤ np) = true := by rw [decide_eq_true_iff]; exact hle2
    clear hc7
    go_wp2_with fail
    go_ret
    exact ⟨rfl, hB7⟩

end Go.Proofs.YtahegjofooahkaaGreat
