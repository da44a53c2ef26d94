/-
  The walks of DrawExecValid and FnExecValid: it answers true.
-/
import Derived.Test.YtpadkallejfdlaaLawAE
import Derived.Test.YtpadkallejfdlaaImCV
import Derived.Test.YtpadkallejfdlaaDr6
namespace Go.Proofs.Ytpadkallejfdlaa
open Go.RowKit
set_option linter.unusedVariables false
set_option maxRecDepth 100000

def RetDCV (w : World) (e : Ending) (w' : World) : Prop := ∃ (pr : Prg) (x : Ex) (v : Value) (A : Option Addr) (c : Nat) (B : Option Addr) (d : Nat), e = .returned (.tuple #[v, .agg #[.slice A x.from_.length c, .slice B x.order.length d]]) ∧ PrgS (above w.heap.size w') v pr ∧ RepX (above w.heap.size w') A c B d x ∧ Few 2000 2000 pr ∧ wX x ≤ 1048576 ∧ Below w.heap.size w w'
theorem szX_wX {n k : Nat} {x : Ex} (h : SzX n k x) (hn : n ≤ 100) : wX x ≤ 1048576 := by
  obtain ⟨_, h2, _, h4, h5⟩ := h
  have h6 : wSum List.length x.order ≤ x.order.length * 100 := wSum_le_mul _ _ _ fun q hq => by have := h5 q hq; omega
  unfold wX
  omega
theorem cand_sz {p : Prg} {x : Ex} (h : CandOk p x) : SzX 15 2 x := by
  obtain ⟨hp, hf, ho⟩ := h
  have h3 := few3 hp
  have h1 := hf.1
  have h2 := h3.len
  have h4 := evs_length p
  have h5 := ho.1
  refine ⟨by omega, by omega, by omega, by omega, fun q hq => ?_⟩
  obtain ⟨l, hl, rfl⟩ := List.getElem_of_mem hq
  have h6 := (ho.2 l (by omega)).1.length_eq
  rw [show x.order.getD l [] = x.order[l] by simp [hl]] at h6
  have := h3.pm l (by omega)
  omega

set_option maxHeartbeats 4000000 in
theorem drawCV_any (w : World) (A : Option Addr) (n c : Nat) (h : Bys w A n) (hnc : n ≤ c) (hA : A = none → n = 0) : Calls Try.prog 34 #[.slice A n c] w (RetDCV w) := by
  have oR := Own.new w 50 #[.slice none 0 0, .slice none 0 0]
  have hop := open_any (w.alloc (.cells #[.slice none 0 0, .slice none 0 0] 50)) A n c (h.le (Le.alloc _ _)) hnc hA
  clear h
  go_enter Try.func34, Try.ntmps34
  go_wp2_with fail
  refine hop.mono ?_
  rintro e1 w1 ⟨R, rfl, hR, r1, hb1⟩
  simp only [World.size_alloc] at hR
  have o1 := oR.under hb1
  have hs1 := o1.lt
  have hB1 : Below w.heap.size w w1 := ((Below.refl _ _).alloc (Nat.le_refl _) _).trans (hb1.mono (by simp))
  have hd := draw6_any w1 R 0 (by omega) r1
  have hRl := r1.lt
  clear hop oR hb1 r1
  go_wp2_with fail
  refine hd.mono ?_
  rintro e2 w2 ⟨pr, x, v2, A2, c2, B2, d2, p2, rfl, hc, hps, hx, hfew, m2, r2, hp2⟩
  have o2 := o1.mv m2 (by omega)
  have hB2 : Below w.heap.size w w2 := hB1.trans (m2.below (by omega) hB1.size)
  have hsz := cand_sz hc
  have hsz := cand_sz hc
  have hps2 : PrgS (above w1.heap.size w2) v2 pr := hps
  have hx2 : RepX (above w1.heap.size w2) A2 c2 B2 d2 x := hx
  have hs2 := m2.size
  have oT := Own.new w2 50 #[.slice A2 x.from_.length c2, .slice B2 x.order.length d2]
  have t0 := oT.cell (i := 0) rfl
  obtain ⟨V, hV⟩ : ∃ V, V = w2.alloc (.cells #[.slice A2 x.from_.length c2, .slice B2 x.order.length d2] 50) := ⟨_, rfl⟩
  rw [← hV] at oT
  have oV : Own V w.heap.size 50 #[.slice none 0 0, .slice none 0 0] := by rw [hV]; exact o2.alloc _
  have rV : Rd V R p2 := by rw [hV]; exact r2.alloc _
  have hBV : Below w.heap.size w V := by rw [hV]; exact hB2.alloc hB2.size _
  have hpsV : PrgS (above w1.heap.size V) v2 pr := by rw [hV]; exact PrgS.le hps2 (Le.above_le _ (Le.alloc _ _))
  have hxV : RepX (above w1.heap.size V) A2 c2 B2 d2 x := by rw [hV]; exact hx2.le (Le.above_le _ (Le.alloc _ _))
  have hRV := rV.lt
  have hT : w2.heap.size < V.heap.size := oT.lt
  have u0 := oT.cell (i := 0) rfl
  have u1 := oT.cell (i := 1) rfl
  clear hd m2 r2 o1 o2 hps hx hps2 hx2 hB2 hB1 t0
  have HrV := Lib.hid rV
  have HpsV := Lib.hid hpsV
  have HxV := Lib.hid hxV
  have HT := Lib.hid oT
  have HoV := Lib.hid oV
  have Hsz := Lib.hid hsz
  have Hfew := Lib.hid hfew
  have HBV := Lib.hid hBV
  have hTR : w2.heap.size ≠ R := by omega
  have hwR : w.heap.size ≠ R := by omega
  have hwR' : w.heap.size ≤ R := by omega
  clear rV hpsV hxV oT oV hsz hfew hBV hc
  go_wp2_with fail
  try rw [← hV]
  clear hV
  go_region_law (first
    | (go_simp; go_at_call 71; ((with_reducible refine (mutP_any _ R p2 _ pr (by omega) ?_ ?_ ?_).mono ?_); exact HrV.out.drew; exact PrgS.le HpsV.out ((Le.above _ _).to_drew); exact Hfew.out.mono (by omega) (by omega); rintro e5 w5 ⟨pr5, v5, p5, rfl, hps5, hfew5, m5', r5, hp5⟩; have m5 : Mv R V w5 := ((Mv.refl R V).drew).trans m5'; have o5 := HT.out.mv m5 hTR; have k50 := o5.cell (i := 0) rfl; have k51 := o5.cell (i := 1) rfl; have l5 := o5.lt); go_wp2_with fail)
    | (go_simp; go_at_call 72; ((with_reducible refine (mut6_any _ R p5 15 (by omega) x Hsz.out (by omega) ?_ A2 B2 c2 d2 ?_).mono ?_); exact r5; exact HxV.out.le ((Le.above_mv m5 (by omega)).trans (Le.above _ _)); rintro e6 w6 ⟨x6, A6, c6, B6, d6, p6, rfl, hsz6, hx6, m6, r6, hp6⟩; have m6' := m5.trans m6; have o6 := HoV.out.mv m6' hwR; have k60 := o6.cell (i := 0) rfl; have k61 := o6.cell (i := 1) rfl; have k62 := o6.frozen 0; have k63 := o6.frozen 1; have l6 := o6.lt); go_wp2_with fail))
  all_goals
    go_wp2_with fail
    refine bodyPost_ret (v := .tuple #[v5, .agg #[.slice A6 x6.from_.length c6, .slice B6 x6.order.length d6]]) (by simp [results, Try.results34, go_sem, k60, k61]) rfl ?_
    have hs5 := m5.size
    have hle : Le (above (w.heap.size + 1) w6) (above w.heap.size ((w6.setCell ⟨w.heap.size, 0, none⟩ (.slice A6 x6.from_.length c6)).setCell ⟨w.heap.size, 1, none⟩ (.slice B6 x6.order.length d6))) := (((Le.refl _).to_above_setCell (by simp)).to_above_setCell (by simp)).trans (Le.above_mono (by omega) _)
    have hRd : R < V.drew.heap.size := hRV
    have hwd : w.heap.size + 1 ≤ V.drew.heap.size := by show w.heap.size + 1 ≤ V.heap.size; omega
    exact ⟨pr5, x6, v5, A6, c6, B6, d6, rfl, PrgS.le hps5 (((Le.above_mv m6 hRd).trans (Le.above_mono hwd _)).trans hle), hx6.le ((Le.above_mono (by omega) _).trans hle), hfew5, szX_wX hsz6 (by omega), ((HBV.out.trans (m6'.below hwR' HBV.out.size)).setCell (by simp) _).setCell (by simp) _⟩

set_option maxHeartbeats 8000000 in
theorem lawXV_walk (w : World) (A : Option Addr) (n c : Nat) (h : Bys w A n) (hnc : n ≤ c) (hA : A = none → n = 0) :
    Calls Try.prog 8 #[.slice A n c] w (RetB w true) := by
  have hdr := drawCV_any w A n c h hnc hA
  have hn := h.1
  clear h
  go_enter Try.func8, Try.ntmps8
  by_cases hsz : (1048576 : Int) < (n : Int)
  · have hd : decide ((n : Int) > 1048576) = true := by simpa using hsz
    go_wp2_with fail
    go_ret
    exact ⟨rfl, Below.refl _ _⟩
  have hd : decide ((n : Int) > 1048576) = false := by simpa using hsz
  go_wp2_with fail
  refine hdr.mono ?_
  rintro e1 w1 ⟨p, x, v1, A2, c2, B2, d2, rfl, hps, hx, hfew, hwx, hb1⟩
  obtain ⟨A1, c1, rfl, _⟩ := hps.slice
  have hl : p.length ≤ 1048576 := by have := hfew.1; omega
  have Hls := Lib.hid (hfew.mil (by omega))
  obtain ⟨V, hV⟩ : ∃ V, V = w1.alloc (.cells #[.slice A2 x.from_.length c2, .slice B2 x.order.length d2] 50) := ⟨_, rfl⟩
  have oT : Own V w1.heap.size 50 #[.slice A2 x.from_.length c2, .slice B2 x.order.length d2] := by rw [hV]; exact Own.new _ _ _
  have hp1 : PrgS V (.slice A1 p.length c1) p := by rw [hV]; exact PrgS.le hps ((Le.above _ _).trans (Le.alloc _ _))
  have hx1 : RepX V A2 c2 B2 d2 x := by rw [hV]; exact hx.le ((Le.above _ _).trans (Le.alloc _ _))
  have hB1 : Below w.heap.size w V := by rw [hV]; exact hb1.alloc hb1.size _
  have t0 := oT.cell (i := 0) rfl
  have t1 := oT.cell (i := 1) rfl
  have t2 := oT.lt
  have HT := Lib.hid oT
  clear hps hx hdr hfew oT
  go_wp2_with fail
  try rw [← hV]
  clear hV
  refine (implCand_any p hl Hls.out x _ _ A2 B2 c2 d2 hp1 hx1 hwx).mono ?_
  rintro e2 w2 ⟨rfl, hb2⟩
  have hB2 := hB1.trans (hb2.mono hB1.size)
  have hp2 := PrgS.le hp1 (Le.below hb2)
  have hx2 := hx1.le (Le.below hb2)
  have o2 := HT.out.under hb2
  have s0 := o2.cell (i := 0) rfl
  have s1 := o2.cell (i := 1) rfl
  have s2 := o2.lt
  have hs2 := fun W (hp : PrgS W (.slice A1 p.length c1) p) (hx : RepX W A2 c2 B2 d2 x) => specCand_any p hl x W _ A2 B2 c2 d2 hp hx
  have HT2 := Lib.hid o2
  clear hp1 hx1 t0 t1 t2 o2 HT hb2
  cases hv : candB p x
  · simp only [hv] at hs2
    have Hs2 := Lib.hid hs2
    clear hs2 hv
    go_wp2_with fail
    refine (Hs2.out _ hp2 hx2).mono ?_
    rintro e3 w3 ⟨rfl, hb3⟩
    have hB3 := hB2.trans (hb3.mono hB2.size)
    have hp3 := PrgS.le hp2 (Le.below hb3)
    have hx3 := hx2.le (Le.below hb3)
    have o3 := HT2.out.under hb3
    have u0 := o3.cell (i := 0) rfl
    have u1 := o3.cell (i := 1) rfl
    have u2 := o3.lt
    clear hb3 hp2 hx2 s0 s1 s2
    go_wp2_with fail
    refine (Hs2.out _ hp3 hx3).mono ?_
    rintro e4 w4 ⟨rfl, hb4⟩
    go_wp2_with fail
    go_ret
    exact ⟨rfl, hB3.trans (hb4.mono hB3.size)⟩
  · have hmem : x ∈ allO p := mem_allO.2 (candB_iff.1 hv)
    simp only [hv] at hs2
    have Hs2 := Lib.hid hs2
    have Hmem := Lib.hid hmem
    clear hs2 hv hmem
    go_wp2_with fail
    refine (Hs2.out _ hp2 hx2).mono ?_
    rintro e3 w3 ⟨rfl, hb3⟩
    have hB3 := hB2.trans (hb3.mono hB2.size)
    have hp3 := PrgS.le hp2 (Le.below hb3)
    have hx3 := hx2.le (Le.below hb3)
    have o3 := HT2.out.under hb3
    have hal := implAll_any p hl Hls.out w3 _ hp3
    have Ho3 := Lib.hid o3
    clear hb3 hp2 hx2 s0 s1 s2 o3
    generalize allO p = xs at hal Hmem
    go_wp2_with fail
    refine hal.mono ?_
    rintro e4 w4 ⟨v4, F4, rfl, ho4, _, _, hb4⟩
    have hB4 := hB3.trans (hb4.mono hB3.size)
    have hx4 := hx3.le (Le.below hb4)
    have hl4 := ho4.exS0
    obtain ⟨A4, c4, rfl, hm4⟩ := hl4.slice
    have o4 := Ho3.out.under hb4
    have Ho4 := Lib.hid o4
    clear hb4 ho4 hal o4 hx3 hp3 Ho3
    go_wp2_with fail
    go_loopg [7] xs.length (fun g s7 wr => ∃ i : Nat, i ≤ xs.length ∧ g = xs.length - i ∧ s7 = .int .i64 i ∧ Hid (x ∉ xs.take i) ∧ Below w4.heap.size w4 wr)
    case atStart => exact ⟨0, Nat.zero_le _, rfl, rfl, by simp [Hid], Below.refl _ _⟩
    case round =>
      obtain ⟨i, hi, rfl, rfl, hni, hb⟩ := hrel
      by_cases hlt : i < xs.length
      · have hlr := ExS.le hl4 (Le.below hb)
        obtain ⟨b, o, Ai, ci, Bi, di, rfl, hbl, k0, k1, hxi⟩ := hlr.get hlt
        have or_ := Ho4.out.under hb
        have u0 := or_.cell (i := 0) rfl
        have u1 := or_.cell (i := 1) rfl
        have u2 := or_.lt
        have hxr := hx4.le (Le.below hb)
        have hcall := fun W (hl : Le wr W) => execSame_any xs[i] x W Ai Bi A2 B2 ci di c2 d2 (hxi.le hl) (hxr.le hl)
        have Hcall := Lib.hid hcall
        have Htk := Lib.hid (List.take_succ_eq_append_getElem hlt)
        clear hcall hxi hxr hlr or_
        cases hq : eqB xs[i] x
        · have hne : Hid (x ∉ xs.take (i + 1)) := by
            show ¬ _
            rw [Htk.out, List.mem_append, List.mem_singleton]
            rintro (h | h)
            · exact hni.out h
            · exact eqB_false.1 hq h.symm
          rw [hq] at Hcall
          clear hq
          go_wp2_with fail
          go_still_tail 5, (by kernel_rfl)
          go_wp2_with fail
          refine (Hcall.out _ (Le.drew _)).mono ?_
          rintro e5 w5 ⟨rfl, hb5⟩
          have hb6 := hb.drew.trans (hb5.mono hb.size)
          clear k0 k1 u0 u1 u2 hbl
          go_wp2_with fail
          go_roundg (xs.length - (i + 1))
          case measure => omega
          case rel => exact ⟨i + 1, by omega, rfl, by go_num, hne.out, hb6⟩
        · rw [hq] at Hcall
          clear hq
          go_wp2_with fail
          go_still_tail 5, (by kernel_rfl)
          go_wp2_with fail
          refine (Hcall.out _ (Le.drew _)).mono ?_
          rintro e5 w5 ⟨rfl, hb5⟩
          have hb6 := hb.drew.trans (hb5.mono hb.size)
          clear k0 k1 u0 u1 u2 hbl
          go_wp2_with fail
          go_ret
          exact ⟨rfl, hB4.trans (hb6.mono hB4.size)⟩
      · obtain rfl : i = xs.length := by omega
        rw [List.take_length] at hni
        exact absurd Hmem.out hni.out

end Go.Proofs.Ytpadkallejfdlaa
