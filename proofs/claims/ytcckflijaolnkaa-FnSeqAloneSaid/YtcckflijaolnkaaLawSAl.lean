/-
  The walk of FnSeqAlone: it answers true.
-/
import Derived.Test.YtcckflijaolnkaaCnI
import Derived.Test.YtcckflijaolnkaaLawSt
namespace Go.Proofs.Ytcckflijaolnkaa
open Go.RowKit
set_option linter.unusedVariables false
set_option maxRecDepth 100000

theorem drawRn_any (w : World) (A : Option Addr) (n c : Nat) (h : Bys w A n) (hnc : n ≤ c) (hA : A = none → n = 0) : Calls Try.prog 32 #[.slice A n c] w (RetDrP w) := by
  have hd := drawPV_any w A n c h hnc hA
  go_enter Try.func32, Try.ntmps32
  go_wp2_with fail
  refine hd.mono ?_
  rintro e1 w1 ⟨pr, v, rfl, h1, h2, h3⟩
  go_wp2_with fail
  go_ret
  exact ⟨pr, v, rfl, h1, h2, h3⟩

set_option maxHeartbeats 4000000 in
theorem lawSAl_walk (w : World) (A : Option Addr) (n c : Nat) (h : Bys w A n) (hnc : n ≤ c) (hA : A = none → n = 0) :
    Calls Try.prog 8 #[.slice A n c] w (RetB w true) := by
  have hdr := drawRn_any w A n c h hnc hA
  have hn := h.1
  clear h
  go_enter Try.func8, Try.ntmps8
  by_cases hsz : (1048576 : Int) < (n : Int)
  · have hd : decide ((n : Int) > 1048576) = true := by simpa using hsz
    go_wp2_with fail
    go_ret
    exact ⟨rfl, Below.refl _ _⟩
  have hd : decide ((n : Int) > 1048576) = false := by simpa using hsz
  go_wp2_with fail
  refine hdr.mono ?_
  rintro e1 w1 ⟨p, v, rfl, hps, hfew, hb1⟩
  have hp1 : PrgS w1 v p := PrgS.le hps (Le.above _ _)
  obtain ⟨A1, c1, rfl, hpl⟩ := hp1.slice
  have hl : p.length ≤ 1048576 := by have := hfew.1; omega
  have Hls := Lib.hid (hfew.mil (by omega))
  have HP1 := Lib.hid hp1
  have hrn := implRn_any p hl Hls.out w1 _ hp1
  clear hps hdr hp1 hfew
  go_wp2_with fail
  refine hrn.mono ?_
  rintro e2 w2 ⟨v2, L, F2, rfl, ho2, _, _, hout2, _, hb2⟩
  have hB2 := hb1.trans (hb2.mono hb1.size)
  obtain ⟨A2, c2, e2', _, _⟩ := OwRow.slice ho2
  subst e2'
  have Hout := Lib.hid hout2
  have Hi2 := Lib.hid ho2.intss0
  have HP2 := Lib.hid (PrgS.le HP1.out (Le.below hb2))
  have hsp := specRn_any p hl w2 _ HP2.out
  clear hrn ho2 hout2
  go_wp2_with fail
  refine hsp.mono ?_
  rintro e3 w3 ⟨A3, L3, c3, rfl, hi3, hout3, hb3⟩
  obtain rfl := hout3.same Hout.out
  have hB3 := hB2.trans (hb3.mono hB2.size)
  have HP3 := Lib.hid (PrgS.le HP2.out (Le.below hb3))
  have Hi3 := Lib.hid (Hi2.out.le (Le.below hb3))
  have hwm := wmLists_any L3 L3 w3 A2 A3 c2 c3 Hi3.out hi3
  rw [eqB_self] at hwm
  clear hsp hi3 hout3
  go_wp2_with fail
  refine hwm.mono ?_
  rintro e4 w4 ⟨rfl, hb4⟩
  have hB4 := hB3.trans (hb4.mono hB3.size)
  have HP4 := Lib.hid (PrgS.le HP3.out (Le.below hb4))
  have Hi4 := Lib.hid (Hi3.out.le (Le.below hb4))
  have hiv := implPrg_any p hl Hls.out w4 _ HP4.out
  have HT : Hid (prgB p = true → PrgOk p) := fun h => prgB_iff.1 h
  clear hwm
  go_wp2_with fail
  refine hiv.mono ?_
  rintro e5 w5 ⟨rfl, hb5⟩
  have hB5 := hB4.trans (hb5.mono hB4.size)
  have HP5 := Lib.hid (PrgS.le HP4.out (Le.below hb5))
  have Hi5 := Lib.hid (Hi4.out.le (Le.below hb5))
  have Hsp : Hid (∀ W, Le w5 W → Calls Try.prog 15 #[.slice A1 p.length c1] W (RetRs p W)) := fun W hL => specRn_any p hl W _ (PrgS.le HP5.out hL)
  clear hiv
  cases hpb : prgB p
  · clear hpb HT
    have hsp := Hsp.out w5 (Le.refl _)
    go_wp2_with fail
    refine hsp.mono ?_
    rintro e6 w6 ⟨A6, L6, c6, rfl, hi6, hout6, hb6⟩
    obtain rfl := hout6.same Hout.out
    have hB6 := hB5.trans (hb6.mono hB5.size)
    have hwm := wmLists_any L6 L6 w6 A2 A6 c2 c6 (Hi5.out.le (Le.below hb6)) hi6
    rw [eqB_self] at hwm
    clear hsp hi6 hout6
    go_wp2_with fail
    refine hwm.mono ?_
    rintro e7 w7 ⟨rfl, hb7⟩
    go_wp2_with fail
    go_ret
    exact ⟨rfl, hB6.trans (hb7.mono hB6.size)⟩
  · have Hp : Hid (PrgOk p) := HT.out hpb
    have Hway : Hid (wayO p = wayP 0 1 p) := by show _ = _; unfold wayO; rw [if_pos hpb]
    clear hpb HT
    by_cases h1 : p.length = 1
    · have hne : ((p.length : Int) != 1) = false := by rw [h1]; rfl
      have Hw1 := Lib.hid (Hway.out.trans (way_one h1))
      have hlen : L3.length = 1 := one_out Hp.out h1 Hout.out
      have hle : ((L3.length : Int) == 1) = true := by rw [hlen]; rfl
      have Hst : Hid (∀ V, Dfs (sucS p) (st0 p) V [] → V.length = 1 + wSum List.length p) := fun V hV => one_states Hp.out h1 hV
      obtain ⟨b1, o1, A4, c4, rfl, hbl, k0, hlm, hx⟩ := SlR.getSub HP5.out (show 0 < p.length by omega)
      have Hs : Hid (wSum List.length p = p[0].length) := by
        match p, h1 with
        | [t], _ => show _ = _; simp [wSum]
      have hm7 := (Hp.out.1.2.1 _ (List.getElem_mem (show 0 < p.length by omega))).1
      obtain ⟨m, hm⟩ : ∃ m, m = p[0].length := ⟨_, rfl⟩
      rw [Nat.add_zero, ← hm] at k0
      rw [← hm] at hlm hm7 Hs
      have R1 := Lib.hid fun W (hW : Below w5.heap.size w5 W) => (implCn_any p hl Hls.out W _ (PrgS.le HP5.out (Le.below hW))).mono (R' := fun e w' => e = .returned (.int .i64 1) ∧ Below W.heap.size W w') fun e w' h => ⟨h.1.trans (by rw [Hw1.out]; rfl), h.2⟩
      have R2 := Lib.hid fun W (hW : Below w5.heap.size w5 W) => (implSt_any p hl Hls.out W _ (PrgS.le HP5.out (Le.below hW))).mono (R' := fun e w' => e = .returned (.int .i64 ((m : Int) + 1)) ∧ Below W.heap.size W w') fun e w' h => by
        obtain ⟨N, rfl, hN, _, hb⟩ := h
        refine ⟨?_, hb⟩
        rcases hN with ⟨_, V, hV, rfl⟩ | ⟨h, _⟩
        · have h2 := Hst.out V hV
          have h3 := Hs.out
          have h4 : (V.length : Int) = (m : Int) + 1 := by omega
          rw [h4]
        · exact absurd Hp.out h
      have f0 := fun n : Ext w5 => n.le _ _ k0
      have hp0 : (0 : Int) < (p.length : Int) := by omega
      have hmm : (((m : Int) + 1) == ((m : Int) + 1)) = true := by simp
      clear hx hm hlen h1 k0
      go_wp2_with fail
      refine wp_region_ext _ (by kernel_rfl) (by kernel_rfl) (Below.refl _ _) ?_
      repeat (go_big_quiet_step ((first | (go_at_call 33; with_reducible exact Ext.call _ R1.out) | (go_at_call 13; with_reducible exact Ext.call _ R2.out))))
      refine wpQuiet_nil ?_
      rintro w6 ⟨⟨_, hb6⟩, rfl⟩
      have hB6 := hB5.trans (hb6.mono hB5.size)
      clear R1 R2 f0
      go_wp2_with fail
      go_ret
      exact ⟨rfl, hB6⟩
    · have hne : ((p.length : Int) != 1) = true := by rw [bne_iff_ne]; omega
      have hsp := Hsp.out w5 (Le.refl _)
      go_wp2_with fail
      refine hsp.mono ?_
      rintro e6 w6 ⟨A6, L6, c6, rfl, hi6, hout6, hb6⟩
      obtain rfl := hout6.same Hout.out
      have hB6 := hB5.trans (hb6.mono hB5.size)
      have hwm := wmLists_any L6 L6 w6 A2 A6 c2 c6 (Hi5.out.le (Le.below hb6)) hi6
      rw [eqB_self] at hwm
      clear hsp hi6 hout6
      go_wp2_with fail
      refine hwm.mono ?_
      rintro e7 w7 ⟨rfl, hb7⟩
      go_wp2_with fail
      go_ret
      exact ⟨rfl, hB6.trans (hb7.mono hB6.size)⟩

end Go.Proofs.Ytcckflijaolnkaa
