/-
  The walk of FnBrokenCycle: it answers true.
-/
import Derived.Test.YtfgpbnncdfcjjabGreatDoorBuA
import Derived.Test.YtfgpbnncdfcjjabGreatDoorBrC
namespace Go.Proofs.YtfgpbnncdfcjjabGreatDoor
open Go.RowKit
set_option linter.unusedVariables false
set_option maxRecDepth 100000

theorem drawBC_any (w : World) (A : Option Addr) (n c : Nat) (h : Bys w A n) (hnc : n ≤ c) (hA : A = none → n = 0) : Calls Tryz.prog 29 #[.slice A n c] w (RetDBR w) := by
  have oR := Own.new w 34 #[.slice none 0 0, .slice none 0 0]
  have hd := drawBR_any (w.alloc (.cells #[.slice none 0 0, .slice none 0 0] 34)) A n c (h.le (Le.alloc _ _)) hnc hA
  clear h
  go_enter Tryz.func29, Tryz.ntmps29
  go_wp2_with fail
  refine hd.mono ?_
  rintro e1 w1 ⟨pr, x, rs, v, A2, c2, B2, d2, vm, rfl, h1, h2, h3, h4, h5, h6, h7, h8, h9⟩
  have o1 := oR.under h9
  have k0 := o1.cell (i := 0) rfl
  have k1 := o1.cell (i := 1) rfl
  have k2 := o1.frozen 0
  have k3 := o1.frozen 1
  have k4 := o1.lt
  have hB : Below w.heap.size w w1 := ((Below.refl _ _).alloc (Nat.le_refl _) _).trans (h9.mono (by simp))
  simp only [World.size_alloc] at h1 h2 h3
  have HK := Lib.hid (And.intro h1 (And.intro h2 (And.intro h3 (And.intro h4 (And.intro h5 (And.intro h6 (And.intro h7 (And.intro h8 hB))))))))
  clear hd h1 h2 h3 h4 h5 h6 h7 h8 h9 hB oR o1
  go_wp2_with fail
  refine bodyPost_ret (v := .tuple #[v, .agg #[.slice A2 x.from_.length c2, .slice B2 x.order.length d2], vm]) (by simp [results, Tryz.results29, go_sem, k0, k1]) rfl ?_
  have hle : Le (above (w.heap.size + 1) w1) (above w.heap.size ((w1.setCell ⟨w.heap.size, 0, none⟩ (.slice A2 x.from_.length c2)).setCell ⟨w.heap.size, 1, none⟩ (.slice B2 x.order.length d2))) := (((Le.refl _).to_above_setCell (by simp)).to_above_setCell (by simp)).trans (Le.above_mono (by omega) _)
  exact ⟨pr, x, rs, v, A2, c2, B2, d2, vm, rfl, PrgQ.le HK.out.1 hle, HK.out.2.1.le hle, RepUs.le HK.out.2.2.1 hle, HK.out.2.2.2.1, HK.out.2.2.2.2.1, HK.out.2.2.2.2.2.1, HK.out.2.2.2.2.2.2.1, HK.out.2.2.2.2.2.2.2.1, ((HK.out.2.2.2.2.2.2.2.2.setCell (Nat.le_refl _) _).setCell (Nat.le_refl _) _)⟩

theorem RetCyc.ints {w w' : World} {xs : List Int} {e : Ending} (h : RetCyc w xs e w') : RetInts w xs e w' := by
  rcases h with ⟨rfl, rfl, hb⟩ | ⟨_, b, o, c, rfl, hI, hb⟩
  · exact RetInts.none hb
  · exact ⟨_, _, rfl, hI, hb⟩
/-- The rule's cycle, or none. -/
theorem bc_cases (p : Prg) (x : Ex) (rs : List RU) :
    (∃ k : Nat, ∃ hk : k < rs.length, brO p x rs = true ∧ brI p x rs = (k : Int) ∧ rs[k].kind = 1 ∧ bcO p x rs = zs (bestC (evR p x (evs p).length rs[k].e) (evs p).length (evs p).length) ∧ bestC (evR p x (evs p).length rs[k].e) (evs p).length (evs p).length ≠ [] ∧ CandOk p x ∧ Val rs[k].e) ∨
    (bcO p x rs = [] ∧ (brO p x rs = false ∨ (brO p x rs = true ∧ brI p x rs = -1) ∨ (brO p x rs = true ∧ ∃ k : Nat, ∃ hk : k < rs.length, brI p x rs = (k : Int) ∧ ¬ rs[k].kind = 1))) := by
  cases hO : brO p x rs
  · exact .inr ⟨bcO_not hO, .inl rfl⟩
  · obtain ⟨hc, hm⟩ := brO_true hO
    obtain ⟨e1, e2⟩ := bcO_yes hO
    rw [e1, e2]
    rcases brkN_cases p x (evs p).length rs 0 with ⟨h, _⟩ | ⟨k, hk, h, hf, _⟩
    · exact .inr ⟨bcN_neg h, .inr (.inl ⟨rfl, h⟩)⟩
    · rw [Nat.zero_add] at h
      by_cases h1 : rs[k].kind = 1
      · refine .inl ⟨k, hk, rfl, h, h1, (bcN_at hk h).trans (bcR_cyc h1), bestC_some ?_, candB_iff.1 hc, ((mB_iff.1 hm).2.2 _ (List.getElem_mem hk)).2.2⟩
        rw [holdR, if_pos h1] at hf
        exact hf
      · exact .inr ⟨(bcN_at hk h).trans (bcR_none h1), .inr (.inr ⟨rfl, k, hk, h, h1⟩)⟩

set_option maxHeartbeats 1500000 in
theorem lawBC_walk (w : World) (A : Option Addr) (n c : Nat) (h : Bys w A n) (hnc : n ≤ c) (hA : A = none → n = 0) (hg : GN w) :
    Calls Tryz.prog 6 #[.slice A n c] w (RetB w true) := by
  have hdr := drawBC_any w A n c h hnc hA
  have hn := h.1
  clear h
  go_enter Tryz.func6, Tryz.ntmps6
  by_cases hsz : (1048576 : Int) < (n : Int)
  · have hd : decide ((n : Int) > 1048576) = true := by simpa using hsz
    go_wp2_with fail
    go_ret
    exact ⟨rfl, Below.refl _ _⟩
  have hd : decide ((n : Int) > 1048576) = false := by simpa using hsz
  go_wp2_with fail
  refine hdr.mono ?_
  rintro e1 w1 ⟨p, x, ms, v1, A2, c2, B2, d2, vm, rfl, hps, hx, hms, hml, hcn, hcap, hfew, hwx, hb1⟩
  obtain ⟨A1, c1, rfl, _⟩ := hps.1.slice
  obtain ⟨A4, c4, rfl, _⟩ := hms.slice
  have hcap4 : ms.length ≤ c4 := hcap _ _ _ rfl
  have hl : p.length ≤ 1048576 := by have := hfew.1; omega
  have Hls := Lib.hid (hfew.mil (by omega))
  obtain ⟨V, hV⟩ : ∃ V, V = w1.alloc (.cells #[.slice A2 x.from_.length c2, .slice B2 x.order.length d2] 34) := ⟨_, rfl⟩
  have bT : Box2 V w1.heap.size (.slice A2 x.from_.length c2) (.slice B2 x.order.length d2) := by rw [hV]; exact Box2.new _ _ _ _
  have hB1 : Below w.heap.size w V := by rw [hV]; exact hb1.alloc hb1.size _
  have hlV : Le (above w.heap.size w1) V := by rw [hV]; exact (Le.above _ _).trans (Le.alloc _ _)
  have S1 : BuS V w1.heap.size A1 c1 p A2 c2 B2 d2 x A4 c4 ms := ⟨(PrgQ.le hps hlV).1, (PrgQ.le hps hlV).2, hx.le hlV, RepUs.le hms hlV, hg.le (Le.below hB1), bT.c0, bT.c1⟩
  have HS1 := Lib.hid S1
  have Him := Lib.hid fun W (S : BuS W w1.heap.size A1 c1 p A2 c2 B2 d2 x A4 c4 ms) => S.impl hl Hls.out hwx
  have Hic := Lib.hid fun W (S : BuS W w1.heap.size A1 c1 p A2 c2 B2 d2 x A4 c4 ms) => (implBC_any p hl Hls.out x hwx ms W _ _ A2 B2 c2 d2 S.hg S.hp S.hr S.hx S.hm).mono fun e w' h => RetCyc.ints h
  have Hsc := Lib.hid fun W (S : BuS W w1.heap.size A1 c1 p A2 c2 B2 d2 x A4 c4 ms) => specBC_any p hl x ms (fun r hr => by have := hcn r hr; omega) W _ _ A2 B2 c2 d2 S.hp S.hx S.hm
  have Hev := Lib.hid fun (hok : CandOk p x) (e : RE) (hv : Val e) A' c' W (S : BuS W w1.heap.size A1 c1 p A2 c2 B2 d2 x A4 c4 ms) (he : RepK W A' c' e) => CdS.eval (W := W) (bx := w1.heap.size) ⟨S.hp, S.hr, S.hx, S.hg, S.c0, S.c1⟩ hok hl Hls.out hwx e hv A' c' he
  have hlx := hx.1.len
  have hly := hx.2.len
  obtain ⟨s0, s1, s2⟩ := S1.all
  clear hps hx hdr hfew bT S1 hlV hms hcap hcn hg
  go_wp2_with fail
  try rw [← hV]
  clear hV
  have hcs := bc_cases p x ms
  have him := Him.out
  obtain ⟨L, hL⟩ : ∃ L, L = bcO p x ms := ⟨_, rfl⟩
  have HLe := Lib.hid hL
  refine (Hic.out V HS1.out).mono ?_
  rintro e2 w2 ⟨Ac, cc, rfl, hIc, hb2⟩
  have hB2 := hB1.trans (hb2.mono hB1.size)
  have HS2 := Lib.hid (HS1.out.le (Le.below hb2))
  rw [← hL] at hIc hcs ⊢
  have HC := Lib.hid fun W (h : Le w2 W) => (hIc.le (Le.above _ _)).le h
  have hLm := hIc.len
  clear s0 s1 s2 HS1 Hic hIc him hL
  obtain ⟨s0, s1, s2⟩ := HS2.out.all
  go_wp2_with fail
  refine (Him.out w2 HS2.out).mono ?_
  rintro e3 w3 ⟨rfl, hb3⟩
  have hB3 := hB2.trans (hb3.mono hB2.size)
  have hl3 := Le.below hb3
  have HS3 := Lib.hid (HS2.out.le hl3)
  have hsc := Hsc.out w3 HS3.out
  rw [← HLe.out] at hsc
  clear s0 s1 s2 HS2
  obtain ⟨s0, s1, s2⟩ := HS3.out.all
  rcases hcs with ⟨k, hk, hO, hI, hkd, hLe, hne, hok, hval⟩ | ⟨rfl, hcs⟩
  · obtain ⟨b4, o4, A', c', rfl, hbl, k0, k1, k2, k3, hke⟩ := RepUs.get HS3.out.hm hk
    rw [hO, hI]
    rw [hkd] at k0
    obtain ⟨R, hR⟩ : ∃ R, R = evR p x (evs p).length ms[k].e := ⟨_, rfl⟩
    obtain ⟨N, hN⟩ : ∃ N, N = (evs p).length := ⟨_, rfl⟩
    have hn16 : N ≤ 16 := by have := cand_len hok.1; omega
    have hev := Hev.out hok ms[k].e hval A' c'
    rw [← hR, ← hN] at hev
    rw [← hR, ← hN] at hLe hne
    have HK : Hid (∀ W, Le w3 W → W.cell? ⟨b4, o4 + k * 4, none⟩ = some (.int .i64 1) ∧ W.cell? ⟨b4, o4 + k * 4 + 1, none⟩ = some (.int .i64 ms[k].e.op) ∧ W.cell? ⟨b4, o4 + k * 4 + 2, none⟩ = some (.string ms[k].e.name) ∧ W.cell? ⟨b4, o4 + k * 4 + 3, none⟩ = some (.slice A' ms[k].e.kids.length c') ∧ RepK W A' c' ms[k].e) := fun W hl => ⟨hl _ _ k0, hl _ _ k1, hl _ _ k2, hl _ _ k3, hke.le hl⟩
    have Hev2 := Lib.hid hev
    generalize ms[k].e = re at HK Hev2
    have hd0 : decide ((k : Int) < 0) = false := by rw [decide_eq_false_iff_not]; omega
    have hd1 : (k : Int) < (ms.length : Int) := by omega
    have HLz := Lib.hid (And.intro hLe hne)
    have Hsc2 : Hid (∀ W, BuS W w1.heap.size A1 c1 p A2 c2 B2 d2 x (some ⟨b4, o4, none⟩) c4 ms → Calls Tryz.prog 10 #[.slice A1 p.length c1, .agg #[.slice A2 x.from_.length c2, .slice B2 x.order.length d2], .slice (some ⟨b4, o4, none⟩) ms.length c4] W (RetInts W L)) := fun W S => by
      have h := Hsc.out W S
      rwa [← HLe.out] at h
    clear hO hI hkd k0 k1 k2 k3 hke hev hval hok hLe hne hR hN HLe Hsc Hev hsc
    go_wp2_with fail
    refine (Hsc2.out w3 HS3.out).mono ?_
    rintro e4 w4 ⟨A5, c5, rfl, hI5, hb4⟩
    have hB4 := hB3.trans (hb4.mono hB3.size)
    have hl4 := hl3.trans (Le.below hb4)
    have HS4 := Lib.hid (HS3.out.le (Le.below hb4))
    have hwm := wmInts_any L L w4 Ac A5 cc c5 (HC.out w4 hl4) (hI5.le (Le.above _ _))
    rw [eqB_self] at hwm
    clear s0 s1 s2 Hsc2 hI5
    obtain ⟨s0, s1, s2⟩ := HS4.out.all
    go_wp2_with fail
    refine hwm.mono ?_
    rintro e5 w5 ⟨rfl, hb5⟩
    have hB5 := hB4.trans (hb5.mono hB4.size)
    have hl5 := hl4.trans (Le.below hb5)
    have HS5 := Lib.hid (HS4.out.le (Le.below hb5))
    obtain ⟨k0, k1, k2, k3, _⟩ := HK.out w5 ((Le.below hb4).trans (Le.below hb5))
    have hke := (HK.out w5.drew ((Le.below hb4).trans ((Le.below hb5).trans (Le.drew _)))).2.2.2.2
    clear s0 s1 s2 hwm HS4
    obtain ⟨s0, s1, s2⟩ := HS5.out.all
    have hev := Hev2.out w5.drew (HS5.out.le (Le.drew _)) hke
    go_wp2_with fail
    go_still_tail 7, (by kernel_rfl)
    go_wp2_with fail
    refine hev.mono ?_
    rintro e6 w6 ⟨A6, c6, rfl, hrow6, hb6⟩
    have hb6' := below_of_drew hb6
    have hB6 := hB5.trans (hb6'.mono hB5.size)
    have hl6 := hl5.trans (Le.below hb6')
    have hI6 := row_rel hrow6
    clear s0 s1 s2 hev hke k0 k1 k2 k3 hrow6 hb6
    obtain ⟨hLz, hne⟩ := HLz.out
    obtain ⟨B, hB⟩ : ∃ B, B = bestC R N N := ⟨_, rfl⟩
    rw [← hB] at hLz hne
    have hBl : B.length = L.length := by rw [hLz, zs_length]
    have hpos : 0 < L.length := by rw [← hBl]; exact List.length_pos_iff.2 hne
    have hedge : Hid (∀ i, i < L.length → R (B.getD i 0) (B.getD ((i + 1) % L.length) 0) = true) := fun i hi => by
      rw [← hBl] at hi ⊢
      rw [hB] at hi ⊢
      exact bestC_edges hi
    have hltN : Hid (∀ i, i < L.length → B.getD i 0 < N) := fun i hi => by
      rw [← hBl] at hi
      rw [List.getD_eq_getElem?_getD, List.getElem?_eq_getElem hi]
      exact bestC_lt _ (by rw [← hB]; exact List.getElem_mem hi)
    have hget : Hid (∀ i, ∀ hi : i < L.length, L[i] = ((B.getD i 0 : Nat) : Int)) := fun i hi => by
      subst hLz
      rw [List.getD_eq_getElem?_getD, List.getElem?_eq_getElem (by rw [← zs_length]; exact hi)]
      simp only [zs, List.getElem_map]
      rfl
    have HB := Lib.hid (hLz.trans (congrArg zs hB))
    clear hLz hne hBl hB
    go_wp2_with fail
    go_loopg [10] L.length (fun g s10 wr => ∃ i : Nat, i ≤ L.length ∧ g = L.length - i ∧ s10 = .int .i64 i ∧ Below w6.heap.size w6 wr)
    case atStart => exact ⟨0, Nat.zero_le _, rfl, rfl, Below.refl _ _⟩
    case round =>
      obtain ⟨i, hi, rfl, rfl, hb⟩ := hrel
      by_cases hlt : i < L.length
      · have hjl : (i + 1) % L.length < L.length := Nat.mod_lt _ hpos
        have hIr := HC.out wr (hl6.trans (Le.below hb))
        obtain ⟨bc, oc, rfl, hbc, ka⟩ := hIr.get hlt
        obtain ⟨bc', oc', ec, _, kb⟩ := hIr.get hjl
        injection ec with ec
        injection ec with ec1 ec2
        subst ec1 ec2
        rw [hget.out i hlt] at ka
        rw [hget.out _ hjl] at kb
        have ha := hltN.out i hlt
        have hbb := hltN.out _ hjl
        have hed := hedge.out i hlt
        obtain ⟨br, orr, rfl, hbr, kr⟩ := relN_ints (hI6.le (Le.below hb)) ha
        have hbit := test_bitN (R (B.getD i 0)) hn16 hbb
        rw [hed] at hbit
        have hjv : ((i : Int) + 1) % (L.length : Int) = (((i + 1) % L.length : Nat) : Int) := by simp
        have hjw : Int.tmod ((i : Int) + 1) (L.length : Int) = (((i + 1) % L.length : Nat) : Int) := by
          rw [Int.tmod_eq_emod_of_nonneg (by omega)]
          exact hjv
        generalize B.getD i 0 = a at ka ha kr hbit
        generalize (i + 1) % L.length = j at kb hjl hjv hjw hbb hbit
        generalize B.getD j 0 = b at kb hbb hbit
        have f0 := fun n : Ext wr => n.le _ _ ka
        have f1 := fun n : Ext wr => n.le _ _ kb
        have f2 := fun n : Ext wr => n.le _ _ kr
        have d1 : (i : Int) < (L.length : Int) := by omega
        have d2 : (a : Int) < (N : Int) := by omega
        have d3 : (j : Int) < (L.length : Int) := by omega
        have d4 : ¬ (L.length : Int) = 0 := by omega
        have d5 : ((L.length : Int) == 0) = false := by rw [beq_eq_false_iff_ne]; omega
        have d6 : IntKind.i64.wrap ((i : Int) + 1) = (i : Int) + 1 := by rw [IntWalk.i64_in _ ⟨by omega, by omega⟩]
        clear hed ka kb kr hIr
        go_wp2_with fail
        refine wp_region_ext _ (by kernel_rfl) (by kernel_rfl) (Below.refl _ _) ?_
        repeat (go_big_quiet_step (fail))
        refine wpQuiet_nil ?_
        rintro wn ⟨⟨_, hbn⟩, rfl⟩
        have hBn : Below w6.heap.size w6 wn := hb.trans (hbn.mono hb.size)
        clear f0 f1 f2 hbn hb
        go_wp2_with fail
        go_roundg (L.length - (i + 1))
        case measure => omega
        case rel => exact ⟨i + 1, by omega, rfl, by go_num, hBn⟩
      · obtain rfl : i = L.length := by omega
        have hBr := hB6.trans (hb.mono hB6.size)
        have hd9 : decide ((L.length : Int) > 0) = true := by rw [decide_eq_true_iff]; omega
        have hfc := findCyc_any R N hn16 wr A6 c6 (hI6.le (Le.below hb))
        rw [← HB.out] at hfc
        go_wp2_with fail
        refine (hfc.mono fun e w' h => RetCyc.ints h).mono ?_
        rintro e7 w7 ⟨A7, c7, rfl, hI7, hb7⟩
        have hB7 := hBr.trans (hb7.mono hBr.size)
        have hwm := wmInts_any L L w7 Ac A7 cc c7 (HC.out w7 (hl6.trans ((Le.below hb).trans (Le.below hb7)))) (hI7.le (Le.above _ _))
        rw [eqB_self] at hwm
        clear hfc hI7
        go_wp2_with fail
        refine hwm.mono ?_
        rintro e8 w8 ⟨rfl, hb8⟩
        go_wp2_with fail
        go_ret
        exact ⟨rfl, hB7.trans (hb8.mono hB7.size)⟩
  · rcases hcs with hO | ⟨hO, hI⟩ | ⟨hO, k, hk, hI, hkd⟩
    · rw [hO]
      clear hO
      go_wp2_with fail
      refine hsc.mono ?_
      rintro e4 w4 ⟨A5, c5, rfl, hI5, hb4⟩
      have hB4 := hB3.trans (hb4.mono hB3.size)
      have hl4 := hl3.trans (Le.below hb4)
      have HS4 := Lib.hid (HS3.out.le (Le.below hb4))
      have hwm := wmInts_any [] [] w4 Ac A5 cc c5 (HC.out w4 hl4) (hI5.le (Le.above _ _))
      rw [eqB_self] at hwm
      clear s0 s1 s2 hsc hI5
      obtain ⟨s0, s1, s2⟩ := HS4.out.all
      go_wp2_with fail
      refine hwm.mono ?_
      rintro e5 w5 ⟨rfl, hb5⟩
      have hB5 := hB4.trans (hb5.mono hB4.size)
      have hl5 := hl4.trans (Le.below hb5)
      have HS5 := Lib.hid (HS4.out.le (Le.below hb5))
      have hsc := Hsc.out w5 HS5.out
      rw [← HLe.out] at hsc
      clear s0 s1 s2 hwm HS4
      obtain ⟨s0, s1, s2⟩ := HS5.out.all
      go_wp2_with fail
      refine hsc.mono ?_
      rintro e6 w6 ⟨A7, c7, rfl, hI7, hb6⟩
      have hB6 := hB5.trans (hb6.mono hB5.size)
      have hl6 := hl5.trans (Le.below hb6)
      have hwm := wmInts_any [] [] w6 Ac A7 cc c7 (HC.out w6 hl6) (hI7.le (Le.above _ _))
      rw [eqB_self] at hwm
      clear s0 s1 s2 hsc hI7
      go_wp2_with fail
      refine hwm.mono ?_
      rintro e7 w7 ⟨rfl, hb7⟩
      go_wp2_with fail
      go_ret
      exact ⟨rfl, hB6.trans (hb7.mono hB6.size)⟩
    · rw [hO, hI]
      clear hO hI
      go_wp2_with fail
      refine hsc.mono ?_
      rintro e4 w4 ⟨A5, c5, rfl, hI5, hb4⟩
      have hB4 := hB3.trans (hb4.mono hB3.size)
      have hl4 := hl3.trans (Le.below hb4)
      have HS4 := Lib.hid (HS3.out.le (Le.below hb4))
      have hwm := wmInts_any [] [] w4 Ac A5 cc c5 (HC.out w4 hl4) (hI5.le (Le.above _ _))
      rw [eqB_self] at hwm
      clear s0 s1 s2 hsc hI5
      obtain ⟨s0, s1, s2⟩ := HS4.out.all
      go_wp2_with fail
      refine hwm.mono ?_
      rintro e5 w5 ⟨rfl, hb5⟩
      have hB5 := hB4.trans (hb5.mono hB4.size)
      have hl5 := hl4.trans (Le.below hb5)
      have HS5 := Lib.hid (HS4.out.le (Le.below hb5))
      have hsc := Hsc.out w5 HS5.out
      rw [← HLe.out] at hsc
      clear s0 s1 s2 hwm HS4
      obtain ⟨s0, s1, s2⟩ := HS5.out.all
      go_wp2_with fail
      refine hsc.mono ?_
      rintro e6 w6 ⟨A7, c7, rfl, hI7, hb6⟩
      have hB6 := hB5.trans (hb6.mono hB5.size)
      have hl6 := hl5.trans (Le.below hb6)
      have hwm := wmInts_any [] [] w6 Ac A7 cc c7 (HC.out w6 hl6) (hI7.le (Le.above _ _))
      rw [eqB_self] at hwm
      clear s0 s1 s2 hsc hI7
      go_wp2_with fail
      refine hwm.mono ?_
      rintro e7 w7 ⟨rfl, hb7⟩
      go_wp2_with fail
      go_ret
      exact ⟨rfl, hB6.trans (hb7.mono hB6.size)⟩
    · obtain ⟨b4, o4, A', c', rfl, hbl, k0, _⟩ := RepUs.get HS3.out.hm hk
      rw [hO, hI]
      have hd0 : decide ((k : Int) < 0) = false := by rw [decide_eq_false_iff_not]; omega
      have hd1 : (k : Int) < (ms.length : Int) := by omega
      have hd2 : (ms[k].kind == 1) = false := by rw [beq_eq_false_iff_ne]; exact hkd
      have hd3 : (ms[k].kind != 1) = true := by rw [bne_iff_ne]; exact hkd
      generalize ms[k].kind = kd at k0 hd2 hd3
      have HKd : Hid (∀ W, Le w3 W → W.cell? ⟨b4, o4 + k * 4, none⟩ = some (.int .i64 kd)) := fun W hl => hl _ _ k0
      clear hO hI hkd k0
      go_wp2_with fail
      refine hsc.mono ?_
      rintro e4 w4 ⟨A5, c5, rfl, hI5, hb4⟩
      have hB4 := hB3.trans (hb4.mono hB3.size)
      have hl4 := hl3.trans (Le.below hb4)
      have HS4 := Lib.hid (HS3.out.le (Le.below hb4))
      have hwm := wmInts_any [] [] w4 Ac A5 cc c5 (HC.out w4 hl4) (hI5.le (Le.above _ _))
      rw [eqB_self] at hwm
      clear s0 s1 s2 hsc hI5
      obtain ⟨s0, s1, s2⟩ := HS4.out.all
      go_wp2_with fail
      refine hwm.mono ?_
      rintro e5 w5 ⟨rfl, hb5⟩
      have hB5 := hB4.trans (hb5.mono hB4.size)
      have hl5 := hl4.trans (Le.below hb5)
      have HS5 := Lib.hid (HS4.out.le (Le.below hb5))
      have hsc := Hsc.out w5 HS5.out
      rw [← HLe.out] at hsc
      clear s0 s1 s2 hwm HS4
      obtain ⟨s0, s1, s2⟩ := HS5.out.all
      have kq := HKd.out w5 ((Le.below hb4).trans (Le.below hb5))
      go_wp2_with fail
      refine hsc.mono ?_
      rintro e6 w6 ⟨A7, c7, rfl, hI7, hb6⟩
      have hB6 := hB5.trans (hb6.mono hB5.size)
      have hl6 := hl5.trans (Le.below hb6)
      have hwm := wmInts_any [] [] w6 Ac A7 cc c7 (HC.out w6 hl6) (hI7.le (Le.above _ _))
      rw [eqB_self] at hwm
      clear s0 s1 s2 hsc hI7
      go_wp2_with fail
      refine hwm.mono ?_
      rintro e7 w7 ⟨rfl, hb7⟩
      go_wp2_with fail
      go_ret
      exact ⟨rfl, hB6.trans (hb7.mono hB6.size)⟩

end Go.Proofs.YtfgpbnncdfcjjabGreatDoor
