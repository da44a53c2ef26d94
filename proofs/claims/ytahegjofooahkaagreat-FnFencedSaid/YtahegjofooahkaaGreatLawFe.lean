/-
  The walk of FnFenced: it answers true.
-/
import Derived.Test.YtahegjofooahkaaGreatWiB
import Derived.Test.YtahegjofooahkaaGreatDpCP
import Derived.Test.YtahegjofooahkaaGreatBufA
namespace Go.Proofs.YtahegjofooahkaaGreat
open Go.RowKit
set_option linter.unusedVariables false
set_option maxRecDepth 100000

theorem fdT_snoc : ∀ (l : List Ins) (x : Ins), fdT (l ++ [x]) = fdT l ++ [x, fenI]
  | [], x => rfl
  | y :: l, x => by
    show y :: fenI :: fdT (l ++ [x]) = y :: fenI :: (fdT l ++ [x, fenI])
    rw [fdT_snoc l x]
theorem two_ins {x : Ins} : ∀ i (hi : i < [x, fenI].length), QIn (fun j => [Value.int .i64 x.op, .int .i64 x.loc, .int .i64 x.reg, .int .i64 x.val, .int .i64 4, .int .i64 0, .int .i64 0, .int .i64 0].getD (i * 4 + j) undef) [x, fenI][i]
  | 0, _ => ⟨rfl, rfl, rfl, rfl⟩
  | 1, _ => ⟨rfl, rfl, rfl, rfl⟩

theorem dFe_any (w : World) (A : Option Addr) (n c : Nat) (h : Bys w A n) (hnc : n ≤ c) (hA : A = none → n = 0) : Calls Tryz.prog 39 #[.slice A n c] w (RetDrP w) := by
  have hd := drawPV_any w A n c h hnc hA
  go_enter Tryz.func39, Tryz.ntmps39
  go_wp2_with fail
  refine hd.mono ?_
  rintro e1 w1 ⟨pr, v, rfl, h1, h2, h3⟩
  go_wp2_with fail
  go_ret
  exact ⟨pr, v, rfl, h1, h2, h3⟩

set_option maxHeartbeats 4000000 in
theorem lawFe_walk (w : World) (A : Option Addr) (n c : Nat) (h : Bys w A n) (hnc : n ≤ c) (hA : A = none → n = 0) :
    Calls Tryz.prog 8 #[.slice A n c] w (RetB w true) := by
  have hdr := dFe_any w A n c h hnc hA
  have hn := h.1
  clear h
  go_enter Tryz.func8, Tryz.ntmps8
  by_cases hsz : (1048576 : Int) < (n : Int)
  · have hd : decide ((n : Int) > 1048576) = true := by simpa using hsz
    go_wp2_with fail
    go_ret
    exact ⟨rfl, Below.refl _ _⟩
  have hd : decide ((n : Int) > 1048576) = false := by simpa using hsz
  go_wp2_with fail
  refine hdr.mono ?_
  rintro e1 w1 ⟨p, v, rfl, hps, hfew, hB1⟩
  have hp1 : PrgS w1 v p := PrgS.le hps (Le.above _ _)
  obtain ⟨A1, c1, rfl, hpl⟩ := hp1.slice
  have hl : p.length ≤ 1048576 := by have := hfew.1; omega
  have Hls := Lib.hid (hfew.mil (by omega))
  have HP1 := Lib.hid hp1
  have Hfw := Lib.hid hfew
  clear hps hdr hp1 hfew
  obtain ⟨i0, hi0, hz0, hz1, hz2⟩ := info_parts Tryz.infoIns
  obtain ⟨i1, hi1, hy0, hy1, hy2⟩ := info_parts Tryz.infoInsS
  have hB0 : Below w1.heap.size w1 (w1.alloc (.cells #[] 50)) := (Below.refl _ _).alloc (Nat.le_refl _) _
  have hrow0 : Hid (RowW 1 50 (rowP 4 52 QIn) (w1.alloc (.cells #[] 50)) w1.heap.size (.slice (some ⟨w1.heap.size, 0, none⟩) 0 0) [] [] (fun _ => [])) := RowW.made 1 _ (Own.new w1 _ _) (Nat.le_refl _)
  go_wp2_with fail
  go_loopg [4, 5] p.length (fun g s4 s5 wr => ∃ (i : Nat) (v4 : Value) (cs : List Value) (Fs : Nat → List Nat), i ≤ p.length ∧ g = p.length - i ∧ v4 = s4 ∧ s5 = .int .i64 i ∧ Hid (RowW 1 50 (rowP 4 52 QIn) wr w1.heap.size v4 (fdP (p.take i)) cs Fs) ∧ Below w1.heap.size w1 wr)
  case atStart => exact ⟨0, _, [], fun _ => [], Nat.zero_le _, rfl, rfl, rfl, hrow0.out, hB0⟩
  case round =>
    obtain ⟨wo, rfl⟩ : ∃ wo : World, wo = wr := ⟨_, rfl⟩
    clear hrow0
    obtain ⟨i, v4, cs, Fs, hi, rfl, rfl, rfl, hrow, hb⟩ := hrel
    have hbs := hb.size
    by_cases hlt : i < p.length
    · obtain ⟨bp, op, A2, c2, e, hbl, k0, hlm, hx⟩ := SlR.getSub HP1.out hlt
      have htl : p[i].length ≤ 2000 := Hfw.out.2 _ (List.getElem_mem hlt)
      have Hnext : Hid (fdP (p.take (i + 1)) = fdP (p.take i) ++ [fdT p[i]]) := by
        show _ = _
        unfold fdP
        rw [List.take_succ_eq_append_getElem hlt, List.map_append]
        rfl
      have hpl2 : (fdP (p.take i)).length ≤ 2000 := by rw [fdP_len, List.length_take]; have := Hfw.out.1; omega
      have K0 : Hid (∀ U, Below w1.heap.size w1 U → U.cell? ⟨bp, op + i, none⟩ = some (.slice A2 p[i].length c2)) := fun U hU => Le.below hU _ _ k0
      have k0' := K0.out wo hb
      subst e
      have Hx := Lib.hid hx
      generalize p[i] = t at htl Hnext K0 k0' Hx hlm
      generalize fdP (p.take i) = qs at hrow hpl2 Hnext
      have he0 : Hid (RowT (wo.alloc (.cells #[] 52)) wo.heap.size (.slice (some ⟨wo.heap.size, 0, none⟩) 0 0) []) := RowOf.made _ (Own.new wo _ _) (Nat.le_refl _)
      have hbe : Below wo.heap.size wo (wo.alloc (.cells #[] 52)) := (Below.refl _ _).alloc (Nat.le_refl _) _
      clear hx k0
      go_wp2_with fail
      clear k0'
      go_loopg [6, 7] t.length (fun g s6 s7 wr => ∃ (k : Nat) (v6 : Value), k ≤ t.length ∧ g = t.length - k ∧ v6 = s6 ∧ s7 = .int .i64 k ∧ Hid (RowT wr wo.heap.size v6 (fdT (t.take k))) ∧ Below wo.heap.size wo wr)
      case atStart => exact ⟨0, _, Nat.zero_le _, rfl, rfl, rfl, he0.out, hbe⟩
      case round =>
        obtain ⟨wi, rfl⟩ : ∃ wi : World, wi = wr := ⟨_, rfl⟩
        clear he0 hbe
        obtain ⟨k, v6, hk, rfl, rfl, rfl, hin, hbi⟩ := hrel
        have hBi := hb.trans (hbi.mono hb.size)
        have hbis := hbi.size
        have k0i := K0.out wi hBi
        by_cases hkl : k < t.length
        · obtain ⟨b2, o2, e2, hb2, ii0, ii1, ii2, ii3⟩ := InsS.get (InsS.le Hx.out (Le.below hBi)) hkl
          subst e2
          have Hnk : Hid (fdT (t.take (k + 1)) = fdT (t.take k) ++ [t[k], fenI]) := by
            show _ = _
            rw [List.take_succ_eq_append_getElem hkl, fdT_snoc]
          have hml : (fdT (t.take k)).length ≤ 4000 := by rw [fdT_len, List.length_take]; omega
          generalize t[k] = x at ii0 ii1 ii2 ii3 Hnk
          generalize fdT (t.take k) = ms at hin hml Hnk
          obtain ⟨cs6, hown, hqq⟩ := hin.out
          have Hown := Lib.hid hown
          have Hqq := Lib.hid hqq
          have Hv6 : Hid (∀ g, v6.ownBlock = some g → wo.heap.size ≤ g) := fun g hg => (hin.out.blk hg).1
          clear hin hown hqq
          go_wp2_with (at_builtin; refine wpList_append_lies _ (by rfl) _ _ _ (by rfl) wo.heap.size 52 i0 _ 4 32 Tryz.underlying50 hi0 hz0 hz1 hz2 rfl (by omega) v6 ms.length cs6 (by rfl) (owns_alloc Hown.out _) ⟨wi.heap.size, 0, none⟩ 2 2 [.int .i64 x.op, .int .i64 x.loc, .int .i64 x.reg, .int .i64 x.val, .int .i64 4, .int .i64 0, .int .i64 0, .int .i64 0] (by rfl) (by rfl) (World.news_of_block (cs := #[.int .i64 x.op, .int .i64 x.loc, .int .i64 x.reg, .int .i64 x.val, .int .i64 4, .int .i64 0, .int .i64 0, .int .i64 0]) (t := 52) (fr := (0, 0)) (heap_alloc_new wi _)) (by simp [Value.oneCell']) (by omega) (by simp [maxLen]; omega) (by omega) (by simp; omega) (wi.heap.size + 1) (by simp) ?_; intro gg cap w8 hown8 hgrow8 hat8 hlt8)
          have hB8 : Below wo.heap.size wo w8 := below_of_grown (hbi.alloc hbis _) hgrow8 (by simp; omega) (fun g hg => Hv6.out g hg)
          have hr8 : Hid (RowT w8 wo.heap.size (.slice (some ⟨gg, 0, none⟩) (ms.length + 2) cap) (ms ++ [x, fenI])) := RowOf.more qin_congr Hown.out Hqq.out (ys := [x, fenI]) rfl two_ins hown8
          clear hown8 hgrow8 hat8
          go_wp2_with fail
          go_roundg (t.length - (k + 1))
          case measure => omega
          case rel => exact ⟨k + 1, _, by omega, rfl, rfl, by go_num, by rw [Hnk.out]; exact hr8.out, hB8⟩
        · obtain rfl : k = t.length := by omega
          rw [List.take_length] at hin
          obtain ⟨A7, c7, e7, hle7, hc79⟩ := RowOf.slice hin.out
          have hml : (fdT t).length ≤ 4000 := by rw [fdT_len]; omega
          subst e7
          have Hown := Lib.hid hrow.out.own
          have Hv4 : Hid (∀ g, v4.ownBlock = some g → w1.heap.size ≤ g) := fun g hg => (World.ownsRow.lt hrow.out.own g hg).1
          have Hv4l : Hid (∀ g, v4.ownBlock = some g → g < wo.heap.size) := fun g hg => (World.ownsRow.lt hrow.out.own g hg).2
          have Howi : Hid (wi.ownsRow w1.heap.size 50 1 v4 qs.length cs) := owns_of_block Hown.out fun g _ _ hl => hbi.block g hl
          generalize fdT t = ts at hin hle7 hml Hnext
          go_wp2_with (at_builtin; refine wpList_append_lies _ (by rfl) _ _ _ (by rfl) w1.heap.size 50 i1 _ 1 24 Tryz.underlying23 hi1 hy0 hy1 hy2 rfl (by omega) v4 qs.length cs (by rfl) (owns_alloc Howi.out _) ⟨wi.heap.size, 0, none⟩ 1 1 [.slice A7 ts.length c7] (by rfl) (by rfl) (World.news_of_block (cs := #[.slice A7 ts.length c7]) (t := 50) (fr := (0, 0)) (heap_alloc_new wi _)) (by simp [Value.oneCell']) (by omega) (by simp [maxLen]; omega) (by omega) (by simp; omega) (wi.heap.size + 1) (by simp) ?_; intro gg cap w9 hown9 hgrow9 hat9 hlt9)
          have hB9 : Below w1.heap.size w1 w9 := below_of_grown (hBi.alloc hBi.size _) hgrow9 (by simp; omega) (fun g hg => Hv4.out g hg)
          obtain ⟨Fs9, hp9⟩ := hrow.out.pushRow (t := ts) (A := A7) (c := c7) (wr := wi) (fun b _ hl => hbi.block b hl) hbis hbs hin.out hgrow9 hown9 hat9 rfl
          have Hp9 := Lib.hid hp9
          clear hown9 hgrow9 hat9 hp9 k0i
          go_wp2_with fail
          go_roundg (p.length - (i + 1))
          case measure => omega
          case rel => exact ⟨i + 1, _, _, Fs9, by omega, rfl, rfl, by go_num, by rw [Hnext.out]; exact Hp9.out, hB9⟩
    · obtain rfl : i = p.length := by omega
      rw [List.take_length] at hrow
      have hqs : PrgS (above w1.heap.size wo) v4 (fdP p) := hrow.out.slR2 (R := RIns) (by omega) fun _ _ _ h => h
      obtain ⟨Aq, cq, eq, hqm⟩ := hqs.slice
      subst eq
      have HQ2 := Lib.hid (PrgS.le hqs (Le.above _ _))
      have HP2 := Lib.hid (PrgS.le HP1.out (Le.below hb))
      have hB2 := hB1.trans (hb.mono hB1.size)
      have hlq : (fdP p).length ≤ 1048576 := by rw [fdP_len]; exact hl
      have Hlsq : Hid (∀ t ∈ fdP p, t.length ≤ 1048576) := fun t ht => by
        obtain ⟨u, hu, rfl⟩ := List.mem_map.1 ht
        have := Hfw.out.2 u hu
        rw [fdT_len]
        omega
      clear hrow hqs
      obtain ⟨w2, rfl⟩ : ∃ w2 : World, w2 = wo := ⟨_, rfl⟩
      have hc3 := implRp_any (fdP p) hlq Hlsq.out w2 _ HQ2.out
      go_wp2_with fail
      refine hc3.mono ?_
      rintro e3 w3 ⟨v3, LQ, F3, rfl, ho3, _, _, hout3, _, hb3⟩
      have hB3 := hB2.trans (hb3.mono hB2.size)
      have HP3 := Lib.hid (PrgS.le HP2.out (Le.below hb3))
      have HQ3 := Lib.hid (PrgS.le HQ2.out (Le.below hb3))
      obtain ⟨AQ, cQ, ef⟩ := OwI2.form ho3
      subst ef
      have HoQ := Lib.hid hout3
      have HiQ3 := Lib.hid ho3.intss0
      clear hc3 ho3 hout3
      have hc4 := specRp_any (fdP p) hlq w3 _ HQ3.out
      go_wp2_with fail
      refine hc4.mono ?_
      rintro e4 w4 ⟨A4, L4, c4, rfl, hi4, hout4, hb4⟩
      have hB4 := hB3.trans (hb4.mono hB3.size)
      have HP4 := Lib.hid (PrgS.le HP3.out (Le.below hb4))
      have HQ4 := Lib.hid (PrgS.le HQ3.out (Le.below hb4))
      have HiQ4 := Lib.hid (Intss.le HiQ3.out (Le.below hb4))
      obtain rfl : LQ = L4 := (HoQ.out.same hout4)
      clear hc4 hout4
      have hc5 := (show Calls _ _ _ _ (RetB w4 true) from by have h := wmLists_any LQ LQ w4 AQ A4 cQ c4 HiQ4.out hi4; rw [eqB_self] at h; exact h)
      go_wp2_with fail
      refine hc5.mono ?_
      rintro e5 w5 ⟨rfl, hb5⟩
      have hB5 := hB4.trans (hb5.mono hB4.size)
      have HP5 := Lib.hid (PrgS.le HP4.out (Le.below hb5))
      have HQ5 := Lib.hid (PrgS.le HQ4.out (Le.below hb5))
      have HiQ5 := Lib.hid (Intss.le HiQ4.out (Le.below hb5))
      clear hc5
      clear hi4
      have hc6 := implPrg_any (fdP p) hlq Hlsq.out w5 _ HQ5.out
      have HT : Hid (prgB (fdP p) = true → PrgOk (fdP p)) := fun h => prgB_iff.1 h
      go_wp2_with fail
      refine hc6.mono ?_
      rintro e6 w6 ⟨rfl, hb6⟩
      have hB6 := hB5.trans (hb6.mono hB5.size)
      have HP6 := Lib.hid (PrgS.le HP5.out (Le.below hb6))
      have HQ6 := Lib.hid (PrgS.le HQ5.out (Le.below hb6))
      have HiQ6 := Lib.hid (Intss.le HiQ5.out (Le.below hb6))
      clear hc6
      cases hpb : prgB (fdP p)
      · skip
        clear hpb HT
        have hc7 := specRp_any (fdP p) hlq w6 _ HQ6.out
        go_wp2_with fail
        refine hc7.mono ?_
        rintro e7 w7 ⟨A7, L7, c7, rfl, hi7, hout7, hb7⟩
        have hB7 := hB6.trans (hb7.mono hB6.size)
        have HP7 := Lib.hid (PrgS.le HP6.out (Le.below hb7))
        have HQ7 := Lib.hid (PrgS.le HQ6.out (Le.below hb7))
        have HiQ7 := Lib.hid (Intss.le HiQ6.out (Le.below hb7))
        obtain rfl : LQ = L7 := (HoQ.out.same hout7)
        clear hc7 hout7
        have hc8 := (show Calls _ _ _ _ (RetB w7 true) from by have h := wmLists_any LQ LQ w7 AQ A7 cQ c7 HiQ7.out hi7; rw [eqB_self] at h; exact h)
        go_wp2_with fail
        refine hc8.mono ?_
        rintro e8 w8 ⟨rfl, hb8⟩
        have hB8 := hB7.trans (hb8.mono hB7.size)
        have HP8 := Lib.hid (PrgS.le HP7.out (Le.below hb8))
        have HQ8 := Lib.hid (PrgS.le HQ7.out (Le.below hb8))
        have HiQ8 := Lib.hid (Intss.le HiQ7.out (Le.below hb8))
        clear hc8
        clear hi7
        go_wp2_with fail
        go_ret
        exact ⟨rfl, hB8⟩
      · skip
        have Hp : Hid (PrgOk (fdP p)) := HT.out hpb
        clear hpb HT
        have hc7 := implRn_any p hl Hls.out w6 _ HP6.out
        go_wp2_with fail
        refine hc7.mono ?_
        rintro e7 w7 ⟨v7, LS, F7, rfl, ho7, _, _, hout7, _, hb7⟩
        have hB7 := hB6.trans (hb7.mono hB6.size)
        have HP7 := Lib.hid (PrgS.le HP6.out (Le.below hb7))
        have HQ7 := Lib.hid (PrgS.le HQ6.out (Le.below hb7))
        have HiQ7 := Lib.hid (Intss.le HiQ6.out (Le.below hb7))
        obtain ⟨AS, cS, ef⟩ := OwI2.form ho7
        subst ef
        have HoS := Lib.hid hout7
        have HiS7 := Lib.hid ho7.intss0
        clear hc7 ho7 hout7
        obtain rfl : LQ = LS := asc_uniq LQ LS HoQ.out.asc HoS.out.asc fun x => by rw [HoQ.out.iff Hp.out, HoS.out.iff (ok_fd Hp.out)]; exact out_fd Hp.out
        have hc8 := (show Calls _ _ _ _ (RetB w7 true) from by have h := wmLists_any LQ LQ w7 AQ AS cQ cS HiQ7.out HiS7.out; rw [eqB_self] at h; exact h)
        go_wp2_with fail
        refine hc8.mono ?_
        rintro e8 w8 ⟨rfl, hb8⟩
        have hB8 := hB7.trans (hb8.mono hB7.size)
        have HP8 := Lib.hid (PrgS.le HP7.out (Le.below hb8))
        have HQ8 := Lib.hid (PrgS.le HQ7.out (Le.below hb8))
        have HiQ8 := Lib.hid (Intss.le HiQ7.out (Le.below hb8))
        have HiS8 := Lib.hid (Intss.le HiS7.out (Le.below hb8))
        clear hc8
        have hc9 := implRt_any (fdP p) hlq Hlsq.out w8 _ HQ8.out
        go_wp2_with fail
        refine hc9.mono ?_
        rintro e9 w9 ⟨v9, LT, F9, rfl, ho9, _, _, hout9, _, hb9⟩
        have hB9 := hB8.trans (hb9.mono hB8.size)
        have HP9 := Lib.hid (PrgS.le HP8.out (Le.below hb9))
        have HQ9 := Lib.hid (PrgS.le HQ8.out (Le.below hb9))
        have HiQ9 := Lib.hid (Intss.le HiQ8.out (Le.below hb9))
        have HiS9 := Lib.hid (Intss.le HiS8.out (Le.below hb9))
        obtain ⟨AT, cT, ef⟩ := OwI2.form ho9
        subst ef
        have HoT := Lib.hid hout9
        have HiT9 := Lib.hid ho9.intss0
        clear hc9 ho9 hout9
        obtain rfl : LQ = LT := asc_uniq LQ LT HoQ.out.asc HoT.out.asc fun x => by rw [HoQ.out.iff Hp.out, HoT.out.iff Hp.out, out_fd Hp.out, out_fd Hp.out]
        have hc10 := (show Calls _ _ _ _ (RetB w9 true) from by have h := wmLists_any LQ LQ w9 AT AQ cT cQ HiT9.out HiQ9.out; rw [eqB_self] at h; exact h)
        go_wp2_with fail
        refine hc10.mono ?_
        rintro e10 w10 ⟨rfl, hb10⟩
        have hB10 := hB9.trans (hb10.mono hB9.size)
        have HP10 := Lib.hid (PrgS.le HP9.out (Le.below hb10))
        have HQ10 := Lib.hid (PrgS.le HQ9.out (Le.below hb10))
        have HiQ10 := Lib.hid (Intss.le HiQ9.out (Le.below hb10))
        have HiS10 := Lib.hid (Intss.le HiS9.out (Le.below hb10))
        have HiT10 := Lib.hid (Intss.le HiT9.out (Le.below hb10))
        clear hc10
        go_wp2_with fail
        go_ret
        exact ⟨rfl, hB10⟩

end Go.Proofs.YtahegjofooahkaaGreat
