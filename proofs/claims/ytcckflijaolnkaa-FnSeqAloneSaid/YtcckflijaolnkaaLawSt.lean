/-
  The walk of FnSeqStates: it answers true.
-/
import Derived.Test.YtcckflijaolnkaaStQ
import Derived.Test.YtcckflijaolnkaaWm
import Derived.Test.YtcckflijaolnkaaLawRSq
import Derived.Test.YtcckflijaolnkaaDpCP
namespace Go.Proofs.Ytcckflijaolnkaa
open Go.RowKit
set_option linter.unusedVariables false
set_option maxRecDepth 100000

theorem drawSt_any (w : World) (A : Option Addr) (n c : Nat) (h : Bys w A n) (hnc : n ≤ c) (hA : A = none → n = 0) : Calls Try.prog 30 #[.slice A n c] w (RetDrP w) := by
  have hd := drawPV_any w A n c h hnc hA
  go_enter Try.func30, Try.ntmps30
  go_wp2_with fail
  refine hd.mono ?_
  rintro e1 w1 ⟨pr, v, rfl, h1, h2, h3⟩
  go_wp2_with fail
  go_ret
  exact ⟨pr, v, rfl, h1, h2, h3⟩

theorem IsOut.fen {p : Prg} {L L' : List (List Int)} (hp : PrgOk p) (hq : PrgOk (fenP p)) (h : IsOut p L) (k : IsOut (fenP p) L') : L' = L := by
  refine asc_uniq L' L ?_ ?_ (fun x => by rw [k.iff hq, h.iff hp, fen_outs hp])
  · rcases k with ⟨_, V, _, h3, _⟩ | ⟨h3, _⟩
    · exact h3
    · exact absurd hq h3
  · rcases h with ⟨_, V, _, h3, _⟩ | ⟨h3, _⟩
    · exact h3
    · exact absurd hp h3
theorem fen_sizes {p : Prg} (h1 : p.length ≤ 2000) (h2 : ∀ t ∈ p, t.length ≤ 2000) : (fenP p).length ≤ 1048576 ∧ ∀ t ∈ fenP p, t.length ≤ 1048576 := by
  match p with
  | [] => exact ⟨by simp [fenP], fun t ht => by cases ht⟩
  | t :: p =>
    refine ⟨by simp [fenP] at *; omega, fun u hu => ?_⟩
    rcases List.mem_cons.1 hu with rfl | hu
    · have := h2 t (by simp)
      simp; omega
    · have := h2 u (by simp [hu])
      omega

set_option maxHeartbeats 4000000 in
theorem lawSt_walk (w : World) (A : Option Addr) (n c : Nat) (h : Bys w A n) (hnc : n ≤ c) (hA : A = none → n = 0) :
    Calls Try.prog 7 #[.slice A n c] w (RetB w true) := by
  obtain ⟨i0, hi0, hz0, hz1, hz2⟩ := info_parts Try.infoIns
  obtain ⟨i1, hi1, hy0, hy1, hy2⟩ := info_parts Try.infoInsS
  have hdr := drawSt_any w A n c h hnc hA
  have hn := h.1
  clear h
  go_enter Try.func7, Try.ntmps7
  by_cases hsz : (1048576 : Int) < (n : Int)
  · have hd : decide ((n : Int) > 1048576) = true := by simpa using hsz
    go_wp2_with fail
    go_ret
    exact ⟨rfl, Below.refl _ _⟩
  have hd : decide ((n : Int) > 1048576) = false := by simpa using hsz
  go_wp2_with fail
  refine hdr.mono ?_
  rintro e1 w1 ⟨p, v, rfl, hps, hfew, hb1⟩
  have hp1 : PrgS w1 v p := PrgS.le hps (Le.above _ _)
  obtain ⟨A1, c1, rfl, hpl⟩ := hp1.slice
  have hl : p.length ≤ 1048576 := by have := hfew.1; omega
  have Hls := Lib.hid (hfew.mil (by omega))
  have HP1 := Lib.hid hp1
  have Hfew := Lib.hid hfew
  have hcst := implSt_any p hl Hls.out w1 _ hp1
  clear hps hdr hp1 hfew
  go_wp2_with fail
  refine hcst.mono ?_
  rintro e2 w2 hc2
  have Hc2 := Lib.hid hc2
  obtain ⟨N, rfl, hN, hNb, hb2⟩ := hc2
  have HN := Lib.hid hN
  have hB2 := hb1.trans (hb2.mono hb1.size)
  have HP2 := Lib.hid (PrgS.le HP1.out (Le.below hb2))
  clear hcst hN
  have hsp := specSt_any p hl w2 _ HP2.out
  go_wp2_with fail
  refine hsp.mono ?_
  rintro e3 w3 hc3
  have hee := Hc2.out.same hc3
  obtain ⟨M, rfl, _, _, hb3⟩ := hc3
  obtain rfl : M = N := by
    injection hee with hee
    injection hee with _ hee
    omega
  have hB3 := hB2.trans (hb3.mono hB2.size)
  have HP3 := Lib.hid (PrgS.le HP2.out (Le.below hb3))
  have hNN : ((M : Int) != (M : Int)) = false := by simp
  have hNE : ((M : Int) == (M : Int)) = true := by simp
  have hiv := implPrg_any p hl Hls.out w3 _ HP3.out
  clear hsp hee
  go_wp2_with fail
  refine hiv.mono ?_
  rintro e4 w4 ⟨rfl, hb4⟩
  have hB4 := hB3.trans (hb4.mono hB3.size)
  have HP4 := Lib.hid (PrgS.le HP3.out (Le.below hb4))
  have HF : Hid (prgB p = false → ¬ PrgOk p) := fun h => prgB_false.1 h
  have HT : Hid (prgB p = true → PrgOk p) := fun h => prgB_iff.1 h
  clear hiv
  cases hpb : prgB p
  · have hn0 : M = 0 := by
      rcases HN.out with ⟨h, _⟩ | ⟨_, h⟩
      · exact absurd h (HF.out hpb)
      · exact h
    subst hn0
    have hsp := specSt_any p hl w4 _ HP4.out
    have Hpb := Lib.hid hpb
    clear hpb HT HF
    go_wp2_with fail
    refine hsp.mono ?_
    rintro e5 w5 hc5
    have hee := Hc2.out.same hc5
    obtain ⟨K, rfl, _, _, hb5⟩ := hc5
    obtain rfl : K = 0 := by
      injection hee with hee
      injection hee with _ hee
      omega
    have hB5 := hB4.trans (hb5.mono hB4.size)
    have hiv := implPrg_any p hl Hls.out w5 _ (PrgS.le HP4.out (Le.below hb5))
    rw [Hpb.out] at hiv
    clear hsp hee
    go_wp2_with fail
    refine hiv.mono ?_
    rintro e6 w6 ⟨rfl, hb6⟩
    have hB6 := hB5.trans (hb6.mono hB5.size)
    go_wp2_with fail
    go_ret
    exact ⟨rfl, hB6⟩
  · have Hp : Hid (PrgOk p) := HT.out hpb
    have Hmany : Hid (1 + wSum List.length p ≤ M) := by
      show _ ≤ _
      rcases HN.out with ⟨h, V, h2, rfl⟩ | ⟨h, _⟩
      · exact states_many h h2
      · exact absurd Hp.out h
    have h0 := Hp.out.2.1
    clear hpb HT HF
    go_wp2_with fail
    go_loopg [5, 6] p.length (fun g s5 s6 wr => ∃ i : Nat, i ≤ p.length ∧ g = p.length - i ∧ s6 = .int .i64 i ∧ s5 = .int .i64 ((1 + wSum List.length (p.take i) : Nat) : Int) ∧ Below w4.heap.size w4 wr)
    case atStart => exact ⟨0, Nat.zero_le _, rfl, rfl, by simp [wSum], Below.refl _ _⟩
    case round =>
      obtain ⟨i, hi, rfl, rfl, rfl, hb⟩ := hrel
      by_cases hlt : i < p.length
      · obtain ⟨b, o, A2, c2, rfl, hbl, k0, hlm, hx⟩ := SlR.getSub (PrgS.le HP4.out (Le.below hb)) hlt
        have hct := wSum_take_succ List.length p i hlt
        have hcl := wSum_take_le List.length p (i + 1)
        have hmm := Hmany.out
        obtain ⟨q, hq⟩ : ∃ q : Nat, q = 1 + wSum List.length (p.take i) := ⟨_, rfl⟩
        have hnx : q + p[i].length = 1 + wSum List.length (p.take (i + 1)) := by omega
        have hq1 : q + p[i].length ≤ 1000000000001 := by omega
        have Nx1 := Lib.hid hnx
        rw [← hq]
        clear hq hct hcl hmm hnx
        go_wp2_with fail
        go_roundg (p.length - (i + 1))
        case measure => omega
        case rel => exact ⟨i + 1, by omega, rfl, by go_num, congrArg (Value.int .i64) (by have := Nx1.out; omega), hb⟩
      · obtain rfl : i = p.length := by omega
        rw [List.take_length]
        have hge : decide ((M : Int) ≥ 1 + (wSum List.length p : Int)) = true := by
          rw [decide_eq_true_iff]
          have := Hmany.out
          omega
        have hpr := PrgS.le HP4.out (Le.below hb)
        have hBr := hB4.trans (hb.mono hB4.size)
        obtain ⟨vs, hvl, hvs, hvt⟩ := PrgS.vals hpr
        obtain ⟨b1, o1, A2, c2, rfl, hbl, k0, hlm, hx⟩ := SlR.getSub hpr h0
        have h1000 := Hfew.out.2 _ (List.getElem_mem h0)
        have hpl2 := Hfew.out.1
        have HX : Hid (∀ W, Le wr W → InsS W (.slice A2 p[0].length c2) p[0]) := fun W hl => InsS.le hx hl
        have HFen := Lib.hid (fen_cons h0)
        have HVt : Hid (∀ W, Le wr W → ∀ i (hi : i < p.length), ThrV W (vs.getD i undef) p[i]) := fun W hl i hi => (hvt i hi).le hl
        have HVl := Lib.hid hvl
        have HVs : Hid (∀ W, Le wr W → SlR 1 RVal W (.slice (some ⟨b1, o1, none⟩) vs.length c1) vs) := fun W hl => SlR.le' (fun _ _ _ _ _ h => h) hvs hl
        have HPr : Hid (∀ W, Le wr W → PrgS W (.slice (some ⟨b1, o1, none⟩) p.length c1) p) := fun W hl => PrgS.le hpr hl
        have H0 := Lib.hid h0
        have hv0 : (0 : Int) < (vs.length : Int) := by omega
        have hp0 : (0 : Int) < (p.length : Int) := by omega
        rw [Nat.add_zero] at k0
        obtain ⟨wo, hwo⟩ : ∃ wo : World, wo = wr := ⟨_, rfl⟩
        subst hwo
        generalize p[0] = t0 at k0 hlm h1000 HX HFen
        clear hpr hvs hvt hx hvl hb hB4 h0
        go_wp2_with (at_builtin; first
          | (refine wpList_append_emp (o := ⟨some 51, _, _, _, _, _⟩) (by rfl) _ _ _ (by rfl) qval_congr (R := RVal) wo.heap.size 46 i1 _ 24 Try.underlying25 hi1 hy0 hy1 hy2 rfl (by omega) wo.heap.size (by rfl) (Own.new _ _ _) (Nat.le_refl _) (some ⟨b1, o1, none⟩) c1 vs (by rw [HVl.out]; rfl) (HVs.out _ (Le.alloc _ _)) (fun cs y h => h) qval_one (by rw [HVl.out]; simp [maxLen]; omega) (by rw [HVl.out]; omega) ?_; intro A5 c5 w5 hrow5 hnx5 hbk5
             have hL5 : Le wo w5 := (Le.alloc _ _).trans (Le.below hnx5)
             have hs5 := hnx5.size
             have k5 := hL5 _ _ k0
             have hlt5 : b1 < w5.heap.size := World.block_lt_of_cell? _ _ k5
             obtain ⟨g, rfl, hgb, hgl, hgz, ⟨u, hgu⟩, _⟩ := row_at hrow5 (by rw [HVl.out]; exact H0.out) (by omega)
             have Hrow5 := Lib.hid hrow5
             have Hnx5 := Lib.hid hnx5
             clear hrow5 hnx5 hbk5 k0)
          | (refine wpList_append_emp (o := ⟨some 57, _, _, _, _, _⟩) (by rfl) _ _ _ (by rfl) qin_congr (R := RIns) w5.heap.size 48 i0 _ 32 Try.underlying46 hi0 hz0 hz1 hz2 rfl (by omega) w5.heap.size (by rfl) (Own.new _ _ _) (Nat.le_refl _) A2 c2 t0 (by rfl) (HX.out _ (hL5.trans (Le.alloc _ _))) (fun cs y h => h) qin_one (by simp [maxLen]; omega) (by omega) ?_; intro A6 c6 w6 hrow6 hnx6 hbk6
             have hs6 := hnx6.size
             have Hrow6 := Lib.hid hrow6
             have Hnx6 := Lib.hid hnx6
             have Hbk6 := Lib.hid hbk6
             clear hrow6 hnx6 hbk6)
          | (refine wpList_append_list (o := ⟨some 60, _, _, _, _, _⟩) (by rfl) _ _ _ (by rfl) qin_congr (R := RIns) w5.heap.size 48 i0 _ 32 Try.underlying46 hi0 hz0 hz1 hz2 rfl (by omega) _ t0 (by rfl) (Hrow6.out.of_block fun b _ _ hlt => Go.Deep.blk_alloc_lt _ _ _ hlt) (some ⟨w6.heap.size, 0, none⟩) 1 [fenI] (by rfl) (fen_sl _ _) (fun cs y h => h) qin_one (by simp [maxLen]; omega) (by simp; omega) (by simp at *; omega) (w6.heap.size + 1) (by simp) ?_; intro A7 c7 w7 hrow7 hgrow7 hat7
             have hs7 := World.grownBy.size hgrow7
             simp only [World.size_alloc] at hs7 hs6
             have Hown : Hid (∀ b, (Value.slice A6 t0.length c6).ownBlock = some b → w5.heap.size ≤ b) := fun b e => by
               obtain ⟨cs, h1, _⟩ := Hrow6.out
               exact owns_base' h1 e
             have Hg : Hid (∀ b, b < w5.heap.size → w7.heap[b]? = w5.heap[b]?) := fun b hb => (World.grownBy.block hgrow7 b (by simp; omega) (fun e => by have := Hown.out b e.symm; omega)).trans ((Go.Deep.blk_alloc_lt _ _ _ (by omega)).trans ((Hnx6.out.block b (by simp; omega)).trans (Go.Deep.blk_alloc_lt _ _ _ hb)))
             have hrow7' : RowOf 1 QVal w7 wo.heap.size 46 (.slice (some ⟨g, 0, none⟩) vs.length c5) vs := Hrow5.out.of_block fun b _ he hlt => Hg.out b hlt
             obtain ⟨g', eg, _, hgl7, hgz7, ⟨u7, hgu7⟩, _⟩ := row_at hrow7' (by rw [HVl.out]; exact H0.out) (by omega)
             obtain rfl : g = g' := by injection eg with eg; injection eg with eg
             have Hrow7 := Lib.hid hrow7'
             have HrowT := Lib.hid hrow7
             have Hgrow7 := Lib.hid hgrow7
             clear hrow7 hrow7' hgrow7 hat7 eg))
        obtain ⟨W8, hW8⟩ : ∃ W, W = w7.setCell ⟨g, 0, none⟩ (.slice A7 (t0.length + 1) c7) := ⟨_, rfl⟩
        have hB5 : Below wo.heap.size wo w5 := ((Below.refl _ _).alloc (Nat.le_refl _) _).trans (Hnx5.out.mono (by simp))
        have hB6 : Below wo.heap.size wo w6 := (hB5.alloc hB5.size _).trans (Hnx6.out.mono (by have := hB5.size; simp; omega))
        have hB7 : Below wo.heap.size wo w7 := below_grown (hB6.alloc hB6.size _) Hgrow7.out (Nat.le_refl _) (fun b e => by have := Hown.out b e; have := hB5.size; omega)
        have hB8 : Below wo.heap.size wo W8 := by rw [hW8]; exact hB7.setCell hgb _
        have hT8 : InsS W8 (.slice A7 (t0 ++ [fenI]).length c7) (t0 ++ [fenI]) := RowOf.slR (by omega) HrowT.out (fun cs x h => h) (fun x v hc => by
          obtain ⟨h1, h2⟩ := cell_above_lt hc
          rw [hW8, World.cell?_setCell_far _ _ _ _ (by show g ≠ x.block; omega)]
          exact h2)
        have hq8 := prg_set (tv := .slice A7 (t0.length + 1) c7) (t := t0 ++ [fenI]) Hrow7.out HVl.out H0.out ⟨A7, c7, by simp, by rw [← hW8]; exact hT8⟩ (by rw [← hW8]; exact HVt.out _ (Le.below hB8))
        rw [HFen.out, ← hW8, ← HVl.out] at hq8
        have Hq8 := Lib.hid hq8.2
        obtain ⟨hfl, hfls⟩ := fen_sizes Hfew.out.1 Hfew.out.2
        have Hfls := Lib.hid hfls
        have HB8 := hBr.trans (hB8.mono hBr.size)
        have HPr8 := Lib.hid (HPr.out W8 (Le.below hB8))
        rw [← hW8]
        refine (implPrg_any (fenP p) hfl Hfls.out W8 _ Hq8.out).mono ?_
        rintro e9 w9 ⟨rfl, hb9⟩
        have hB9 := HB8.trans (hb9.mono HB8.size)
        have HQ9 := Lib.hid (PrgS.le Hq8.out (Le.below hb9))
        have HP9 := Lib.hid (PrgS.le HPr8.out (Le.below hb9))
        have HT : Hid (prgB (fenP p) = true → PrgOk (fenP p)) := fun h => prgB_iff.1 h
        clear hW8 hB5 hB6 hB7 hT8 hq8 hfls hB8 hgl7 hgz7 hgu7 hgb hgl hgz hgu k5
        cases hpb : prgB (fenP p)
        · clear hpb HT
          go_wp2_with fail
          go_ret
          exact ⟨rfl, hB9⟩
        · have Hqo : Hid (PrgOk (fenP p)) := HT.out hpb
          have hst := implSt_any (fenP p) hfl Hfls.out w9 _ HQ9.out
          clear hpb HT
          go_wp2_with fail
          refine hst.mono ?_
          rintro e10 w10 ⟨K, rfl, hK, _, hb10⟩
          have hB10 := hB9.trans (hb10.mono hB9.size)
          have HQ10 := Lib.hid (PrgS.le HQ9.out (Le.below hb10))
          have HP10 := Lib.hid (PrgS.le HP9.out (Le.below hb10))
          have hgt : decide ((K : Int) > (M : Int)) = true := by
            rw [decide_eq_true_iff]
            rcases hK with ⟨_, V', k2, rfl⟩ | ⟨h, _⟩
            · rcases HN.out with ⟨_, V, h2, rfl⟩ | ⟨h, _⟩
              · have := fen_more Hp.out h2 k2
                omega
              · exact absurd Hp.out h
            · exact absurd Hqo.out h
          have hrn := implRn_any (fenP p) hfl Hfls.out w10 _ HQ10.out
          clear hst hK
          go_wp2_with fail
          refine hrn.mono ?_
          rintro e11 w11 ⟨v11, L', F11, rfl, ho11, _, _, hout11, _, hb11⟩
          have hB11 := hB10.trans (hb11.mono hB10.size)
          obtain ⟨A11, c11, e11', _, _⟩ := OwRow.slice ho11
          subst e11'
          have Hout11 := Lib.hid hout11
          have Hi11 := Lib.hid ho11.intss0
          have hrn2 := implRn_any p hl Hls.out w11 _ (PrgS.le HP10.out (Le.below hb11))
          clear hrn ho11 hout11
          go_wp2_with fail
          refine hrn2.mono ?_
          rintro e12 w12 ⟨v12, L, F12, rfl, ho12, _, _, hout12, _, hb12⟩
          have hB12 := hB11.trans (hb12.mono hB11.size)
          obtain ⟨A12, c12, e12', _, _⟩ := OwRow.slice ho12
          subst e12'
          obtain rfl := IsOut.fen Hp.out Hqo.out hout12 Hout11.out
          have hwm := wmLists_any L' L' w12 A11 A12 c11 c12 (Hi11.out.le (Le.below hb12)) ho12.intss0
          rw [eqB_self] at hwm
          clear hrn2 ho12 hout12
          go_wp2_with fail
          refine hwm.mono ?_
          rintro e13 w13 ⟨rfl, hb13⟩
          have hB13 := hB12.trans (hb13.mono hB12.size)
          go_wp2_with fail
          · go_ret
            exact ⟨rfl, hB13⟩
          · have h1 := of_decide_eq_true hgt
            exfalso
            omega

end Go.Proofs.Ytcckflijaolnkaa
