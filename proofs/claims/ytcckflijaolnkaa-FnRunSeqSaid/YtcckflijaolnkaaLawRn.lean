/-
  The walk of FnRunSeq: it answers true.
-/
import Derived.Test.YtcckflijaolnkaaWayC
import Derived.Test.YtcckflijaolnkaaSrt
import Derived.Test.YtcckflijaolnkaaOutV
import Derived.Test.YtcckflijaolnkaaDpCP
namespace Go.Proofs.Ytcckflijaolnkaa
open Go.RowKit
set_option linter.unusedVariables false
set_option maxRecDepth 100000

theorem IsOut.asc {p : Prg} {L : List (List Int)} (hp : PrgOk p) (h : IsOut p L) : Asc L := by
  rcases h with ⟨_, V, _, h3, _⟩ | ⟨h3, _⟩
  · exact h3
  · exact absurd hp h3
theorem IsOut.pos {p : Prg} {L : List (List Int)} (hp : PrgOk p) (h : IsOut p L) : 0 < L.length := by
  obtain ⟨s, h1, h2⟩ := exists_done hp
  exact List.length_pos_of_mem ((h.iff hp _).2 ⟨s, h1, h2, rfl⟩)
theorem IsOut.ok {p : Prg} {L : List (List Int)} (hp : PrgOk p) (h : IsOut p L) : ∀ x ∈ L, OutOk p x := fun x hx => by
  obtain ⟨s, h1, _, rfl⟩ := (h.iff hp x).1 hx
  have hok := reach_ok hp h1
  refine ⟨hp, ?_, fun v hv => ?_⟩
  · unfold outS
    rw [List.length_append, hok.regl, hok.meml]
  · unfold outS at hv
    rcases List.mem_append.1 hv with hv | hv
    · exact hok.regb v hv
    · exact hok.memb v hv

set_option maxHeartbeats 1500000 in
theorem specCn_any (p : Prg) (hl : p.length ≤ 1048576) (W : World) (v : Value) (hr : PrgS W v p) : Calls Try.prog 35 #[v] W (RetHd W (wayO p)) := by
  obtain ⟨i0, hi0, hz0, hz1, hz2⟩ := info_parts Try.infoInt
  have hv := specPrg_any p hl W v hr
  have HR := Lib.hid hr
  obtain ⟨A, c, rfl, _⟩ := hr.slice
  have HF : Hid (prgB p = false → wayO p = 0) := fun h => by show _ = _; unfold wayO; rw [h]; rfl
  have HT : Hid (prgB p = true → PrgOk p ∧ wayO p = wayP 0 1 p) := fun h => ⟨prgB_iff.1 h, by unfold wayO; rw [if_pos h]⟩
  generalize wayO p = r at HF HT
  go_enter Try.func35, Try.ntmps35
  go_wp2_with fail
  refine hv.mono ?_
  rintro e1 w1 ⟨rfl, hb1⟩
  clear hv
  cases hpb : prgB p
  · have Hn := Lib.hid (HF.out hpb)
    clear hpb HT HF
    go_wp2_with fail
    go_ret
    exact ⟨by rw [Hn.out]; rfl, hb1⟩
  · obtain ⟨hp, hs⟩ := HT.out hpb
    have Hp := Lib.hid hp
    have Hs := Lib.hid hs
    have hp3 := hp.1.1
    have hrow0 : Hid (RowI (w1.alloc (.cells #[] 3)) w1.heap.size (.slice (some ⟨w1.heap.size, 0, none⟩) 0 0) []) := RowOf.made _ (Own.new w1 _ _) (Nat.le_refl _)
    have HR1 := Lib.hid (HR.out.le (Le.below hb1))
    clear hpb HT HF hp hs HR hr
    go_wp2_with fail
    go_loopg [3, 4] p.length (fun g s3 s4 wr => ∃ (i : Nat) (v3 : Value), i ≤ p.length ∧ g = p.length - i ∧ v3 = s3 ∧ s4 = .int .i64 i ∧ Hid (RowI wr w1.heap.size v3 ((p.take i).map fun t => (t.length : Int))) ∧ Below w1.heap.size w1 wr)
    case atStart => exact ⟨0, _, Nat.zero_le _, rfl, rfl, rfl, by rw [List.take_zero]; exact hrow0.out, (Below.refl _ _).alloc (Nat.le_refl _) _⟩
    case round =>
      obtain ⟨i, v3, hi, rfl, rfl, rfl, hrow, hb⟩ := hrel
      have hsr := hb.size
      clear hrow0
      by_cases hlt : i < p.length
      · obtain ⟨bp, op, A2, c2, rfl, hbl, k0, hlm, hx⟩ := SlR.getSub (PrgS.le HR1.out (Le.below hb)) hlt
        have Hrow2 : Hid ((p.take (i + 1)).map (fun t => (t.length : Int)) = (p.take i).map (fun t => (t.length : Int)) ++ [(p[i].length : Int)]) := by
          show _ = _
          rw [List.take_succ_eq_append_getElem hlt, List.map_append]
          rfl
        have hml : ((p.take i).map fun t => (t.length : Int)).length ≤ 3 := by rw [List.length_map, List.length_take]; omega
        obtain ⟨cs, hown, hqq⟩ := hrow.out
        have Hown := Lib.hid hown
        have Hqq := Lib.hid hqq
        generalize (p.take i).map (fun t => (t.length : Int)) = ms at Hown Hqq hml Hrow2
        generalize p[i].length = m at k0 hlm Hrow2
        clear hx hown hqq hrow
        go_wp2_with (at_builtin; refine wpList_append_lies _ (by rfl) _ _ _ (by rfl) w1.heap.size 3 i0 _ 1 8 Try.underlying35 hi0 hz0 hz1 hz2 rfl (by omega) v3 ms.length cs (by rfl) (owns_alloc Hown.out _) ⟨wr.heap.size, 0, none⟩ 1 1 [.int .i64 m] (by rfl) (by rfl) (World.news_of_block (cs := #[.int .i64 m]) (t := 3) (fr := (0, 0)) (heap_alloc_new wr _)) (by simp [Value.oneCell']) (by omega) (by simp [maxLen]; omega) (by omega) (by simp; omega) (wr.heap.size + 1) (by simp) ?_; intro gg cap w8 hown8 hgrow8 hat8 hlt8)
        have hB8 : Below w1.heap.size w1 w8 := below_of_grown (hb.alloc hsr _) hgrow8 (by simp; omega) (fun g hg => owns_base' Hown.out hg)
        have hr8 := Lib.hid (RowOf.snoc (news := [.int .i64 (m : Int)]) (x := (m : Int)) qint_congr Hown.out Hqq.out rfl rfl hown8)
        clear hown8 hgrow8 hat8
        go_wp2_with fail
        go_roundg (p.length - (i + 1))
        case measure => omega
        case rel => exact ⟨i + 1, _, by omega, rfl, rfl, by go_num, by rw [Hrow2.out]; exact hr8.out, hB8⟩
      · obtain rfl : i = p.length := by omega
        obtain ⟨A3, c3, e3, hi3⟩ := RowI.ints hrow.out
        rw [List.take_length] at e3 hi3
        rw [List.length_map] at e3
        subst e3
        have hwy := ways_any p Hp.out wr A3 c3 (Ints.le hi3 (Le.above _ _))
        rw [ways_eq, ← Hs.out] at hwy
        have hB1 := hb1.trans (hb.mono hb1.size)
        clear hrow hi3
        go_wp2_with fail
        refine hwy.mono ?_
        rintro e5 w5 ⟨rfl, hb5⟩
        go_wp2_with fail
        go_ret
        exact ⟨rfl, hB1.trans (hb5.mono hB1.size)⟩

theorem drawRn2_any (w : World) (A : Option Addr) (n c : Nat) (h : Bys w A n) (hnc : n ≤ c) (hA : A = none → n = 0) : Calls Try.prog 32 #[.slice A n c] w (RetDrP w) := by
  have hd := drawPV_any w A n c h hnc hA
  go_enter Try.func32, Try.ntmps32
  go_wp2_with fail
  refine hd.mono ?_
  rintro e1 w1 ⟨pr, v, rfl, h1, h2, h3⟩
  go_wp2_with fail
  go_ret
  exact ⟨pr, v, rfl, h1, h2, h3⟩

set_option maxHeartbeats 4000000 in
theorem lawRn_walk (w : World) (A : Option Addr) (n c : Nat) (h : Bys w A n) (hnc : n ≤ c) (hA : A = none → n = 0) :
    Calls Try.prog 9 #[.slice A n c] w (RetB w true) := by
  have hdr := drawRn2_any w A n c h hnc hA
  have hn := h.1
  clear h
  go_enter Try.func9, Try.ntmps9
  by_cases hsz : (1048576 : Int) < (n : Int)
  · have hd : decide ((n : Int) > 1048576) = true := by simpa using hsz
    go_wp2_with fail
    go_ret
    exact ⟨rfl, Below.refl _ _⟩
  have hd : decide ((n : Int) > 1048576) = false := by simpa using hsz
  go_wp2_with fail
  refine hdr.mono ?_
  rintro e1 w1 ⟨p, v, rfl, hps, hfew, hb1⟩
  have hp1 : PrgS w1 v p := PrgS.le hps (Le.above _ _)
  obtain ⟨A1, c1, rfl, hpl⟩ := hp1.slice
  have hl : p.length ≤ 1048576 := by have := hfew.1; omega
  have Hls := Lib.hid (hfew.mil (by omega))
  have HP1 := Lib.hid hp1
  have hrn := implRn_any p hl Hls.out w1 _ hp1
  clear hps hdr hp1 hfew
  go_wp2_with fail
  refine hrn.mono ?_
  rintro e2 w2 ⟨v2, L, F2, rfl, ho2, _, _, hout2, _, hb2⟩
  have hB2 := hb1.trans (hb2.mono hb1.size)
  obtain ⟨A2, c2, e2', _, _⟩ := OwRow.slice ho2
  subst e2'
  have Hout := Lib.hid hout2
  have Hi2 := Lib.hid ho2.intss0
  have HP2 := Lib.hid (PrgS.le HP1.out (Le.below hb2))
  have hsp := specRn_any p hl w2 _ HP2.out
  clear hrn ho2 hout2
  go_wp2_with fail
  refine hsp.mono ?_
  rintro e3 w3 ⟨A3, L3, c3, rfl, hi3, hout3, hb3⟩
  obtain rfl := hout3.same Hout.out
  have hB3 := hB2.trans (hb3.mono hB2.size)
  have HP3 := Lib.hid (PrgS.le HP2.out (Le.below hb3))
  have Hi3 := Lib.hid (Hi2.out.le (Le.below hb3))
  have hwm := wmLists_any L3 L3 w3 A2 A3 c2 c3 Hi3.out hi3
  rw [eqB_self] at hwm
  clear hsp hi3 hout3
  go_wp2_with fail
  refine hwm.mono ?_
  rintro e4 w4 ⟨rfl, hb4⟩
  have hB4 := hB3.trans (hb4.mono hB3.size)
  have HP4 := Lib.hid (PrgS.le HP3.out (Le.below hb4))
  have Hi4 := Lib.hid (Hi3.out.le (Le.below hb4))
  have hiv := implPrg_any p hl Hls.out w4 _ HP4.out
  have HF : Hid (prgB p = false → L3 = []) := fun h => by
    rcases Hout.out with ⟨k, _⟩ | ⟨_, k⟩
    · exact absurd k (prgB_false.1 h)
    · exact k
  have HT : Hid (prgB p = true → PrgOk p) := fun h => prgB_iff.1 h
  clear hwm
  go_wp2_with fail
  refine hiv.mono ?_
  rintro e5 w5 ⟨rfl, hb5⟩
  have hB5 := hB4.trans (hb5.mono hB4.size)
  have HP5 := Lib.hid (PrgS.le HP4.out (Le.below hb5))
  have Hi5 := Lib.hid (Hi4.out.le (Le.below hb5))
  clear hiv
  cases hpb : prgB p
  · have Hpb := Lib.hid hpb
    obtain rfl := HF.out hpb
    clear hpb HT HF
    have hsp := specRn_any p hl w5 _ HP5.out
    go_wp2_with fail
    refine hsp.mono ?_
    rintro e6 w6 ⟨A6, L6, c6, rfl, hi6, hout6, hb6⟩
    obtain rfl := hout6.same Hout.out
    have hB6 := hB5.trans (hb6.mono hB5.size)
    have HP6 := Lib.hid (PrgS.le HP5.out (Le.below hb6))
    have hwm := wmLists_any [] [] w6 A2 A6 c2 c6 (Hi5.out.le (Le.below hb6)) hi6
    rw [eqB_self] at hwm
    clear hsp hi6 hout6
    go_wp2_with fail
    refine hwm.mono ?_
    rintro e7 w7 ⟨rfl, hb7⟩
    have hB7 := hB6.trans (hb7.mono hB6.size)
    have hiv := implPrg_any p hl Hls.out w7 _ (PrgS.le HP6.out (Le.below hb7))
    rw [Hpb.out] at hiv
    clear hwm
    go_wp2_with fail
    refine hiv.mono ?_
    rintro e8 w8 ⟨rfl, hb8⟩
    have hB8 := hB7.trans (hb8.mono hB7.size)
    go_wp2_with fail
    go_ret
    exact ⟨rfl, hB8⟩
  · have Hp : Hid (PrgOk p) := HT.out hpb
    have Hway : Hid (wayO p = wayP 0 1 p) := by show _ = _; unfold wayO; rw [if_pos hpb]
    clear hpb HT HF
    have hcn := implCn_any p hl Hls.out w5 _ HP5.out
    have hpos := Hout.out.pos Hp.out
    have hfw := outs_few Hp.out Hout.out
    rw [← Hway.out] at hfw
    have HOk := Lib.hid (Hout.out.ok Hp.out)
    go_wp2_with fail
    refine hcn.mono ?_
    rintro e6 w6 ⟨rfl, hb6⟩
    have hB6 := hB5.trans (hb6.mono hB5.size)
    have HP6 := Lib.hid (PrgS.le HP5.out (Le.below hb6))
    have Hi6 := Lib.hid (Hi5.out.le (Le.below hb6))
    have hso := sorted_any L3 (p.length * 3 + 3) (fun x hx => (HOk.out x hx).2.1) (Hout.out.asc Hp.out) w6 A2 c2 Hi6.out
    clear hcn
    go_wp2_with fail
    refine hso.mono ?_
    rintro e7 w7 ⟨rfl, hb7⟩
    have hB7 := hB6.trans (hb7.mono hB6.size)
    have HP7 := Lib.hid (PrgS.le HP6.out (Le.below hb7))
    have Hi7 := Lib.hid (Hi6.out.le (Le.below hb7))
    have hscn := specCn_any p hl w7 _ HP7.out
    have hge : decide ((L3.length : Int) ≥ 1) = true := by rw [decide_eq_true_iff]; omega
    have hle : decide ((L3.length : Int) ≤ (wayO p : Int)) = true := by rw [decide_eq_true_iff]; omega
    have heq : ((wayO p : Int) == (wayO p : Int)) = true := by simp
    clear hso
    go_wp2_with fail
    refine hscn.mono ?_
    rintro e8 w8 ⟨rfl, hb8⟩
    have hB8 := hB7.trans (hb8.mono hB7.size)
    have HP8 := Lib.hid (PrgS.le HP7.out (Le.below hb8))
    obtain ⟨b9, o9, A9, c9, rfl, hb9, k9, hi9⟩ := (Hi7.out.le (Le.below hb8)).get hpos
    have hov := implOV_any p hl Hls.out L3[0] w8 _ HP8.out A9 c9 hi9
    rw [ovB_iff.2 (HOk.out _ (List.getElem_mem hpos))] at hov
    rw [Nat.add_zero] at k9
    have hposI : (0 : Int) < (L3.length : Int) := by omega
    clear hscn hi9
    go_wp2_with fail
    refine hov.mono ?_
    rintro e10 w10 ⟨rfl, hb10⟩
    go_wp2_with fail
    go_ret
    exact ⟨rfl, hB8.trans (hb10.mono hB8.size)⟩

end Go.Proofs.Ytcckflijaolnkaa
