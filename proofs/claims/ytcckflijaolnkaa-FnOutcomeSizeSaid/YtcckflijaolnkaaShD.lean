/-
  The draw of a schedule: l3Schedule.
-/
import Derived.Test.YtcckflijaolnkaaPlM
import Derived.Test.YtcckflijaolnkaaDpCP
import Derived.Test.YtcckflijaolnkaaSlA
import Derived.Deep.Cut
namespace Go.Proofs.Ytcckflijaolnkaa
open Go.RowKit
set_option linter.unusedVariables false
set_option maxRecDepth 100000

def natI (cs : List Nat) : List Int := cs.map fun n => ((n : Nat) : Int)
def sumN (cs : List Nat) : Nat := cs.foldr (· + ·) 0
theorem natI_getD (cs : List Nat) (i : Nat) : (natI cs).getD i 0 = ((cs.getD i 0 : Nat) : Int) := by
  unfold natI
  simp only [List.getD_eq_getElem?_getD, List.getElem?_map]
  cases cs[i]? <;> rfl
theorem natI_set (cs : List Nat) (i v : Nat) : natI (cs.set i v) = (natI cs).set i (v : Int) := by
  unfold natI
  rw [List.map_set]
theorem natI_len (cs : List Nat) : (natI cs).length = cs.length := by unfold natI; rw [List.length_map]
theorem sumN_take {p : Prg} {i : Nat} (h : i < p.length) : natI ((p.take (i + 1)).map List.length) = natI ((p.take i).map List.length) ++ [(p[i].length : Int)] := by
  unfold natI
  rw [List.take_succ_eq_append_getElem h, List.map_append, List.map_append]
  rfl
theorem sumN_map : ∀ p : Prg, sumN (p.map List.length) = wSum List.length p
  | [] => rfl
  | t :: p => by
    have := sumN_map p
    simp only [List.map_cons, sumN, List.foldr_cons, wSum] at this ⊢
    omega
theorem sum_zero : ∀ cs : List Nat, (∀ i, i < cs.length → cs.getD i 0 = 0) → sumN cs = 0
  | [], _ => rfl
  | c :: cs, h => by
    have h0 := h 0 (by simp)
    have ih := sum_zero cs fun i hi => by have := h (i + 1) (by simpa using hi); simpa using this
    simp only [List.getD_cons_zero] at h0
    simp only [sumN, List.foldr_cons] at ih ⊢
    omega
/-- Round about from t0 everything has been met. -/
theorem all_round {n t0 : Nat} (hn : 0 < n) (ht : t0 < n) (k : Nat) (hk : k < n) : ∃ i, i < n ∧ (t0 + i) % n = k := by
  rcases Nat.lt_or_ge k t0 with h | h
  · refine ⟨n + k - t0, by omega, ?_⟩
    rw [show t0 + (n + k - t0) = k + n by omega, Nat.add_mod_right, Nat.mod_eq_of_lt hk]
  · refine ⟨k - t0, by omega, ?_⟩
    rw [show t0 + (k - t0) = k by omega, Nat.mod_eq_of_lt hk]
theorem RowI.mvR {a b : World} {R base : Nat} {v : Value} {xs : List Int} (h : RowI a base v xs) (m : Mv R a b) (hR : R < base) : RowI b base v xs := h.of_block fun g hg _ hl => m.block hl (by omega)
theorem Rd.of_blocks {w w' : World} {R p : Nat} (h : Rd w R p) (hb : ∀ b, b ≤ R → w'.heap[b]? = w.heap[b]?) : Rd w' R p := by
  obtain ⟨A, n, c, h, hn, hc⟩ := h
  refine ⟨A, n, c, h.of_block (hb R (Nat.le_refl _)), hn, fun i hi => ?_⟩
  obtain ⟨b, o, v, h1, h2, h3, h4⟩ := hc i hi
  refine ⟨b, o, v, h1, h2, ?_, h4⟩
  rw [World.cell?_of_block (w := w) (hb b (by omega))]
  exact h3
def RetSh (w : World) (R q : Nat) (e : Ending) (w' : World) : Prop := ∃ (A : Option Addr) (c : Nat) (ms : List Int) (q' : Nat), e = .returned (.slice A ms.length c) ∧ Ints (above w.heap.size w') A c ms ∧ ms.length ≤ 30 ∧ Mv R w w' ∧ Rd w' R q' ∧ q' ≤ q + 1000

set_option maxHeartbeats 4000000 in
theorem sched_any (p : Prg) (hp : PrgOk p) (W : World) (R q : Nat) (hq : q ≤ 900000000) (hr : Rd W R q) (v : Value) (hv : PrgS (above (R + 1) W) v p) : Calls Try.prog 50 #[.pointer (some ⟨R, 0, none⟩), v] W (RetSh W R q) := by
  obtain ⟨i0, hi0, hz0, hz1, hz2⟩ := info_parts Try.infoInt
  obtain ⟨A, c, rfl, _⟩ := hv.slice
  have hR := hr.lt
  have HV : Hid (∀ U, Mv R W U → PrgS U (.slice A p.length c) p) := fun U hU => PrgS.le hv ((Mv.above hU).trans (Le.above _ _))
  have Hp := Lib.hid hp
  have Hr := Lib.hid hr
  have h3 := hp.1.1
  have h0 := hp.2.1
  have hsum : wSum List.length p ≤ 21 := by
    have key : ∀ q : Prg, (∀ t ∈ q, t.length ≤ 7) → wSum List.length q ≤ q.length * 7 := fun q => by
      induction q with
      | nil => intro _; simp [wSum]
      | cons t q ih =>
        intro h
        have h1 := ih fun x hx => h x (List.mem_cons_of_mem _ hx)
        have h2 := h t (by simp)
        simp only [wSum, List.length_cons]
        omega
    have := key p fun t ht => (hp.1.2.1 t ht).1
    omega
  clear hv hp hr
  go_enter Try.func50, Try.ntmps50
  have hrow0 : Hid (RowI (W.alloc (.cells #[] 3)) W.heap.size (.slice (some ⟨W.heap.size, 0, none⟩) 0 0) []) := RowOf.made _ (Own.new W _ _) (Nat.le_refl _)
  go_wp2_with fail
  go_loopg [5, 6, 7] p.length (fun g s5 s6 s7 wr => ∃ (i : Nat) (v5 : Value), i ≤ p.length ∧ g = p.length - i ∧ v5 = s5 ∧ s7 = .int .i64 i ∧ s6 = .int .i64 ((wSum List.length (p.take i) : Nat) : Int) ∧ Hid (RowI wr W.heap.size v5 (natI ((p.take i).map List.length))) ∧ Below W.heap.size W wr)
  case atStart => exact ⟨0, _, Nat.zero_le _, rfl, rfl, rfl, rfl, by rw [List.take_zero]; exact hrow0.out, (Below.refl _ _).alloc (Nat.le_refl _) _⟩
  case round =>
    obtain ⟨i, v5, hi, rfl, rfl, rfl, rfl, hrow, hb⟩ := hrel
    have hsr := hb.size
    clear hrow0
    by_cases hlt : i < p.length
    · obtain ⟨bp, op, A2, c2, rfl, hbl, k0, hlm, hx⟩ := SlR.getSub (HV.out W (Mv.refl R W)) hlt
      have Hrow2 := Lib.hid (sumN_take hlt)
      have Hs := Lib.hid (wSum_take_succ List.length p i hlt)
      have hle := wSum_take_le List.length p (i + 1)
      rw [Hs.out] at hle
      have hml : (natI ((p.take i).map List.length)).length ≤ 3 := by rw [natI_len, List.length_map, List.length_take]; omega
      obtain ⟨cs, hown, hqq⟩ := hrow.out
      have Hown := Lib.hid hown
      have Hqq := Lib.hid hqq
      have K0 : Hid (∀ U, Below W.heap.size W U → U.cell? ⟨bp, op + i, none⟩ = some (.slice A2 p[i].length c2)) := fun U hU => Le.below hU _ _ k0
      have k1 := K0.out wr hb
      generalize natI ((p.take i).map List.length) = ms at Hown Hqq hml Hrow2
      generalize wSum List.length (p.take i) = a at Hs hle
      generalize p[i].length = m at k0 k1 hlm Hrow2 Hs hle K0
      clear hx hown hqq hrow k0
      go_wp2_with (at_builtin; refine wpList_append_lies _ (by rfl) _ _ _ (by rfl) W.heap.size 3 i0 _ 1 8 Try.underlying35 hi0 hz0 hz1 hz2 rfl (by omega) v5 ms.length cs (by rfl) (owns_alloc Hown.out _) ⟨wr.heap.size, 0, none⟩ 1 1 [.int .i64 m] (by rfl) (by rfl) (World.news_of_block (cs := #[.int .i64 m]) (t := 3) (fr := (0, 0)) (heap_alloc_new wr _)) (by simp [Value.oneCell']) (by omega) (by simp [maxLen]; omega) (by omega) (by simp; omega) (wr.heap.size + 1) (by simp) ?_; intro gg cap w8 hown8 hgrow8 hat8 hlt8; have hB8 : Below W.heap.size W w8 := below_of_grown (hb.alloc hsr _) hgrow8 (by simp; omega) (fun g hg => owns_base' Hown.out hg); have k8 := K0.out w8 hB8)
      have hr8 := Lib.hid (RowOf.snoc (news := [.int .i64 (m : Int)]) (x := (m : Int)) qint_congr Hown.out Hqq.out rfl rfl hown8)
      clear hown8 hgrow8 hat8
      go_roundg (p.length - (i + 1))
      case measure => omega
      case rel => exact ⟨i + 1, _, by omega, rfl, rfl, by go_num, congrArg (Value.int .i64) (by have := Hs.out; omega), by rw [Hrow2.out]; exact hr8.out, hB8⟩
    · obtain rfl : i = p.length := by omega
      rw [List.take_length] at hrow
      rw [List.take_length]
      obtain ⟨all, hall⟩ : ∃ all, all = wSum List.length p := ⟨_, rfl⟩
      obtain ⟨K, hK⟩ : ∃ K, K = wr.heap.size := ⟨_, rfl⟩
      have hnl : (natI (p.map List.length)).length = p.length := by rw [natI_len]; simp
      obtain ⟨A5, c5, rfl, _⟩ := RowOf.slice hrow.out
      rw [hnl] at hrow ⊢
      obtain ⟨gl, e5, hgB, hgl, hg1, hg2⟩ := RowI.at hrow.out (i := 0) (by rw [hnl]; omega)
      clear hg1 hg2
      subst e5
      have Hrow := Lib.hid hrow.out
      have Hall : Hid (sumN (p.map List.length) = all) := by show _ = _; rw [sumN_map, hall]
      have hall21 : all ≤ 21 := by omega
      rw [← hall]
      have HrdW := Lib.hid (Rd.below Hr.out hb)
      have hKs : W.heap.size ≤ K := by omega
      have hglK : gl < K := by omega
      have hrowO : Hid (RowI (wr.alloc (.cells #[] 3)) K (.slice (some ⟨K, 0, none⟩) 0 0) []) := by show RowI _ _ _ _; rw [hK]; exact RowOf.made _ (Own.new wr _ _) (Nat.le_refl _)
      have hrowL : Hid (RowI (wr.alloc (.cells #[] 3)) W.heap.size (.slice (some ⟨gl, 0, none⟩) p.length c5) (natI (p.map List.length))) := RowOf.below Hrow.out ((Below.refl _ _).alloc (Nat.le_refl _) _)
      have hrdO : Hid (Rd (wr.alloc (.cells #[] 3)) R q) := HrdW.out.alloc _
      have hmvO : Mv R W (wr.alloc (.cells #[] 3)) := (Mv.of_below hb).alloc _
      clear hrow Hrow HrdW hall hb hsr
      go_upto_region 9 with (fail)
      rw [← hK]
      have hK1 : K ≤ wr.heap.size := by omega
      clear hK hgl
      go_loopg [8, 9] all (fun g s8 s9 wq => ∃ (cs : List Nat) (ms : List Int) (q' : Nat) (v8 : Value), g = all - ms.length ∧ v8 = s8 ∧ Hid (RowI wq W.heap.size (.slice (some ⟨gl, 0, none⟩) p.length c5) (natI cs)) ∧ Hid (RowI wq K v8 ms) ∧ Hid (cs.length = p.length ∧ sumN cs + ms.length = all) ∧ ms.length ≤ all ∧ Hid (Rd wq R q') ∧ q' ≤ q + ms.length ∧ Mv R W wq ∧ K ≤ wq.heap.size)
      case atStart => exact ⟨_, [], q, _, rfl, rfl, hrowL.out, hrowO.out, ⟨by simp, Hall.out⟩, Nat.zero_le _, hrdO.out, Nat.le_refl _, hmvO, by simp; omega⟩
      case round =>
        obtain ⟨cs, ms, q', v8, rfl, rfl, hrL, hrO, hcs, hms, hrd, hqq, hmv, hKq⟩ := hrel
        clear hrowO hrowL hrdO hmvO
        by_cases hlt2 : ms.length < all
        · obtain ⟨A8, c8, rfl, _⟩ := RowOf.slice hrO.out
          have hpk := pick_any wr R q' p.length (by omega) hrd.out
          go_wp2_with fail
          refine hpk.mono ?_
          rintro e6 w6 ⟨tv, rfl, h0t, hltt, m6, r6⟩
          obtain ⟨t0, rfl⟩ : ∃ t0 : Nat, tv = (t0 : Int) := ⟨tv.toNat, by omega⟩
          have ht0 : t0 < p.length := by have := hltt (by omega); omega
          have hrL6 := Lib.hid (hrL.out.mvR m6 hR)
          have hrO6 := Lib.hid (hrO.out.mvR m6 (by omega))
          have R6 := Lib.hid r6
          have hmv6 := hmv.trans m6
          have hs6 := m6.size
          clear hpk hrL hrO hrd r6 m6 h0t hltt
          go_wp2_with fail
          go_loopg [9] (p.length + 1) (fun g s9 wz => ∃ j t : Nat, j ≤ p.length ∧ g = p.length + 1 - j ∧ s9 = .int .i64 t ∧ t < p.length ∧ Hid (t = (t0 + j) % p.length ∧ ∀ i, i < j → cs.getD ((t0 + i) % p.length) 0 = 0) ∧ Hid (Below w6.heap.size w6 wz))
          case atStart => exact ⟨0, t0, Nat.zero_le _, rfl, rfl, ht0, ⟨by rw [Nat.add_zero, Nat.mod_eq_of_lt ht0], fun i hi => absurd hi (Nat.not_lt_zero _)⟩, Below.refl _ _⟩
          case round =>
            obtain ⟨j, t, hj, rfl, rfl, ht, hjt, hbz⟩ := hrel
            have hrLz := Lib.hid (RowOf.below hrL6.out hbz.out)
            have hrOz := Lib.hid (RowOf.below hrO6.out hbz.out)
            obtain ⟨g', e9, _, hglz, hfz, hcz⟩ := RowI.at hrLz.out (i := t) (by rw [natI_len, hcs.out.1]; exact ht)
            obtain rfl : gl = g' := by injection e9 with e9; injection e9 with e9
            have kt := hcz t (by rw [natI_len, hcs.out.1]; exact ht)
            rw [natI_getD] at kt
            have ft := hfz t
            have htI : (t : Int) < (p.length : Int) := by omega
            have hx1 : cs.getD t 0 ≤ 21 := by
              have h1 := sum_set cs t 0 (by rw [hcs.out.1]; exact ht)
              have h2 := hcs.out.2
              unfold sumN at h2
              omega
            have Hset : Hid (∀ v, cs.getD t 0 = v + 1 → (cs.set t v).length = p.length ∧ sumN (cs.set t v) + (ms.length + 1) = all) := fun v hv => ⟨by rw [List.length_set]; exact hcs.out.1, by
              have h1 := sum_set cs t v (by rw [hcs.out.1]; exact ht)
              have h2 := hcs.out.2
              unfold sumN at h2 ⊢
              omega⟩
            have Hjx : Hid (cs.getD t 0 = 0 → j < p.length ∧ ((t + 1) % p.length = (t0 + (j + 1)) % p.length ∧ ∀ i, i < j + 1 → cs.getD ((t0 + i) % p.length) 0 = 0)) := fun hz => by
              have hall2 : ∀ i, i < j + 1 → cs.getD ((t0 + i) % p.length) 0 = 0 := fun i hi => by
                rcases Nat.lt_succ_iff_lt_or_eq.1 hi with h | h
                · exact hjt.out.2 i h
                · rw [h, ← hjt.out.1]; exact hz
              refine ⟨?_, ?_, hall2⟩
              · rcases Nat.lt_or_ge j p.length with h | h
                · exact h
                · exfalso
                  have h5 : sumN cs = 0 := sum_zero cs fun i hi => by
                    obtain ⟨i', h6, h7⟩ := all_round h0 ht0 i (by rw [hcs.out.1] at hi; exact hi)
                    rw [← h7]
                    exact hall2 i' (by omega)
                  have := hcs.out.2
                  omega
              · rw [hjt.out.1, Nat.mod_add_mod]
                rfl
            generalize hx : cs.getD t 0 = x at kt hx1 Hset Hjx
            have hxs := Lib.hid hx
            clear hx hjt hcz hfz e9
            by_cases hz : x = 0
            · subst hz
              obtain ⟨hj2, hjn⟩ := Hjx.out rfl
              have Hjn := Lib.hid hjn
              have hmod : (((t : Int) + 1).tmod (p.length : Int)) = (((t + 1) % p.length : Nat) : Int) := by
                rw [show (t : Int) + 1 = ((t + 1 : Nat) : Int) by omega, Int.ofNat_tmod]
              have hm3 : (t + 1) % p.length < p.length := Nat.mod_lt _ h0
              clear Hset Hjx hjn
              go_wp2_with fail
              go_roundg (p.length + 1 - (j + 1))
              case measure => omega
              case rel => exact ⟨j + 1, _, by omega, rfl, congrArg (Value.int .i64) hmod, hm3, Hjn.out, hbz.out⟩
            · obtain ⟨v, rfl⟩ : ∃ v, x = v + 1 := ⟨x - 1, by omega⟩
              have hne : (((v + 1 : Nat) : Int) == 0) = false := by rw [beq_eq_false_iff_ne]; omega
              have hsub : ((v + 1 : Nat) : Int) - 1 = (v : Int) := by omega
              have Hset2 := Lib.hid (Hset.out v rfl)
              obtain ⟨V7, hV7⟩ : ∃ V7, V7 = wr.setCell ⟨gl, t, none⟩ (.int .i64 (v : Int)) := ⟨_, rfl⟩
              have hrL7 : Hid (RowI V7 W.heap.size (.slice (some ⟨gl, 0, none⟩) p.length c5) (natI (cs.set t v))) := by
                show RowI _ _ _ _
                rw [hV7, natI_set]
                refine RowI.set hrLz.out ?_ _
                have h := Hset2.out.1
                rw [List.length_set] at h
                rw [natI_len]
                omega
              have hs7 : wr.heap.size ≤ V7.heap.size := by rw [hV7]; simp
              have hB7 : ∀ b, b ≠ gl → V7.heap[b]? = wr.heap[b]? := fun b hb => by rw [hV7]; exact Go.Deep.blk_setCell_other _ _ _ _ hb
              have hrO7 : RowI V7 K (.slice A8 ms.length c8) ms := RowOf.of_block hrOz.out fun g hg _ _ => hB7 g (by omega)
              have R7 : Hid (Rd V7 R (q' + 1)) := Rd.of_blocks (R6.out.below hbz.out) fun b hb => hB7 b (by omega)
              have hmv7 : Mv R W V7 := by rw [hV7]; exact (hmv6.trans (Mv.of_below hbz.out)).setNew hgB _
              have hzs := hbz.out.size
              have Hown0 : Hid (∀ g, (Value.slice A8 ms.length c8).ownBlock = some g → K ≤ g) := fun g hg => by obtain ⟨cells, hown, _⟩ := hrO7; exact owns_base' hown hg
              obtain ⟨cells, hown, hqq8⟩ := hrO7
              have Hown := Lib.hid hown
              have Hqq := Lib.hid hqq8
              clear Hset Hjx hrLz hrOz hrL6 hrO6 R6 hown hqq8 hbz hB7
              go_upto_region 14 with (fail)
              rw [← hV7]
              clear hV7
              go_wp2_with (at_builtin; refine wpList_append_lies _ (by rfl) _ _ _ (by rfl) K 3 i0 _ 1 8 Try.underlying35 hi0 hz0 hz1 hz2 rfl (by omega) (.slice A8 ms.length c8) ms.length cells (by rfl) (owns_alloc Hown.out _) ⟨V7.heap.size, 0, none⟩ 1 1 [.int .i64 t] (by rfl) (by rfl) (World.news_of_block (cs := #[.int .i64 t]) (t := 3) (fr := (0, 0)) (heap_alloc_new V7 _)) (by simp [Value.oneCell']) (by omega) (by simp [maxLen]; omega) (by omega) (by simp; omega) (V7.heap.size + 1) (by simp) ?_; intro gg cap w9 hown9 hgrow9 hat9 hlt9)
              have hkeep : ∀ b, b < K → w9.heap[b]? = V7.heap[b]? := fun b hb => (World.grownBy.block hgrow9 b (by simp; omega) (fun e => by have := Hown0.out b e.symm; omega)).trans (Go.Deep.blk_alloc_lt _ _ _ (by omega))
              have hr9 := Lib.hid (RowOf.snoc (news := [.int .i64 (t : Int)]) (x := (t : Int)) qint_congr Hown.out Hqq.out rfl rfl hown9)
              have hrL9 : Hid (RowI w9 W.heap.size (.slice (some ⟨gl, 0, none⟩) p.length c5) (natI (cs.set t v))) := RowOf.of_block hrL7.out fun g _ hg _ => hkeep g (by simp only [Value.ownBlock, Option.some.injEq] at hg; omega)
              have R9 : Hid (Rd w9 R (q' + 1)) := Rd.of_blocks R7.out fun b hb => hkeep b (by omega)
              have hmv9 : Mv R W w9 := mv_grown2 (hmv7.alloc _) hgrow9 (fun g hg => by have := Hown0.out g hg; omega)
              have hs9 := World.grownBy.size hgrow9
              have hsA : K ≤ w9.heap.size := by simp at hs9; omega
              clear hgrow9 hown9 hat9 hrL7 R7
              go_wp2_with fail
              go_roundg (all - (ms.length + 1))
              case measure => omega
              case rel => exact ⟨cs.set t v, ms ++ [(t : Int)], q' + 1, _, by simp, rfl, hrL9.out, hr9.out, ⟨Hset2.out.1, by rw [List.length_append]; exact Hset2.out.2⟩, by simp; omega, R9.out, by simp; omega, hmv9, hsA⟩
        · have hle : ms.length = all := by omega
          obtain ⟨A8, c8, rfl, hc8, hc9⟩ := RowOf.slice hrO.out
          have hpk := pick_any wr R q' 16 (by omega) hrd.out
          subst hle
          go_wp2_with fail
          refine hpk.mono ?_
          rintro e6 w6 ⟨tv, rfl, h0t, hltt, m6, r6⟩
          have hrO6 := Lib.hid (hrO.out.mvR m6 (by omega))
          have R6 := Lib.hid r6
          have hmv6 := hmv.trans m6
          have hs6 := m6.size
          clear hpk hrL hrO hrd r6 m6 h0t hltt
          by_cases ht0 : tv = 0
          · subst ht0
            obtain ⟨V7, hV7⟩ : ∃ V7, V7 = w6.alloc (.cells #[.int .i64 0, .int .i64 3, .int .i64 (-1)] 3) := ⟨_, rfl⟩
            have oX : Own V7 w6.heap.size 3 #[.int .i64 0, .int .i64 3, .int .i64 (-1)] := by rw [hV7]; exact Own.new _ _ _
            have hs7 : w6.heap.size ≤ V7.heap.size := by rw [hV7]; simp
            have hnum := num3_any V7 R (q' + 1) w6.heap.size 0 3 (-1) (by omega) (by rw [hV7]; exact R6.out.alloc _) oX (by omega)
            have hrO7 : Hid (RowI V7 K (.slice A8 ms.length c8) ms) := by show RowI _ _ _ _; rw [hV7]; exact RowOf.below hrO6.out ((Below.refl _ _).alloc (Nat.le_refl _) _)
            have hmv7 : Mv R W V7 := by rw [hV7]; exact hmv6.alloc _
            clear oX hrO6
            have HrO7 := hrO7
            rw [hV7] at hnum
            go_wp2_with fail
            refine hnum.mono ?_
            rw [← hV7]
            rintro e8 w8 ⟨x, rfl, _, m8, r8⟩
            clear hnum hV7
            have hrO8 : RowI w8 K (.slice A8 ms.length c8) ms := HrO7.out.mvR m8 (by omega)
            have hmv8 := hmv7.trans m8
            have hs8 := m8.size
            have R8 := Lib.hid r8
            have Hown0 : Hid (∀ g, (Value.slice A8 ms.length c8).ownBlock = some g → K ≤ g) := fun g hg => by obtain ⟨cells, hown, _⟩ := hrO8; exact owns_base' hown hg
            obtain ⟨cells, hown, hqq8⟩ := hrO8
            have Hown := Lib.hid hown
            have Hqq := Lib.hid hqq8
            clear hown hqq8 m8 r8 HrO7 hrO7 hmv7 R6 hmv6
            go_wp2_with (at_builtin; refine wpList_append_lies _ (by rfl) _ _ _ (by rfl) K 3 i0 _ 1 8 Try.underlying35 hi0 hz0 hz1 hz2 rfl (by omega) (.slice A8 ms.length c8) ms.length cells (by rfl) (owns_alloc Hown.out _) ⟨w8.heap.size, 0, none⟩ 1 1 [.int .i64 x] (by rfl) (by rfl) (World.news_of_block (cs := #[.int .i64 x]) (t := 3) (fr := (0, 0)) (heap_alloc_new w8 _)) (by simp [Value.oneCell']) (by omega) (by simp [maxLen]; omega) (by omega) (by simp; omega) (w8.heap.size + 1) (by simp) ?_; intro gg cap w9 hown9 hgrow9 hat9 hlt9)
            have hkeep : ∀ b, b < K → w9.heap[b]? = w8.heap[b]? := fun b hb => (World.grownBy.block hgrow9 b (by simp; omega) (fun e => by have := Hown0.out b e.symm; omega)).trans (Go.Deep.blk_alloc_lt _ _ _ (by omega))
            have hr9 := Lib.hid (RowOf.snoc (news := [.int .i64 x]) (x := x) qint_congr Hown.out Hqq.out rfl rfl hown9)
            have R9 : Hid (Rd w9 R (q' + 1 + 1)) := Rd.of_blocks R8.out fun b hb => hkeep b (by omega)
            have hmv9 : Mv R W w9 := mv_grown2 (hmv8.alloc _) hgrow9 (fun g hg => by have := Hown0.out g hg; omega)
            clear hgrow9 hown9 hat9
            go_wp2_with fail
            go_ret
            obtain ⟨A9, c9', e9, hi9⟩ := RowI.ints hr9.out
            have hlx : (ms ++ [x]).length = ms.length + 1 := by simp
            rw [hlx] at e9
            injection e9 with e9 _ e10
            subst e9 e10
            exact ⟨_, _, ms ++ [x], _, by rw [hlx]; rfl, hi9.le (Le.above_mono hKs _), by rw [hlx]; omega, hmv9, R9.out, by omega⟩
          · have hd0 : (tv == 0) = false := beq_eq_false_iff_ne.2 ht0
            by_cases ht1 : tv = 1
            · subst ht1
              by_cases hpos : ms.length = 0
              · obtain rfl := List.length_eq_zero_iff.1 hpos
                go_wp2_with fail
                go_ret
                obtain ⟨A9, c9', e9, hi9⟩ := RowI.ints hrO6.out
                injection e9 with e9 _ e10
                subst e9 e10
                exact ⟨_, _, [], _, rfl, hi9.le (Le.above_mono hKs _), by simp, hmv6, R6.out, by omega⟩
              · have hd : decide ((ms.length : Int) > 0) = true := by rw [decide_eq_true_iff]; omega
                obtain ⟨A9, c9', e9, hi9⟩ := RowI.ints hrO6.out
                injection e9 with e9 _ e10
                subst e9 e10
                obtain ⟨b9, o9, rfl, _⟩ := hi9.get (i := 0) (by omega)
                have Htl : Hid (∀ c' b o, (∀ i (h : i < ms.length - 1), b = b9 ∧ o = o9 + 1) → Ints (above K w6) (some ⟨b, o, none⟩) c' (ms.drop 1)) := fun c' b o hbo => by
                  refine Ints.mk (by rw [List.length_drop]; omega) fun i hi => ?_
                  rw [List.length_drop] at hi
                  obtain ⟨rfl, rfl⟩ := hbo i hi
                  obtain ⟨b', o', e, _, hc⟩ := hi9.get (i := i + 1) (by omega)
                  injection e with e
                  injection e with e1 e2
                  subst e1 e2
                  rw [List.getElem_drop, show o9 + 1 + i = o9 + (i + 1) by omega, hc]
                  simp only [Nat.add_comm 1 i]
                have hdl : (ms.drop 1).length = ms.length - 1 := List.length_drop
                have Hdl := Lib.hid hdl
                clear hdl
                go_wp2_with fail
                all_goals go_ret
                all_goals (refine ⟨_, _, ms.drop 1, _, by rw [Hdl.out]; rfl, (Htl.out _ _ _ (fun i hi => ?_)).le (Le.above_mono hKs _), by rw [Hdl.out]; omega, hmv6, R6.out, by omega⟩)
                all_goals (first | exact ⟨rfl, rfl⟩ | (exfalso; omega))
            · have hd1 : (tv == 1) = false := beq_eq_false_iff_ne.2 ht1
              go_wp2_with fail
              go_ret
              obtain ⟨A9, c9', e9, hi9⟩ := RowI.ints hrO6.out
              injection e9 with e9 _ e10
              subst e9 e10
              exact ⟨_, _, ms, _, rfl, hi9.le (Le.above_mono hKs _), by omega, hmv6, R6.out, by omega⟩

end Go.Proofs.Ytcckflijaolnkaa
