/-
  The walk of FnReadsFrom: it answers true.
-/
import Derived.Test.YtfgpbnncdfcjjaaDoorCdS
import Derived.Test.YtfgpbnncdfcjjaaDoorI4
namespace Go.Proofs.YtfgpbnncdfcjjaaDoor
open Go.RowKit
set_option linter.unusedVariables false
set_option maxRecDepth 100000

/-! ### Counts by columns -/
def cntC (a : Rel) (m : Nat) : Nat → Nat
  | 0 => 0
  | k + 1 => cntC a m k + cntN (fun i => a i k) m
theorem cntC_more (a : Rel) (m : Nat) : ∀ n, cntC a (m + 1) n = cntC a m n + cntN (a m) n
  | 0 => rfl
  | n + 1 => by
    rw [cntC, cntC, cntN, cntN, cntC_more a m n]
    omega
theorem cntR_cols (a : Rel) (n : Nat) : ∀ m, cntR a n m = cntC a m n
  | 0 => by
    show 0 = _
    induction n with
    | zero => rfl
    | succ n ih => rw [cntC, ← ih]; rfl
  | m + 1 => by rw [cntR, cntR_cols a n m, cntC_more]
theorem cntN_point (t : Nat) : ∀ n, cntN (fun i => decide (t = i)) n = if t < n then 1 else 0
  | 0 => by simp [cntN]
  | n + 1 => by
    rw [cntN, cntN_point t n]
    by_cases h : t = n
    · subst h; simp
    · by_cases h2 : t < n
      · have : t < n + 1 := by omega
        simp [h, h2, this]
      · have : ¬ t < n + 1 := by omega
        simp [h, h2, this]
/-- Each read has one source. -/
theorem rf_count {p : Prg} {x : Ex} (h : CandOk p x) : cntR (pairB p x (evs p) 3) (evs p).length (evs p).length = cntN (fun k => ((evs p).getD k e0).rd) (evs p).length := by
  rw [cntR_cols]
  have key : ∀ m, m ≤ (evs p).length → cntC (pairB p x (evs p) 3) (evs p).length m = cntN (fun k => ((evs p).getD k e0).rd) m := fun m => by
    induction m with
    | zero => intro _; rfl
    | succ m ih =>
      intro hm
      have hm' : m < (evs p).length := by omega
      rw [cntC, cntN, ih (by omega), getD_evs hm']
      congr 1
      show cntN (fun i => decide (x.from_.getD m 0 = (i : Int))) _ = _
      cases hr : (evs p)[m].rd
      · have h1 := h.2.1.2 m hm'
        rw [if_neg (by rw [hr]; decide)] at h1
        rw [cntN_zero.2 fun i hi => by rw [h1, decide_eq_false_iff_not]; omega]
        simp
      · obtain ⟨t, e, _, ht, _⟩ := rd_from h hm' hr
        rw [e]
        have : (fun i : Nat => decide ((t : Int) = (i : Int))) = fun i => decide (t = i) := by
          funext i
          exact decide_eq_decide.2 (by omega)
        rw [this, cntN_point, if_pos ht]
        simp
  exact key _ (Nat.le_refl _)

set_option maxHeartbeats 8000000 in
theorem lawRF_walk (w : World) (A : Option Addr) (n c : Nat) (hg : GN w) (h : Bys w A n) (hnc : n ≤ c) (hA : A = none → n = 0) :
    Calls Tryd.prog 6 #[.slice A n c] w (RetB w true) := by
  have hdr := drawCV_any w A n c h hnc hA
  have hn := h.1
  clear h
  go_enter Tryd.func6, Tryd.ntmps6
  by_cases hsz : (1048576 : Int) < (n : Int)
  · have hd : decide ((n : Int) > 1048576) = true := by simpa using hsz
    go_wp2_with fail
    go_ret
    exact ⟨rfl, Below.refl _ _⟩
  have hd : decide ((n : Int) > 1048576) = false := by simpa using hsz
  go_wp2_with fail
  refine hdr.mono ?_
  rintro e1 w1 ⟨p, x, v1, A2, c2, B2, d2, rfl, hps, hx, hfew, hwx, hb1⟩
  obtain ⟨A1, c1, rfl, _⟩ := hps.1.slice
  have hl : p.length ≤ 1048576 := by have := hfew.1; omega
  have Hls := Lib.hid (hfew.mil (by omega))
  obtain ⟨V, hV⟩ : ∃ V, V = w1.alloc (.cells #[.slice A2 x.from_.length c2, .slice B2 x.order.length d2] 32) := ⟨_, rfl⟩
  have oT : Own V w1.heap.size 32 #[.slice A2 x.from_.length c2, .slice B2 x.order.length d2] := by rw [hV]; exact Own.new _ _ _
  have hB1 : Below w.heap.size w V := by rw [hV]; exact hb1.alloc hb1.size _
  have hpq : PrgQ V (.slice A1 p.length c1) p := by rw [hV]; exact PrgQ.le hps ((Le.above _ _).trans (Le.alloc _ _))
  have S1 : CdS V w1.heap.size A1 c1 p A2 c2 B2 d2 x := ⟨hpq.1, hpq.2, by rw [hV]; exact hx.le ((Le.above _ _).trans (Le.alloc _ _)), hg.le (Le.below hB1), oT.cell (i := 0) rfl, oT.cell (i := 1) rfl⟩
  have t0 := S1.c0
  have t1 := S1.c1
  have t2 := S1.lt
  have HS1 := Lib.hid S1
  clear hps hx hdr hfew oT hpq S1 hg
  go_wp2_with fail
  try rw [← hV]
  clear hV
  refine (implCand_any p hl Hls.out x _ _ A2 B2 c2 d2 HS1.out.hp HS1.out.hx hwx).mono ?_
  rintro e2 w2 ⟨rfl, hb2⟩
  have hB2 := hB1.trans (hb2.mono hB1.size)
  have HS2 := Lib.hid (HS1.out.le (Le.below hb2))
  have hs2 := fun W (hp : PrgS W (.slice A1 p.length c1) p) (hx : RepX W A2 c2 B2 d2 x) => specCand_any p hl x W _ A2 B2 c2 d2 hp hx
  clear t0 t1 t2 HS1 hb2
  have s0 := HS2.out.c0
  have s1 := HS2.out.c1
  have s2 := HS2.out.lt
  cases hv : candB p x
  · simp only [hv] at hs2
    have Hs2 := Lib.hid hs2
    clear hs2 hv
    go_wp2_with fail
    refine (Hs2.out _ HS2.out.hp HS2.out.hx).mono ?_
    rintro e3 w3 ⟨rfl, hb3⟩
    have hB3 := hB2.trans (hb3.mono hB2.size)
    have HS3 := Lib.hid (HS2.out.le (Le.below hb3))
    have u0 := HS3.out.c0
    have u1 := HS3.out.c1
    have u2 := HS3.out.lt
    clear hb3 s0 s1 s2
    go_wp2_with fail
    refine (Hs2.out _ HS3.out.hp HS3.out.hx).mono ?_
    rintro e4 w4 ⟨rfl, hb4⟩
    go_wp2_with fail
    go_ret
    exact ⟨rfl, hB3.trans (hb4.mono hB3.size)⟩
  have hok := candB_iff.1 hv
  have Hok := Lib.hid hok
  simp only [hv] at hs2
  have Hs2 := Lib.hid hs2
  clear hs2 hv hok
  go_wp2_with fail
  refine (Hs2.out _ HS2.out.hp HS2.out.hx).mono ?_
  rintro e3 w3 ⟨rfl, hb3⟩
  have hB3 := hB2.trans (hb3.mono hB2.size)
  have HS3 := Lib.hid (HS2.out.le (Le.below hb3))
  clear hb3 s0 s1 s2 HS2
  have u0 := HS3.out.c0
  have u1 := HS3.out.c1
  have u2 := HS3.out.lt
  have hrel := HS3.out.relOf Hok.out hl Hls.out hwx (j := 3) (by decide) ⟨#[114, 102]⟩ rfl
  have hevn := cand_len Hok.out.1
  go_wp2_with fail
  refine hrel.mono ?_
  rintro e4 w4 ⟨A4, c4, rfl, hr4, hb4⟩
  have hB4 := hB3.trans (hb4.mono hB3.size)
  have HS4 := Lib.hid (HS3.out.le (Le.below hb4))
  have HI4 := Lib.hid (row_rel hr4)
  clear u0 u1 u2 HS3 hr4 hb4 hrel
  have hev := implEv_any p hl Hls.out w4 _ HS4.out.hp
  rw [evO_ok Hok.out.1] at hev
  go_wp2_with fail
  refine hev.mono ?_
  rintro e5 w5 ⟨v5, F5, rfl, ho5, _, _, hb5⟩
  have hE5 := ho5.evS0
  obtain ⟨A5, c5, rfl, _⟩ := SlR.slice hE5
  have hB5 := hB4.trans (hb5.mono hB4.size)
  have HE5 := Lib.hid hE5
  have HR5 := Lib.hid (HI4.out.le (Le.below hb5))
  have hX5 := HS4.out.le (Le.below hb5)
  have HX5 := Lib.hid hX5
  have Hcnt := Lib.hid (rf_count Hok.out)
  have Hsrc : Hid (∀ i : Nat, i < (evs p).length → ((evs p).getD i e0).rd = true → ∃ t : Nat, x.from_.getD i 0 = (t : Int) ∧ t < (evs p).length ∧ ((evs p).getD t e0).wr = true ∧ ((evs p).getD t e0).loc = ((evs p).getD i e0).loc ∧ pairB p x (evs p) 3 t i = true) := fun i hi hr => by
    rw [getD_evs hi] at hr
    obtain ⟨t, e, _, ht, hw, hloc⟩ := rd_from Hok.out hi hr
    refine ⟨t, e, ht, ?_, ?_, decide_eq_true e⟩
    · rw [getD_evs ht]; exact hw
    · rw [getD_evs ht, getD_evs hi]; exact hloc
  have hfl : x.from_.length = (evs p).length := Hok.out.2.1.1
  clear ho5 hb5 hE5 HI4 HS4 hev
  obtain ⟨L, hL⟩ : ∃ L, L = evs p := ⟨_, rfl⟩
  rw [← hL] at HE5 HR5 Hsrc hevn hfl Hcnt
  obtain ⟨R, hR⟩ : ∃ R, R = pairB p x L 3 := ⟨_, rfl⟩
  rw [← hR] at HR5 Hsrc Hcnt
  rw [← hL]
  clear hR hL
  have Hfl := Lib.hid hfl
  clear hfl
  clear hX5
  go_wp2_with fail
  go_loopg [8, 9, 10] L.length (fun g s8 s9 s10 wr => ∃ i : Nat, i ≤ L.length ∧ g = L.length - i ∧ s8 = .int .i64 ((cntN (fun k => (L.getD k e0).rd) i : Nat) : Int) ∧ s9 = .int .i64 i ∧ Below w5.heap.size w5 wr)
  case atStart => exact ⟨0, Nat.zero_le _, rfl, rfl, rfl, Below.refl _ _⟩
  case round =>
    obtain ⟨i, hi, rfl, rfl, rfl, hbw⟩ := hrel
    have HEw := Lib.hid (EvS.le HE5.out (Le.below hbw))
    have HXw := Lib.hid (HX5.out.le (Le.below hbw))
    have HRw := Lib.hid (HR5.out.le (Le.below hbw))
    by_cases hlt : i < L.length
    · obtain ⟨be, oe, e9, hbe, k0, k1, k2, k3, k4⟩ := EvS.get HEw.out hlt
      have hsrc := Hsrc.out i hlt
      have hcl := cntN_le (fun k => (L.getD k e0).rd) i
      have Hcn : Hid (cntN (fun k => (L.getD k e0).rd) (i + 1) = cntN (fun k => (L.getD k e0).rd) i + (if L[i].rd = true then 1 else 0)) := by
        show _ = _
        rw [cntN, getD_evs hlt]
      rw [getD_evs hlt] at hsrc
      generalize cntN (fun k => (L.getD k e0).rd) i = cn at hcl Hcn ⊢
      cases hrd : L[i].rd
      · rw [hrd] at k3 Hcn
        clear hsrc hrd
        subst e9
        go_wp2_with fail
        go_roundg (L.length - (i + 1))
        case measure => omega
        case rel => exact ⟨i + 1, by omega, rfl, by rw [Hcn.out]; simp, by go_num, hbw⟩
      · rw [hrd] at k3 Hcn
        obtain ⟨t, e1, ht, hw, hloc, hR⟩ := hsrc hrd
        rw [getD_evs ht] at hw hloc
        obtain ⟨be', oe', e7, hbe', l0, l1, l2, l3, l4⟩ := EvS.get HEw.out ht
        subst e9
        injection e7 with e7
        injection e7 with e7 e7'
        subst e7 e7'
        rw [hw] at l4
        rw [hloc] at l2
        obtain ⟨bf, of, e8, hbf, f0⟩ := HXw.out.hx.1.get (i := i) (by have := Hfl.out; omega)
        subst e8
        have ef : x.from_[i]'(by have := Hfl.out; omega) = (t : Int) := by rw [← e1]; simp [show i < x.from_.length by have := Hfl.out; omega]
        rw [ef] at f0
        obtain ⟨br, or_, e6, hbr, r0⟩ := relN_ints HRw.out (i := t) ht
        subst e6
        have hbit := test_bitN (R t) (n := L.length) (k := i) (by omega) hlt
        rw [hR] at hbit
        have hbit' : (bits .and .i64 (((bitN (R t) L.length : Nat) : Int) / 2 ^ i) 1 != 1) = false := by rw [bne, hbit]; rfl
        have hil : i < x.from_.length := by have := Hfl.out; omega
        generalize ((bitN (R t) L.length : Nat) : Int) = row at r0 hbit hbit'
        clear hrd hw hloc e1 ef hR hsrc
        generalize L[i].loc = lc at k2 l2
        have y0 := HXw.out.c0
        have y2 := HXw.out.lt
        go_wp2_with fail
        go_quiet (fail)
        go_wp2_with fail
        go_roundg (L.length - (i + 1))
        case measure => omega
        case rel => exact ⟨i + 1, by omega, rfl, by rw [Hcn.out]; go_num, by go_num, below_drewN hbw _⟩
    · obtain rfl : i = L.length := by omega
      have hct := imCount_any R L.length (by omega) wr A4 c4 HRw.out
      rw [Hcnt.out] at hct
      go_wp2_with fail
      refine hct.mono ?_
      rintro e8 w8 ⟨rfl, hb8⟩
      go_wp2_with fail
      go_ret
      exact ⟨ret_bool (by simp), hB5.trans ((hbw.trans (hb8.mono hbw.size)).mono hB5.size)⟩

end Go.Proofs.YtfgpbnncdfcjjaaDoor
