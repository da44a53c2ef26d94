/-
  The walk of FnOrderTotal: it answers true.
-/
import Derived.Test.YtfgpbnncdfcjjaaDoorCdS
namespace Go.Proofs.YtfgpbnncdfcjjaaDoor
open Go.RowKit
set_option linter.unusedVariables false
set_option maxRecDepth 100000

set_option maxHeartbeats 8000000 in
theorem lawOT_walk (w : World) (A : Option Addr) (n c : Nat) (hg : GN w) (h : Bys w A n) (hnc : n ≤ c) (hA : A = none → n = 0) :
    Calls Tryd.prog 5 #[.slice A n c] w (RetB w true) := by
  have hdr := drawCV_any w A n c h hnc hA
  have hn := h.1
  clear h
  go_enter Tryd.func5, Tryd.ntmps5
  by_cases hsz : (1048576 : Int) < (n : Int)
  · have hd : decide ((n : Int) > 1048576) = true := by simpa using hsz
    go_wp2_with fail
    go_ret
    exact ⟨rfl, Below.refl _ _⟩
  have hd : decide ((n : Int) > 1048576) = false := by simpa using hsz
  go_wp2_with fail
  refine hdr.mono ?_
  rintro e1 w1 ⟨p, x, v1, A2, c2, B2, d2, rfl, hps, hx, hfew, hwx, hb1⟩
  obtain ⟨A1, c1, rfl, _⟩ := hps.1.slice
  have hl : p.length ≤ 1048576 := by have := hfew.1; omega
  have Hls := Lib.hid (hfew.mil (by omega))
  obtain ⟨V, hV⟩ : ∃ V, V = w1.alloc (.cells #[.slice A2 x.from_.length c2, .slice B2 x.order.length d2] 32) := ⟨_, rfl⟩
  have oT : Own V w1.heap.size 32 #[.slice A2 x.from_.length c2, .slice B2 x.order.length d2] := by rw [hV]; exact Own.new _ _ _
  have hB1 : Below w.heap.size w V := by rw [hV]; exact hb1.alloc hb1.size _
  have hpq : PrgQ V (.slice A1 p.length c1) p := by rw [hV]; exact PrgQ.le hps ((Le.above _ _).trans (Le.alloc _ _))
  have S1 : CdS V w1.heap.size A1 c1 p A2 c2 B2 d2 x := ⟨hpq.1, hpq.2, by rw [hV]; exact hx.le ((Le.above _ _).trans (Le.alloc _ _)), hg.le (Le.below hB1), oT.cell (i := 0) rfl, oT.cell (i := 1) rfl⟩
  have t0 := S1.c0
  have t1 := S1.c1
  have t2 := S1.lt
  have HS1 := Lib.hid S1
  clear hps hx hdr hfew oT hpq S1 hg
  go_wp2_with fail
  try rw [← hV]
  clear hV
  refine (implCand_any p hl Hls.out x _ _ A2 B2 c2 d2 HS1.out.hp HS1.out.hx hwx).mono ?_
  rintro e2 w2 ⟨rfl, hb2⟩
  have hB2 := hB1.trans (hb2.mono hB1.size)
  have HS2 := Lib.hid (HS1.out.le (Le.below hb2))
  have hs2 := fun W (hp : PrgS W (.slice A1 p.length c1) p) (hx : RepX W A2 c2 B2 d2 x) => specCand_any p hl x W _ A2 B2 c2 d2 hp hx
  clear t0 t1 t2 HS1 hb2
  have s0 := HS2.out.c0
  have s1 := HS2.out.c1
  have s2 := HS2.out.lt
  cases hv : candB p x
  · simp only [hv] at hs2
    have Hs2 := Lib.hid hs2
    clear hs2 hv
    go_wp2_with fail
    refine (Hs2.out _ HS2.out.hp HS2.out.hx).mono ?_
    rintro e3 w3 ⟨rfl, hb3⟩
    have hB3 := hB2.trans (hb3.mono hB2.size)
    have HS3 := Lib.hid (HS2.out.le (Le.below hb3))
    have u0 := HS3.out.c0
    have u1 := HS3.out.c1
    have u2 := HS3.out.lt
    clear hb3 s0 s1 s2
    go_wp2_with fail
    refine (Hs2.out _ HS3.out.hp HS3.out.hx).mono ?_
    rintro e4 w4 ⟨rfl, hb4⟩
    go_wp2_with fail
    go_ret
    exact ⟨rfl, hB3.trans (hb4.mono hB3.size)⟩
  have hok := candB_iff.1 hv
  have Hok := Lib.hid hok
  simp only [hv] at hs2
  have Hs2 := Lib.hid hs2
  clear hs2 hv hok
  go_wp2_with fail
  refine (Hs2.out _ HS2.out.hp HS2.out.hx).mono ?_
  rintro e3 w3 ⟨rfl, hb3⟩
  have hB3 := hB2.trans (hb3.mono hB2.size)
  have HS3 := Lib.hid (HS2.out.le (Le.below hb3))
  clear hb3 s0 s1 s2 HS2
  have u0 := HS3.out.c0
  have u1 := HS3.out.c1
  have u2 := HS3.out.lt
  have hrel := HS3.out.relOf Hok.out hl Hls.out hwx (j := 4) (by decide) ⟨#[99, 111]⟩ rfl
  have hevn := cand_len Hok.out.1
  go_wp2_with fail
  refine hrel.mono ?_
  rintro e4 w4 ⟨A4, c4, rfl, hr4, hb4⟩
  have hB4 := hB3.trans (hb4.mono hB3.size)
  have HS4 := Lib.hid (HS3.out.le (Le.below hb4))
  have HI4 := Lib.hid (row_rel hr4)
  clear u0 u1 u2 HS3 hr4 hb4 hrel
  obtain ⟨N, hN⟩ : ∃ N, N = (evs p).length := ⟨_, rfl⟩
  have hN16 : N ≤ 16 := by omega
  have hinv := imInverse_any (pairB p x (evs p) 4) N hN16 w4 A4 c4 (by rw [hN]; exact HI4.out)
  rw [← hN]
  have HN0 := Lib.hid hN
  clear hN
  go_wp2_with fail
  refine hinv.mono ?_
  rintro e6 w6 ⟨A6, c6, rfl, hr6, hb6⟩
  have hB6 := hB4.trans (hb6.mono hB4.size)
  have hun := imUnion_any (pairB p x (evs p) 4) (inR (pairB p x (evs p) 4)) N hN16 w6 A4 A6 c4 c6 (by rw [HN0.out]; exact HI4.out.le (Le.below hb6)) (row_rel hr6)
  clear hinv hr6
  go_wp2_with fail
  refine hun.mono ?_
  rintro e7 w7 ⟨A7, c7, rfl, hr7, hb7⟩
  have hB7 := hB6.trans (hb7.mono hB6.size)
  have HI7 := Lib.hid (row_rel hr7)
  have HS7 := Lib.hid ((HS4.out.le (Le.below hb6)).le (Le.below hb7))
  clear hun hr7 hb6 hb7
  have hev := implEv_any p hl Hls.out w7 _ HS7.out.hp
  rw [evO_ok Hok.out.1] at hev
  go_wp2_with fail
  refine hev.mono ?_
  rintro e5 w5 ⟨v5, F5, rfl, ho5, _, _, hb5⟩
  have hE5 := ho5.evS0
  obtain ⟨A5, c5, rfl, _⟩ := SlR.slice hE5
  have hB5 := hB7.trans (hb5.mono hB7.size)
  have HE5 := Lib.hid hE5
  have HR5 := Lib.hid (HI7.out.le (Le.below hb5))
  have hN := HN0.out
  have Hlaw : Hid (∀ i k : Nat, i < N → k < N → unR (pairB p x (evs p) 4) (inR (pairB p x (evs p) 4)) i k = (((evs p).getD i e0).wr && ((evs p).getD k e0).wr && decide (((evs p).getD i e0).loc = ((evs p).getD k e0).loc) && !decide (i = k))) := fun i k hi hk => by
    rw [hN] at hi hk
    rw [getD_evs hi, getD_evs hk]
    exact order_total Hok.out hi hk
  clear ho5 hb5 hE5 HI4 HI7 HS4 HS7 hev
  obtain ⟨L, hL⟩ : ∃ L, L = evs p := ⟨_, rfl⟩
  rw [← hL] at HE5 HR5 Hlaw hevn hN
  obtain ⟨R, hR⟩ : ∃ R, R = unR (pairB p x L 4) (inR (pairB p x L 4)) := ⟨_, rfl⟩
  rw [← hR] at HR5 Hlaw
  rw [← hL, ← hN]
  rw [← hN] at HE5
  have HN := Lib.hid hN
  clear hR hL hN
  go_wp2_with fail
  go_loopg [9, 10, 11] N (fun g s9 s10 s11 wr => ∃ i : Nat, i ≤ N ∧ g = N - i ∧ s9 = .int .i64 i ∧ Below w5.heap.size w5 wr)
  case atStart => exact ⟨0, Nat.zero_le _, rfl, rfl, Below.refl _ _⟩
  case round =>
    obtain ⟨i, hi, rfl, rfl, hbw⟩ := hrel
    by_cases hlt : i < N
    · have hltL : i < L.length := by have := HN.out; omega
      have Hlaw2 : Hid (∀ k : Nat, k < N → R i k = (L[i].wr && (L.getD k e0).wr && decide (L[i].loc = (L.getD k e0).loc) && !decide (i = k))) := fun k hk => by
        have := Hlaw.out i k hlt hk
        rw [getD_evs hltL] at this
        exact this
      have Hbits : Hid (∀ k : Nat, k < N → (bits .and .i64 (((bitN (R i) N : Nat) : Int) / 2 ^ k) 1 == 1) = R i k) := fun k hk => test_bitN (R i) (by omega) hk
      obtain ⟨row, hrow⟩ : ∃ row, row = ((bitN (R i) N : Nat) : Int) := ⟨_, rfl⟩
      obtain ⟨ev, hev⟩ : ∃ ev, ev = L[i] := ⟨_, rfl⟩
      rw [← hrow] at Hbits
      rw [← hev] at Hlaw2
      have Hrow := Lib.hid hrow
      have Hev := Lib.hid hev
      clear hrow hev
      obtain ⟨et, ei, el, er, ew⟩ := ev
      simp only at Hlaw2
      go_wp2_with fail
      go_loopg [10, 11] N (fun g s10 s11 wr => ∃ k : Nat, k ≤ N ∧ g = N - k ∧ s10 = .int .i64 k ∧ Below w5.heap.size w5 wr)
      case atStart => exact ⟨0, Nat.zero_le _, rfl, rfl, hbw⟩
      case round =>
        obtain ⟨k, hk3, rfl, rfl, hbq⟩ := hrel
        by_cases hll : k < N
        · have hllL : k < L.length := by have := HN.out; omega
          have hEq := EvS.le HE5.out (Le.below hbq)
          obtain ⟨be, oe, e9, hbe, k0, k1, k2, k3, k4⟩ := EvS.get hEq hltL
          obtain ⟨br, or_, e8, hbr, r0⟩ := relN_ints (HR5.out.le (Le.below hbq)) (i := i) hlt
          rw [← Hrow.out] at r0
          rw [← Hev.out] at k0 k1 k2 k3 k4
          simp only at k0 k1 k2 k3 k4
          obtain ⟨be', oe', e7, hbe', l0, l1, l2, l3, l4⟩ := EvS.get hEq hllL
          rw [e9] at e7
          injection e7 with e7
          injection e7 with e7 e7'
          subst e7 e7' e9 e8
          clear hEq
          have hbit := (Hbits.out k hll).trans (Hlaw2.out k hll)
          rw [getD_evs hllL] at hbit
          generalize L[k] = ev' at l0 l1 l2 l3 l4 hbit
          obtain ⟨et', ei', el', er', ew'⟩ := ev'
          simp only at l0 l1 l2 l3 l4 hbit
          cases ew
          · have hbit' : (bits .and .i64 (row / 2 ^ k) 1 == 1) = false := by rw [hbit]; rfl
            clear hbit
            go_wp2_with fail
            go_quiet (fail)
            go_wp2_with fail
            go_roundg (N - (k + 1))
            case measure => omega
            case rel => exact ⟨k + 1, by omega, rfl, by go_num, by first | exact below_drewN hbq _ | exact hbq⟩
          · cases ew'
            · have hbit' : (bits .and .i64 (row / 2 ^ k) 1 == 1) = false := by rw [hbit]; rfl
              clear hbit
              go_wp2_with fail
              go_quiet (fail)
              go_wp2_with fail
              go_roundg (N - (k + 1))
              case measure => omega
              case rel => exact ⟨k + 1, by omega, rfl, by go_num, by first | exact below_drewN hbq _ | exact hbq⟩
            · by_cases hloc : el = el'
              · have hq1 : (el == el') = true := by rw [beq_iff_eq]; exact hloc
                by_cases hil : i = k
                · have hq2 : ((i : Int) != (k : Int)) = false := by simp [hil]
                  have hbit' : (bits .and .i64 (row / 2 ^ k) 1 == 1) = false := by rw [hbit, decide_eq_true hloc, decide_eq_true hil]; rfl
                  clear hbit hloc hil
                  go_wp2_with fail
                  go_quiet (fail)
                  go_wp2_with fail
                  go_roundg (N - (k + 1))
                  case measure => omega
                  case rel => exact ⟨k + 1, by omega, rfl, by go_num, by first | exact below_drewN hbq _ | exact hbq⟩
                · have hq2 : ((i : Int) != (k : Int)) = true := by simp; omega
                  have hbit' : (bits .and .i64 (row / 2 ^ k) 1 == 1) = true := by rw [hbit, decide_eq_true hloc, decide_eq_false hil]; rfl
                  clear hbit hloc hil
                  go_wp2_with fail
                  go_quiet (fail)
                  go_wp2_with fail
                  go_roundg (N - (k + 1))
                  case measure => omega
                  case rel => exact ⟨k + 1, by omega, rfl, by go_num, by first | exact below_drewN hbq _ | exact hbq⟩
              · have hq1 : (el == el') = false := by rw [beq_eq_false_iff_ne]; exact hloc
                have hbit' : (bits .and .i64 (row / 2 ^ k) 1 == 1) = false := by rw [hbit, decide_eq_false hloc]; rfl
                clear hbit hloc
                go_wp2_with fail
                go_quiet (fail)
                go_wp2_with fail
                go_roundg (N - (k + 1))
                case measure => omega
                case rel => exact ⟨k + 1, by omega, rfl, by go_num, by first | exact below_drewN hbq _ | exact hbq⟩
        · obtain rfl : k = N := by omega
          go_wp2_with fail
          go_roundg (k - (i + 1))
          case measure => omega
          case rel => exact ⟨i + 1, by omega, rfl, by go_num, hbq⟩
    · obtain rfl : i = N := by omega
      go_wp2_with fail
      go_ret
      exact ⟨rfl, hB5.trans (hbw.mono hB5.size)⟩

end Go.Proofs.YtfgpbnncdfcjjaaDoor
