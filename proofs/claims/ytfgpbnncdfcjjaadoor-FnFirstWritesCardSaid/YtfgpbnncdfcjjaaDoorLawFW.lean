/-
  The walk of FnFirstWrites: it answers true.
-/
import Derived.Test.YtfgpbnncdfcjjaaDoorCdS
namespace Go.Proofs.YtfgpbnncdfcjjaaDoor
open Go.RowKit
set_option linter.unusedVariables false
set_option maxRecDepth 100000

set_option maxHeartbeats 8000000 in
theorem lawFW_walk (w : World) (A : Option Addr) (n c : Nat) (hg : GN w) (h : Bys w A n) (hnc : n ≤ c) (hA : A = none → n = 0) :
    Calls Tryd.prog 4 #[.slice A n c] w (RetB w true) := by
  have hdr := drawCV_any w A n c h hnc hA
  have hn := h.1
  clear h
  go_enter Tryd.func4, Tryd.ntmps4
  by_cases hsz : (1048576 : Int) < (n : Int)
  · have hd : decide ((n : Int) > 1048576) = true := by simpa using hsz
    go_wp2_with fail
    go_ret
    exact ⟨rfl, Below.refl _ _⟩
  have hd : decide ((n : Int) > 1048576) = false := by simpa using hsz
  go_wp2_with fail
  refine hdr.mono ?_
  rintro e1 w1 ⟨p, x, v1, A2, c2, B2, d2, rfl, hps, hx, hfew, hwx, hb1⟩
  obtain ⟨A1, c1, rfl, _⟩ := hps.1.slice
  have hl : p.length ≤ 1048576 := by have := hfew.1; omega
  have Hls := Lib.hid (hfew.mil (by omega))
  obtain ⟨V, hV⟩ : ∃ V, V = w1.alloc (.cells #[.slice A2 x.from_.length c2, .slice B2 x.order.length d2] 32) := ⟨_, rfl⟩
  have oT : Own V w1.heap.size 32 #[.slice A2 x.from_.length c2, .slice B2 x.order.length d2] := by rw [hV]; exact Own.new _ _ _
  have hB1 : Below w.heap.size w V := by rw [hV]; exact hb1.alloc hb1.size _
  have hpq : PrgQ V (.slice A1 p.length c1) p := by rw [hV]; exact PrgQ.le hps ((Le.above _ _).trans (Le.alloc _ _))
  have S1 : CdS V w1.heap.size A1 c1 p A2 c2 B2 d2 x := ⟨hpq.1, hpq.2, by rw [hV]; exact hx.le ((Le.above _ _).trans (Le.alloc _ _)), hg.le (Le.below hB1), oT.cell (i := 0) rfl, oT.cell (i := 1) rfl⟩
  have t0 := S1.c0
  have t1 := S1.c1
  have t2 := S1.lt
  have HS1 := Lib.hid S1
  clear hps hx hdr hfew oT hpq S1 hg
  go_wp2_with fail
  try rw [← hV]
  clear hV
  refine (implCand_any p hl Hls.out x _ _ A2 B2 c2 d2 HS1.out.hp HS1.out.hx hwx).mono ?_
  rintro e2 w2 ⟨rfl, hb2⟩
  have hB2 := hB1.trans (hb2.mono hB1.size)
  have HS2 := Lib.hid (HS1.out.le (Le.below hb2))
  have hs2 := fun W (hp : PrgS W (.slice A1 p.length c1) p) (hx : RepX W A2 c2 B2 d2 x) => specCand_any p hl x W _ A2 B2 c2 d2 hp hx
  clear t0 t1 t2 HS1 hb2
  have s0 := HS2.out.c0
  have s1 := HS2.out.c1
  have s2 := HS2.out.lt
  cases hv : candB p x
  · simp only [hv] at hs2
    have Hs2 := Lib.hid hs2
    clear hs2 hv
    go_wp2_with fail
    refine (Hs2.out _ HS2.out.hp HS2.out.hx).mono ?_
    rintro e3 w3 ⟨rfl, hb3⟩
    have hB3 := hB2.trans (hb3.mono hB2.size)
    have HS3 := Lib.hid (HS2.out.le (Le.below hb3))
    have u0 := HS3.out.c0
    have u1 := HS3.out.c1
    have u2 := HS3.out.lt
    clear hb3 s0 s1 s2
    go_wp2_with fail
    refine (Hs2.out _ HS3.out.hp HS3.out.hx).mono ?_
    rintro e4 w4 ⟨rfl, hb4⟩
    go_wp2_with fail
    go_ret
    exact ⟨rfl, hB3.trans (hb4.mono hB3.size)⟩
  have hok := candB_iff.1 hv
  have Hok := Lib.hid hok
  simp only [hv] at hs2
  have Hs2 := Lib.hid hs2
  clear hs2 hv hok
  go_wp2_with fail
  refine (Hs2.out _ HS2.out.hp HS2.out.hx).mono ?_
  rintro e3 w3 ⟨rfl, hb3⟩
  have hB3 := hB2.trans (hb3.mono hB2.size)
  have HS3 := Lib.hid (HS2.out.le (Le.below hb3))
  clear hb3 s0 s1 s2 HS2
  have u0 := HS3.out.c0
  have u1 := HS3.out.c1
  have u2 := HS3.out.lt
  have hrel := HS3.out.relOf Hok.out hl Hls.out hwx (j := 4) (by decide) ⟨#[99, 111]⟩ rfl
  have hevn := cand_len Hok.out.1
  go_wp2_with fail
  refine hrel.mono ?_
  rintro e4 w4 ⟨A4, c4, rfl, hr4, hb4⟩
  have hB4 := hB3.trans (hb4.mono hB3.size)
  have HS4 := Lib.hid (HS3.out.le (Le.below hb4))
  have HI4 := Lib.hid (row_rel hr4)
  clear u0 u1 u2 HS3 hr4 hb4 hrel
  have hev := implEv_any p hl Hls.out w4 _ HS4.out.hp
  rw [evO_ok Hok.out.1] at hev
  go_wp2_with fail
  refine hev.mono ?_
  rintro e5 w5 ⟨v5, F5, rfl, ho5, _, _, hb5⟩
  have hE5 := ho5.evS0
  obtain ⟨A5, c5, rfl, _⟩ := SlR.slice hE5
  have hB5 := hB4.trans (hb5.mono hB4.size)
  have HE5 := Lib.hid hE5
  have HR5 := Lib.hid (HI4.out.le (Le.below hb5))
  have Hlaw : Hid (∀ l i : Nat, l ≤ 2 → i < (evs p).length → pairB p x (evs p) 4 l i = (((evs p).getD i e0).wr && decide (((evs p).getD i e0).loc = (l : Int)) && !decide (i = l))) := fun l i hl hi => by
    rw [getD_evs hi]
    exact first_writes Hok.out hl hi
  have h3 : 3 ≤ (evs p).length := by obtain ⟨h, _⟩ := evs_ini (p := p) (l := 2) (Nat.le_refl _); omega
  clear ho5 hb5 hE5 HI4 HS4 hev
  obtain ⟨L, hL⟩ : ∃ L, L = evs p := ⟨_, rfl⟩
  rw [← hL] at HE5 HR5 Hlaw hevn h3
  obtain ⟨R, hR⟩ : ∃ R, R = pairB p x L 4 := ⟨_, rfl⟩
  rw [← hR] at HR5 Hlaw
  rw [← hL]
  clear hR hL
  go_wp2_with fail
  go_loopg [8, 9, 10] L.length (fun g s8 s9 s10 wr => ∃ i : Nat, i ≤ L.length ∧ g = L.length - i ∧ s8 = .int .i64 i ∧ w5 = wr)
  case atStart => exact ⟨0, Nat.zero_le _, rfl, rfl, rfl⟩
  case round =>
    obtain ⟨i, hi, rfl, rfl, rfl⟩ := hrel
    by_cases hlt : i < L.length
    · obtain ⟨be, oe, e9, hbe, k0, k1, k2, k3, k4⟩ := EvS.get HE5.out hlt
      have Hlaw2 : Hid (∀ l : Nat, l ≤ 2 → R l i = (L[i].wr && decide (L[i].loc = (l : Int)) && !decide (i = l))) := fun l hl => by
        have := Hlaw.out l i hl hlt
        rw [getD_evs hlt] at this
        exact this
      generalize L[i] = ev at k0 k1 k2 k3 k4 Hlaw2
      obtain ⟨et, ei, el, er, ew⟩ := ev
      simp only at k0 k1 k2 k3 k4 Hlaw2
      subst e9
      go_wp2_with fail
      go_loopg [9, 10] 3 (fun g s9 s10 wr => ∃ l : Nat, l ≤ 3 ∧ g = 3 - l ∧ s9 = .int .i64 l ∧ w5 = wr)
      case atStart => exact ⟨0, Nat.zero_le _, rfl, rfl, rfl⟩
      case round =>
        obtain ⟨l, hl3, rfl, rfl, rfl⟩ := hrel
        by_cases hll : l < 3
        · obtain ⟨br, or_, e8, hbr, r0⟩ := relN_ints HR5.out (i := l) (by omega)
          subst e8
          have hbit := test_bitN (R l) (n := L.length) (k := i) (by omega) hlt
          rw [Hlaw2.out l (by omega)] at hbit
          have hle : decide ((l : Int) ≤ 2) = true := by rw [decide_eq_true_iff]; omega
          have Hb := Lib.hid hbit
          generalize ((bitN (R l) L.length : Nat) : Int) = row at r0 hbit Hb
          cases ew
          · have hbit' : (bits .and .i64 (row / 2 ^ i) 1 == 1) = false := by rw [hbit]; rfl
            clear hbit
            go_wp2_with fail
            go_roundg (3 - (l + 1))
            case measure => omega
            case rel => exact ⟨l + 1, by omega, rfl, by go_num, rfl⟩
          · by_cases hloc : el = (l : Int)
            · have hq1 : (el == (l : Int)) = true := by rw [beq_iff_eq]; exact hloc
              by_cases hil : i = l
              · have hq2 : ((i : Int) != (l : Int)) = false := by simp [hil]
                have hbit' : (bits .and .i64 (row / 2 ^ i) 1 == 1) = false := by rw [hbit, decide_eq_true hloc, decide_eq_true hil]; rfl
                clear hbit hloc hil
                go_wp2_with fail
                go_roundg (3 - (l + 1))
                case measure => omega
                case rel => exact ⟨l + 1, by omega, rfl, by go_num, rfl⟩
              · have hq2 : ((i : Int) != (l : Int)) = true := by simp; omega
                have hbit' : (bits .and .i64 (row / 2 ^ i) 1 == 1) = true := by rw [hbit, decide_eq_true hloc, decide_eq_false hil]; rfl
                clear hbit hloc hil
                go_wp2_with fail
                go_roundg (3 - (l + 1))
                case measure => omega
                case rel => exact ⟨l + 1, by omega, rfl, by go_num, rfl⟩
            · have hq1 : (el == (l : Int)) = false := by rw [beq_eq_false_iff_ne]; exact hloc
              have hbit' : (bits .and .i64 (row / 2 ^ i) 1 == 1) = false := by rw [hbit, decide_eq_false hloc]; rfl
              clear hbit hloc
              go_wp2_with fail
              go_roundg (3 - (l + 1))
              case measure => omega
              case rel => exact ⟨l + 1, by omega, rfl, by go_num, rfl⟩
        · obtain rfl : l = 3 := by omega
          go_wp2_with fail
          go_roundg (L.length - (i + 1))
          case measure => omega
          case rel => exact ⟨i + 1, by omega, rfl, by go_num, rfl⟩
    · obtain rfl : i = L.length := by omega
      go_wp2_with fail
      go_ret
      exact ⟨rfl, hB5⟩

end Go.Proofs.YtfgpbnncdfcjjaaDoor
