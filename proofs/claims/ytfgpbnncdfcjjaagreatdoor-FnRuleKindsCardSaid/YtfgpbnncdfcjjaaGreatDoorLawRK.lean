/-
  The walk of FnRuleKinds: it answers true.
-/
import Derived.Test.YtfgpbnncdfcjjaaGreatDoorCeA
import Derived.Test.YtfgpbnncdfcjjaaGreatDoorBrS
namespace Go.Proofs.YtfgpbnncdfcjjaaGreatDoor
open Go.RowKit
set_option linter.unusedVariables false
set_option maxRecDepth 100000

theorem one_rule {W : World} {b : Nat} {k : Int} {e : RE} {A' : Option Addr} {c' : Nat} (h0 : W.cell? ⟨b, 0, none⟩ = some (.int .i64 k)) (h1 : W.cell? ⟨b, 1, none⟩ = some (.int .i64 e.op)) (h2 : W.cell? ⟨b, 2, none⟩ = some (.string e.name)) (h3 : W.cell? ⟨b, 3, none⟩ = some (.slice A' e.kids.length c')) (he : RepK W A' c' e) : SlR 4 RepU W (.slice (some ⟨b, 0, none⟩) 1 1) [⟨k, e⟩] := by
  refine ⟨_, _, rfl, by simp, fun i hi => ⟨b, 0, rfl, fun j => (#[.int .i64 k, .int .i64 e.op, .string e.name, .slice A' e.kids.length c'] : Array Value).getD j undef, fun j hj => ?_, ?_⟩⟩
  · obtain rfl : i = 0 := by simp at hi; omega
    match j, hj with
    | 0, _ => exact h0
    | 1, _ => exact h1
    | 2, _ => exact h2
    | 3, _ => exact h3
  · obtain rfl : i = 0 := by simp at hi; omega
    exact repU_K.2 ⟨A', c', rfl, rfl, rfl, rfl, he⟩
theorem CdS.broken {W : World} {bx : Nat} {Ap : Option Addr} {cp : Nat} {p : Prg} {A : Option Addr} {c : Nat} {B : Option Addr} {d : Nat} {x : Ex} (h : CdS W bx Ap cp p A c B d x) (hok : CandOk p x) (hl : p.length ≤ 1048576) (hls : ∀ t ∈ p, t.length ≤ 1048576) (hwx : wX x ≤ 1048576) {e : RE} (hv : Val e) {k : Int} (hk : 1 ≤ k ∧ k ≤ 3) {v : Value} (hm : SlR 4 RepU W v [⟨k, e⟩]) :
    Calls Tryz.prog 49 #[.slice Ap p.length cp, .agg #[.slice A x.from_.length c, .slice B x.order.length d], v] W (RetIB W (if holdR k (evR p x (evs p).length e) (evs p).length = true then -1 else 0) true) := by
  have h1 := implBR_any p hl hls x hwx [⟨k, e⟩] W _ v A B c d h.hg h.hp h.hr h.hx hm
  have hm1 : mB [(⟨k, e⟩ : RU)] = true := mB_iff.2 ⟨by simp, by simp, fun r hr => by rw [List.mem_singleton.1 hr]; exact ⟨hk.1, hk.2, hv⟩⟩
  have hc1 := candB_iff.2 hok
  rw [show brO p x [⟨k, e⟩] = true by unfold brO; rw [hc1, hm1]; rfl, show brI p x [⟨k, e⟩] = brkN p x (evs p).length [⟨k, e⟩] 0 from if_pos ⟨hc1, hm1⟩] at h1
  have hb : brkN p x (evs p).length [⟨k, e⟩] 0 = if holdR k (evR p x (evs p).length e) (evs p).length = true then -1 else 0 := by
    rw [brkN]
    split <;> rfl
  rw [hb] at h1
  exact h1

set_option maxHeartbeats 1500000 in
theorem lawRK_walk (w : World) (A : Option Addr) (n c : Nat) (hg : GN w) (h : Bys w A n) (hnc : n ≤ c) (hA : A = none → n = 0) :
    Calls Tryz.prog 8 #[.slice A n c] w (RetB w true) := by
  have hdr := drawEv_any w A n c h hnc hA
  have hn := h.1
  clear h
  go_enter Tryz.func8, Tryz.ntmps8
  by_cases hsz : (1048576 : Int) < (n : Int)
  · have hd : decide ((n : Int) > 1048576) = true := by simpa using hsz
    go_wp2_with fail
    go_ret
    exact ⟨rfl, Below.refl _ _⟩
  have hd : decide ((n : Int) > 1048576) = false := by simpa using hsz
  go_wp2_with fail
  refine hdr.mono ?_
  rintro e1 w1 ⟨p, x, e, v1, A2, c2, B2, d2, A3, c3, rfl, hps, hx, he, hcnt, hfew, hwx, hb1⟩
  obtain ⟨A1, c1, rfl, _⟩ := hps.1.slice
  have hl : p.length ≤ 1048576 := by have := hfew.1; omega
  have Hls := Lib.hid (hfew.mil (by omega))
  obtain ⟨V, hV⟩ : ∃ V, V = (w1.alloc (.cells #[.slice A2 x.from_.length c2, .slice B2 x.order.length d2] 27)).alloc (.cells #[.int .i64 e.op, .string e.name, .slice A3 e.kids.length c3] 50) := ⟨_, rfl⟩
  have oT : Own V w1.heap.size 27 #[.slice A2 x.from_.length c2, .slice B2 x.order.length d2] := by rw [hV]; exact (Own.new _ _ _).alloc _
  have oE : Own V (w1.heap.size + 1) 50 #[.int .i64 e.op, .string e.name, .slice A3 e.kids.length c3] := by rw [hV]; simpa using Own.new (w1.alloc (.cells #[.slice A2 x.from_.length c2, .slice B2 x.order.length d2] 27)) 50 #[.int .i64 e.op, .string e.name, .slice A3 e.kids.length c3]
  have hB1 : Below w.heap.size w V := by rw [hV]; exact (hb1.alloc hb1.size _).alloc (by have := hb1.size; simp; omega) _
  have hlV : Le (above w.heap.size w1) V := by rw [hV]; exact ((Le.above _ _).trans (Le.alloc _ _)).trans (Le.alloc _ _)
  have hpq : PrgQ V (.slice A1 p.length c1) p := PrgQ.le hps hlV
  have S1 : CeS V w1.heap.size A1 c1 p A2 c2 B2 d2 x A3 c3 e := ⟨⟨hpq.1, hpq.2, hx.le hlV, hg.le (Le.below hB1), oT.cell (i := 0) rfl, oT.cell (i := 1) rfl⟩, he.le hlV, oE.cell (i := 0) rfl, oE.cell (i := 1) rfl, oE.cell (i := 2) rfl⟩
  have HS1 := Lib.hid S1
  have himpl := fun W (S : CeS W w1.heap.size A1 c1 p A2 c2 B2 d2 x A3 c3 e) => implEval_any p hl Hls.out x hwx e W _ A2 B2 A3 c2 d2 c3 S.cd.hg S.cd.hp S.cd.hr S.cd.hx S.he
  have hspec := fun W (S : CeS W w1.heap.size A1 c1 p A2 c2 B2 d2 x A3 c3 e) => specEval_any p hl x e (by omega) W _ A2 B2 A3 c2 d2 c3 S.cd.hp S.cd.hx S.he
  have hca := fun W (S : CeS W w1.heap.size A1 c1 p A2 c2 B2 d2 x A3 c3 e) => implCand_any p hl Hls.out x W _ A2 B2 c2 d2 S.cd.hp S.cd.hx hwx
  have hva := fun W (S : CeS W w1.heap.size A1 c1 p A2 c2 B2 d2 x A3 c3 e) => valid_any e W A3 c3 S.cd.hg S.he
  have HR : Hid (candB p x = true → valB e = true → evB p x e = relN (evR p x (evs p).length e) (evs p).length) := fun h1 h2 => if_pos ⟨h1, h2⟩
  generalize evB p x e = R at himpl hspec HR
  have Himpl := Lib.hid himpl
  have Hspec := Lib.hid hspec
  have Hca := Lib.hid hca
  have Hva := Lib.hid hva
  have hlx := hx.1.len
  have hly := hx.2.len
  have hlk := he.kids_le
  clear hps hx he hdr hfew oT oE hpq S1 hg hlV himpl hspec hca hva
  go_wp2_with fail
  try rw [← hV]
  clear hV
  refine (Himpl.out V HS1.out).mono ?_
  rintro e2 w2 ⟨A4, c4, rfl, hr4, hb2⟩
  have hB2 := hB1.trans (hb2.mono hB1.size)
  have HS2 := Lib.hid (HS1.out.le (Le.below hb2))
  have HI2 := Lib.hid (row_ints hr4)
  have hRl := HI2.out.len
  clear HS1 hr4
  obtain ⟨s0, s1, s2, s3, s4, s5, s6⟩ := HS2.out.all
  go_wp2_with fail
  refine (Hspec.out w2 HS2.out).mono ?_
  rintro e3 w3 ⟨A5, c5, rfl, hr5, hb3⟩
  have hw3 := wmRE_any R w3 A4 A5 c4 c5 (HI2.out.le (Le.below hb3)) (row_ints hr5)
  have hB3 := hB2.trans (hb3.mono hB2.size)
  have HS3 := Lib.hid (HS2.out.le (Le.below hb3))
  have HI3 := Lib.hid (HI2.out.le (Le.below hb3))
  clear s0 s1 s2 s3 s4 s5 s6 HS2 HI2 hr5
  go_wp2_with fail
  refine hw3.mono ?_
  rintro e4 w4 ⟨rfl, hb4⟩
  have hB4 := hB3.trans (hb4.mono hB3.size)
  have HS4 := Lib.hid (HS3.out.le (Le.below hb4))
  have HI4 := Lib.hid (HI3.out.le (Le.below hb4))
  clear HS3 HI3 hw3
  obtain ⟨s0, s1, s2, s3, s4, s5, s6⟩ := HS4.out.all
  go_wp2_with fail
  cases hv : candB p x
  · have hc4 := Hca.out w4 HS4.out
    rw [hv] at hc4
    clear hv
    refine hc4.mono ?_
    rintro e5 w5 ⟨rfl, hb5⟩
    have hB5 := hB4.trans (hb5.mono hB4.size)
    have HS5 := Lib.hid (HS4.out.le (Le.below hb5))
    have HI5 := Lib.hid (HI4.out.le (Le.below hb5))
    clear s0 s1 s2 s3 s4 s5 s6 HS4 HI4 hc4
    obtain ⟨s0, s1, s2, s3, s4, s5, s6⟩ := HS5.out.all
    go_wp2_with fail
    refine (Hspec.out w5 HS5.out).mono ?_
    rintro e6 w6 ⟨A7, c7, rfl, hr7, hb6⟩
    have hw6 := wmRE_any R w6 A4 A7 c4 c7 (HI5.out.le (Le.below hb6)) (row_ints hr7)
    have hB6 := hB5.trans (hb6.mono hB5.size)
    clear s0 s1 s2 s3 s4 s5 s6 HS5 HI5 hr7
    go_wp2_with fail
    refine hw6.mono ?_
    rintro e7 w7 ⟨rfl, hb7⟩
    go_wp2_with fail
    go_ret
    exact ⟨rfl, hB6.trans (hb7.mono hB6.size)⟩
  have hc4 := Hca.out w4 HS4.out
  rw [hv] at hc4
  have Hv := Lib.hid hv
  clear hv
  refine hc4.mono ?_
  rintro e5 w5 ⟨rfl, hb5⟩
  have hB5 := hB4.trans (hb5.mono hB4.size)
  have HS5 := Lib.hid (HS4.out.le (Le.below hb5))
  have HI5 := Lib.hid (HI4.out.le (Le.below hb5))
  clear s0 s1 s2 s3 s4 s5 s6 HS4 HI4 hc4
  obtain ⟨s0, s1, s2, s3, s4, s5, s6⟩ := HS5.out.all
  go_wp2_with fail
  cases hv2 : valB e
  · have hc5 := Hva.out w5 HS5.out
    rw [hv2] at hc5
    clear hv2
    refine hc5.mono ?_
    rintro e6 w6 ⟨rfl, hb6⟩
    have hB6 := hB5.trans (hb6.mono hB5.size)
    have HS6 := Lib.hid (HS5.out.le (Le.below hb6))
    have HI6 := Lib.hid (HI5.out.le (Le.below hb6))
    clear s0 s1 s2 s3 s4 s5 s6 HS5 HI5 hc5
    obtain ⟨s0, s1, s2, s3, s4, s5, s6⟩ := HS6.out.all
    go_wp2_with fail
    refine (Hspec.out w6 HS6.out).mono ?_
    rintro e7 w7 ⟨A7, c7, rfl, hr7, hb7⟩
    have hw7 := wmRE_any R w7 A4 A7 c4 c7 (HI6.out.le (Le.below hb7)) (row_ints hr7)
    have hB7 := hB6.trans (hb7.mono hB6.size)
    clear s0 s1 s2 s3 s4 s5 s6 HS6 HI6 hr7
    go_wp2_with fail
    refine hw7.mono ?_
    rintro e8 w8 ⟨rfl, hb8⟩
    go_wp2_with fail
    go_ret
    exact ⟨rfl, hB7.trans (hb8.mono hB7.size)⟩
  have hc5 := Hva.out w5 HS5.out
  rw [hv2] at hc5
  obtain rfl := HR.out Hv.out hv2
  have Hval := Lib.hid (valB_iff.1 hv2)
  have Hok := Lib.hid (candB_iff.1 Hv.out)
  clear hv2
  refine hc5.mono ?_
  rintro e6 w6 ⟨rfl, hb6⟩
  have hB6 := hB5.trans (hb6.mono hB5.size)
  have HS6 := Lib.hid (HS5.out.le (Le.below hb6))
  have HI6 := Lib.hid (HI5.out.le (Le.below hb6))
  clear s0 s1 s2 s3 s4 s5 s6 HS5 HI5 hc5
  obtain ⟨s0, s1, s2, s3, s4, s5, s6⟩ := HS6.out.all
  obtain ⟨N, hN⟩ : ∃ N, N = (evs p).length := ⟨_, rfl⟩
  have hN16 : N ≤ 16 := by have := cand_len Hok.out.1; omega
  have hbr := fun (k : Int) (hk : 1 ≤ k ∧ k ≤ 3) W (S : CdS W w1.heap.size A1 c1 p A2 c2 B2 d2 x) v (hm : SlR 4 RepU W v [⟨k, e⟩]) => S.broken Hok.out hl Hls.out hwx Hval.out hk hm
  rw [← hN] at hbr HI6
  generalize evR p x N e = Re at hbr HI6
  have hrl : (relN (evR p x (evs p).length e) (evs p).length).length = N := by rw [relN_length, hN]
  rw [hrl]
  have hc1 : holdR 1 Re N = acB Re N := rfl
  have hc2 : holdR 2 Re N = irB Re N := rfl
  have hc3 : holdR 3 Re N = decide (cntR Re N N = 0) := rfl
  have hb1 := hbr 1 (by decide)
  have hb2 := hbr 2 (by decide)
  have hb3' := hbr 3 (by decide)
  rw [hc1] at hb1
  rw [hc2] at hb2
  rw [hc3] at hb3'
  have hac := imAcyclic_any Re N hN16
  have hct := imCount_any Re N hN16
  have hway : (cntR Re N N = 0 ∧ acB Re N = true ∧ irB Re N = true) ∨ (cntR Re N N ≠ 0 ∧ acB Re N = true ∧ irB Re N = true) ∨ (cntR Re N N ≠ 0 ∧ acB Re N = false ∧ irB Re N = true) ∨ (cntR Re N N ≠ 0 ∧ acB Re N = false ∧ irB Re N = false) := by
    by_cases h0 : cntR Re N N = 0
    · have := acB_empty h0
      exact .inl ⟨h0, this, acB_irB this⟩
    · cases ha : acB Re N
      · cases hi : irB Re N
        · exact .inr (.inr (.inr ⟨h0, rfl, rfl⟩))
        · exact .inr (.inr (.inl ⟨h0, rfl, rfl⟩))
      · exact .inr (.inl ⟨h0, rfl, acB_irB ha⟩)
  generalize cntR Re N N = ct at hb3' hct hway
  generalize acB Re N = ac at hb1 hac hway
  generalize irB Re N = ir at hb2 hway
  have hB0 := hB6
  clear Himpl Hspec Hca Hva HR hbr hrl hRl hN hB1 hcnt hc1 hc2 hc3 hB2 hB3 hB4 hB5
  have hcz : ∀ q : Nat, q ≠ 0 → ((q : Int) == 0) = false := fun q hq => by rw [beq_eq_false_iff_ne]; omega
  rcases hway with ⟨rfl, rfl, rfl⟩ | ⟨hne, rfl, rfl⟩ | ⟨hne, rfl, rfl⟩ | ⟨hne, rfl, rfl⟩
  all_goals
    try have hc0 := hcz _ hne
    try rw [decide_eq_false hne] at hb3'
    simp only [if_true, if_false, decide_true, Bool.false_eq_true] at hb1 hb2 hb3'
    have Hb1 := Lib.hid hb1
    have Hb2 := Lib.hid hb2
    have Hb3 := Lib.hid hb3'
    have Hac := Lib.hid hac
    have Hct := Lib.hid hct
    clear hb1 hb2 hb3' hac hct hcz
    go_wp2_with fail
    refine (Hb1.out _ (HS6.out.cd.le (Le.alloc _ _)) _ (one_rule (by simp) (by simp) (by simp) (by simp) (HS6.out.he.le (Le.alloc _ _)))).mono ?_
    rintro e7 w7 ⟨rfl, hb7'⟩
    have hb7 : Below w6.heap.size w6 w7 := ((Below.refl _ _).alloc (Nat.le_refl _) _).trans (hb7'.mono (by simp))
    have hB7 := hB6.trans (hb7.mono hB6.size)
    have HS7 := Lib.hid (HS6.out.le (Le.below hb7))
    clear s0 s1 s2 s3 s4 s5 s6 hb7'
    obtain ⟨s0, s1, s2, s3, s4, s5, s6⟩ := HS7.out.all
    go_wp2_with fail
    refine (Hb2.out _ (HS7.out.cd.le (Le.alloc _ _)) _ (one_rule (by simp) (by simp) (by simp) (by simp) (HS7.out.he.le (Le.alloc _ _)))).mono ?_
    rintro e8 w8 ⟨rfl, hb8'⟩
    have hb8 : Below w7.heap.size w7 w8 := ((Below.refl _ _).alloc (Nat.le_refl _) _).trans (hb8'.mono (by simp))
    have hB8 := hB7.trans (hb8.mono hB7.size)
    have HS8 := Lib.hid (HS7.out.le (Le.below hb8))
    clear s0 s1 s2 s3 s4 s5 s6 hb8'
    obtain ⟨s0, s1, s2, s3, s4, s5, s6⟩ := HS8.out.all
    go_wp2_with fail
    refine (Hb3.out _ (HS8.out.cd.le (Le.alloc _ _)) _ (one_rule (by simp) (by simp) (by simp) (by simp) (HS8.out.he.le (Le.alloc _ _)))).mono ?_
    rintro e9 w9 ⟨rfl, hb9'⟩
    have hb9 : Below w8.heap.size w8 w9 := ((Below.refl _ _).alloc (Nat.le_refl _) _).trans (hb9'.mono (by simp))
    have hB9 := hB8.trans (hb9.mono hB8.size)
    have HI9 := Lib.hid (((HI6.out.le (Le.below hb7)).le (Le.below hb8)).le (Le.below hb9))
    clear s0 s1 s2 s3 s4 s5 s6 hb9'
    go_wp2_with fail
    refine (Hac.out w9 A4 c4 HI9.out).mono ?_
    rintro e10 w10 ⟨rfl, hb10⟩
    have hB10 := hB9.trans (hb10.mono hB9.size)
    have HI10 := Lib.hid (HI9.out.le (Le.below hb10))
    go_wp2_with fail
    refine (Hct.out w10 A4 c4 HI10.out).mono ?_
    rintro e11 w11 ⟨rfl, hb11⟩
    go_wp2_with fail
    go_ret
    exact ⟨rfl, hB10.trans (hb11.mono hB10.size)⟩

end Go.Proofs.YtfgpbnncdfcjjaaGreatDoor
