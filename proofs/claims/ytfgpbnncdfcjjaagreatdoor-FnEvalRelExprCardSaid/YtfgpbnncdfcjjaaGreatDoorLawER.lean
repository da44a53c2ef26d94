/-
  The walk of FnEvalRelExpr: it answers true.
-/
import Derived.Test.YtfgpbnncdfcjjaaGreatDoorCeA
import Derived.StillTailTactics
namespace Go.Proofs.YtfgpbnncdfcjjaaGreatDoor
open Go.RowKit
set_option linter.unusedVariables false
set_option maxRecDepth 100000

theorem Shp.up : ∀ {m : Nat} {e : RE}, Shp m e → Shp (m + 1) e
  | 0, _, h => h.elim
  | m + 1, _, ⟨h1, h2⟩ => ⟨h1, fun k hk => (h2 k hk).up⟩
theorem Val.kid {e k : RE} (h : Val e) (hk : k ∈ e.kids) : Val k :=
  ⟨(h.1.2 k hk).up, by have h1 := cntE_eq e; have h2 := wSum_mem cntE hk; have h3 := cntL_eq e.kids; have := h.2; omega⟩

set_option maxHeartbeats 1500000 in
theorem lawER_walk (w : World) (A : Option Addr) (n c : Nat) (hg : GN w) (h : Bys w A n) (hnc : n ≤ c) (hA : A = none → n = 0) :
    Calls Tryz.prog 6 #[.slice A n c] w (RetB w true) := by
  have hdr := drawEv_any w A n c h hnc hA
  have hn := h.1
  clear h
  go_enter Tryz.func6, Tryz.ntmps6
  by_cases hsz : (1048576 : Int) < (n : Int)
  · have hd : decide ((n : Int) > 1048576) = true := by simpa using hsz
    go_wp2_with fail
    go_ret
    exact ⟨rfl, Below.refl _ _⟩
  have hd : decide ((n : Int) > 1048576) = false := by simpa using hsz
  go_wp2_with fail
  refine hdr.mono ?_
  rintro e1 w1 ⟨p, x, e, v1, A2, c2, B2, d2, A3, c3, rfl, hps, hx, he, hcnt, hfew, hwx, hb1⟩
  obtain ⟨A1, c1, rfl, _⟩ := hps.1.slice
  have hl : p.length ≤ 1048576 := by have := hfew.1; omega
  have Hls := Lib.hid (hfew.mil (by omega))
  obtain ⟨V, hV⟩ : ∃ V, V = (w1.alloc (.cells #[.slice A2 x.from_.length c2, .slice B2 x.order.length d2] 27)).alloc (.cells #[.int .i64 e.op, .string e.name, .slice A3 e.kids.length c3] 50) := ⟨_, rfl⟩
  have oT : Own V w1.heap.size 27 #[.slice A2 x.from_.length c2, .slice B2 x.order.length d2] := by rw [hV]; exact (Own.new _ _ _).alloc _
  have oE : Own V (w1.heap.size + 1) 50 #[.int .i64 e.op, .string e.name, .slice A3 e.kids.length c3] := by rw [hV]; simpa using Own.new (w1.alloc (.cells #[.slice A2 x.from_.length c2, .slice B2 x.order.length d2] 27)) 50 #[.int .i64 e.op, .string e.name, .slice A3 e.kids.length c3]
  have hB1 : Below w.heap.size w V := by rw [hV]; exact (hb1.alloc hb1.size _).alloc (by have := hb1.size; simp; omega) _
  have hlV : Le (above w.heap.size w1) V := by rw [hV]; exact ((Le.above _ _).trans (Le.alloc _ _)).trans (Le.alloc _ _)
  have hpq : PrgQ V (.slice A1 p.length c1) p := PrgQ.le hps hlV
  have S1 : CeS V w1.heap.size A1 c1 p A2 c2 B2 d2 x A3 c3 e := ⟨⟨hpq.1, hpq.2, hx.le hlV, hg.le (Le.below hB1), oT.cell (i := 0) rfl, oT.cell (i := 1) rfl⟩, he.le hlV, oE.cell (i := 0) rfl, oE.cell (i := 1) rfl, oE.cell (i := 2) rfl⟩
  have HS1 := Lib.hid S1
  have himpl := fun W (S : CeS W w1.heap.size A1 c1 p A2 c2 B2 d2 x A3 c3 e) => implEval_any p hl Hls.out x hwx e W _ A2 B2 A3 c2 d2 c3 S.cd.hg S.cd.hp S.cd.hr S.cd.hx S.he
  have hspec := fun W (S : CeS W w1.heap.size A1 c1 p A2 c2 B2 d2 x A3 c3 e) => specEval_any p hl x e (by omega) W _ A2 B2 A3 c2 d2 c3 S.cd.hp S.cd.hx S.he
  have hca := fun W (S : CeS W w1.heap.size A1 c1 p A2 c2 B2 d2 x A3 c3 e) => implCand_any p hl Hls.out x W _ A2 B2 c2 d2 S.cd.hp S.cd.hx hwx
  have hva := fun W (S : CeS W w1.heap.size A1 c1 p A2 c2 B2 d2 x A3 c3 e) => valid_any e W A3 c3 S.cd.hg S.he
  have HR : Hid (candB p x = true → valB e = true → evB p x e = relN (evR p x (evs p).length e) (evs p).length) := fun h1 h2 => if_pos ⟨h1, h2⟩
  generalize evB p x e = R at himpl hspec HR
  have Himpl := Lib.hid himpl
  have Hspec := Lib.hid hspec
  have Hca := Lib.hid hca
  have Hva := Lib.hid hva
  have hlx := hx.1.len
  have hly := hx.2.len
  have hlk := he.kids_le
  clear hps hx he hdr hfew oT oE hpq S1 hg hlV himpl hspec hca hva
  go_wp2_with fail
  try rw [← hV]
  clear hV
  refine (Himpl.out V HS1.out).mono ?_
  rintro e2 w2 ⟨A4, c4, rfl, hr4, hb2⟩
  have hB2 := hB1.trans (hb2.mono hB1.size)
  have HS2 := Lib.hid (HS1.out.le (Le.below hb2))
  have HI2 := Lib.hid (row_ints hr4)
  have hRl := HI2.out.len
  clear HS1 hr4
  obtain ⟨s0, s1, s2, s3, s4, s5, s6⟩ := HS2.out.all
  go_wp2_with fail
  refine (Hspec.out w2 HS2.out).mono ?_
  rintro e3 w3 ⟨A5, c5, rfl, hr5, hb3⟩
  have hw3 := wmRE_any R w3 A4 A5 c4 c5 (HI2.out.le (Le.below hb3)) (row_ints hr5)
  have hB3 := hB2.trans (hb3.mono hB2.size)
  have HS3 := Lib.hid (HS2.out.le (Le.below hb3))
  have HI3 := Lib.hid (HI2.out.le (Le.below hb3))
  clear s0 s1 s2 s3 s4 s5 s6 HS2 HI2 hr5
  go_wp2_with fail
  refine hw3.mono ?_
  rintro e4 w4 ⟨rfl, hb4⟩
  have hB4 := hB3.trans (hb4.mono hB3.size)
  have HS4 := Lib.hid (HS3.out.le (Le.below hb4))
  have HI4 := Lib.hid (HI3.out.le (Le.below hb4))
  clear HS3 HI3 hw3
  obtain ⟨s0, s1, s2, s3, s4, s5, s6⟩ := HS4.out.all
  go_wp2_with fail
  cases hv : candB p x
  · have hc4 := Hca.out w4 HS4.out
    rw [hv] at hc4
    clear hv
    refine hc4.mono ?_
    rintro e5 w5 ⟨rfl, hb5⟩
    have hB5 := hB4.trans (hb5.mono hB4.size)
    have HS5 := Lib.hid (HS4.out.le (Le.below hb5))
    have HI5 := Lib.hid (HI4.out.le (Le.below hb5))
    clear s0 s1 s2 s3 s4 s5 s6 HS4 HI4 hc4
    obtain ⟨s0, s1, s2, s3, s4, s5, s6⟩ := HS5.out.all
    go_wp2_with fail
    refine (Hspec.out w5 HS5.out).mono ?_
    rintro e6 w6 ⟨A7, c7, rfl, hr7, hb6⟩
    have hw6 := wmRE_any R w6 A4 A7 c4 c7 (HI5.out.le (Le.below hb6)) (row_ints hr7)
    have hB6 := hB5.trans (hb6.mono hB5.size)
    clear s0 s1 s2 s3 s4 s5 s6 HS5 HI5 hr7
    go_wp2_with fail
    refine hw6.mono ?_
    rintro e7 w7 ⟨rfl, hb7⟩
    go_wp2_with fail
    go_ret
    exact ⟨rfl, hB6.trans (hb7.mono hB6.size)⟩
  have hc4 := Hca.out w4 HS4.out
  rw [hv] at hc4
  have Hv := Lib.hid hv
  clear hv
  refine hc4.mono ?_
  rintro e5 w5 ⟨rfl, hb5⟩
  have hB5 := hB4.trans (hb5.mono hB4.size)
  have HS5 := Lib.hid (HS4.out.le (Le.below hb5))
  have HI5 := Lib.hid (HI4.out.le (Le.below hb5))
  clear s0 s1 s2 s3 s4 s5 s6 HS4 HI4 hc4
  obtain ⟨s0, s1, s2, s3, s4, s5, s6⟩ := HS5.out.all
  go_wp2_with fail
  cases hv2 : valB e
  · have hc5 := Hva.out w5 HS5.out
    rw [hv2] at hc5
    clear hv2
    refine hc5.mono ?_
    rintro e6 w6 ⟨rfl, hb6⟩
    have hB6 := hB5.trans (hb6.mono hB5.size)
    have HS6 := Lib.hid (HS5.out.le (Le.below hb6))
    have HI6 := Lib.hid (HI5.out.le (Le.below hb6))
    clear s0 s1 s2 s3 s4 s5 s6 HS5 HI5 hc5
    obtain ⟨s0, s1, s2, s3, s4, s5, s6⟩ := HS6.out.all
    go_wp2_with fail
    refine (Hspec.out w6 HS6.out).mono ?_
    rintro e7 w7 ⟨A7, c7, rfl, hr7, hb7⟩
    have hw7 := wmRE_any R w7 A4 A7 c4 c7 (HI6.out.le (Le.below hb7)) (row_ints hr7)
    have hB7 := hB6.trans (hb7.mono hB6.size)
    clear s0 s1 s2 s3 s4 s5 s6 HS6 HI6 hr7
    go_wp2_with fail
    refine hw7.mono ?_
    rintro e8 w8 ⟨rfl, hb8⟩
    go_wp2_with fail
    go_ret
    exact ⟨rfl, hB7.trans (hb8.mono hB7.size)⟩
  have hc5 := Hva.out w5 HS5.out
  rw [hv2] at hc5
  obtain rfl := HR.out Hv.out hv2
  have Hval := Lib.hid (valB_iff.1 hv2)
  have Hok := Lib.hid (candB_iff.1 Hv.out)
  clear hv2
  refine hc5.mono ?_
  rintro e6 w6 ⟨rfl, hb6⟩
  have hB6 := hB5.trans (hb6.mono hB5.size)
  have HS6 := Lib.hid (HS5.out.le (Le.below hb6))
  have HI6 := Lib.hid (HI5.out.le (Le.below hb6))
  clear s0 s1 s2 s3 s4 s5 s6 HS5 HI5 hc5
  obtain ⟨s0, s1, s2, s3, s4, s5, s6⟩ := HS6.out.all
  obtain ⟨N, hN⟩ : ∃ N, N = (evs p).length := ⟨_, rfl⟩
  have hN16 : N ≤ 16 := by have := cand_len Hok.out.1; omega
  have hev := fun (y : RE) (hv : Val y) W (S : CdS W w1.heap.size A1 c1 p A2 c2 B2 d2 x) A' c' (hy : RepK W A' c' y) => S.eval Hok.out hl Hls.out hwx y hv A' c' hy
  have hro := fun (j : Nat) (hj : j < 10) (t : ByteArray) (ht : nmAt j = t) W (S : CdS W w1.heap.size A1 c1 p A2 c2 B2 d2 x) => S.relOf Hok.out hl Hls.out hwx hj t ht
  rw [← hN] at hev hro HI6
  have Hev := Lib.hid hev
  have Hro := Lib.hid hro
  have hrl : (relN (evR p x (evs p).length e) (evs p).length).length = N := by rw [relN_length, hN]
  rw [hrl]
  clear Himpl Hspec Hca Hva HR hev hro hrl hRl
  have Hvk : Hid (∀ k ∈ e.kids, Val k) := fun k hk => Hval.out.kid hk
  have Hno := Lib.hid Hval.out.1.1
  clear Hval hN hB1 hb1 hcnt
  obtain ⟨op, name, kids⟩ := e
  simp only [RE.op, RE.name, RE.kids] at s2 s3 s4 Hvk Hno hlk ⊢
  obtain ⟨h1, h2, h3⟩ := Hno.out
  simp only [RE.op, RE.name, RE.kids] at h1 h2 h3
  rcases kids with _ | ⟨a, _ | ⟨a', _ | ⟨a'', tl⟩⟩⟩
  · obtain ⟨rfl, _⟩ | ⟨_, h⟩ | ⟨_, h⟩ := kidsI_cases h1
    case inr.inl => simp at h
    case inr.inr => simp at h
    obtain ⟨hj, hnme⟩ := nmI_at (h2.1 rfl)
    have hc := Hro.out (nmI name) hj name hnme.symm w6 HS6.out.cd
    have HI7 : Hid (Ints w6 A4 c4 (relN (pairB p x (evs p) (nmI name)) N)) := by have := HI6.out; rw [evR] at this; exact this
    clear h1 h2 h3 Hno hnme
    go_wp2_with fail
    refine hc.mono ?_
    rintro e7 w7 ⟨A7, c7, rfl, hr7, hb7⟩
    have hB7 := hB6.trans (hb7.mono hB6.size)
    have hw := wmNE_any _ _ N rfl w7 A4 A7 c4 c7 (HI7.out.le (Le.below hb7)) (row_rel hr7)
    clear hc s0 s1 s2 s3 s4 s5 s6
    go_wp2_with fail
    refine hw.mono ?_
    rintro e8 w8 ⟨rfl, hb8⟩
    go_wp2_with fail
    go_ret
    exact ⟨rfl, hB7.trans (hb8.mono hB7.size)⟩
  · have hop : op = 6 ∨ op = 7 := by
      rcases kidsI_cases h1 with ⟨_, h⟩ | ⟨h, _⟩ | ⟨_, h⟩
      · simp at h
      · exact h
      · simp at h
    have he6 := HS6.out.he
    obtain ⟨b, o, A0, c0, e9, hbl, k0, k1, k2, hre⟩ := RepEs.get he6.2 (i := 0) (by simp [RE.kids])
    subst e9
    simp only [RE.kids, Nat.zero_mul, Nat.add_zero, List.getElem_cons_zero] at k0 k1 k2 hre
    have Hre := Lib.hid hre
    have HI7 : Hid (Ints w6 A4 c4 (relN (if op = 6 then inR (evR p x N a) else clR N (evR p x N a)) N)) := by have := HI6.out; rw [evR] at this; exact this
    have Hva := Lib.hid (Hvk.out a (by simp))
    simp only [List.length_cons, List.length_nil, Nat.zero_add] at s4
    have Hc1 := Lib.hid (fun W (hl : Le w6 W) => Hev.out a Hva.out W (HS6.out.cd.le hl) A0 c0 (Hre.out.le hl))
    clear h1 h2 h3 Hno he6 hre
    rcases hop with rfl | rfl
    all_goals
      have HI8 := Lib.hid HI7.out
      go_wp2_with fail
      go_still_tail 6, (by kernel_rfl)
      go_wp2_with fail
      refine (Hc1.out _ (Le.drew _)).mono ?_
      rintro e7 w7 ⟨A7, c7, rfl, hr7, hb7'⟩
      have hb7 := below_of_drew hb7'
      have hB7 := hB6.trans (hb7.mono hB6.size)
      have hI7 := row_rel hr7
      have HIr := Lib.hid (HI8.out.le (Le.below hb7))
      have t2 := (HS6.out.le (Le.below hb7)).e0
      have t3 : w1.heap.size + 1 < w7.heap.size := World.block_lt_of_cell? _ _ t2
      simp only [RE.op] at t2
      clear s0 s1 s2 s3 s4 s5 s6 k0 k1 k2 HI7 HI8
      go_wp2_with fail
      first
        | refine (imInverse_any _ N hN16 w7 A7 c7 hI7).mono ?_
        | refine (imClosure_any _ N hN16 w7 A7 c7 hI7).mono ?_
      rintro e8 w8 ⟨A8, c8, rfl, hr8, hb8⟩
      have hB8 := hB7.trans (hb8.mono hB7.size)
      have hIr := HIr.out
      have hw := wmNE_any _ _ N rfl w8 A4 A8 c4 c8 (by first | (have := hIr.le (Le.below hb8); rw [if_pos (by first | rfl | trivial)] at this; exact this) | (have := hIr.le (Le.below hb8); rw [if_neg (by first | decide | exact not_false)] at this; exact this)) (row_rel hr8)
      clear hIr t2 t3
      go_wp2_with fail
      refine hw.mono ?_
      rintro e9 w9 ⟨rfl, hb9⟩
      go_wp2_with fail
      go_ret
      exact ⟨rfl, hB8.trans (hb9.mono hB8.size)⟩
  · have hop : op = 2 ∨ op = 3 ∨ op = 4 ∨ op = 5 := by
      rcases kidsI_cases h1 with ⟨_, h⟩ | ⟨_, h⟩ | ⟨h, _⟩
      · simp at h
      · simp at h
      · exact h
    have he6 := HS6.out.he
    obtain ⟨b, o, A0, c0, e9, hbl, k0, k1, k2, hre⟩ := RepEs.get he6.2 (i := 0) (by simp [RE.kids])
    subst e9
    obtain ⟨b', o', A9, c9, e9, hbl', l0, l1, l2, hre'⟩ := RepEs.get he6.2 (i := 1) (by simp [RE.kids])
    injection e9 with e9
    injection e9 with e9 e10
    subst e9 e10
    simp only [RE.kids, Nat.zero_mul, Nat.one_mul, Nat.add_zero, List.getElem_cons_zero, List.getElem_cons_succ] at k0 k1 k2 hre l0 l1 l2 hre'
    have Hre := Lib.hid hre
    have Hre' := Lib.hid hre'
    have HL := Lib.hid (And.intro l0 (And.intro l1 l2))
    have HI7 : Hid (Ints w6 A4 c4 (relN (if op = 2 then unR (evR p x N a) (evR p x N a') else if op = 3 then meR (evR p x N a) (evR p x N a') else if op = 4 then miR (evR p x N a) (evR p x N a') else coR N (evR p x N a) (evR p x N a')) N)) := by have := HI6.out; rw [evR] at this; exact this
    have Hva := Lib.hid (Hvk.out a (by simp))
    have Hva' := Lib.hid (Hvk.out a' (by simp))
    simp only [List.length_cons, List.length_nil, Nat.zero_add, Nat.reduceAdd] at s4
    have Hc1 := Lib.hid (fun W (hl : Le w6 W) => Hev.out a Hva.out W (HS6.out.cd.le hl) A0 c0 (Hre.out.le hl))
    have Hc2 := Lib.hid (fun W (hl : Le w6 W) => Hev.out a' Hva'.out W (HS6.out.cd.le hl) A9 c9 (Hre'.out.le hl))
    clear h1 h2 h3 Hno he6 hre hre' l0 l1 l2
    rcases hop with rfl | rfl | rfl | rfl
    all_goals
      have HI8 := Lib.hid HI7.out
      go_wp2_with fail
      go_still_tail 6, (by kernel_rfl)
      go_wp2_with fail
      refine (Hc1.out _ (Le.drew _)).mono ?_
      rintro e7 w7 ⟨A7, c7, rfl, hr7, hb7'⟩
      have hb7 := below_of_drew hb7'
      have hB7 := hB6.trans (hb7.mono hB6.size)
      have HI77 := Lib.hid (row_rel hr7)
      have hS7 := HS6.out.le (Le.below hb7)
      obtain ⟨t0, t1, t2, t3, t4, t5, t6⟩ := hS7.all
      simp only [RE.op, RE.kids, List.length_cons, List.length_nil, Nat.zero_add, Nat.reduceAdd] at t2 t4
      have HS7 := Lib.hid hS7
      have l0 := Le.below hb7 _ _ HL.out.1
      have l1 := Le.below hb7 _ _ HL.out.2.1
      have l2 := Le.below hb7 _ _ HL.out.2.2
      have hbw : b < w7.heap.size := Nat.lt_of_lt_of_le hbl hb7.size
      clear s0 s1 s2 s3 s4 s5 s6 k0 k1 k2 HI7 hS7
      go_wp2_with fail
      go_still_tail 6, (by kernel_rfl)
      go_wp2_with fail
      refine (Hc2.out _ ((Le.below hb7).trans (Le.drew _))).mono ?_
      rintro e8 w8 ⟨A8, c8, rfl, hr8, hb8'⟩
      have hb8 := below_of_drew hb8'
      have hB8 := hB7.trans (hb8.mono hB7.size)
      have hI8 := row_rel hr8
      have hI78 := HI77.out.le (Le.below hb8)
      have HIr := Lib.hid ((HI8.out.le (Le.below hb7)).le (Le.below hb8))
      have t20 := (HS7.out.le (Le.below hb8)).e0
      have t30 : w1.heap.size + 1 < w8.heap.size := World.block_lt_of_cell? _ _ t20
      simp only [RE.op] at t20
      clear t0 t1 t2 t3 t4 t5 t6 l0 l1 l2 HI8
      go_wp2_with fail
      first
        | refine (imUnion_any _ _ N hN16 w8 A7 A8 c7 c8 hI78 hI8).mono ?_
        | refine (imMeet_any _ _ N hN16 w8 A7 A8 c7 c8 hI78 hI8).mono ?_
        | refine (imMinus_any _ _ N hN16 w8 A7 A8 c7 c8 hI78 hI8).mono ?_
        | refine (imCompose_any _ _ N hN16 w8 A7 A8 c7 c8 hI78 hI8).mono ?_
      rintro e9 w9 ⟨A10, c10, rfl, hr9, hb9⟩
      have hB9 := hB8.trans (hb9.mono hB8.size)
      have hIr := HIr.out.le (Le.below hb9)
      try simp only [if_true, if_false, Int.reduceEq] at hIr
      have hw := wmNE_any _ _ N rfl w9 A4 A10 c4 c10 hIr (row_rel hr9)
      clear hIr t20 t30 hI8 hI78
      go_wp2_with fail
      refine hw.mono ?_
      rintro e10 w10 ⟨rfl, hb10⟩
      go_wp2_with fail
      go_ret
      exact ⟨rfl, hB9.trans (hb10.mono hB9.size)⟩
  · rcases kidsI_cases h1 with ⟨_, h⟩ | ⟨_, h⟩ | ⟨_, h⟩
    · simp at h
    · simp at h
    · simp at h

end Go.Proofs.YtfgpbnncdfcjjaaGreatDoor
