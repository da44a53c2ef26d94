/-
  The walk of FnEvalMonotone: it answers true.
-/
import Derived.Test.YtfgpbnncdfcjjaaGreatDoorCeA
namespace Go.Proofs.YtfgpbnncdfcjjaaGreatDoor
open Go.RowKit
set_option linter.unusedVariables false
set_option maxRecDepth 100000

theorem repK_two {W : World} {b c0 c1 : Nat} {e f : RE} {A0 A1 : Option Addr} (op : Int) (h0 : W.cell? ⟨b, 0, none⟩ = some (.int .i64 e.op)) (h1 : W.cell? ⟨b, 1, none⟩ = some (.string e.name)) (h2 : W.cell? ⟨b, 2, none⟩ = some (.slice A0 e.kids.length c0)) (h3 : W.cell? ⟨b, 3, none⟩ = some (.int .i64 f.op)) (h4 : W.cell? ⟨b, 4, none⟩ = some (.string f.name)) (h5 : W.cell? ⟨b, 5, none⟩ = some (.slice A1 f.kids.length c1)) (he : RepK W A0 c0 e) (hf : RepK W A1 c1 f) :
    RepK W (some ⟨b, 0, none⟩) 2 (.mk op ⟨#[]⟩ [e, f]) := by
  refine ⟨Nat.zero_le _, _, _, rfl, by simp [RE.kids], fun i hi => ?_⟩
  simp only [RE.kids, List.length_cons, List.length_nil] at hi
  have h2i : i = 0 ∨ i = 1 := by omega
  rcases h2i with rfl | rfl
  · refine ⟨b, 0, rfl, cellsE e A0 c0, fun j hj => ?_, he.toE fun j hj => rfl⟩
    match j, hj with
    | 0, _ => exact h0
    | 1, _ => exact h1
    | 2, _ => exact h2
  · refine ⟨b, 0, rfl, cellsE f A1 c1, fun j hj => ?_, hf.toE fun j hj => rfl⟩
    match j, hj with
    | 0, _ => exact h3
    | 1, _ => exact h4
    | 2, _ => exact h5
theorem val_two {e f : RE} (h : Val (.mk 2 ⟨#[]⟩ [e, f])) : Val (.mk 3 ⟨#[]⟩ [e, f]) := by
  obtain ⟨⟨⟨h1, h2, h3⟩, h4⟩, h5⟩ := h
  refine ⟨⟨⟨rfl, ?_, fun _ => rfl⟩, h4⟩, by rw [cntE] at h5 ⊢; exact h5⟩
  simp only [RE.op, RE.name] at h2 ⊢
  constructor
  · intro h; exact absurd h (by decide)
  · intro h; exact absurd (h2.2 h) (by decide)
structure FS (W : World) (b : Nat) (A : Option Addr) (c : Nat) (f : RE) : Prop where
  he : RepK W A c f
  f0 : W.cell? ⟨b, 0, none⟩ = some (.int .i64 f.op)
  f1 : W.cell? ⟨b, 1, none⟩ = some (.string f.name)
  f2 : W.cell? ⟨b, 2, none⟩ = some (.slice A f.kids.length c)
theorem FS.le {W W' : World} {b : Nat} {A : Option Addr} {c : Nat} {f : RE} (h : FS W b A c f) (hl : Le W W') : FS W' b A c f := ⟨h.he.le hl, hl _ _ h.f0, hl _ _ h.f1, hl _ _ h.f2⟩
theorem FS.lt {W : World} {b : Nat} {A : Option Addr} {c : Nat} {f : RE} (h : FS W b A c f) : b < W.heap.size := World.block_lt_of_cell? _ _ h.f0

set_option maxHeartbeats 1500000 in
theorem lawEM_walk (w : World) (A A9 : Option Addr) (n c n9 c9 : Nat) (hg : GN w) (h : Bys w A n) (hnc : n ≤ c) (hA : A = none → n = 0) (h9 : Bys w A9 n9) (hnc9 : n9 ≤ c9) (hA9 : A9 = none → n9 = 0) :
    Calls Tryz.prog 5 #[.slice A n c, .slice A9 n9 c9] w (RetB w true) := by
  have hdr := drawEv_any w A n c h hnc hA
  have hn := h.1
  have hn9 := h9.1
  have H9 := Lib.hid h9
  have Hg := Lib.hid hg
  clear h h9 hg
  go_enter Tryz.func5, Tryz.ntmps5
  by_cases hsz : (1048576 : Int) < (n : Int)
  · have hd : decide ((n : Int) > 1048576) = true := by simpa using hsz
    go_wp2_with fail
    go_ret
    exact ⟨rfl, Below.refl _ _⟩
  have hd : decide ((n : Int) > 1048576) = false := by simpa using hsz
  by_cases hsz9 : (1048576 : Int) < (n9 : Int)
  · have hd9 : decide ((n9 : Int) > 1048576) = true := by simpa using hsz9
    go_wp2_with fail
    go_ret
    exact ⟨rfl, Below.refl _ _⟩
  have hd9 : decide ((n9 : Int) > 1048576) = false := by simpa using hsz9
  go_wp2_with fail
  refine hdr.mono ?_
  rintro e1 w1 ⟨p, x, e, v1, A2, c2, B2, d2, A3, c3, rfl, hps, hx, he, hcnt, hfew, hwx, hb1⟩
  obtain ⟨A1, c1, rfl, _⟩ := hps.1.slice
  have hl : p.length ≤ 1048576 := by have := hfew.1; omega
  have Hls := Lib.hid (hfew.mil (by omega))
  obtain ⟨V, hV⟩ : ∃ V, V = (w1.alloc (.cells #[.slice A2 x.from_.length c2, .slice B2 x.order.length d2] 27)).alloc (.cells #[.int .i64 e.op, .string e.name, .slice A3 e.kids.length c3] 50) := ⟨_, rfl⟩
  have oT : Own V w1.heap.size 27 #[.slice A2 x.from_.length c2, .slice B2 x.order.length d2] := by rw [hV]; exact (Own.new _ _ _).alloc _
  have oE : Own V (w1.heap.size + 1) 50 #[.int .i64 e.op, .string e.name, .slice A3 e.kids.length c3] := by rw [hV]; simpa using Own.new (w1.alloc (.cells #[.slice A2 x.from_.length c2, .slice B2 x.order.length d2] 27)) 50 #[.int .i64 e.op, .string e.name, .slice A3 e.kids.length c3]
  have hB1 : Below w.heap.size w V := by rw [hV]; exact (hb1.alloc hb1.size _).alloc (by have := hb1.size; simp; omega) _
  have hlV : Le (above w.heap.size w1) V := by rw [hV]; exact ((Le.above _ _).trans (Le.alloc _ _)).trans (Le.alloc _ _)
  have hpq : PrgQ V (.slice A1 p.length c1) p := PrgQ.le hps hlV
  have S1 : CeS V w1.heap.size A1 c1 p A2 c2 B2 d2 x A3 c3 e := ⟨⟨hpq.1, hpq.2, hx.le hlV, Hg.out.le (Le.below hB1), oT.cell (i := 0) rfl, oT.cell (i := 1) rfl⟩, he.le hlV, oE.cell (i := 0) rfl, oE.cell (i := 1) rfl, oE.cell (i := 2) rfl⟩
  have HS1 := Lib.hid S1
  have himpl := fun W (S : CeS W w1.heap.size A1 c1 p A2 c2 B2 d2 x A3 c3 e) => implEval_any p hl Hls.out x hwx e W _ A2 B2 A3 c2 d2 c3 S.cd.hg S.cd.hp S.cd.hr S.cd.hx S.he
  have hspec := fun W (S : CeS W w1.heap.size A1 c1 p A2 c2 B2 d2 x A3 c3 e) => specEval_any p hl x e (by omega) W _ A2 B2 A3 c2 d2 c3 S.cd.hp S.cd.hx S.he
  have hca := fun W (S : CeS W w1.heap.size A1 c1 p A2 c2 B2 d2 x A3 c3 e) => implCand_any p hl Hls.out x W _ A2 B2 c2 d2 S.cd.hp S.cd.hx hwx
  have hva := fun W (S : CeS W w1.heap.size A1 c1 p A2 c2 B2 d2 x A3 c3 e) => valid_any e W A3 c3 S.cd.hg S.he
  have HR : Hid (candB p x = true → valB e = true → evB p x e = relN (evR p x (evs p).length e) (evs p).length) := fun h1 h2 => if_pos ⟨h1, h2⟩
  generalize evB p x e = R at himpl hspec HR
  have Himpl := Lib.hid himpl
  have Hspec := Lib.hid hspec
  have Hca := Lib.hid hca
  have Hva := Lib.hid hva
  have hlx := hx.1.len
  have hly := hx.2.len
  have hlk := he.kids_le
  clear hps hx he hdr hfew oT oE hpq S1 hlV himpl hspec hca hva
  go_wp2_with fail
  try rw [← hV]
  clear hV
  refine (drawEv_any V A9 n9 c9 (H9.out.le (Le.below hB1)) hnc9 hA9).mono ?_
  rintro e0 w0 ⟨p', x', f, v', A2', c2', B2', d2', A3', c3', rfl, hps', hx', hf', hcnt', hfew', hwx', hb0⟩
  obtain ⟨U, hU⟩ : ∃ U, U = (w0.alloc (.cells #[.slice A2' x'.from_.length c2', .slice B2' x'.order.length d2'] 27)).alloc (.cells #[.int .i64 f.op, .string f.name, .slice A3' f.kids.length c3'] 50) := ⟨_, rfl⟩
  have oF : Own U (w0.heap.size + 1) 50 #[.int .i64 f.op, .string f.name, .slice A3' f.kids.length c3'] := by rw [hU]; simpa using Own.new (w0.alloc (.cells #[.slice A2' x'.from_.length c2', .slice B2' x'.order.length d2'] 27)) 50 #[.int .i64 f.op, .string f.name, .slice A3' f.kids.length c3']
  have hb0U : Below V.heap.size V U := by rw [hU]; exact (hb0.alloc hb0.size _).alloc (by have := hb0.size; simp; omega) _
  have hlU : Le (above V.heap.size w0) U := by rw [hU]; exact ((Le.above _ _).trans (Le.alloc _ _)).trans (Le.alloc _ _)
  have HFU := Lib.hid (show FS U (w0.heap.size + 1) A3' c3' f from ⟨hf'.le hlU, oF.cell (i := 0) rfl, oF.cell (i := 1) rfl, oF.cell (i := 2) rfl⟩)
  have hlx' := hx'.1.len
  have hly' := hx'.2.len
  have hlk' := hf'.kids_le
  have HSU := Lib.hid (HS1.out.le (Le.below hb0U))
  have HS0 := Lib.hid (HS1.out.le (Le.below hb0))
  have hBU := hB1.trans (hb0U.mono hB1.size)
  have Hva' := Lib.hid (fun W (S : CdS W w1.heap.size A1 c1 p A2 c2 B2 d2 x) A'' c'' (y : RE) (hy : RepK W A'' c'' y) => valid_any y W A'' c'' S.hg hy)
  have HV1 := Lib.hid hB1
  clear hps' hx' hf' hfew' hwx' hcnt' oF hlU HS1 hB1
  obtain ⟨s0, s1, s2, s3, s4, s5, s6⟩ := HS0.out.all
  clear HS0
  go_wp2_with fail
  try rw [← hU]
  clear hU
  have HS1 := HSU
  have hB1 := hBU
  clear HSU hBU
  refine (Himpl.out U HS1.out).mono ?_
  rintro e2 w2 ⟨A4, c4, rfl, hr4, hb2⟩
  have hB2 := hB1.trans (hb2.mono hB1.size)
  have HS2 := Lib.hid (HS1.out.le (Le.below hb2))
  have HI2 := Lib.hid (row_ints hr4)
  have hRl := HI2.out.len
  clear HS1 hr4 s0 s1 s2 s3 s4 s5 s6
  obtain ⟨s0, s1, s2, s3, s4, s5, s6⟩ := HS2.out.all
  go_wp2_with fail
  refine (Hspec.out w2 HS2.out).mono ?_
  rintro e3 w3 ⟨A5, c5, rfl, hr5, hb3⟩
  have hw3 := wmRE_any R w3 A4 A5 c4 c5 (HI2.out.le (Le.below hb3)) (row_ints hr5)
  have hB3 := hB2.trans (hb3.mono hB2.size)
  have HS3 := Lib.hid (HS2.out.le (Le.below hb3))
  have HI3 := Lib.hid (HI2.out.le (Le.below hb3))
  clear s0 s1 s2 s3 s4 s5 s6 HS2 HI2 hr5
  go_wp2_with fail
  refine hw3.mono ?_
  rintro e4 w4 ⟨rfl, hb4⟩
  have hB4 := hB3.trans (hb4.mono hB3.size)
  have HS4 := Lib.hid (HS3.out.le (Le.below hb4))
  have HI4 := Lib.hid (HI3.out.le (Le.below hb4))
  clear HS3 HI3 hw3
  obtain ⟨s0, s1, s2, s3, s4, s5, s6⟩ := HS4.out.all
  go_wp2_with fail
  cases hv : candB p x
  · have hc4 := Hca.out w4 HS4.out
    rw [hv] at hc4
    clear hv
    refine hc4.mono ?_
    rintro e5 w5 ⟨rfl, hb5⟩
    have hB5 := hB4.trans (hb5.mono hB4.size)
    have HS5 := Lib.hid (HS4.out.le (Le.below hb5))
    have HI5 := Lib.hid (HI4.out.le (Le.below hb5))
    clear s0 s1 s2 s3 s4 s5 s6 HS4 HI4 hc4
    obtain ⟨s0, s1, s2, s3, s4, s5, s6⟩ := HS5.out.all
    go_wp2_with fail
    refine (Hspec.out w5 HS5.out).mono ?_
    rintro e6 w6 ⟨A7, c7, rfl, hr7, hb6⟩
    have hw6 := wmRE_any R w6 A4 A7 c4 c7 (HI5.out.le (Le.below hb6)) (row_ints hr7)
    have hB6 := hB5.trans (hb6.mono hB5.size)
    clear s0 s1 s2 s3 s4 s5 s6 HS5 HI5 hr7
    go_wp2_with fail
    refine hw6.mono ?_
    rintro e7 w7 ⟨rfl, hb7⟩
    go_wp2_with fail
    go_ret
    exact ⟨rfl, hB6.trans (hb7.mono hB6.size)⟩
  have hc4 := Hca.out w4 HS4.out
  rw [hv] at hc4
  have Hv := Lib.hid hv
  clear hv
  refine hc4.mono ?_
  rintro e5 w5 ⟨rfl, hb5⟩
  have hB5 := hB4.trans (hb5.mono hB4.size)
  have HS5 := Lib.hid (HS4.out.le (Le.below hb5))
  have HI5 := Lib.hid (HI4.out.le (Le.below hb5))
  clear s0 s1 s2 s3 s4 s5 s6 HS4 HI4 hc4
  obtain ⟨s0, s1, s2, s3, s4, s5, s6⟩ := HS5.out.all
  go_wp2_with fail
  cases hv2 : valB e
  · have hc5 := Hva.out w5 HS5.out
    rw [hv2] at hc5
    clear hv2
    refine hc5.mono ?_
    rintro e6 w6 ⟨rfl, hb6⟩
    have hB6 := hB5.trans (hb6.mono hB5.size)
    have HS6 := Lib.hid (HS5.out.le (Le.below hb6))
    have HI6 := Lib.hid (HI5.out.le (Le.below hb6))
    clear s0 s1 s2 s3 s4 s5 s6 HS5 HI5 hc5
    obtain ⟨s0, s1, s2, s3, s4, s5, s6⟩ := HS6.out.all
    go_wp2_with fail
    refine (Hspec.out w6 HS6.out).mono ?_
    rintro e7 w7 ⟨A7, c7, rfl, hr7, hb7⟩
    have hw7 := wmRE_any R w7 A4 A7 c4 c7 (HI6.out.le (Le.below hb7)) (row_ints hr7)
    have hB7 := hB6.trans (hb7.mono hB6.size)
    clear s0 s1 s2 s3 s4 s5 s6 HS6 HI6 hr7
    go_wp2_with fail
    refine hw7.mono ?_
    rintro e8 w8 ⟨rfl, hb8⟩
    go_wp2_with fail
    go_ret
    exact ⟨rfl, hB7.trans (hb8.mono hB7.size)⟩
  have hc5 := Hva.out w5 HS5.out
  rw [hv2] at hc5
  obtain rfl := HR.out Hv.out hv2
  have Hval := Lib.hid (valB_iff.1 hv2)
  have Hok := Lib.hid (candB_iff.1 Hv.out)
  clear hv2
  refine hc5.mono ?_
  rintro e6 w6 ⟨rfl, hb6⟩
  have hB6 := hB5.trans (hb6.mono hB5.size)
  have HS6 := Lib.hid (HS5.out.le (Le.below hb6))
  have HI6 := Lib.hid (HI5.out.le (Le.below hb6))
  clear s0 s1 s2 s3 s4 s5 s6 HS5 HI5 hc5
  obtain ⟨s0, s1, s2, s3, s4, s5, s6⟩ := HS6.out.all
  have hU6 := (((((Le.below hb2).trans (Le.below hb3)).trans (Le.below hb4)).trans (Le.below hb5)).trans (Le.below hb6))
  have HF6 := Lib.hid (HFU.out.le hU6)
  have g0 := HF6.out.f0
  have g1 := HF6.out.f1
  have g2 := HF6.out.f2
  have g3 := HF6.out.lt
  have hvf := Hva'.out w6 HS6.out.cd A3' c3' f HF6.out.he
  clear hb2 hb3 hb4 hb5 hb6 hU6
  go_wp2_with fail
  cases hv3 : valB f
  · rw [hv3] at hvf
    clear hv3
    refine hvf.mono ?_
    rintro e7 w7 ⟨rfl, hb7⟩
    have hB7 := hB6.trans (hb7.mono hB6.size)
    have HS7 := Lib.hid (HS6.out.le (Le.below hb7))
    have HI7 := Lib.hid (HI6.out.le (Le.below hb7))
    clear s0 s1 s2 s3 s4 s5 s6 g0 g1 g2 g3 HS6 HI6 hvf
    obtain ⟨s0, s1, s2, s3, s4, s5, s6⟩ := HS7.out.all
    go_wp2_with fail
    refine (Hspec.out w7 HS7.out).mono ?_
    rintro e8 w8 ⟨A7, c7, rfl, hr7, hb8⟩
    have hw8 := wmRE_any _ w8 A4 A7 c4 c7 (HI7.out.le (Le.below hb8)) (row_ints hr7)
    have hB8 := hB7.trans (hb8.mono hB7.size)
    clear s0 s1 s2 s3 s4 s5 s6 HS7 HI7 hr7
    go_wp2_with fail
    refine hw8.mono ?_
    rintro e10 w10 ⟨rfl, hb10⟩
    go_wp2_with fail
    go_ret
    exact ⟨rfl, hB8.trans (hb10.mono hB8.size)⟩
  rw [hv3] at hvf
  clear hv3
  obtain ⟨N, hN⟩ : ∃ N, N = (evs p).length := ⟨_, rfl⟩
  have hN16 : N ≤ 16 := by have := cand_len Hok.out.1; omega
  have hev := fun (y : RE) (hv : Val y) W (S : CdS W w1.heap.size A1 c1 p A2 c2 B2 d2 x) A' c' (hy : RepK W A' c' y) => S.eval Hok.out hl Hls.out hwx y hv A' c' hy
  rw [← hN] at hev HI6
  have Hev := Lib.hid hev
  have hrl : (relN (evR p x (evs p).length e) (evs p).length).length = N := by rw [relN_length, hN]
  rw [hrl]
  have Hor : Hid (evR p x N (.mk 2 ⟨#[]⟩ [e, f]) = unR (evR p x N e) (evR p x N f)) := by show _ = _; rw [evR]; rfl
  have Han : Hid (evR p x N (.mk 3 ⟨#[]⟩ [e, f]) = meR (evR p x N e) (evR p x N f)) := by show _ = _; rw [evR]; rfl
  clear Himpl Hspec Hca Hva HR hev hrl hRl hN
  refine hvf.mono ?_
  rintro e7 w7 ⟨rfl, hb7⟩
  have hB7 := hB6.trans (hb7.mono hB6.size)
  have HS7 := Lib.hid (HS6.out.le (Le.below hb7))
  have HF7 := Lib.hid (HF6.out.le (Le.below hb7))
  have HI7 := Lib.hid (HI6.out.le (Le.below hb7))
  clear s0 s1 s2 s3 s4 s5 s6 g0 g1 g2 g3 HS6 HI6 HF6 hvf
  obtain ⟨s0, s1, s2, s3, s4, s5, s6⟩ := HS7.out.all
  have g0 := HF7.out.f0
  have g1 := HF7.out.f1
  have g2 := HF7.out.f2
  have g3 := HF7.out.lt
  obtain ⟨Z, hZ⟩ : ∃ Z, Z = (((w7.alloc (.cells #[.int .i64 e.op, .string e.name, .slice A3 e.kids.length c3, .int .i64 f.op, .string f.name, .slice A3' f.kids.length c3'] 50)).alloc (.cells #[.int .i64 2, .string ⟨#[]⟩, .slice (some ⟨w7.heap.size, 0, none⟩) 2 2] 50)).alloc (.cells #[.int .i64 e.op, .string e.name, .slice A3 e.kids.length c3, .int .i64 f.op, .string f.name, .slice A3' f.kids.length c3'] 50)).alloc (.cells #[.int .i64 3, .string ⟨#[]⟩, .slice (some ⟨w7.heap.size + 1 + 1, 0, none⟩) 2 2] 50) := ⟨_, rfl⟩
  have o1 : Own Z w7.heap.size 50 #[.int .i64 e.op, .string e.name, .slice A3 e.kids.length c3, .int .i64 f.op, .string f.name, .slice A3' f.kids.length c3'] := by rw [hZ]; exact (((Own.new _ _ _).alloc _).alloc _).alloc _
  have o2 : Own Z (w7.heap.size + 1) 50 #[.int .i64 2, .string ⟨#[]⟩, .slice (some ⟨w7.heap.size, 0, none⟩) 2 2] := by
    rw [hZ]
    have h := (Own.new (w7.alloc (.cells #[.int .i64 e.op, .string e.name, .slice A3 e.kids.length c3, .int .i64 f.op, .string f.name, .slice A3' f.kids.length c3'] 50)) 50 #[.int .i64 2, .string ⟨#[]⟩, .slice (some ⟨w7.heap.size, 0, none⟩) 2 2])
    rw [World.size_alloc] at h
    exact (h.alloc _).alloc _
  have o3 : Own Z (w7.heap.size + 1 + 1) 50 #[.int .i64 e.op, .string e.name, .slice A3 e.kids.length c3, .int .i64 f.op, .string f.name, .slice A3' f.kids.length c3'] := by
    rw [hZ]
    have h := (Own.new ((w7.alloc (.cells #[.int .i64 e.op, .string e.name, .slice A3 e.kids.length c3, .int .i64 f.op, .string f.name, .slice A3' f.kids.length c3'] 50)).alloc (.cells #[.int .i64 2, .string ⟨#[]⟩, .slice (some ⟨w7.heap.size, 0, none⟩) 2 2] 50)) 50 #[.int .i64 e.op, .string e.name, .slice A3 e.kids.length c3, .int .i64 f.op, .string f.name, .slice A3' f.kids.length c3'])
    rw [World.size_alloc, World.size_alloc] at h
    exact h.alloc _
  have o4 : Own Z (w7.heap.size + 1 + 1 + 1) 50 #[.int .i64 3, .string ⟨#[]⟩, .slice (some ⟨w7.heap.size + 1 + 1, 0, none⟩) 2 2] := by
    rw [hZ]
    have h := (Own.new (((w7.alloc (.cells #[.int .i64 e.op, .string e.name, .slice A3 e.kids.length c3, .int .i64 f.op, .string f.name, .slice A3' f.kids.length c3'] 50)).alloc (.cells #[.int .i64 2, .string ⟨#[]⟩, .slice (some ⟨w7.heap.size, 0, none⟩) 2 2] 50)).alloc (.cells #[.int .i64 e.op, .string e.name, .slice A3 e.kids.length c3, .int .i64 f.op, .string f.name, .slice A3' f.kids.length c3'] 50)) 50 #[.int .i64 3, .string ⟨#[]⟩, .slice (some ⟨w7.heap.size + 1 + 1, 0, none⟩) 2 2])
    rw [World.size_alloc, World.size_alloc, World.size_alloc] at h
    exact h
  have hb7Z : Below w7.heap.size w7 Z := by rw [hZ]; exact ((((Below.refl _ _).alloc (Nat.le_refl _) _).alloc (by simp) _).alloc (by simp; omega) _).alloc (by simp; omega) _
  have hBZ := hB7.trans (hb7Z.mono hB7.size)
  have HSZ := Lib.hid (HS7.out.le (Le.below hb7Z))
  have HFZ := Lib.hid (HF7.out.le (Le.below hb7Z))
  have HIZ := Lib.hid (HI7.out.le (Le.below hb7Z))
  have HKo := Lib.hid (repK_two 2 (o1.cell (i := 0) rfl) (o1.cell (i := 1) rfl) (o1.cell (i := 2) rfl) (o1.cell (i := 3) rfl) (o1.cell (i := 4) rfl) (o1.cell (i := 5) rfl) HSZ.out.he HFZ.out.he)
  have HKa := Lib.hid (repK_two 3 (o3.cell (i := 0) rfl) (o3.cell (i := 1) rfl) (o3.cell (i := 2) rfl) (o3.cell (i := 3) rfl) (o3.cell (i := 4) rfl) (o3.cell (i := 5) rfl) HSZ.out.he HFZ.out.he)
  have HO2 := Lib.hid o2
  have HO4 := Lib.hid o4
  have hvo := Hva'.out Z HSZ.out.cd _ _ _ HKo.out
  clear o1 o2 o3 o4 hb7Z HS7 HF7 HI7
  have hp1 : w7.heap.size < w7.heap.size + 1 := by omega
  have hp2 : w7.heap.size < w7.heap.size + 1 + 1 := by omega
  have hp3 : w0.heap.size + 1 < w7.heap.size + 1 := by omega
  have hp4 : w0.heap.size + 1 < w7.heap.size + 1 + 1 := by omega
  have hp5 : w0.heap.size + 1 < w7.heap.size + 1 + 1 + 1 := by omega
  go_wp2_with fail
  rw [← hZ]
  clear hZ s0 s1 s2 s3 s4 s5 s6 g0 g1 g2 g3
  cases hv4 : valB (.mk 2 ⟨#[]⟩ [e, f])
  · rw [hv4] at hvo
    clear hv4
    refine hvo.mono ?_
    rintro e8 w8 ⟨rfl, hb8⟩
    go_wp2_with fail
    go_ret
    exact ⟨rfl, hBZ.trans (hb8.mono hBZ.size)⟩
  rw [hv4] at hvo
  have hvor := valB_iff.1 hv4
  have Hvor := Lib.hid hvor
  have Hvan := Lib.hid (val_two hvor)
  clear hv4 hvor
  refine hvo.mono ?_
  rintro e8 w8 ⟨rfl, hb8⟩
  have hB8 := hBZ.trans (hb8.mono hBZ.size)
  have HS8 := Lib.hid (HSZ.out.le (Le.below hb8))
  have HI8 := Lib.hid (HIZ.out.le (Le.below hb8))
  have hc1 := Hev.out _ Hvor.out w8 HS8.out.cd _ _ (HKo.out.le (Le.below hb8))
  have q2 := HO2.out.under hb8
  have g0 := q2.cell (i := 0) rfl
  have g1 := q2.cell (i := 1) rfl
  have g2 := q2.cell (i := 2) rfl
  have g3 := q2.lt
  obtain ⟨s0, s1, s2, s3, s4, s5, s6⟩ := HS8.out.all
  clear hvo q2
  go_wp2_with fail
  refine hc1.mono ?_
  rintro e9 w9 ⟨Ao, co, rfl, hro, hb9⟩
  have hB9 := hB8.trans (hb9.mono hB8.size)
  have hio := row_rel hro
  rw [Hor.out] at hio
  have hw9 := within_subE (evR p x N e) (unR (evR p x N e) (evR p x N f)) N hN16 (fun i k _ _ hh => by show (evR p x N e i k || _) = true; rw [hh]; rfl) w9 A4 Ao c4 co (HI8.out.le (Le.below hb9)) hio
  have HS9 := Lib.hid (HS8.out.le (Le.below hb9))
  have HI9 := Lib.hid (HI8.out.le (Le.below hb9))
  clear hc1 s0 s1 s2 s3 s4 s5 s6 g0 g1 g2 g3 hio hro
  go_wp2_with fail
  refine hw9.mono ?_
  rintro e10 w10 ⟨rfl, hb10⟩
  have hB10 := hB9.trans (hb10.mono hB9.size)
  have HS10 := Lib.hid (HS9.out.le (Le.below hb10))
  have HI10 := Lib.hid (HI9.out.le (Le.below hb10))
  have hl10 := ((Le.below hb8).trans (Le.below hb9)).trans (Le.below hb10)
  have hc2 := Hev.out _ Hvan.out w10 HS10.out.cd _ _ (HKa.out.le hl10)
  have g0 := hl10 _ _ (HO4.out.cell (i := 0) rfl)
  have g1 := hl10 _ _ (HO4.out.cell (i := 1) rfl)
  have g2 := hl10 _ _ (HO4.out.cell (i := 2) rfl)
  have g3 : w7.heap.size + 1 + 1 + 1 < w10.heap.size := World.block_lt_of_cell? _ _ g0
  obtain ⟨s0, s1, s2, s3, s4, s5, s6⟩ := HS10.out.all
  clear hw9 hl10
  go_wp2_with fail
  refine hc2.mono ?_
  rintro e11 w11 ⟨Aa, ca, rfl, hra, hb11⟩
  have hB11 := hB10.trans (hb11.mono hB10.size)
  have hia := row_rel hra
  rw [Han.out] at hia
  have hw11 := within_subE (meR (evR p x N e) (evR p x N f)) (evR p x N e) N hN16 (fun i k _ _ hh => (Bool.and_eq_true_iff.1 hh).1) w11 Aa A4 ca c4 hia (HI10.out.le (Le.below hb11))
  clear hc2 s0 s1 s2 s3 s4 s5 s6 g0 g1 g2 g3 hia hra
  go_wp2_with fail
  refine hw11.mono ?_
  rintro e12 w12 ⟨rfl, hb12⟩
  go_wp2_with fail
  go_ret
  exact ⟨rfl, hB11.trans (hb12.mono hB11.size)⟩

end Go.Proofs.YtfgpbnncdfcjjaaGreatDoor
