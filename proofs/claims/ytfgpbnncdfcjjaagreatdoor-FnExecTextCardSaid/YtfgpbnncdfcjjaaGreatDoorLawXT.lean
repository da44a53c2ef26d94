/-
  The walk of FnExecText: it answers true.
-/
import Derived.Test.YtfgpbnncdfcjjaaGreatDoorFmtP
import Derived.Test.YtfgpbnncdfcjjaaGreatDoorDrES
import Derived.Test.YtfgpbnncdfcjjaaGreatDoorLawAE
import Derived.Test.YtfgpbnncdfcjjaaGreatDoorSpecX
namespace Go.Proofs.YtfgpbnncdfcjjaaGreatDoor
open Go.RowKit
set_option linter.unusedVariables false
set_option maxRecDepth 100000

theorem drawFE_any (w : World) (A : Option Addr) (n c : Nat) (h : Bys w A n) (hnc : n ≤ c) (hA : A = none → n = 0) : Calls Tryz.prog 42 #[.slice A n c] w (RetDCV w) := by
  have oR := Own.new w 27 #[.slice none 0 0, .slice none 0 0]
  have hd := drawCV_any (w.alloc (.cells #[.slice none 0 0, .slice none 0 0] 27)) A n c (h.le (Le.alloc _ _)) hnc hA
  clear h
  go_enter Tryz.func42, Tryz.ntmps42
  go_wp2_with fail
  refine hd.mono ?_
  rintro e1 w1 ⟨pr, x, v, A2, c2, B2, d2, rfl, h1, h2, h3, h4, h5⟩
  have o1 := oR.under h5
  have k0 := o1.cell (i := 0) rfl
  have k1 := o1.cell (i := 1) rfl
  have k2 := o1.frozen 0
  have k3 := o1.frozen 1
  have k4 := o1.lt
  have hB : Below w.heap.size w w1 := ((Below.refl _ _).alloc (Nat.le_refl _) _).trans (h5.mono (by simp))
  simp only [World.size_alloc] at h1 h2
  have HK := Lib.hid (And.intro h1 (And.intro h2 (And.intro h3 (And.intro h4 hB))))
  clear hd h1 h2 h3 h4 h5 hB oR o1
  go_wp2_with fail
  refine bodyPost_ret (v := .tuple #[v, .agg #[.slice A2 x.from_.length c2, .slice B2 x.order.length d2]]) (by simp [results, Tryz.results42, go_sem, k0, k1]) rfl ?_
  have hle : Le (above (w.heap.size + 1) w1) (above w.heap.size ((w1.setCell ⟨w.heap.size, 0, none⟩ (.slice A2 x.from_.length c2)).setCell ⟨w.heap.size, 1, none⟩ (.slice B2 x.order.length d2))) := (((Le.refl _).to_above_setCell (by simp)).to_above_setCell (by simp)).trans (Le.above_mono (by omega) _)
  exact ⟨pr, x, v, A2, c2, B2, d2, rfl, PrgQ.le HK.out.1 hle, HK.out.2.1.le hle, HK.out.2.2.1, HK.out.2.2.2.1, ((HK.out.2.2.2.2.setCell (Nat.le_refl _) _).setCell (Nat.le_refl _) _)⟩

/-- A program and a candidate in a variable. -/
structure XtS (W : World) (bx : Nat) (Ap : Option Addr) (cp : Nat) (p : Prg) (A : Option Addr) (c : Nat) (B : Option Addr) (d : Nat) (x : Ex) : Prop where
  hp : PrgS W (.slice Ap p.length cp) p
  hx : RepX W A c B d x
  c0 : W.cell? ⟨bx, 0, none⟩ = some (.slice A x.from_.length c)
  c1 : W.cell? ⟨bx, 1, none⟩ = some (.slice B x.order.length d)
section
variable {W W' : World} {bx : Nat} {Ap : Option Addr} {cp : Nat} {p : Prg} {A : Option Addr} {c : Nat} {B : Option Addr} {d : Nat} {x : Ex}
theorem XtS.le (h : XtS W bx Ap cp p A c B d x) (hl : Le W W') : XtS W' bx Ap cp p A c B d x := ⟨PrgS.le h.hp hl, h.hx.le hl, hl _ _ h.c0, hl _ _ h.c1⟩
theorem XtS.all (h : XtS W bx Ap cp p A c B d x) : W.cell? ⟨bx, 0, none⟩ = some (.slice A x.from_.length c) ∧ W.cell? ⟨bx, 1, none⟩ = some (.slice B x.order.length d) ∧ bx < W.heap.size := ⟨h.c0, h.c1, World.block_lt_of_cell? _ _ h.c0⟩
end
theorem RetB.opX {P : Program} {f : FuncId} {args : Array Value} {w : World} {b : Bool} (h : Calls P f args w (RetB w b)) : Calls P f args w fun e w' => e = .returned (.bool b) ∧ Below w.heap.size w w' := h
theorem RetS.op {P : Program} {f : FuncId} {args : Array Value} {w : World} {s : ByteArray} (h : Calls P f args w (RetS w s)) : Calls P f args w fun e w' => e = .returned (.string s) ∧ Below w.heap.size w w' := h
theorem eqB_comm (x y : Ex) : eqB x y = eqB y x := by
  cases h : eqB x y
  · symm; rw [eqB_false] at h ⊢; exact fun e => h e.symm
  · cases h2 : eqB y x
    · rw [eqB_false] at h2
      exact absurd (Classical.byContradiction fun hne => by rw [eqB_false.2 (fun e => hne e.symm)] at h; cases h) h2
    · rfl
theorem cand_wXt {p : Prg} {x : Ex} (h : CandOk p x) : wX x ≤ 1048576 := by
  have h1 := cand_wt h
  have h2 := h.2.2.1
  unfold wtX at h1
  unfold wX
  omega
/-- Texts are equal just if the candidates are. -/
theorem txt_same {p : Prg} {x y : Ex} (hx : CandOk p x) (hy : CandOk p y) : ((fmtB y).toList == (fmtB x).toList) = eqB y x := by
  cases h : eqB y x
  · exact str_eq_false fun e => eqB_false.1 h (fmtB_inj hy hx e)
  · have : y = x := Classical.byContradiction fun hne => by rw [eqB_false.2 hne] at h; cases h
    rw [this]
    simp

set_option maxHeartbeats 1500000 in
theorem lawXT_walk (w : World) (A : Option Addr) (n c : Nat) (h : Bys w A n) (hnc : n ≤ c) (hA : A = none → n = 0) :
    Calls Tryz.prog 7 #[.slice A n c] w (RetB w true) := by
  have hdr := drawFE_any w A n c h hnc hA
  have hn := h.1
  have Hds := Lib.hid fun W (hl : Le w W) => drawES_any W A n c (h.le hl) hnc hA
  clear h
  go_enter Tryz.func7, Tryz.ntmps7
  by_cases hsz : (1048576 : Int) < (n : Int)
  · have hd : decide ((n : Int) > 1048576) = true := by simpa using hsz
    go_wp2_with fail
    go_ret
    exact ⟨rfl, Below.refl _ _⟩
  have hd : decide ((n : Int) > 1048576) = false := by simpa using hsz
  go_wp2_with fail
  refine hdr.mono ?_
  rintro e1 w1 ⟨p, x, v1, A2, c2, B2, d2, rfl, hps, hx, hfew, hwx, hb1⟩
  obtain ⟨A1, c1, rfl, _⟩ := hps.1.slice
  have hl : p.length ≤ 1048576 := by have := hfew.1; omega
  have Hls := Lib.hid (hfew.mil (by omega))
  obtain ⟨V, hV⟩ : ∃ V, V = w1.alloc (.cells #[.slice A2 x.from_.length c2, .slice B2 x.order.length d2] 27) := ⟨_, rfl⟩
  have bT : Box2 V w1.heap.size (.slice A2 x.from_.length c2) (.slice B2 x.order.length d2) := by rw [hV]; exact Box2.new _ _ _ _
  have hB1 : Below w.heap.size w V := by rw [hV]; exact hb1.alloc hb1.size _
  have hlV : Le (above w.heap.size w1) V := by rw [hV]; exact (Le.above _ _).trans (Le.alloc _ _)
  have S1 : XtS V w1.heap.size A1 c1 p A2 c2 B2 d2 x := ⟨(PrgQ.le hps hlV).1, hx.le hlV, bT.c0, bT.c1⟩
  have HS1 := Lib.hid S1
  have himpl := fun (y : Ex) (hy : wX y ≤ 1048576) W (hp : PrgS W (.slice A1 p.length c1) p) A3 B3 c3 d3 (hx : RepX W A3 c3 B3 d3 y) => implFmt_any p hl Hls.out y hy W _ A3 B3 c3 d3 hp hx
  have hspec := fun W (S : XtS W w1.heap.size A1 c1 p A2 c2 B2 d2 x) => specFmt_any p hl x W _ A2 B2 c2 d2 S.hp S.hx
  have hca := fun W (S : XtS W w1.heap.size A1 c1 p A2 c2 B2 d2 x) => implCand_any p hl Hls.out x W _ A2 B2 c2 d2 S.hp S.hx hwx
  have him0 := himpl x hwx V S1.hp A2 B2 c2 d2 S1.hx
  obtain ⟨s0, s1, s2⟩ := S1.all
  have hlx := hx.1.len
  have hly := hx.2.len
  clear hps hx hdr hfew bT S1 hlV
  cases hv : candB p x
  · have hO : fmtO p x = ⟨#[]⟩ := by unfold fmtO; rw [hv]; rfl
    rw [hO] at him0
    simp only [hO] at hspec
    simp only [hv] at hca
    have Hspec := Lib.hid hspec
    have Hca := Lib.hid hca
    clear hv hO himpl hspec hca
    go_wp2_with fail
    try rw [← hV]
    clear hV
    refine him0.mono ?_
    rintro e2 w2 ⟨rfl, hb2⟩
    have hB2 := hB1.trans (hb2.mono hB1.size)
    have HS2 := Lib.hid (HS1.out.le (Le.below hb2))
    clear s0 s1 s2 HS1 him0
    obtain ⟨s0, s1, s2⟩ := HS2.out.all
    go_wp2_with fail
    refine (Hspec.out w2 HS2.out).mono ?_
    rintro e3 w3 ⟨rfl, hb3⟩
    have hB3 := hB2.trans (hb3.mono hB2.size)
    have HS3 := Lib.hid (HS2.out.le (Le.below hb3))
    clear s0 s1 s2 HS2
    obtain ⟨s0, s1, s2⟩ := HS3.out.all
    go_wp2_with fail
    refine (Hca.out w3 HS3.out).mono ?_
    rintro e4 w4 ⟨rfl, hb4⟩
    have hB4 := hB3.trans (hb4.mono hB3.size)
    have HS4 := Lib.hid (HS3.out.le (Le.below hb4))
    clear s0 s1 s2 HS3
    obtain ⟨s0, s1, s2⟩ := HS4.out.all
    go_wp2_with fail
    refine (Hspec.out w4 HS4.out).mono ?_
    rintro e5 w5 ⟨rfl, hb5⟩
    have hB5 := hB4.trans (hb5.mono hB4.size)
    have HS5 := Lib.hid (HS4.out.le (Le.below hb5))
    clear s0 s1 s2 HS4
    obtain ⟨s0, s1, s2⟩ := HS5.out.all
    go_wp2_with fail
    refine (Hca.out w5 HS5.out).mono ?_
    rintro e6 w6 ⟨rfl, hb6⟩
    have hB6 := hB5.trans (hb6.mono hB5.size)
    go_wp2_with fail
    go_ret
    exact ⟨rfl, hB6⟩
  · have hok : CandOk p x := candB_iff.1 hv
    have hO : fmtO p x = fmtB x := by unfold fmtO; rw [hv]; rfl
    have hne := str_ne_nil (fmtB_ne hok)
    rw [hO] at him0
    simp only [hO] at hspec
    simp only [hv] at hca
    have Hspec := Lib.hid hspec
    have Hca := Lib.hid hca
    have Hfm : Hid (∀ y ∈ allO p, ∀ W, PrgS W (.slice A1 p.length c1) p → ∀ A3 B3 c3 d3, RepX W A3 c3 B3 d3 y → Calls Tryz.prog 43 #[.slice A1 p.length c1, .agg #[.slice A3 y.from_.length c3, .slice B3 y.order.length d3]] W (RetS W (fmtB y))) := fun y hy W hp A3 B3 c3 d3 hx => by
      have hoy := mem_allO.1 hy
      have h := himpl y (cand_wXt hoy) W hp A3 B3 c3 d3 hx
      rwa [show fmtO p y = fmtB y from by unfold fmtO; rw [candB_iff.2 hoy]; rfl] at h
    have Hts : Hid (∀ y ∈ allO p, ((fmtB y).toList == (fmtB x).toList) = eqB y x) := fun y hy => txt_same hok (mem_allO.1 hy)
    have Hall := Lib.hid fun W (hp : PrgS W (.slice A1 p.length c1) p) => implAll_any p hl Hls.out W _ hp
    clear himpl hspec hca hO hv hok
    generalize fmtB x = T at hne him0 Hspec Hts
    go_wp2_with fail
    try rw [← hV]
    clear hV
    refine him0.mono ?_
    rintro e2 w2 ⟨rfl, hb2⟩
    have hB2 := hB1.trans (hb2.mono hB1.size)
    have HS2 := Lib.hid (HS1.out.le (Le.below hb2))
    clear s0 s1 s2 HS1 him0
    obtain ⟨s0, s1, s2⟩ := HS2.out.all
    go_wp2_with fail
    refine (Hspec.out w2 HS2.out).mono ?_
    rintro e3 w3 ⟨rfl, hb3⟩
    have hB3 := hB2.trans (hb3.mono hB2.size)
    have HS3 := Lib.hid (HS2.out.le (Le.below hb3))
    clear s0 s1 s2 HS2
    obtain ⟨s0, s1, s2⟩ := HS3.out.all
    go_wp2_with fail
    refine (Hca.out w3 HS3.out).mono ?_
    rintro e4 w4 ⟨rfl, hb4⟩
    have hB4 := hB3.trans (hb4.mono hB3.size)
    have HS4 := Lib.hid (HS3.out.le (Le.below hb4))
    clear s0 s1 s2 HS3
    go_wp2_with fail
    refine (Hall.out w4 HS4.out.hp).mono ?_
    rintro e5 w5 ⟨v5, F5, rfl, ho5, _, _, hb5⟩
    have hB5 := hB4.trans (hb5.mono hB4.size)
    have HS5 := Lib.hid (HS4.out.le (Le.below hb5))
    have hx5 := ho5.exS0
    obtain ⟨A5, c5, rfl, hm5⟩ := hx5.slice
    have hlen5 : (allO p).length ≤ 9223372036854775807 := hm5
    have HB5 := Lib.hid hB5
    have Hx5 := Lib.hid hx5
    clear ho5 hb5 HS4 Hall Hspec Hca hx5
    generalize allO p = xs at Hx5 Hfm Hts hlen5 hm5 ⊢
    go_wp2_with fail
    go_loopg [7] xs.length (fun g s7 wr => ∃ i : Nat, i ≤ xs.length ∧ g = xs.length - i ∧ s7 = .int .i64 i ∧ Below w5.heap.size w5 wr)
    case atStart => exact ⟨0, Nat.zero_le _, rfl, rfl, Below.refl _ _⟩
    case round =>
      obtain ⟨i, hi, rfl, rfl, hb⟩ := hrel
      have HSr := Lib.hid (HS5.out.le (Le.below hb))
      obtain ⟨s0, s1, s2⟩ := HSr.out.all
      by_cases hlt : i < xs.length ∧ i < 60
      · obtain ⟨hlt, h60⟩ := hlt
        have q1 : decide ((i : Int) < (xs.length : Int)) = true := by rw [decide_eq_true_iff]; omega
        have q2 : decide ((i : Int) < 60) = true := by rw [decide_eq_true_iff]; omega
        obtain ⟨b, o, Ai, ci, Bi, di, rfl, hbl, k0, k1, hxi⟩ := (ExS.le Hx5.out (Le.below hb)).get hlt
        have hmi := List.getElem_mem hlt
        have hil : (i : Int) < (xs.length : Int) := by omega
        have hts := Hts.out _ hmi
        have r1 := fun W (h : Below wr.heap.size wr W) => RetS.op (Hfm.out _ hmi W (PrgS.le HSr.out.hp (Le.below h)) Ai Bi ci di (hxi.le (Le.below h)))
        have r2 := fun W (h : Below wr.heap.size wr W) => RetB.opX (execSame_any xs[i] x W Ai Bi A2 B2 ci di c2 d2 (hxi.le (Le.below h)) (HSr.out.hx.le (Le.below h)))
        have f0 := fun n : Ext wr => n.le _ _ k0
        have f1 := fun n : Ext wr => n.le _ _ k1
        have f2 := fun n : Ext wr => n.le _ _ s0
        have f3 := fun n : Ext wr => n.le _ _ s1
        generalize fmtB xs[i] = F at r1 hts
        cases he : eqB xs[i] x
        all_goals
          rw [he] at hts
          simp only [he] at r2
          have R1 := Lib.hid r1
          have R2 := Lib.hid r2
          clear r1 r2 he hxi k0 k1 s0 s1 hmi
          go_wp2_with fail
          refine wp_region_ext _ (by kernel_rfl) (by kernel_rfl) (Below.refl _ _) ?_
          repeat (go_big_quiet_step ((first | (go_at_call 43; with_reducible exact Ext.call _ R1.out) | (go_at_call 46; with_reducible exact Ext.call _ R2.out))))
          refine wpQuiet_nil ?_
          rintro wn ⟨⟨_, hbn⟩, rfl⟩
          have hBn : Below w5.heap.size w5 wn := hb.trans (hbn.mono hb.size)
          clear R1 R2 f0 f1 f2 f3 hbn hb
          go_wp2_with fail
          go_roundg (xs.length - (i + 1))
          case measure => omega
          case rel => exact ⟨i + 1, by omega, rfl, by go_num, hBn⟩
      · have hor : (decide ((i : Int) < (xs.length : Int)) = true ∧ decide ((i : Int) < 60) = false) ∨ i = xs.length := by
          by_cases h : i < xs.length
          · refine .inl ⟨?_, ?_⟩
            · rw [decide_eq_true_iff]; omega
            · rw [decide_eq_false_iff_not]; omega
          · exact .inr (by omega)
        have hBr := HB5.out.trans (hb.mono HB5.out.size)
        have hds := Hds.out wr (Le.below hBr)
        clear hlt hb
        rcases hor with ⟨q1, q2⟩ | rfl
        all_goals (go_wp2_with fail)
        all_goals
          refine hds.mono ?_
          rintro e6 w6 ⟨xa, xb, A6, c6, B6, d6, A7, c7, B7, d7, rfl, hxa, hxb, _, _, hb6⟩
          clear hds
          obtain ⟨V6, hV6⟩ : ∃ V6, V6 = (w6.alloc (.cells #[.slice A6 xa.from_.length c6, .slice B6 xa.order.length d6] 27)).alloc (.cells #[.slice A7 xb.from_.length c7, .slice B7 xb.order.length d7] 27) := ⟨_, rfl⟩
          have hBw6 := hBr.trans (hb6.mono hBr.size)
          have hB6 : Below w.heap.size w V6 := by rw [hV6]; exact (hBw6.alloc hBw6.size _).alloc (by have := hBw6.size; simp; omega) _
          have hlV6 : Le w6 V6 := by rw [hV6]; exact (Le.alloc _ _).trans (Le.alloc _ _)
          have oA := (Own.new w6 27 #[.slice A6 xa.from_.length c6, .slice B6 xa.order.length d6]).alloc (.cells #[.slice A7 xb.from_.length c7, .slice B7 xb.order.length d7] 27)
          have oB : Own V6 (w6.heap.size + 1) 27 #[.slice A7 xb.from_.length c7, .slice B7 xb.order.length d7] := by rw [hV6]; simpa using Own.new (w6.alloc (.cells #[.slice A6 xa.from_.length c6, .slice B6 xa.order.length d6] 27)) 27 #[.slice A7 xb.from_.length c7, .slice B7 xb.order.length d7]
          rw [← hV6] at oA
          have HX : Hid (∀ W, Le V6 W → RepX W A6 c6 B6 d6 xa ∧ RepX W A7 c7 B7 d7 xb ∧ W.cell? ⟨w6.heap.size, 0, none⟩ = some (.slice A6 xa.from_.length c6) ∧ W.cell? ⟨w6.heap.size, 1, none⟩ = some (.slice B6 xa.order.length d6) ∧ W.cell? ⟨w6.heap.size + 1, 0, none⟩ = some (.slice A7 xb.from_.length c7) ∧ W.cell? ⟨w6.heap.size + 1, 1, none⟩ = some (.slice B7 xb.order.length d7)) := fun W hl =>
            ⟨hxa.le ((Le.above _ _).trans (hlV6.trans hl)), hxb.le ((Le.above _ _).trans (hlV6.trans hl)), hl _ _ (oA.cell (i := 0) rfl), hl _ _ (oA.cell (i := 1) rfl), hl _ _ (oB.cell (i := 0) rfl), hl _ _ (oB.cell (i := 1) rfl)⟩
          have hla := hxa.1.len
          have hlb := hxa.2.len
          have hlc := hxb.1.len
          have hld := hxb.2.len
          clear oA oB hxa hxb hlV6 hb6
          obtain ⟨a6, b6, t0, t1, t2, t3⟩ := HX.out V6 (Le.refl _)
          have r1 := execSame_any xa xb V6 A6 B6 A7 B7 c6 d6 c7 d7 a6 b6
          have HY : Hid (∀ W, Le V6 W → Calls Tryz.prog 48 #[.agg #[.slice A6 xa.from_.length c6, .slice B6 xa.order.length d6], .agg #[.slice A7 xb.from_.length c7, .slice B7 xb.order.length d7]] W (RetB W (eqB xa xb)) ∧ Calls Tryz.prog 46 #[.agg #[.slice A7 xb.from_.length c7, .slice B7 xb.order.length d7], .agg #[.slice A6 xa.from_.length c6, .slice B6 xa.order.length d6]] W (RetB W (eqB xa xb)) ∧ Calls Tryz.prog 46 #[.agg #[.slice A6 xa.from_.length c6, .slice B6 xa.order.length d6], .agg #[.slice A6 xa.from_.length c6, .slice B6 xa.order.length d6]] W (RetB W true)) := fun W hl => by
            obtain ⟨ha, hb, _⟩ := HX.out W hl
            have e1 := execSame_any xb xa W A7 B7 A6 B6 c7 d7 c6 d6 hb ha
            have e2 := execSame_any xa xa W A6 B6 A6 B6 c6 d6 c6 d6 ha ha
            rw [eqB_comm] at e1
            rw [eqB_self] at e2
            exact ⟨specX_any xa xb W A6 B6 A7 B7 c6 d6 c7 d7 ha hb, e1, e2⟩
          clear a6 b6
          go_wp2_with fail
          rw [← hV6]
          clear hV6
          refine r1.mono ?_
          rintro e8 w8 ⟨rfl, hb8⟩
          have hB8 := hB6.trans (hb8.mono hB6.size)
          have hl8 := Le.below hb8
          clear t0 t1 t2 t3 r1 hb8
          obtain ⟨_, _, t0, t1, t2, t3⟩ := HX.out w8 hl8
          have r2 := (HY.out w8 hl8).1
          generalize eqB xa xb = b at r2 HY ⊢
          cases b
          all_goals
            go_wp2_with fail
            refine r2.mono ?_
            rintro e9 w9 ⟨rfl, hb9⟩
            have hB9 := hB8.trans (hb9.mono hB8.size)
            have hl9 := hl8.trans (Le.below hb9)
            have r3 := (HY.out w9 hl9).2.1
            clear t0 t1 t2 t3 r2 hb9
            obtain ⟨_, _, t0, t1, t2, t3⟩ := HX.out w9 hl9
            go_wp2_with fail
            refine r3.mono ?_
            rintro e10 w10 ⟨rfl, hb10⟩
            have hB10 := hB9.trans (hb10.mono hB9.size)
            have hl10 := hl9.trans (Le.below hb10)
            have r4 := (HY.out w10 hl10).2.2
            clear t0 t1 t2 t3 r3 hb10
            obtain ⟨_, _, t0, t1, t2, t3⟩ := HX.out w10 hl10
            go_wp2_with fail
            refine r4.mono ?_
            rintro e11 w11 ⟨rfl, hb11⟩
            go_wp2_with fail
            go_ret
            exact ⟨rfl, hB10.trans (hb11.mono hB10.size)⟩

end Go.Proofs.YtfgpbnncdfcjjaaGreatDoor
