/-
  The walk of FnRuleOrder: it answers true.
-/
import Derived.Test.YtfgpbnncdfcjjabGreatDoorBuA
namespace Go.Proofs.YtfgpbnncdfcjjabGreatDoor
open Go.RowKit
set_option linter.unusedVariables false
set_option maxRecDepth 100000

set_option maxHeartbeats 1500000 in
theorem lawRO_walk (w : World) (A : Option Addr) (n c : Nat) (h : Bys w A n) (hnc : n ≤ c) (hA : A = none → n = 0) (hg : GN w) :
    Calls Tryz.prog 5 #[.slice A n c] w (RetB w true) := by
  have hdr := drawBR_any w A n c h hnc hA
  have hn := h.1
  clear h
  go_enter Tryz.func5, Tryz.ntmps5
  by_cases hsz : (1048576 : Int) < (n : Int)
  · have hd : decide ((n : Int) > 1048576) = true := by simpa using hsz
    go_wp2_with fail
    go_ret
    exact ⟨rfl, Below.refl _ _⟩
  have hd : decide ((n : Int) > 1048576) = false := by simpa using hsz
  go_wp2_with fail
  refine hdr.mono ?_
  rintro e1 w1 ⟨p, x, ms, v1, A2, c2, B2, d2, vm, rfl, hps, hx, hms, hml, hcn, hcap, hfew, hwx, hb1⟩
  obtain ⟨A1, c1, rfl, _⟩ := hps.1.slice
  obtain ⟨A4, c4, rfl, _⟩ := hms.slice
  have hcap4 : ms.length ≤ c4 := hcap _ _ _ rfl
  have hl : p.length ≤ 1048576 := by have := hfew.1; omega
  have Hls := Lib.hid (hfew.mil (by omega))
  obtain ⟨V, hV⟩ : ∃ V, V = w1.alloc (.cells #[.slice A2 x.from_.length c2, .slice B2 x.order.length d2] 34) := ⟨_, rfl⟩
  have bT : Box2 V w1.heap.size (.slice A2 x.from_.length c2) (.slice B2 x.order.length d2) := by rw [hV]; exact Box2.new _ _ _ _
  have hB1 : Below w.heap.size w V := by rw [hV]; exact hb1.alloc hb1.size _
  have hlV : Le (above w.heap.size w1) V := by rw [hV]; exact (Le.above _ _).trans (Le.alloc _ _)
  have S1 : BuS V w1.heap.size A1 c1 p A2 c2 B2 d2 x A4 c4 ms := ⟨(PrgQ.le hps hlV).1, (PrgQ.le hps hlV).2, hx.le hlV, RepUs.le hms hlV, hg.le (Le.below hB1), bT.c0, bT.c1⟩
  have HS1 := Lib.hid S1
  have Hsp := Lib.hid fun W (S : BuS W w1.heap.size A1 c1 p A2 c2 B2 d2 x A4 c4 ms) => S.spec hl hcn
  have Him := Lib.hid fun W (S : BuS W w1.heap.size A1 c1 p A2 c2 B2 d2 x A4 c4 ms) => S.impl hl Hls.out hwx
  have Hbk := Lib.hid fun (Ab : Option Addr) (cb : Nat) W (S : BuS W w1.heap.size A1 c1 p A2 c2 B2 d2 x A4 c4 ms) (hb : SlR 4 RepU W (.slice Ab ms.reverse.length cb) ms.reverse) => implBR_any p hl Hls.out x hwx ms.reverse W _ _ A2 B2 c2 d2 S.hg S.hp S.hr S.hx hb
  have hlx := hx.1.len
  have hly := hx.2.len
  obtain ⟨s0, s1, s2⟩ := S1.all
  clear hps hx hdr hfew bT S1 hlV hms hcap hcn hg
  go_wp2_with fail
  try rw [← hV]
  clear hV
  refine (Him.out V HS1.out).mono ?_
  rintro e2 w2 ⟨rfl, hb2⟩
  have hB2 := hB1.trans (hb2.mono hB1.size)
  have HS2 := Lib.hid (HS1.out.le (Le.below hb2))
  clear s0 s1 s2 HS1 Him
  obtain ⟨s0, s1, s2⟩ := HS2.out.all
  go_wp2_with fail
  refine (Hsp.out w2 HS2.out).mono ?_
  rintro e3 w3 ⟨rfl, hb3⟩
  have hB3 := hB2.trans (hb3.mono hB2.size)
  have HS3 := Lib.hid (HS2.out.le (Le.below hb3))
  clear s0 s1 s2 HS2 Hsp
  obtain ⟨s0, s1, s2⟩ := HS3.out.all
  cases hcm : candB p x && mB ms
  · rw [show brO p x ms = false from hcm, brI_not hcm]
    clear hcm
    go_wp2_with fail
    go_ret
    exact ⟨rfl, hB3⟩
  obtain ⟨hc, hm⟩ := Bool.and_eq_true_iff.1 hcm
  rw [show brO p x ms = true from hcm]
  have Hm := Lib.hid (brI_rev hc hm)
  generalize brI p x ms = kk at Hm ⊢
  obtain ⟨i0, hi0, hz0, hz1, hz2⟩ := info_parts Tryz.infoRU
  have hq : ∀ (f g : Nat → Value) (x : RU), (∀ j, j < 4 → f j = g j) → RepU w3 f x → RepU w3 g x := fun f g x h hx => hx.congr h
  have hq1 : ∀ (cs : Nat → Value) (x : RU), RepU w3 cs x → ∀ j, j < 4 → (cs j).oneCell' = true := fun cs x hx j hj => by
    obtain ⟨A, c, h0, h1, h2, h3, h4⟩ := repU_K.1 hx
    rcases (show j = 0 ∨ j = 1 ∨ j = 2 ∨ j = 3 by omega) with rfl | rfl | rfl | rfl
    · rw [h0]; rfl
    · rw [h1]; rfl
    · rw [h2]; rfl
    · rw [h3]; rfl
  have Hq := Lib.hid (And.intro hq hq1)
  have hrow0 : Hid (RowOf 4 (RepU w3) (w3.alloc (.cells #[] 59)) w3.heap.size 59 (.slice (some ⟨w3.heap.size, 0, none⟩) 0 0) []) := RowOf.made _ (Own.new w3 _ _) (Nat.le_refl _)
  clear hcm hc hm hq hq1
  go_wp2_with fail
  go_loopg [10, 11] ms.length (fun g sb si wr => ∃ (i : Nat) (v : Value), i ≤ ms.length ∧ g = i ∧ v = sb ∧ si = .int .i64 ((i : Int) - 1) ∧ Hid (RowOf 4 (RepU w3) wr w3.heap.size 59 v (ms.drop i).reverse) ∧ Below w3.heap.size w3 wr)
  case atStart => exact ⟨ms.length, _, Nat.le_refl _, rfl, rfl, by go_num, (by rw [List.drop_length, List.reverse_nil]; exact hrow0.out), (Below.refl _ _).alloc (Nat.le_refl _) _⟩
  case round =>
    clear hrow0 s0 s1 s2
    obtain ⟨i, v, hi, hgi, rfl, rfl, hrow, hb⟩ := hrel
    have hsr := hb.size
    have HS := Lib.hid (HS3.out.le (Le.below hb))
    obtain ⟨s0, s1, s2⟩ := HS.out.all
    cases i with
    | zero =>
      have hsl : SlR 4 RepU wr v ms.reverse := RowOf.slR (R := RepU) (by omega) (show RowOf 4 (RepU w3) wr w3.heap.size 59 v ms.reverse from hrow.out) (fun cs x hx => RepU.le (Le.below hb) hx) (Le.above _ _)
      obtain ⟨Ab, cb, rfl, _⟩ := hsl.slice
      have hcall := Hbk.out Ab cb wr HS.out hsl
      rw [List.length_reverse] at hcall ⊢
      have hBr := hB3.trans (hb.mono hB3.size)
      clear hrow hsl
      go_wp2_with fail
      refine hcall.mono ?_
      rintro e4 w4 ⟨rfl, hb4⟩
      rw [Hm.out.1]
      have hB4 := hBr.trans (hb4.mono hBr.size)
      clear hcall
      go_wp2_with fail
      go_ret
      have h2 := Hm.out.2
      refine ⟨ret_bool ?_, hB4⟩
      by_cases e : kk = -1
      · rw [e, h2.2 e]; rfl
      · have e' : ¬ brI p x ms.reverse = -1 := fun h => e (h2.1 h)
        rw [beq_eq_false_iff_ne.2 e, beq_eq_false_iff_ne.2 e']; rfl
    | succ j =>
      have hj : j < ms.length := by omega
      obtain ⟨b, o, A', c', rfl, hbl, k0, k1, k2, k3, hk⟩ := RepUs.get HS.out.hm hj
      have hd0 : decide ((j : Int) ≥ 0) = true := by rw [decide_eq_true_iff]; omega
      have hd1 : ((j + 1 : Nat) : Int) - 1 = (j : Int) := by omega
      have hlen : (ms.drop (j + 1)).reverse.length ≤ 6 := by rw [List.length_reverse, List.length_drop]; omega
      have hone : Hid (SlR 4 (fun _ => RepU w3) (wr.alloc (.cells #[.int .i64 ms[j].kind, .int .i64 ms[j].e.op, .string ms[j].e.name, .slice A' ms[j].e.kids.length c'] 59)) (.slice (some ⟨wr.heap.size, 0, none⟩) 1 1) [ms[j]]) := by
        have hk3 : RepU w3 (fun q => #[Value.int .i64 ms[j].kind, .int .i64 ms[j].e.op, .string ms[j].e.name, .slice A' ms[j].e.kids.length c'].toList.getD q undef) ms[j] := by
          obtain ⟨b', o', A3, c3, e3, _, q0, q1, q2, q3, hk3⟩ := RepUs.get HS3.out.hm hj
          injection e3 with e3
          injection e3 with e31 e32
          subst e31 e32
          have := Le.below hb _ _ q3
          rw [k3] at this
          injection this with this
          injection this with t1 t2 t3
          subst t1 t3
          exact repU_K.2 ⟨_, _, rfl, rfl, rfl, rfl, hk3⟩
        refine ⟨_, _, rfl, by simp, fun i hi => ?_⟩
        obtain rfl : i = 0 := by simpa using hi
        refine ⟨_, _, rfl, _, fun q hq => ?_, hk3⟩
        have ho := Own.new wr 59 #[.int .i64 ms[j].kind, .int .i64 ms[j].e.op, .string ms[j].e.name, .slice A' ms[j].e.kids.length c']
        match q, hq with
        | 0, _ => exact ho.cell (i := 0) rfl
        | 1, _ => exact ho.cell (i := 1) rfl
        | 2, _ => exact ho.cell (i := 2) rfl
        | 3, _ => exact ho.cell (i := 3) rfl
      have hdr : (ms.drop j).reverse = (ms.drop (j + 1)).reverse ++ [ms[j]] := by rw [List.drop_eq_getElem_cons hj, List.reverse_cons]
      have Hdr := Lib.hid hdr
      have HL6 := Lib.hid hlen
      have hj1 : (j : Int) < (ms.length : Int) := by omega
      generalize (ms.drop (j + 1)).reverse = ys at hrow Hdr hlen HL6
      have Hrow := Lib.hid (show RowOf 4 (RepU w3) (wr.alloc (.cells #[.int .i64 ms[j].kind, .int .i64 ms[j].e.op, .string ms[j].e.name, .slice A' ms[j].e.kids.length c'] 59)) w3.heap.size 59 v ys from RowOf.below hrow.out ((Below.refl _ _).alloc (Nat.le_refl _) _))
      have hbg : Hid (∀ g, v.ownBlock = some g → w3.heap.size ≤ g) := fun g hg => by
        obtain ⟨cs, hown, _⟩ := hrow.out
        exact owns_base' hown hg
      rw [hd1]
      clear hk hrow hdr hd1
      go_wp2_with (at_builtin; refine wpList_append_list (by rfl) _ _ _ (by rfl) Hq.out.1 (R := fun _ => RepU w3) w3.heap.size 59 i0 _ 56 Tryz.underlying36 hi0 hz0 hz1 hz2 rfl (by omega) v ys (by rfl) Hrow.out (some ⟨wr.heap.size, 0, none⟩) 1 [ms[j]] (by rfl) hone.out (fun cs y h => h) Hq.out.2 (by simp [maxLen]; omega) (by simp; omega) (by simp; omega) (wr.heap.size + 1) (by simp) ?_; intro A5 c5 w5 hrow5 hgrow5 hat5)
      rw [List.length_append, List.length_singleton] at hrow5
      have hB5 : Below w3.heap.size w3 w5 := below_of_grown (hb.alloc hsr _) hgrow5 (by simp; omega) hbg.out
      clear hgrow5 hat5
      go_wp2_with fail
      go_roundg j
      case measure => omega
      case rel => exact ⟨j, _, by omega, rfl, rfl, by go_num, by rw [Hdr.out]; exact hrow5, hB5⟩

end Go.Proofs.YtfgpbnncdfcjjabGreatDoor
