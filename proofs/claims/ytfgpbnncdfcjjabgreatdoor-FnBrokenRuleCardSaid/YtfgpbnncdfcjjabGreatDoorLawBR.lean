/-
  The walk of FnBrokenRule: it answers true.
-/
import Derived.Test.YtfgpbnncdfcjjabGreatDoorBuA
namespace Go.Proofs.YtfgpbnncdfcjjabGreatDoor
open Go.RowKit
set_option linter.unusedVariables false
set_option maxRecDepth 100000

theorem RetIB.op {P : Program} {f : FuncId} {args : Array Value} {w : World} {k : Int} {b : Bool} (h : Calls P f args w (RetIB w k b)) : Calls P f args w fun e w' => e = .returned (.tuple #[.int .i64 k, .bool b]) ∧ Below w.heap.size w w' := h

set_option maxHeartbeats 1500000 in
theorem lawBR_walk (w : World) (A : Option Addr) (n c : Nat) (h : Bys w A n) (hnc : n ≤ c) (hA : A = none → n = 0) (hg : GN w) :
    Calls Tryz.prog 4 #[.slice A n c] w (RetB w true) := by
  have hdr := drawBR_any w A n c h hnc hA
  have hn := h.1
  clear h
  go_enter Tryz.func4, Tryz.ntmps4
  by_cases hsz : (1048576 : Int) < (n : Int)
  · have hd : decide ((n : Int) > 1048576) = true := by simpa using hsz
    go_wp2_with fail
    go_ret
    exact ⟨rfl, Below.refl _ _⟩
  have hd : decide ((n : Int) > 1048576) = false := by simpa using hsz
  go_wp2_with fail
  refine hdr.mono ?_
  rintro e1 w1 ⟨p, x, ms, v1, A2, c2, B2, d2, vm, rfl, hps, hx, hms, hml, hcn, hcap, hfew, hwx, hb1⟩
  obtain ⟨A1, c1, rfl, _⟩ := hps.1.slice
  obtain ⟨A4, c4, rfl, _⟩ := hms.slice
  have hcap4 : ms.length ≤ c4 := hcap _ _ _ rfl
  have hl : p.length ≤ 1048576 := by have := hfew.1; omega
  have Hls := Lib.hid (hfew.mil (by omega))
  obtain ⟨V, hV⟩ : ∃ V, V = w1.alloc (.cells #[.slice A2 x.from_.length c2, .slice B2 x.order.length d2] 34) := ⟨_, rfl⟩
  have bT : Box2 V w1.heap.size (.slice A2 x.from_.length c2) (.slice B2 x.order.length d2) := by rw [hV]; exact Box2.new _ _ _ _
  have hB1 : Below w.heap.size w V := by rw [hV]; exact hb1.alloc hb1.size _
  have hlV : Le (above w.heap.size w1) V := by rw [hV]; exact (Le.above _ _).trans (Le.alloc _ _)
  have S1 : BuS V w1.heap.size A1 c1 p A2 c2 B2 d2 x A4 c4 ms := ⟨(PrgQ.le hps hlV).1, (PrgQ.le hps hlV).2, hx.le hlV, RepUs.le hms hlV, hg.le (Le.below hB1), bT.c0, bT.c1⟩
  have HS1 := Lib.hid S1
  have Hsp := Lib.hid fun W (S : BuS W w1.heap.size A1 c1 p A2 c2 B2 d2 x A4 c4 ms) => S.spec hl hcn
  have Him := Lib.hid fun W (S : BuS W w1.heap.size A1 c1 p A2 c2 B2 d2 x A4 c4 ms) => S.impl hl Hls.out hwx
  have Hcv := Lib.hid fun W (S : BuS W w1.heap.size A1 c1 p A2 c2 B2 d2 x A4 c4 ms) => implCand_any p hl Hls.out x W _ A2 B2 c2 d2 S.hp S.hx hwx
  have Hmv := Lib.hid fun W (S : BuS W w1.heap.size A1 c1 p A2 c2 B2 d2 x A4 c4 ms) => modValid_any ms W _ S.hg S.hm
  have Htk := Lib.hid fun (m : Nat) (hm : m ≤ ms.length) W (S : BuS W w1.heap.size A1 c1 p A2 c2 B2 d2 x A4 c4 ms) => implBR_any p hl Hls.out x hwx (ms.take m) W _ _ A2 B2 c2 d2 S.hg S.hp S.hr S.hx (S.hm.take hm)
  have hlx := hx.1.len
  have hly := hx.2.len
  obtain ⟨s0, s1, s2⟩ := S1.all
  clear hps hx hdr hfew bT S1 hlV hms hcap hcn hg
  go_wp2_with fail
  try rw [← hV]
  clear hV
  refine (Him.out V HS1.out).mono ?_
  rintro e2 w2 ⟨rfl, hb2⟩
  have hB2 := hB1.trans (hb2.mono hB1.size)
  have HS2 := Lib.hid (HS1.out.le (Le.below hb2))
  clear s0 s1 s2 HS1 Him
  obtain ⟨s0, s1, s2⟩ := HS2.out.all
  go_wp2_with fail
  refine (Hsp.out w2 HS2.out).mono ?_
  rintro e3 w3 ⟨rfl, hb3⟩
  have hB3 := hB2.trans (hb3.mono hB2.size)
  have HS3 := Lib.hid (HS2.out.le (Le.below hb3))
  clear s0 s1 s2 HS2 Hsp
  obtain ⟨s0, s1, s2⟩ := HS3.out.all
  have Hcv3 := Hcv.out w3 HS3.out
  cases hc : candB p x
  · rw [hc] at Hcv3
    rw [brO_of hc rfl, Bool.false_and, brI_not (by rw [hc]; rfl)]
    clear hc
    go_wp2_with fail
    refine Hcv3.mono ?_
    rintro e4 w4 ⟨rfl, hb4⟩
    have hB4 := hB3.trans (hb4.mono hB3.size)
    go_wp2_with fail
    go_ret
    exact ⟨rfl, hB4⟩
  rw [hc] at Hcv3
  cases hm : mB ms
  · rw [brO_of hc hm, Bool.and_false, brI_not (by rw [hc, hm]; rfl)]
    clear hc
    go_wp2_with fail
    refine Hcv3.mono ?_
    rintro e4 w4 ⟨rfl, hb4⟩
    have hB4 := hB3.trans (hb4.mono hB3.size)
    have Hmv4 := Hmv.out w4 (HS3.out.le (Le.below hb4))
    rw [hm] at Hmv4
    clear hm
    go_wp2_with fail
    refine Hmv4.mono ?_
    rintro e5 w5 ⟨rfl, hb5⟩
    go_wp2_with fail
    go_ret
    exact ⟨rfl, hB4.trans (hb5.mono hB4.size)⟩
  rw [brO_of hc hm, Bool.and_true]
  rcases brI_range hc hm with hk | ⟨k, hk, hbr⟩
  · rw [hk]
    clear hc hk
    go_wp2_with fail
    refine Hcv3.mono ?_
    rintro e4 w4 ⟨rfl, hb4⟩
    have hB4 := hB3.trans (hb4.mono hB3.size)
    have Hmv4 := Hmv.out w4 (HS3.out.le (Le.below hb4))
    rw [hm] at Hmv4
    clear hm
    go_wp2_with fail
    refine Hmv4.mono ?_
    rintro e5 w5 ⟨rfl, hb5⟩
    go_wp2_with fail
    go_ret
    exact ⟨rfl, hB4.trans (hb5.mono hB4.size)⟩
  · obtain ⟨b4, o4, rfl, _⟩ := HS3.out.hm.news (by omega) (by omega)
    obtain ⟨t1, t2⟩ := brI_take hc hm hk hbr
    have t3 : brO p x (ms.take (k + 1)) = true := by rw [brO_of hc (mB_take hm (by omega) hk)]; rfl
    have Hc1 : Hid (∀ W, BuS W w1.heap.size A1 c1 p A2 c2 B2 d2 x (some ⟨b4, o4, none⟩) c4 ms → Calls Tryz.prog 25 #[.slice A1 p.length c1, .agg #[.slice A2 x.from_.length c2, .slice B2 x.order.length d2], .slice (some ⟨b4, o4, none⟩) (k + 1) c4] W (RetIB W (k : Int) true)) := fun W S => by
      have h := Htk.out (k + 1) hk W S
      rwa [t1, t3] at h
    have Hc0 : Hid (0 < k → ∀ W, BuS W w1.heap.size A1 c1 p A2 c2 B2 d2 x (some ⟨b4, o4, none⟩) c4 ms → Calls Tryz.prog 25 #[.slice A1 p.length c1, .agg #[.slice A2 x.from_.length c2, .slice B2 x.order.length d2], .slice (some ⟨b4, o4, none⟩) k c4] W (RetIB W (-1) true)) := fun h0 W S => by
      have h := Htk.out k (by omega) W S
      rwa [t2 h0, brO_of hc (mB_take hm h0 (by omega))] at h
    have b0 : decide ((k : Int) < 0) = false := by rw [decide_eq_false_iff_not]; omega
    have f1 : (k : Int) + 1 ≤ (ms.length : Int) := by omega
    have f2 : (ms.length : Int) ≤ (c4 : Int) := by omega
    have f3 : (k : Int) + 1 ≤ (c4 : Int) := by omega
    have f4 : k ≤ 6 := by omega
    have f5 : IntKind.i64.wrap ((k : Int) + 1) = ((k + 1 : Nat) : Int) := by rw [IntWalk.i64_in _ ⟨by omega, by omega⟩]; omega
    rw [hbr]
    clear hc hm hbr t1 t2 t3 Hcv Hmv Htk Hcv3 hk hml
    have R1 := Lib.hid fun W (hW : Below w3.heap.size w3 W) => RetIB.op (Hc1.out W (HS3.out.le (Le.below hW)))
    have f10 := fun n : Ext w3 => n.le _ _ s0
    have f11 := fun n : Ext w3 => n.le _ _ s1
    go_wp2_with fail
    refine wp_region_ext _ (by kernel_rfl) (by kernel_rfl) (Below.refl _ _) ?_
    repeat (go_big_quiet_step ((go_at_call 25; with_reducible exact Ext.call _ R1.out)))
    refine wpQuiet_nil ?_
    rintro w4 ⟨⟨_, hb4'⟩, rfl⟩
    have hB4 := hB3.trans (hb4'.mono hB3.size)
    have HS4 := Lib.hid (HS3.out.le (Le.below hb4'))
    clear s0 s1 s2 HS3 Hc1 R1 f10 f11
    obtain ⟨s0, s1, s2⟩ := HS4.out.all
    rcases Nat.eq_zero_or_pos k with rfl | h0
    · go_wp2_with fail
      go_ret
      exact ⟨rfl, hB4⟩
    · have b1 : ((k : Int) == 0) = false := by rw [beq_eq_false_iff_ne]; omega
      have f6 : (k : Int) ≤ (ms.length : Int) := by omega
      have f7 : (k : Int) ≤ (c4 : Int) := by omega
      have R2 := Lib.hid fun W (hW : Below w4.heap.size w4 W) => RetIB.op (Hc0.out h0 W (HS4.out.le (Le.below hW)))
      have f10 := fun n : Ext w4 => n.le _ _ s0
      have f11 := fun n : Ext w4 => n.le _ _ s1
      go_wp2_with fail
      refine wp_region_ext _ (by kernel_rfl) (by kernel_rfl) (Below.refl _ _) ?_
      repeat (go_big_quiet_step ((go_at_call 25; with_reducible exact Ext.call _ R2.out)))
      refine wpQuiet_nil ?_
      rintro w5 ⟨⟨_, hb5'⟩, rfl⟩
      clear f10 f11 R2
      go_wp2_with fail
      go_ret
      exact ⟨rfl, hB4.trans (hb5'.mono hB4.size)⟩

end Go.Proofs.YtfgpbnncdfcjjabGreatDoor
