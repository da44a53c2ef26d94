/-
  The reference's source of choices: a pointer to a struct of a slice of bytes and a count. A call moves only the count, and makes new memory. The walks of l17Open, num, of, l7Draw, l7Some: what the reference draws is a valid expression of a small size. Slices that a call has made and appends to: what they hold. No program in sight. The walk of l7Mutate.
-/
import Derived.Test.YtfgpbnncdfcjjabGreatDoorRdS
import Derived.Test.YtfgpbnncdfcjjabGreatDoorRd
import Derived.Test.YtfgpbnncdfcjjabGreatDoorOwA
import Derived.Test.YtfgpbnncdfcjjabGreatDoorLib
import Derived.Test.YtfgpbnncdfcjjabGreatDoorRE
import Derived.Test.YtfgpbnncdfcjjabGreatDoorVal
import Derived.Test.YtfgpbnncdfcjjabGreatDoorWSp
import Derived.Deep.AppendLies
import Derived.OwnWalk
import Derived.Deep.RegionWith

/-! The walks of l17Open, num, of, l7Draw, l7Some: what the reference draws is a valid expression of a small size. -/
namespace Go.Proofs.YtfgpbnncdfcjjabGreatDoor
open Go.RowKit
set_option linter.unusedVariables false
set_option maxRecDepth 100000

def RetDraw (w : World) (R p d : Nat) (e : Ending) (w' : World) : Prop :=
  ∃ (x : RE) (A : Option Addr) (c : Nat) (F : List Nat) (p' : Nat), e = .returned (.agg #[.int .i64 x.op, .string x.name, .slice A x.kids.length c]) ∧ OwE w' (.slice A x.kids.length c) x.kids F ∧ (∀ b ∈ F, w.heap.size ≤ b) ∧ Shp d x ∧ cntE x < 2 ^ d ∧ Mv R w w' ∧ Rd w' R p' ∧ p' + 3 ≤ p + 4 * 2 ^ d

theorem OwE.mv' {w w' : World} {v : Value} {es : List RE} {F : List Nat} {R : Nat} (h : OwE w v es F) (m : Mv R w w') (hR : ∀ b ∈ F, b ≠ R) : OwE w' v es F := h.of_blocks fun b hb => m.block (h.lt b hb) (hR b hb)
theorem Shp.leaf {d : Nat} {s : ByteArray} (hs : s ∈ nm) : Shp (d + 1) (.mk 1 s []) := ⟨⟨rfl, ⟨fun _ => hs, fun _ => rfl⟩, fun h => absurd rfl h⟩, fun k hk => by simp [RE.kids] at hk⟩

theorem Shp.node {d : Nat} {op : Int} {kids : List RE} (h2 : 2 ≤ op) (h7 : op ≤ 7) (hk : (kids.length : Int) = kidsI op) (h : ∀ k ∈ kids, Shp d k) : Shp (d + 1) (.mk op ⟨#[]⟩ kids) :=
  ⟨⟨hk, ⟨fun e => by simp only [RE.op] at e; omega, fun e => absurd rfl (nm_let e).1⟩, fun _ => rfl⟩, h⟩
theorem RetDraw.fin1 {w V : World} {R p d p' m : Nat} {op : Int} {x : RE} {A : Option Addr} {c : Nat} {F : List Nat} (ho : OwE V (.slice A x.kids.length c) x.kids F) (hF : ∀ b ∈ F, w.heap.size ≤ b) (hnm : x.name.size ≤ 300) (hm : V.heap.size = m) (hs : Shp d (.mk op ⟨#[]⟩ [x])) (hc : cntE x + 1 < 2 ^ d) (mv : Mv R w V) (r : Rd V R p') (hp : p' + 3 ≤ p + 4 * 2 ^ d) :
    RetDraw w R p d (.returned (.agg #[.int .i64 op, .string ⟨#[]⟩, .slice (some ⟨m, 0, none⟩) 1 1])) (V.alloc (.cells #[.int .i64 x.op, .string x.name, .slice A x.kids.length c] 57)) := by
  subst hm
  refine ⟨.mk op ⟨#[]⟩ [x], _, 1, _, p', rfl, ho.one (by omega), fun b hb => ?_, hs, by rw [cntE, cntL, cntL]; omega, mv.alloc _, r.alloc _, hp⟩
  rcases List.mem_cons.1 hb with rfl | hb
  · exact mv.size
  · exact hF b hb
theorem RetDraw.fin2 {w V : World} {R p d p' m : Nat} {op : Int} {x y : RE} {A A' : Option Addr} {c c' : Nat} {F F' : List Nat} (ho : OwE V (.slice A x.kids.length c) x.kids F) (ho' : OwE V (.slice A' y.kids.length c') y.kids F') (hF : ∀ b ∈ F, w.heap.size ≤ b) (hF' : ∀ b ∈ F', w.heap.size ≤ b) (hnm : x.name.size ≤ 300) (hnm' : y.name.size ≤ 300) (hm : V.heap.size = m)
    (hs : Shp d (.mk op ⟨#[]⟩ [x, y])) (hc : cntE x + cntE y + 1 < 2 ^ d) (mv : Mv R w V) (r : Rd V R p') (hp : p' + 3 ≤ p + 4 * 2 ^ d) :
    RetDraw w R p d (.returned (.agg #[.int .i64 op, .string ⟨#[]⟩, .slice (some ⟨m, 0, none⟩) 2 2])) (V.alloc (.cells #[.int .i64 x.op, .string x.name, .slice A x.kids.length c, .int .i64 y.op, .string y.name, .slice A' y.kids.length c'] 57)) := by
  subst hm
  refine ⟨.mk op ⟨#[]⟩ [x, y], _, 2, _, p', rfl, ho.two ho' (by omega) (by omega), fun b hb => ?_, hs, by rw [cntE, cntL, cntL, cntL]; omega, mv.alloc _, r.alloc _, hp⟩
  rcases List.mem_cons.1 hb with rfl | hb
  · exact mv.size
  · rcases List.mem_append.1 hb with hb | hb
    · exact hF b hb
    · exact hF' b hb
theorem Shp.name_le {d : Nat} {x : RE} (h : Shp d x) : x.name.size ≤ 300 := by
  cases d with
  | zero => exact h.elim
  | succ d =>
    by_cases h1 : x.op = 1
    · have := size_nm (h.1.2.1.1 h1)
      omega
    · rw [h.1.2.2 h1]; decide
theorem RetDraw.fin {w W : World} {R p d p' : Nat} {x : RE} {A : Option Addr} {c : Nat} {F : List Nat} {v0 v1 v2 : Value} (hR : R < w.heap.size) (ho : OwE W (.slice A x.kids.length c) x.kids F) (hF : ∀ b ∈ F, w.heap.size < b) (hs : Shp d x) (hc : cntE x < 2 ^ d) (m : Mv R w W) (r : Rd W R p') (hp : p' + 3 ≤ p + 4 * 2 ^ d) :
    RetDraw w R p d (.returned (.agg #[.int .i64 x.op, .string x.name, .slice A x.kids.length c])) (((W.setCell ⟨w.heap.size, 0, none⟩ v0).setCell ⟨w.heap.size, 1, none⟩ v1).setCell ⟨w.heap.size, 2, none⟩ v2) := by
  have hne : ∀ b ∈ F, b ≠ w.heap.size := fun b hb => by have := hF b hb; omega
  exact ⟨x, A, c, F, p', rfl, own_setN (own_setN (own_setN ho hne _ _) hne _ _) hne _ _, fun b hb => Nat.le_of_lt (hF b hb), hs, hc, ((m.setNew (Nat.le_refl _) _).setNew (Nat.le_refl _) _).setNew (Nat.le_refl _) _, ((r.setNew hR _).setNew hR _).setNew hR _, hp⟩

set_option maxHeartbeats 2000000 in
theorem draw_of (d : Nat) (hd1 : 1 ≤ d) (hd : d ≤ 20) (ih : 2 ≤ d → ∀ (w : World) (R p : Nat), p ≤ 1100000000 - 4 * 2 ^ (d - 1) → Rd w R p → Calls Tryz.prog 94 #[.pointer (some ⟨R, 0, none⟩), .int .i64 ((d : Int) - 1)] w (RetDraw w R p (d - 1)))
    (w : World) (R p : Nat) (hp : p ≤ 1100000000 - 4 * 2 ^ d) (hr : Rd w R p) : Calls Tryz.prog 94 #[.pointer (some ⟨R, 0, none⟩), .int .i64 d] w (RetDraw w R p d) := by
  have rb := Own.new w 57 #[.int .i64 0, .string ByteArray.empty, .slice none 0 0]
  have hR := hr.lt
  have hr0 := hr.alloc (.cells #[.int .i64 0, .string ByteArray.empty, .slice none 0 0] 57)
  have hpow : 2 ^ d = 2 * 2 ^ (d - 1) := by
    obtain ⟨k, rfl⟩ : ∃ k, d = k + 1 := ⟨d - 1, by omega⟩
    rw [Nat.pow_succ, Nat.add_sub_cancel]; omega
  have hpos : 0 < 2 ^ (d - 1) := Nat.pow_pos (by omega)
  have htop : 2 ^ (d - 1) ≤ 2 ^ 19 := Nat.pow_le_pow_right (by omega) (by omega)
  go_enter Tryz.func94, Tryz.ntmps94
  go_wp2_with fail
  refine (l6Names_any _).mono ?_
  rintro e1 w1 ⟨A, c, rfl, hnm, hb1⟩
  have hm1 : Mv R w w1 := ((Mv.refl _ _).alloc _).trans (Mv.of_below hb1)
  have hr1 := hr0.below hb1
  have rb1 := rb.under hb1
  have hnm1 : Strs (above (R + 1) w1) A c nm := hnm.le (Le.above_mono (by simp; omega) _)
  clear hnm hb1 rb hr0 hr
  by_cases hd2 : d < 2
  · obtain rfl : d = 1 := by omega
    have hpk := pick_any w1 R p nm.length (by omega) hr1
    go_wp2_with fail
    refine hpk.mono ?_
    rintro e9 w9 ⟨v, rfl, h0, hlt, m9, r9⟩
    obtain ⟨i, rfl⟩ : ∃ i : Nat, v = i := ⟨v.toNat, by omega⟩
    have hi : i < nm.length := by have := hlt (by rw [show nm.length = 10 from rfl]; omega); omega
    obtain ⟨b, o, rfl, hbl, hc⟩ := (hnm1.le m9.above).get hi
    have hc' := (cell_above_lt hc).2
    have hii : (i : Int) < (nm.length : Int) := by omega
    have hmem : nm[i] ∈ nm := List.getElem_mem hi
    obtain ⟨s, hs⟩ : ∃ s, s = nm[i] := ⟨_, rfl⟩
    rw [← hs] at hc' hmem
    have MM := Lib.hid (hm1.trans m9)
    obtain ⟨r0, r1, r2, g0, g1, g2, rl⟩ := (rb1.mv m9 (by omega)).res'
    clear hlt hpk hc hbl h0 hs
    go_wp2_with fail
    refine bodyPost_ret (v := .agg #[.int .i64 1, .string s, .slice none 0 0]) (by simp [results, Tryz.results94, go_sem, r0, r1, r2]) rfl ?_
    exact RetDraw.fin (x := .mk 1 s []) hR .nil (fun b hb => by cases hb) (Shp.leaf hmem) (by rw [cntE_mk]; omega) MM.out r9 (by omega)

  have bd : decide ((d : Int) < 2) = false := by rw [decide_eq_false_iff_not]; omega
  have hpk := pick_any w1 R p 3 (by omega) hr1
  go_wp2_with fail
  refine hpk.mono ?_
  rintro e2 w2 ⟨v2, rfl, _, _, m2, hr2⟩
  have hm2 := hm1.trans m2
  have rb2 := rb1.mv m2 (by omega)
  have hnm2 := hnm1.le m2.above
  clear hpk hr1 rb1 hnm1 hm1 m2
  by_cases hv2 : v2 = 0
  · subst hv2
    obtain ⟨d', rfl⟩ : ∃ d', d = d' + 1 := ⟨d - 1, by omega⟩
    have hpk := pick_any w2 R (p + 1) nm.length (by omega) hr2
    go_wp2_with fail
    refine hpk.mono ?_
    rintro e9 w9 ⟨v, rfl, h0, hlt, m9, r9⟩
    obtain ⟨i, rfl⟩ : ∃ i : Nat, v = i := ⟨v.toNat, by omega⟩
    have hi : i < nm.length := by have := hlt (by rw [show nm.length = 10 from rfl]; omega); omega
    obtain ⟨b, o, rfl, hbl, hc⟩ := (hnm2.le m9.above).get hi
    have hc' := (cell_above_lt hc).2
    have hii : (i : Int) < (nm.length : Int) := by omega
    have hmem : nm[i] ∈ nm := List.getElem_mem hi
    obtain ⟨s, hs⟩ : ∃ s, s = nm[i] := ⟨_, rfl⟩
    rw [← hs] at hc' hmem
    have MM := Lib.hid (hm2.trans m9)
    obtain ⟨r0, r1, r2, g0, g1, g2, rl⟩ := (rb2.mv m9 (by omega)).res'
    clear hlt hpk hc hbl h0 hs
    go_wp2_with fail
    refine bodyPost_ret (v := .agg #[.int .i64 1, .string s, .slice none 0 0]) (by simp [results, Tryz.results94, go_sem, r0, r1, r2]) rfl ?_
    exact RetDraw.fin (x := .mk 1 s []) hR .nil (fun b hb => by cases hb) (Shp.leaf hmem) (by rw [cntE_mk]; omega) MM.out r9 (by omega)

  have bv2 : (v2 == 0) = false := by rw [beq_eq_false_iff_ne]; exact hv2
  have hpk := pick_any w2 R (p + 1) 4 (by omega) hr2
  go_wp2_with fail
  refine hpk.mono ?_
  rintro e3 w3 ⟨v3, rfl, _, _, m3, hr3⟩
  have hm3 := hm2.trans m3
  have rb3 := rb2.mv m3 (by omega)
  clear hpk hr2 rb2 hnm2 hm2 m3
  have hs3 := hm3.size
  by_cases hv3 : v3 = 0
  · subst hv3
    have il := Own.new w3 3 #[.int .i64 6, .int .i64 7]
    have hil : Ints (above (R + 1) (w3.alloc (.cells #[.int .i64 6, .int .i64 7] 3))) (some ⟨w3.heap.size, 0, none⟩) 2 [6, 7] := ints_lit [6, 7] il (by omega) rfl (by omega) (fun i hi => by
      match i, hi with
      | 0, _ => rfl
      | 1, _ => rfl)
    have hnum := num_any (w3.alloc (.cells #[.int .i64 6, .int .i64 7] 3)) R (p + 1 + 1) _ 2 [6, 7] (by omega) (hr3.alloc _) hil (by simp)
    have hm4 := hm3.alloc (.cells #[.int .i64 6, .int .i64 7] 3)
    have rb4 := rb3.alloc (.cells #[.int .i64 6, .int .i64 7] 3)
    clear il hil hr3 rb3 hm3
    go_wp2_with fail
    refine hnum.mono ?_
    rintro e4 w4 ⟨op, rfl, hop, m4, hr4⟩
    have hm5 := hm4.trans m4
    have rb5 := rb4.mv m4 (by omega)
    have hs5 := hm5.size
    have hl5 := rb5.lt
    have hlit : op = 6 ∨ op = 7 := by simpa using hop
    clear hnum hm4 rb4 m4 hop
    go_wp2_with fail
    refine (ih (by omega) w4 R (p + 1 + 1 + 1) (by omega) hr4).mono ?_
    rintro e5 w5 ⟨x, A5, c5, F5, p5, rfl, ho, hF, hsh, hcn, m5, hr5, hp5⟩
    have hm6 := hm5.trans m5
    obtain ⟨r0, r1, r2, g0, g1, g2, rl⟩ := (rb5.mv m5 (by omega)).res'
    have hne : ∀ b ∈ F5, b ≠ w.heap.size := fun b hb => by have := hF b hb; omega
    have hF' : ∀ b ∈ F5, w.heap.size ≤ b := fun b hb => by have := hF b hb; omega
    have hnm := hsh.name_le
    have hsh' : Shp d (.mk op ⟨#[]⟩ [x]) := by
      obtain ⟨k, rfl⟩ : ∃ k, d = k + 1 := ⟨d - 1, by omega⟩
      exact Shp.node (by omega) (by omega) (by rcases hlit with rfl | rfl <;> rfl) (fun y hy => by simp at hy; subst hy; exact hsh)
    have Hsh := Lib.hid hsh'
    clear hsh hsh' hF m5 rb5 hm5 hr4 ih
    go_wp2_with fail
    refine bodyPost_ret (v := .agg #[.int .i64 op, .string ⟨#[]⟩, .slice (some ⟨w5.heap.size, 0, none⟩) 1 1]) (by simp [results, Tryz.results94, go_sem, r0, r1, r2, rl, World.cell?_alloc_lt]) rfl ?_
    exact RetDraw.fin1 (own_setN (own_setN (own_setN ho hne _ _) hne _ _) hne _ _) hF' hnm (by simp [World.setCell]) Hsh.out (by omega) (((hm6.setNew (Nat.le_refl _) _).setNew (Nat.le_refl _) _).setNew (Nat.le_refl _) _) (((hr5.setNew hR _).setNew hR _).setNew hR _) (by omega)
  have bv3 : (v3 == 0) = false := by rw [beq_eq_false_iff_ne]; exact hv3
  have il := Own.new w3 3 #[.int .i64 2, .int .i64 3, .int .i64 4, .int .i64 5]
  have hil : Ints (above (R + 1) (w3.alloc (.cells #[.int .i64 2, .int .i64 3, .int .i64 4, .int .i64 5] 3))) (some ⟨w3.heap.size, 0, none⟩) 4 [2, 3, 4, 5] := ints_lit [2, 3, 4, 5] il (by omega) rfl (by omega) (fun i hi => by
    match i, hi with
    | 0, _ => rfl
    | 1, _ => rfl
    | 2, _ => rfl
    | 3, _ => rfl)
  have hnum := num_any (w3.alloc (.cells #[.int .i64 2, .int .i64 3, .int .i64 4, .int .i64 5] 3)) R (p + 1 + 1) _ 4 [2, 3, 4, 5] (by omega) (hr3.alloc _) hil (by simp)
  have hm4 := hm3.alloc (.cells #[.int .i64 2, .int .i64 3, .int .i64 4, .int .i64 5] 3)
  have rb4 := rb3.alloc (.cells #[.int .i64 2, .int .i64 3, .int .i64 4, .int .i64 5] 3)
  clear il hil hr3 rb3 hm3
  go_wp2_with fail
  refine hnum.mono ?_
  rintro e4 w4 ⟨op, rfl, hop, m4, hr4⟩
  have hm5 := hm4.trans m4
  have rb5 := rb4.mv m4 (by omega)
  have hs5 := hm5.size
  have hl5 := rb5.lt
  have hlit : op = 2 ∨ op = 3 ∨ op = 4 ∨ op = 5 := by simpa using hop
  clear hnum hm4 rb4 m4 hop
  go_wp2_with fail
  refine (ih (by omega) w4 R (p + 1 + 1 + 1) (by omega) hr4).mono ?_
  rintro e5 w5 ⟨x, A5, c5, F5, p5, rfl, ho, hF, hsh, hcn, m5, hr5, hp5⟩
  have hm6 := hm5.trans m5
  have rb6 := rb5.mv m5 (by omega)
  have hs6 := m5.size
  clear rb5 hm5 hr4 m5
  go_wp2_with fail
  refine (ih (by omega) w5 R p5 (by omega) hr5).mono ?_
  rintro e6 w6 ⟨y, A6, c6, F6, p6, rfl, ho6, hF6, hsh6, hcn6, m6, hr6, hp6⟩
  have hm7 := hm6.trans m6
  have ho5 := ho.mv' m6 (fun b hb => by have := hF b hb; omega)
  obtain ⟨r0, r1, r2, g0, g1, g2, rl⟩ := (rb6.mv m6 (by omega)).res'
  have hne : ∀ b ∈ F5, b ≠ w.heap.size := fun b hb => by have := hF b hb; omega
  have hF' : ∀ b ∈ F5, w.heap.size ≤ b := fun b hb => by have := hF b hb; omega
  have hne6 : ∀ b ∈ F6, b ≠ w.heap.size := fun b hb => by have := hF6 b hb; omega
  have hF6' : ∀ b ∈ F6, w.heap.size ≤ b := fun b hb => by have := hF6 b hb; omega
  have hnm := hsh.name_le
  have hnm6 := hsh6.name_le
  have hsh' : Shp d (.mk op ⟨#[]⟩ [x, y]) := by
    obtain ⟨k, rfl⟩ : ∃ k, d = k + 1 := ⟨d - 1, by omega⟩
    exact Shp.node (by omega) (by omega) (by rcases hlit with rfl | rfl | rfl | rfl <;> rfl) (fun z hz => by
      simp at hz
      rcases hz with rfl | rfl
      · exact hsh
      · exact hsh6)
  have Hsh := Lib.hid hsh'
  clear hsh hsh6 hsh' hF hF6 m6 rb6 hm6 hr5 ih ho
  go_wp2_with fail
  refine bodyPost_ret (v := .agg #[.int .i64 op, .string ⟨#[]⟩, .slice (some ⟨w6.heap.size, 0, none⟩) 2 2]) (by simp [results, Tryz.results94, go_sem, r0, r1, r2, rl, World.cell?_alloc_lt]) rfl ?_
  exact RetDraw.fin2 (own_setN (own_setN (own_setN ho5 hne _ _) hne _ _) hne _ _) (own_setN (own_setN (own_setN ho6 hne6 _ _) hne6 _ _) hne6 _ _) hF' hF6' hnm hnm6 (by simp [World.setCell]) Hsh.out (by omega) (((hm7.setNew (Nat.le_refl _) _).setNew (Nat.le_refl _) _).setNew (Nat.le_refl _) _) (((hr6.setNew hR _).setNew hR _).setNew hR _) (by omega)

theorem draw_any (d : Nat) : ∀ (hd1 : 1 ≤ d) (hd : d ≤ 20) (w : World) (R p : Nat), p ≤ 1100000000 - 4 * 2 ^ d → Rd w R p → Calls Tryz.prog 94 #[.pointer (some ⟨R, 0, none⟩), .int .i64 d] w (RetDraw w R p d) := by
  induction d with
  | zero => intro h; omega
  | succ d ih =>
    intro hd1 hd w R p hp hr
    refine draw_of (d + 1) hd1 hd (fun h2 w R p hp hr => ?_) w R p hp hr
    have := ih (by omega) (by omega) w R p hp hr
    rw [show ((d + 1 : Nat) : Int) - 1 = d by omega]
    exact this

/-- What l7Some hands back: a valid expression of a small size. -/
def RetSome (w : World) (R p b : Nat) (e : Ending) (w' : World) : Prop :=
  ∃ (x : RE) (A : Option Addr) (c : Nat) (F : List Nat) (p' : Nat), e = .returned (.agg #[.int .i64 x.op, .string x.name, .slice A x.kids.length c]) ∧ OwE w' (.slice A x.kids.length c) x.kids F ∧ (∀ b ∈ F, w.heap.size ≤ b) ∧ Shp 4 x ∧ cntE x < 16 ∧ Mv R w w' ∧ Rd w' R p' ∧ p' ≤ p + b
theorem RetDraw.some4 {w : World} {R p d : Nat} {e : Ending} {w' : World} (hd : d = 3 ∨ d = 2 ∨ d = 4 ∨ d = 1) (h : RetDraw w R p d e w') : RetSome w R p 61 e w' := by
  obtain ⟨x, A, c, F, p', h1, h2, h3, h4, h5, h6, h7, h8⟩ := h
  refine ⟨x, A, c, F, p', h1, h2, h3, ?_, ?_, h6, h7, ?_⟩
  · rcases hd with rfl | rfl | rfl | rfl
    · exact h4.mono
    · exact h4.mono.mono
    · exact h4
    · exact h4.mono.mono.mono
  · rcases hd with rfl | rfl | rfl | rfl <;> omega
  · rcases hd with rfl | rfl | rfl | rfl <;> omega

end Go.Proofs.YtfgpbnncdfcjjabGreatDoor

/-! The walk of l7Mutate. -/
namespace Go.Proofs.YtfgpbnncdfcjjabGreatDoor
open Go.RowKit
set_option linter.unusedVariables false
set_option maxRecDepth 100000

theorem Tryz.infoRE : (Tryz.prog.info? 57).map (fun i => (i.zero, i.size, i.bytes)) = some (some (.agg #[.int .i64 0, .string ⟨#[]⟩, .slice none 0 0]), 3, 48) := by kernel_rfl

/-- What may not turn while l7Mutate goes on. -/
def Kp (Z R B O : Nat) (v : Value) (b : Nat) : Prop := (R < b ∧ b ≠ Z) ∧ b ≠ O ∧ b ≠ B ∧ v.ownBlock ≠ some b
instance (Z R B O : Nat) (v : Value) : DecidablePred (Kp Z R B O v) := fun _ => inferInstanceAs (Decidable ((_ ∧ _) ∧ _ ∧ _ ∧ _))
/-- .. but block Z. -/
def Kz (Z R b : Nat) : Prop := R < b ∧ b ≠ Z
instance (Z R : Nat) : DecidablePred (Kz Z R) := fun _ => inferInstanceAs (Decidable (_ ∧ _))

/-- The walk of l7Mutate behind its first statement: the variable 'out' in block O, the result in the block behind the box. -/
structure MutS (Z : Nat) (w V : World) (R p O : Nat) (x : RE) (v : Value) : Prop where
  out : Own V O 57 #[.int .i64 x.op, .string x.name, v]
  row : RowOf 3 (RepE (keepW (Kp Z R (w.heap.size + 1) O v) V)) V w.heap.size 57 v x.kids
  ne : v.ownBlock ≠ some O ∧ v.ownBlock ≠ some (w.heap.size + 1)
  res : Own V (w.heap.size + 1) 57 #[.int .i64 0, .string ⟨#[]⟩, .slice none 0 0]
  mv : Mv R w V
  rd : Rd V R p
  hO : w.heap.size + 1 < O
  hR : R < w.heap.size
  nm : x.name.size ≤ 300
  hZ : Z < w.heap.size

theorem mutS_start {Z : Nat} {w w1 V : World} {R p O gg cap : Nat} {x : RE} {news : List Value} (hZ : Z < w.heap.size) (hR : R < w.heap.size) (hr : Rd w R p) (m1 : Mv R w w1) (hRb : w1.heap[R]? = w.heap[R]?) (hnm : x.name.size ≤ 300) (hnl : news.length = x.kids.length * 3)
    (hre : ∀ (i : Nat) (hi : i < x.kids.length), ∃ cs, (∀ (j : Nat), j < 3 → cs j = news.getD (i * 3 + j) undef) ∧ RepE (keepW (Kz Z R) w) cs x.kids[i])
    (hown : w1.ownsRow w.heap.size 57 3 (.slice (some ⟨gg, 0, none⟩) x.kids.length cap) x.kids.length news) (hV : Mv R w V) (hVb : ∀ i, i ≠ O → i < w1.heap.size → V.heap[i]? = w1.heap[i]?) (hO : w.heap.size + 1 < O) (hgb : w.heap.size ≤ gg) (hgg : gg ≠ O) (hgg' : gg ≠ w.heap.size + 1) (hg1 : gg < w1.heap.size)
    (hout : Own V O 57 #[.int .i64 x.op, .string x.name, .slice (some ⟨gg, 0, none⟩) x.kids.length cap]) (hres : Own w1 (w.heap.size + 1) 57 #[.int .i64 0, .string ⟨#[]⟩, .slice none 0 0]) : MutS Z w V R p O x (.slice (some ⟨gg, 0, none⟩) x.kids.length cap) := by
  have hle : Le (keepW (Kz Z R) w) (keepW (Kp Z R (w.heap.size + 1) O (.slice (some ⟨gg, 0, none⟩) x.kids.length cap)) V) := fun a v hc => by
    obtain ⟨⟨h1, h1'⟩, h2⟩ := of_cell_keepW hc
    have hlt := World.block_lt_of_cell? _ _ h2
    refine cell_keepW_of ⟨by omega, by omega, by omega, fun e => ?_⟩ (hV.cell h2 (by omega))
    simp only [Value.ownBlock, Option.some.injEq] at e
    omega
  refine ⟨hout, ?_, ⟨by simpa [Value.ownBlock] using hgg, by simpa [Value.ownBlock] using hgg'⟩, hres.of_block (hVb _ (by omega) hres.lt), hV, ?_, hO, hR, hnm, hZ⟩
  · have h1 : RowOf 3 (RepE (keepW (Kp Z R (w.heap.size + 1) O (.slice (some ⟨gg, 0, none⟩) x.kids.length cap)) V)) w1 w.heap.size 57 (.slice (some ⟨gg, 0, none⟩) x.kids.length cap) x.kids := by
      refine ⟨news, hown, fun i hi => ?_⟩
      obtain ⟨cs, h1, h2⟩ := hre i hi
      exact RepE.le hle _ _ (h2.congr' fun j hj => (h1 j hj).symm)
    exact h1.of_block fun g _ hg hlt => hVb g (fun e => by simp [Value.ownBlock] at hg; omega) hlt
  · exact rd_mv hr hV ((hVb R (by omega) (by have := m1.size; omega)).trans hRb)

/-- A call that moves only the source. -/
theorem MutS.mv' {Z : Nat} {w V V' : World} {R p p' O : Nat} {x : RE} {v : Value} (h : MutS Z w V R p O x v) (m : Mv R V V') (rd : Rd V' R p') : MutS Z w V' R p' O x v := by
  have hR := h.hR
  have hO := h.hO
  refine ⟨h.out.mv m (by omega), ?_, h.ne, h.res.mv m (by omega), h.mv.trans m, rd, hO, hR, h.nm, h.hZ⟩
  refine (h.row.imp fun cs y hy => RepE.le (Le.keepW fun a u hq hc => ⟨hq, m.cell hc (by have := hq.1; omega)⟩) _ _ hy).of_block fun g hg _ hlt => m.block hlt (by omega)
/-- New memory. -/
theorem MutS.alloc {Z : Nat} {w V : World} {R p O : Nat} {x : RE} {v : Value} (h : MutS Z w V R p O x v) (o : Obj) : MutS Z w (V.alloc o) R p O x v :=
  h.mv' ((Mv.refl _ _).alloc o) (h.rd.alloc o)

theorem MutS.setO {Z : Nat} {w V : World} {R p O : Nat} {x x' : RE} {v : Value} (h : MutS Z w V R p O x v) (j : Nat) (u : Value) (hk : x'.kids = x.kids) (hn : x'.name.size ≤ 300)
    (hc : (#[.int .i64 x.op, .string x.name, v] : Array Value).setIfInBounds j u = #[.int .i64 x'.op, .string x'.name, v]) : MutS Z w (V.setCell ⟨O, j, none⟩ u) R p O x' v := by
  have hR := h.hR
  have hO := h.hO
  refine ⟨by rw [← hc]; exact h.out.set j u, ?_, h.ne, h.res.far (by show w.heap.size + 1 ≠ O; omega) _, h.mv.setNew (by show w.heap.size ≤ O; omega) _, h.rd.setNew (by show R < O; omega) _, hO, hR, hn, h.hZ⟩
  rw [hk]
  refine (h.row.imp fun cs y hy => RepE.le (Le.keepW fun a z hq hc => ⟨hq, ?_⟩) _ _ hy).of_block fun g hg hv hlt => Below.heap_setCell _ _ _ _ (fun e => h.ne.1 (by rw [hv, e]))
  rw [World.cell?_setCell_other _ _ _ _ (fun e => hq.2.1 (by rw [← e]))]
  exact hc

/-- The slice of the operands, as what was handed back stands for it. -/
theorem MutS.rep {Z : Nat} {w V : World} {R p O : Nat} {x : RE} {v : Value} (h : MutS Z w V R p O x v) : ∃ A c, v = .slice A x.kids.length c ∧ RepK (above (R + 1) V) A c x := by
  have hR := h.hR
  have hs := h.row.slR (k := 3) (R := RepE) (by omega) (a := above (R + 1) V) (fun cs y hy => RepE.le (fun a u hc => by
    obtain ⟨h1, h2⟩ := of_cell_keepW hc
    exact cell_above_of (by have := h1.1; omega) h2) _ _ hy) (Le.above_mono (by omega) _)
  obtain ⟨A, c, rfl, _⟩ := hs.slice
  exact ⟨A, c, rfl, by have := h.nm; omega, hs⟩

def RetMutZ (Z : Nat) (w : World) (R p : Nat) (x : RE) (e : Ending) (w' : World) : Prop :=
  ∃ (x' : RE) (A : Option Addr) (c p' : Nat), e = .returned (.agg #[.int .i64 x'.op, .string x'.name, .slice A x'.kids.length c]) ∧ RepK (keepW (Kz Z R) w') A c x' ∧ x'.name.size ≤ 300 ∧ x'.kids.length ≤ x.kids.length + 1 ∧ cntE x' ≤ cntE x + 12 ∧ Mv R w w' ∧ Rd w' R p' ∧ p' ≤ p + 100
/-- The result is written. -/
theorem MutS.fin {Z : Nat} {w V : World} {R p p' O : Nat} {x x' : RE} {A : Option Addr} {c : Nat} {v0 v1 v2 : Value} (h : MutS Z w V R p' O x' (.slice A x'.kids.length c)) (hk : x'.kids.length ≤ x.kids.length + 1) (hc : cntE x' ≤ cntE x + 12) (hp : p' ≤ p + 100) :
    RetMutZ Z w R p x (.returned (.agg #[.int .i64 x'.op, .string x'.name, .slice A x'.kids.length c])) (((V.setCell ⟨w.heap.size + 1, 0, none⟩ v0).setCell ⟨w.heap.size + 1, 1, none⟩ v1).setCell ⟨w.heap.size + 1, 2, none⟩ v2) := by
  have hR := h.hR
  have hm := ((h.mv.setNew (p := ⟨w.heap.size + 1, 0, none⟩) (by show w.heap.size ≤ w.heap.size + 1; omega) v0).setNew (p := ⟨w.heap.size + 1, 1, none⟩) (by show w.heap.size ≤ w.heap.size + 1; omega) v1).setNew (p := ⟨w.heap.size + 1, 2, none⟩) (by show w.heap.size ≤ w.heap.size + 1; omega) v2
  refine ⟨x', A, c, p', rfl, ?_, h.nm, hk, hc, hm, ((h.rd.setNew (by show R < w.heap.size + 1; omega) _).setNew (by show R < w.heap.size + 1; omega) _).setNew (by show R < w.heap.size + 1; omega) _, hp⟩
  have hrow := h.row.of_block (w' := ((V.setCell ⟨w.heap.size + 1, 0, none⟩ v0).setCell ⟨w.heap.size + 1, 1, none⟩ v1).setCell ⟨w.heap.size + 1, 2, none⟩ v2) fun g _ hv _ => by
    have hne : g ≠ w.heap.size + 1 := fun e => h.ne.2 (by rw [hv, e])
    exact (Below.heap_setCell _ _ _ _ hne).trans ((Below.heap_setCell _ _ _ _ hne).trans (Below.heap_setCell _ _ _ _ hne))
  have hs := hrow.slR (k := 3) (R := RepE) (by omega) (a := keepW (Kz Z R) (((V.setCell ⟨w.heap.size + 1, 0, none⟩ v0).setCell ⟨w.heap.size + 1, 1, none⟩ v1).setCell ⟨w.heap.size + 1, 2, none⟩ v2)) (fun cs y hy => RepE.le (fun a u hc => by
    obtain ⟨h1, h2⟩ := of_cell_keepW hc
    refine cell_keepW_of h1.1 ?_
    have hne : a.block ≠ w.heap.size + 1 := h1.2.2.1
    rw [World.cell?_setCell_far _ _ _ _ (fun e => hne e.symm), World.cell?_setCell_far _ _ _ _ (fun e => hne e.symm), World.cell?_setCell_far _ _ _ _ (fun e => hne e.symm)]
    exact h2) _ _ hy) (fun a u hc => by
    obtain ⟨h1, h2⟩ := cell_above_lt hc
    exact cell_keepW_of ⟨by omega, by have := h.hZ; omega⟩ h2)
  exact ⟨by have := h.nm; omega, hs⟩

/-- 'out' becomes an expression of the operation 6 of which it was the operand. -/
theorem MutS.wrap {Z : Nat} {w V : World} {R p O : Nat} {x : RE} {A : Option Addr} {c : Nat} (h : MutS Z w V R p O x (.slice A x.kids.length c)) :
    MutS Z w ((((V.setCell ⟨O, 0, none⟩ (.int .i64 6)).setCell ⟨O, 1, none⟩ (.string ⟨#[]⟩)).setCell ⟨O, 2, none⟩ (.slice (some ⟨V.heap.size, 0, none⟩) 1 1)).alloc (.cells #[.int .i64 x.op, .string x.name, .slice A x.kids.length c] 57)) R p O (.mk 6 ⟨#[]⟩ [x]) (.slice (some ⟨V.heap.size, 0, none⟩) 1 1) := by
  have hR := h.hR
  have hO := h.hO
  have hol := h.out.lt
  have hrl := h.res.lt
  have hms := h.mv.size
  have hsz : (((V.setCell ⟨O, 0, none⟩ (.int .i64 6)).setCell ⟨O, 1, none⟩ (.string ⟨#[]⟩)).setCell ⟨O, 2, none⟩ (.slice (some ⟨V.heap.size, 0, none⟩) 1 1)).heap.size = V.heap.size := by simp [World.setCell]
  have hnew := Own.new (((V.setCell ⟨O, 0, none⟩ (.int .i64 6)).setCell ⟨O, 1, none⟩ (.string ⟨#[]⟩)).setCell ⟨O, 2, none⟩ (.slice (some ⟨V.heap.size, 0, none⟩) 1 1)) 57 #[.int .i64 x.op, .string x.name, .slice A x.kids.length c]
  rw [hsz] at hnew
  refine ⟨(((h.out.set 0 _).set 1 _).set 2 _).alloc _, ?_, ⟨by simp [Value.ownBlock]; omega, by simp [Value.ownBlock]; omega⟩, (((h.res.far (by show w.heap.size + 1 ≠ O; omega) _).far (by show w.heap.size + 1 ≠ O; omega) _).far (by show w.heap.size + 1 ≠ O; omega) _).alloc _,
    (((h.mv.setNew (by show w.heap.size ≤ O; omega) _).setNew (by show w.heap.size ≤ O; omega) _).setNew (by show w.heap.size ≤ O; omega) _).alloc _, (((h.rd.setNew (by show R < O; omega) _).setNew (by show R < O; omega) _).setNew (by show R < O; omega) _).alloc _, hO, hR, (by show ByteArray.size ⟨#[]⟩ ≤ 300; decide), h.hZ⟩
  have far : ∀ (g o : Nat) (u : Value), g ≠ O → V.cell? ⟨g, o, none⟩ = some u → ((((V.setCell ⟨O, 0, none⟩ (.int .i64 6)).setCell ⟨O, 1, none⟩ (.string ⟨#[]⟩)).setCell ⟨O, 2, none⟩ (.slice (some ⟨V.heap.size, 0, none⟩) 1 1)).alloc (.cells #[.int .i64 x.op, .string x.name, .slice A x.kids.length c] 57)).cell? ⟨g, o, none⟩ = some u := fun g o u hg hc => by
    refine Le.alloc _ _ _ _ ?_
    rw [World.cell?_setCell_far _ _ _ _ (by show O ≠ g; omega), World.cell?_setCell_far _ _ _ _ (by show O ≠ g; omega), World.cell?_setCell_far _ _ _ _ (by show O ≠ g; omega)]
    exact hc
  have hs := h.row.slR' (k := 3) (R := RepE) (by omega) (a := keepW (Kp Z R (w.heap.size + 1) O (.slice (some ⟨V.heap.size, 0, none⟩) 1 1)) ((((V.setCell ⟨O, 0, none⟩ (.int .i64 6)).setCell ⟨O, 1, none⟩ (.string ⟨#[]⟩)).setCell ⟨O, 2, none⟩ (.slice (some ⟨V.heap.size, 0, none⟩) 1 1)).alloc (.cells #[.int .i64 x.op, .string x.name, .slice A x.kids.length c] 57)))
    (fun cs y hy => RepE.le (Le.keepW fun a u hq hc => ⟨⟨hq.1, hq.2.1, hq.2.2.1, fun e => by
        have := World.block_lt_of_cell? _ _ hc
        simp only [Value.ownBlock, Option.some.injEq] at e
        omega⟩, by
        obtain ⟨ab, ao, ap⟩ := a
        refine Le.alloc _ _ _ _ ?_
        rw [World.cell?_setCell_far _ _ _ _ (fun e => hq.2.1 e.symm), World.cell?_setCell_far _ _ _ _ (fun e => hq.2.1 e.symm), World.cell?_setCell_far _ _ _ _ (fun e => hq.2.1 e.symm)]
        exact hc⟩) _ _ hy)
    (fun g o u hg hv hc => by
      have hgO : g ≠ O := fun e => h.ne.1 (by rw [hv, e])
      have hgB : g ≠ w.heap.size + 1 := fun e => h.ne.2 (by rw [hv, e])
      have := World.block_lt_of_cell? _ _ hc
      exact cell_keepW_of ⟨by show R < g ∧ g ≠ Z; have := h.hZ; omega, hgO, hgB, fun e => by simp only [Value.ownBlock, Option.some.injEq] at e; simp at this; omega⟩ (far g o u hgO hc))
  refine ⟨[.int .i64 x.op, .string x.name, .slice A x.kids.length c], ⟨rfl, .inr ⟨V.heap.size, 1, _, rfl, by omega, hnew, by simp [RE.kids], by simp [maxLen], by simp, by simp [RE.kids]⟩⟩, fun i hi => ?_⟩
  obtain rfl : i = 0 := by simp [RE.kids] at hi; omega
  exact repE_K.2 ⟨A, c, rfl, rfl, rfl, by have := h.nm; show x.name.size ≤ _; omega, hs⟩

/-- 'out' gets an operand more. -/
theorem MutS.push {Z : Nat} {w V V1 V3 : World} {R p p1 O gg cap : Nat} {x y : RE} {v : Value} {cs : List Value} {Ay : Option Addr} {cy : Nat} {Fy : List Nat} (h : MutS Z w V R p O x v) (hcs : V.ownsRow w.heap.size 57 3 v x.kids.length cs)
    (hq : ∀ i (hi : i < x.kids.length), RepE (keepW (Kp Z R (w.heap.size + 1) O v) V) (fun j => cs.getD (i * 3 + j) undef) x.kids[i]) (m1 : Mv R V V1) (rd1 : Rd V1 R p1) (hy : OwE V1 (.slice Ay y.kids.length cy) y.kids Fy) (hF : ∀ b ∈ Fy, V.heap.size ≤ b) (hny : y.name.size ≤ 300)
    (hg : (V1.alloc (.cells #[.int .i64 y.op, .string y.name, .slice Ay y.kids.length cy] 57)).grownBy V3 v.ownBlock)
    (hown : V3.ownsRow w.heap.size 57 3 (.slice (some ⟨gg, 0, none⟩) (x.kids.length + 1) cap) (x.kids.length + 1) (cs ++ [.int .i64 y.op, .string y.name, .slice Ay y.kids.length cy])) (hat : v.ownBlock = some gg ∨ gg = V1.heap.size + 1) :
    MutS Z w (V3.setCell ⟨O, 2, none⟩ (.slice (some ⟨gg, 0, none⟩) (x.kids.length + 1) cap)) R p1 O (.mk x.op x.name (x.kids ++ [y])) (.slice (some ⟨gg, 0, none⟩) (x.kids.length + 1) cap) := by
  have hR := h.hR
  have hO := h.hO
  have hsv := h.mv.size
  have hs1 := m1.size
  have hs3 : V1.heap.size + 1 ≤ V3.heap.size := by have := World.grownBy.size hg; simp at this; exact this
  have hol := h.out.lt
  have hrl := h.res.lt
  have hgO : gg ≠ O := by
    rcases hat with e | e
    · exact fun e' => h.ne.1 (by rw [e, e'])
    · omega
  have hgB : gg ≠ w.heap.size + 1 := by
    rcases hat with e | e
    · exact fun e' => h.ne.2 (by rw [e, e'])
    · omega
  have hgb : w.heap.size ≤ gg ∧ gg < V3.heap.size := owns_base hown rfl
  -- a block that is no row stays
  have st : ∀ i, i < V1.heap.size → v.ownBlock ≠ some i → V3.heap[i]? = V1.heap[i]? := fun i hi hn => (World.grownBy.block hg i (by simp; omega) (fun e => hn e.symm)).trans (Go.Deep.blk_alloc_lt _ _ _ hi)
  have mR : ∀ i, i < V.heap.size → i ≠ R → V1.heap[i]? = V.heap[i]? := fun i hi hn => m1.block hi hn
  have hown_lt : ∀ i, v.ownBlock = some i → w.heap.size ≤ i ∧ i < V.heap.size := fun i e => owns_base hcs e
  have mv3 : Mv R w V3 := by
    refine ⟨(World.grownBy.os hg).trans (m1.os.trans h.mv.os), (World.grownBy.tape hg).trans (m1.tape.trans h.mv.tape), (World.grownBy.output hg).trans (m1.output.trans h.mv.output), by omega, fun i hi hne => ?_⟩
    have hiR : i ≠ R := fun e => hne (by rw [e])
    rw [st i (by omega) (fun e => by have := hown_lt i e; omega), mR i (by omega) hiR]
    exact World.grownBy.block h.mv i hi hne
  have hout3 : Own V3 O 57 #[.int .i64 x.op, .string x.name, v] := h.out.of_block ((st O (by omega) h.ne.1).trans (mR O hol (by omega)))
  have hres3 : Own V3 (w.heap.size + 1) 57 #[.int .i64 0, .string ⟨#[]⟩, .slice none 0 0] := h.res.of_block ((st _ (by omega) h.ne.2).trans (mR _ hrl (by omega)))
  have rd3 : Rd V3 R p1 := by
    obtain ⟨A, n, c, h1, hn, hc⟩ := rd1
    refine ⟨A, n, c, h1.of_block (st R (by omega) (fun e => by have := hown_lt R e; omega)), hn, fun i hi => ?_⟩
    obtain ⟨b, f, u, g1, g2, g3, g4⟩ := hc i hi
    refine ⟨b, f, u, g1, g2, ?_, g4⟩
    have hlt := World.block_lt_of_cell? _ _ g3
    rw [World.cell?_of_block (w := V1) (st b hlt (fun e => by have := hown_lt b e; omega))]
    exact g3
  refine ⟨hout3.set 2 _, ?_, ⟨by simpa [Value.ownBlock] using hgO, by simpa [Value.ownBlock] using hgB⟩, hres3.far (by show w.heap.size + 1 ≠ O; omega) _, mv3.setNew (by show w.heap.size ≤ O; omega) _, rd3.setNew (by show R < O; omega) _, hO, hR, h.nm, h.hZ⟩
  -- a cell that may not turn does not
  have cellst : ∀ (a : Addr) (u : Value), a.block ≠ O → a.block < V1.heap.size → v.ownBlock ≠ some a.block → V1.cell? a = some u → (V3.setCell ⟨O, 2, none⟩ (.slice (some ⟨gg, 0, none⟩) (x.kids.length + 1) cap)).cell? a = some u := fun a u hO' hlt hn hc => by
    rw [World.cell?_setCell_far _ _ _ _ (fun e => hO' e.symm), World.cell?_of_block (w := V1) (st a.block hlt hn)]
    exact hc
  have hle : Le (keepW (Kp Z R (w.heap.size + 1) O v) V) (keepW (Kp Z R (w.heap.size + 1) O (.slice (some ⟨gg, 0, none⟩) (x.kids.length + 1) cap)) (V3.setCell ⟨O, 2, none⟩ (.slice (some ⟨gg, 0, none⟩) (x.kids.length + 1) cap))) := Le.keepW fun a u hqa hc => by
    have hlt := World.block_lt_of_cell? _ _ hc
    refine ⟨⟨hqa.1, hqa.2.1, hqa.2.2.1, fun e => ?_⟩, cellst a u hqa.2.1 (by omega) hqa.2.2.2 (m1.cell hc (by have := hqa.1; omega))⟩
    simp only [Value.ownBlock, Option.some.injEq] at e
    rcases hat with e' | e'
    · exact hqa.2.2.2 (by rw [e', e])
    · omega
  have hrow : RowOf 3 (RepE (keepW (Kp Z R (w.heap.size + 1) O (.slice (some ⟨gg, 0, none⟩) (x.kids.length + 1) cap)) (V3.setCell ⟨O, 2, none⟩ (.slice (some ⟨gg, 0, none⟩) (x.kids.length + 1) cap)))) V3 w.heap.size 57 (.slice (some ⟨gg, 0, none⟩) (x.kids.length + 1) cap) (x.kids ++ [y]) := by
    refine RowOf.snoc (fun f g z hfg hz => hz.congr hfg) hcs (fun i hi => RepE.le hle _ _ (hq i hi)) rfl ?_ hown
    refine repE_K.2 ⟨Ay, cy, rfl, rfl, rfl, by omega, ?_⟩
    refine RepEs.le (hy.rep (B := V.heap.size) hF) fun a u hc => ?_
    obtain ⟨h1, h2⟩ := cell_above_lt hc
    have hlt := World.block_lt_of_cell? _ _ h2
    have hn : v.ownBlock ≠ some a.block := fun e => by have := hown_lt _ e; omega
    refine cell_keepW_of ⟨by have := h.hZ; omega, by omega, by omega, fun e => ?_⟩ (cellst a u (by omega) hlt hn h2)
    simp only [Value.ownBlock, Option.some.injEq] at e
    rcases hat with e' | e'
    · exact hn (by rw [e', e])
    · omega
  exact hrow.of_block fun g _ hgv _ => Below.heap_setCell _ _ _ _ (fun e => by simp only [Value.ownBlock, Option.some.injEq] at hgv; exact hgO (by rw [hgv]; exact e))

/-- .. where there is no operand. -/
theorem MutS.empty {Z : Nat} {w V : World} {R p O g : Nat} {x : RE} (hZ : Z < w.heap.size) (hk : x.kids.length = 0) (hout : Own V O 57 #[.int .i64 x.op, .string x.name, .slice (some ⟨g, 0, none⟩) 0 0]) (hg : Own V g 57 #[]) (hgb : w.heap.size ≤ g) (hgO : g ≠ O) (hgB : g ≠ w.heap.size + 1)
    (hres : Own V (w.heap.size + 1) 57 #[.int .i64 0, .string ⟨#[]⟩, .slice none 0 0]) (mv : Mv R w V) (rd : Rd V R p) (hO : w.heap.size + 1 < O) (hR : R < w.heap.size) (hn : x.name.size ≤ 300) : MutS Z w V R p O x (.slice (some ⟨g, 0, none⟩) 0 0) := by
  have hnil : x.kids = [] := List.eq_nil_of_length_eq_zero hk
  refine ⟨hout, ?_, ⟨by simpa [Value.ownBlock] using hgO, by simpa [Value.ownBlock] using hgB⟩, hres, mv, rd, hO, hR, hn, hZ⟩
  rw [hnil]
  exact RowOf.made _ hg hgb

theorem cntL_append (xs ys : List RE) : cntL (xs ++ ys) = cntL xs + cntL ys := by
  induction xs with
  | nil => simp [cntL]
  | cons e es ih => rw [List.cons_append, cntL, cntL, ih]; omega
/-- The frame behind the first statement. -/
def MutQ (Z : Nat) (w : World) (R p : Nat) (x : RE) (arg : Value) (e : Exit) (a : Act) (V : World) : Prop :=
  e = .normal ∧ ∃ (O : Nat) (v u7 u8 u9 u10 u11 u12 u13 u14 u15 : Value), MutS Z w V R p O x v ∧
    a = ⟨#[.pointer (some ⟨R, 0, none⟩), arg, undef, .pointer (some ⟨w.heap.size, 0, none⟩), .pointer (some ⟨w.heap.size + 1, 0, none⟩), .pointer (some ⟨O, 0, none⟩), undef, u7, u8, u9, u10, u11, u12, u13, u14, u15, undef, undef, undef, undef, undef, undef, undef, undef, undef, undef, undef, undef, undef, undef, undef, undef, undef, undef, undef, undef, undef, undef, undef, undef, undef, undef, undef, undef, undef, undef, undef, undef, undef], []⟩

end Go.Proofs.YtfgpbnncdfcjjabGreatDoor
