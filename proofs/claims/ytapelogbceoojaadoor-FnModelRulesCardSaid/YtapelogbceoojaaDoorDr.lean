/-
  The walks of l17Open, num, of, l7Draw, l7Some: what the reference draws is a valid expression of a small size.
-/
import Derived.Test.YtapelogbceoojaaDoorRd
import Derived.Test.YtapelogbceoojaaDoorOwn
import Derived.Test.YtapelogbceoojaaDoorParsD
import Derived.Test.YtapelogbceoojaaDoorWSp2
import Derived.Test.YtapelogbceoojaaDoorNames
namespace Go.Proofs.YtapelogbceoojaaDoor
open Go.RowKit
set_option linter.unusedVariables false
set_option maxRecDepth 100000

/-- A slice of bytes as it was handed in. -/
def Bys (w : World) (A : Option Addr) (n : Nat) : Prop := n ≤ 9223372036854775807 ∧ ∀ i, i < n → ∃ b o v, A = some ⟨b, o, none⟩ ∧ w.cell? ⟨b, o + i, none⟩ = some (.int .u8 v) ∧ 0 ≤ v ∧ v ≤ 255
theorem Bys.le {w w' : World} {A : Option Addr} {n : Nat} (h : Bys w A n) (hl : Le w w') : Bys w' A n :=
  ⟨h.1, fun i hi => by
    obtain ⟨b, o, v, h1, h2, h3⟩ := h.2 i hi
    exact ⟨b, o, v, h1, hl _ _ h2, h3⟩⟩

def RetOpen (w : World) (e : Ending) (w' : World) : Prop := ∃ R : Nat, e = .returned (.pointer (some ⟨R, 0, none⟩)) ∧ w.heap.size ≤ R ∧ Rd w' R 0 ∧ Below w.heap.size w w'
set_option maxHeartbeats 400000 in
theorem open_any (w : World) (A : Option Addr) (n c : Nat) (h : Bys w A n) (hnc : n ≤ c) (hA : A = none → n = 0) : Calls Tryd.prog 49 #[.slice A n c] w (RetOpen w) := by
  have mk : ∀ m : Nat, m ≤ n → m ≤ 2000 → Rd (w.alloc (.cells #[.slice A m c, .int .i64 0] 100)) w.heap.size 0 := fun m hm h2 =>
    ⟨A, m, c, Own.new _ _ _, h2, fun i hi => by
      obtain ⟨b, o, v, h1, h3, h4⟩ := h.2 i (by omega)
      exact ⟨b, o, v, h1, World.block_lt_of_cell? _ _ h3, Le.alloc _ _ _ _ h3, h4⟩⟩
  have Mk := Lib.hid mk
  have hn := h.1
  clear mk h
  go_enter Tryd.func49, Tryd.ntmps49
  by_cases h2 : 2000 < n
  · have b2 : decide ((n : Int) > 2000) = true := by rw [decide_eq_true_iff]; omega
    go_wp2_with fail
    go_ret
    exact ⟨_, rfl, Nat.le_refl _, Mk.out 2000 (by omega) (by omega), (Below.refl _ _).alloc (Nat.le_refl _) _⟩
  · have b2 : decide ((n : Int) > 2000) = false := by rw [decide_eq_false_iff_not]; omega
    go_wp2_with fail
    go_ret
    exact ⟨_, rfl, Nat.le_refl _, Mk.out n (Nat.le_refl _) (by omega), (Below.refl _ _).alloc (Nat.le_refl _) _⟩

def RetNum (w : World) (R p : Nat) (xs : List Int) (e : Ending) (w' : World) : Prop := ∃ x : Int, e = .returned (.int .i64 x) ∧ x ∈ xs ∧ Mv R w w' ∧ Rd w' R (p + 1)
def RetOf (w : World) (R p : Nat) (xs : List ByteArray) (e : Ending) (w' : World) : Prop := ∃ x : ByteArray, e = .returned (.string x) ∧ x ∈ xs ∧ Mv R w w' ∧ Rd w' R (p + 1)

set_option maxHeartbeats 400000 in
theorem num_any (w : World) (R p : Nat) (A : Option Addr) (c : Nat) (xs : List Int) (hp : p ≤ 1099511627776) (hr : Rd w R p) (hx : Ints (above (R + 1) w) A c xs) (hne : 0 < xs.length) :
    Calls Tryd.prog 83 #[.pointer (some ⟨R, 0, none⟩), .slice A xs.length c] w (RetNum w R p xs) := by
  have hm := hx.len
  have hpk := pick_any w R p xs.length hp hr
  go_enter Tryd.func83, Tryd.ntmps83
  go_wp2_with fail
  refine hpk.mono ?_
  rintro e1 w1 ⟨v, rfl, h0, hlt, m, r1⟩
  obtain ⟨i, rfl⟩ : ∃ i : Nat, v = i := ⟨v.toNat, by omega⟩
  have hi : i < xs.length := by have := hlt (by omega); omega
  obtain ⟨b, o, rfl, hbl, hc⟩ := (hx.le m.above).get hi
  have hc' := (cell_above_lt hc).2
  have hii : (i : Int) < (xs.length : Int) := by omega
  clear hx hlt hpk hc hbl h0
  go_wp2_with fail
  go_ret
  exact ⟨_, rfl, List.getElem_mem hi, m, r1⟩

set_option maxHeartbeats 400000 in
theorem of_any (w : World) (R p : Nat) (A : Option Addr) (c : Nat) (xs : List ByteArray) (hp : p ≤ 1099511627776) (hr : Rd w R p) (hx : Strs (above (R + 1) w) A c xs) (hne : 0 < xs.length) :
    Calls Tryd.prog 84 #[.pointer (some ⟨R, 0, none⟩), .slice A xs.length c] w (RetOf w R p xs) := by
  have hm := hx.len
  have hpk := pick_any w R p xs.length hp hr
  go_enter Tryd.func84, Tryd.ntmps84
  go_wp2_with fail
  refine hpk.mono ?_
  rintro e1 w1 ⟨v, rfl, h0, hlt, m, r1⟩
  obtain ⟨i, rfl⟩ : ∃ i : Nat, v = i := ⟨v.toNat, by omega⟩
  have hi : i < xs.length := by have := hlt (by omega); omega
  obtain ⟨b, o, rfl, hbl, hc⟩ := (hx.le m.above).get hi
  have hc' := (cell_above_lt hc).2
  have hii : (i : Int) < (xs.length : Int) := by omega
  clear hx hlt hpk hc hbl h0
  go_wp2_with fail
  go_ret
  exact ⟨_, rfl, List.getElem_mem hi, m, r1⟩

/-- A literal slice of ints, just made. -/
theorem ints_lit {w : World} {R b n : Nat} {cs : Array Value} {t : TypeId} (xs : List Int) (h : Own w b t cs) (hb : R < b) (hl : xs.length = n) (hn : n ≤ 100) (hc : ∀ i (hi : i < xs.length), cs[i]? = some (.int .i64 xs[i])) : Ints (above (R + 1) w) (some ⟨b, 0, none⟩) n xs :=
  Ints.mk (by omega) fun i hi => cell_above_of (by show R + 1 ≤ b; omega) (by rw [Nat.zero_add]; exact h.cell (hc i hi))

theorem strs_lit {w : World} {R b n : Nat} {cs : Array Value} {t : TypeId} (xs : List ByteArray) (h : Own w b t cs) (hb : R < b) (hl : xs.length = n) (hn : n ≤ 100) (hc : ∀ i (hi : i < xs.length), cs[i]? = some (.string xs[i])) : Strs (above (R + 1) w) (some ⟨b, 0, none⟩) n xs :=
  Strs.mk (by omega) fun i hi => cell_above_of (by show R + 1 ≤ b; omega) (by rw [Nat.zero_add]; exact h.cell (hc i hi))

def RetDraw (w : World) (R p d : Nat) (e : Ending) (w' : World) : Prop :=
  ∃ (x : RE) (A : Option Addr) (c : Nat) (F : List Nat) (p' : Nat), e = .returned (.agg #[.int .i64 x.op, .string x.name, .slice A x.kids.length c]) ∧ OwE w' (.slice A x.kids.length c) x.kids F ∧ (∀ b ∈ F, w.heap.size ≤ b) ∧ Shp d x ∧ cntE x < 2 ^ d ∧ Mv R w w' ∧ Rd w' R p' ∧ p' + 3 ≤ p + 4 * 2 ^ d

theorem OwE.mv' {w w' : World} {v : Value} {es : List RE} {F : List Nat} {R : Nat} (h : OwE w v es F) (m : Mv R w w') (hR : ∀ b ∈ F, b ≠ R) : OwE w' v es F := h.of_blocks fun b hb => m.block (h.lt b hb) (hR b hb)
theorem Shp.leaf {d : Nat} {s : ByteArray} (hs : s ∈ nm) : Shp (d + 1) (.mk 1 s []) := ⟨⟨rfl, ⟨fun _ => hs, fun _ => rfl⟩, fun h => absurd rfl h⟩, fun k hk => by simp [RE.kids] at hk⟩

theorem Shp.node {d : Nat} {op : Int} {kids : List RE} (h2 : 2 ≤ op) (h7 : op ≤ 7) (hk : (kids.length : Int) = kidsI op) (h : ∀ k ∈ kids, Shp d k) : Shp (d + 1) (.mk op ⟨#[]⟩ kids) :=
  ⟨⟨hk, ⟨fun e => by simp only [RE.op] at e; omega, fun e => absurd rfl (nm_let e).1⟩, fun _ => rfl⟩, h⟩
theorem RetDraw.fin1 {w V : World} {R p d p' m : Nat} {op : Int} {x : RE} {A : Option Addr} {c : Nat} {F : List Nat} (ho : OwE V (.slice A x.kids.length c) x.kids F) (hF : ∀ b ∈ F, w.heap.size ≤ b) (hnm : x.name.size ≤ 300) (hm : V.heap.size = m) (hs : Shp d (.mk op ⟨#[]⟩ [x])) (hc : cntE x + 1 < 2 ^ d) (mv : Mv R w V) (r : Rd V R p') (hp : p' + 3 ≤ p + 4 * 2 ^ d) :
    RetDraw w R p d (.returned (.agg #[.int .i64 op, .string ⟨#[]⟩, .slice (some ⟨m, 0, none⟩) 1 1])) (V.alloc (.cells #[.int .i64 x.op, .string x.name, .slice A x.kids.length c] 29)) := by
  subst hm
  refine ⟨.mk op ⟨#[]⟩ [x], _, 1, _, p', rfl, ho.one (by omega), fun b hb => ?_, hs, by rw [cntE, cntL, cntL]; omega, mv.alloc _, r.alloc _, hp⟩
  rcases List.mem_cons.1 hb with rfl | hb
  · exact mv.size
  · exact hF b hb
theorem RetDraw.fin2 {w V : World} {R p d p' m : Nat} {op : Int} {x y : RE} {A A' : Option Addr} {c c' : Nat} {F F' : List Nat} (ho : OwE V (.slice A x.kids.length c) x.kids F) (ho' : OwE V (.slice A' y.kids.length c') y.kids F') (hF : ∀ b ∈ F, w.heap.size ≤ b) (hF' : ∀ b ∈ F', w.heap.size ≤ b) (hnm : x.name.size ≤ 300) (hnm' : y.name.size ≤ 300) (hm : V.heap.size = m)
    (hs : Shp d (.mk op ⟨#[]⟩ [x, y])) (hc : cntE x + cntE y + 1 < 2 ^ d) (mv : Mv R w V) (r : Rd V R p') (hp : p' + 3 ≤ p + 4 * 2 ^ d) :
    RetDraw w R p d (.returned (.agg #[.int .i64 op, .string ⟨#[]⟩, .slice (some ⟨m, 0, none⟩) 2 2])) (V.alloc (.cells #[.int .i64 x.op, .string x.name, .slice A x.kids.length c, .int .i64 y.op, .string y.name, .slice A' y.kids.length c'] 29)) := by
  subst hm
  refine ⟨.mk op ⟨#[]⟩ [x, y], _, 2, _, p', rfl, ho.two ho' (by omega) (by omega), fun b hb => ?_, hs, by rw [cntE, cntL, cntL, cntL]; omega, mv.alloc _, r.alloc _, hp⟩
  rcases List.mem_cons.1 hb with rfl | hb
  · exact mv.size
  · rcases List.mem_append.1 hb with hb | hb
    · exact hF b hb
    · exact hF' b hb
theorem Shp.name_le {d : Nat} {x : RE} (h : Shp d x) : x.name.size ≤ 300 := by
  cases d with
  | zero => exact h.elim
  | succ d =>
    by_cases h1 : x.op = 1
    · have := size_nm (h.1.2.1.1 h1)
      omega
    · rw [h.1.2.2 h1]; decide
theorem RetDraw.fin {w W : World} {R p d p' : Nat} {x : RE} {A : Option Addr} {c : Nat} {F : List Nat} {v0 v1 v2 : Value} (hR : R < w.heap.size) (ho : OwE W (.slice A x.kids.length c) x.kids F) (hF : ∀ b ∈ F, w.heap.size < b) (hs : Shp d x) (hc : cntE x < 2 ^ d) (m : Mv R w W) (r : Rd W R p') (hp : p' + 3 ≤ p + 4 * 2 ^ d) :
    RetDraw w R p d (.returned (.agg #[.int .i64 x.op, .string x.name, .slice A x.kids.length c])) (((W.setCell ⟨w.heap.size, 0, none⟩ v0).setCell ⟨w.heap.size, 1, none⟩ v1).setCell ⟨w.heap.size, 2, none⟩ v2) := by
  have hne : ∀ b ∈ F, b ≠ w.heap.size := fun b hb => by have := hF b hb; omega
  exact ⟨x, A, c, F, p', rfl, own_setN (own_setN (own_setN ho hne _ _) hne _ _) hne _ _, fun b hb => Nat.le_of_lt (hF b hb), hs, hc, ((m.setNew (Nat.le_refl _) _).setNew (Nat.le_refl _) _).setNew (Nat.le_refl _) _, ((r.setNew hR _).setNew hR _).setNew hR _, hp⟩

set_option maxHeartbeats 2000000 in
theorem draw_of (d : Nat) (hd1 : 1 ≤ d) (hd : d ≤ 20) (ih : 2 ≤ d → ∀ (w : World) (R p : Nat), p ≤ 1100000000 - 4 * 2 ^ (d - 1) → Rd w R p → Calls Tryd.prog 82 #[.pointer (some ⟨R, 0, none⟩), .int .i64 ((d : Int) - 1)] w (RetDraw w R p (d - 1)))
    (w : World) (R p : Nat) (hp : p ≤ 1100000000 - 4 * 2 ^ d) (hr : Rd w R p) : Calls Tryd.prog 82 #[.pointer (some ⟨R, 0, none⟩), .int .i64 d] w (RetDraw w R p d) := by
  have rb := Own.new w 29 #[.int .i64 0, .string ByteArray.empty, .slice none 0 0]
  have hR := hr.lt
  have hr0 := hr.alloc (.cells #[.int .i64 0, .string ByteArray.empty, .slice none 0 0] 29)
  have hpow : 2 ^ d = 2 * 2 ^ (d - 1) := by
    obtain ⟨k, rfl⟩ : ∃ k, d = k + 1 := ⟨d - 1, by omega⟩
    rw [Nat.pow_succ, Nat.add_sub_cancel]; omega
  have hpos : 0 < 2 ^ (d - 1) := Nat.pow_pos (by omega)
  have htop : 2 ^ (d - 1) ≤ 2 ^ 19 := Nat.pow_le_pow_right (by omega) (by omega)
  go_enter Tryd.func82, Tryd.ntmps82
  go_wp2_with fail
  refine (l6Names_any _).mono ?_
  rintro e1 w1 ⟨A, c, rfl, hnm, hb1⟩
  have hm1 : Mv R w w1 := ((Mv.refl _ _).alloc _).trans (Mv.of_below hb1)
  have hr1 := hr0.below hb1
  have rb1 := rb.under hb1
  have hnm1 : Strs (above (R + 1) w1) A c nm := hnm.le (Le.above_mono (by simp; omega) _)
  clear hnm hb1 rb hr0 hr
  by_cases hd2 : d < 2
  · obtain rfl : d = 1 := by omega
    have hpk := pick_any w1 R p nm.length (by omega) hr1
    go_wp2_with fail
    refine hpk.mono ?_
    rintro e9 w9 ⟨v, rfl, h0, hlt, m9, r9⟩
    obtain ⟨i, rfl⟩ : ∃ i : Nat, v = i := ⟨v.toNat, by omega⟩
    have hi : i < nm.length := by have := hlt (by rw [show nm.length = 10 from rfl]; omega); omega
    obtain ⟨b, o, rfl, hbl, hc⟩ := (hnm1.le m9.above).get hi
    have hc' := (cell_above_lt hc).2
    have hii : (i : Int) < (nm.length : Int) := by omega
    have hmem : nm[i] ∈ nm := List.getElem_mem hi
    obtain ⟨s, hs⟩ : ∃ s, s = nm[i] := ⟨_, rfl⟩
    rw [← hs] at hc' hmem
    have MM := Lib.hid (hm1.trans m9)
    obtain ⟨r0, r1, r2, g0, g1, g2, rl⟩ := (rb1.mv m9 (by omega)).res'
    clear hlt hpk hc hbl h0 hs
    go_wp2_with fail
    refine bodyPost_ret (v := .agg #[.int .i64 1, .string s, .slice none 0 0]) (by simp [results, Tryd.results82, go_sem, r0, r1, r2]) rfl ?_
    exact RetDraw.fin (x := .mk 1 s []) hR .nil (fun b hb => by cases hb) (Shp.leaf hmem) (by rw [cntE_mk]; omega) MM.out r9 (by omega)

  have bd : decide ((d : Int) < 2) = false := by rw [decide_eq_false_iff_not]; omega
  have hpk := pick_any w1 R p 3 (by omega) hr1
  go_wp2_with fail
  refine hpk.mono ?_
  rintro e2 w2 ⟨v2, rfl, _, _, m2, hr2⟩
  have hm2 := hm1.trans m2
  have rb2 := rb1.mv m2 (by omega)
  have hnm2 := hnm1.le m2.above
  clear hpk hr1 rb1 hnm1 hm1 m2
  by_cases hv2 : v2 = 0
  · subst hv2
    obtain ⟨d', rfl⟩ : ∃ d', d = d' + 1 := ⟨d - 1, by omega⟩
    have hpk := pick_any w2 R (p + 1) nm.length (by omega) hr2
    go_wp2_with fail
    refine hpk.mono ?_
    rintro e9 w9 ⟨v, rfl, h0, hlt, m9, r9⟩
    obtain ⟨i, rfl⟩ : ∃ i : Nat, v = i := ⟨v.toNat, by omega⟩
    have hi : i < nm.length := by have := hlt (by rw [show nm.length = 10 from rfl]; omega); omega
    obtain ⟨b, o, rfl, hbl, hc⟩ := (hnm2.le m9.above).get hi
    have hc' := (cell_above_lt hc).2
    have hii : (i : Int) < (nm.length : Int) := by omega
    have hmem : nm[i] ∈ nm := List.getElem_mem hi
    obtain ⟨s, hs⟩ : ∃ s, s = nm[i] := ⟨_, rfl⟩
    rw [← hs] at hc' hmem
    have MM := Lib.hid (hm2.trans m9)
    obtain ⟨r0, r1, r2, g0, g1, g2, rl⟩ := (rb2.mv m9 (by omega)).res'
    clear hlt hpk hc hbl h0 hs
    go_wp2_with fail
    refine bodyPost_ret (v := .agg #[.int .i64 1, .string s, .slice none 0 0]) (by simp [results, Tryd.results82, go_sem, r0, r1, r2]) rfl ?_
    exact RetDraw.fin (x := .mk 1 s []) hR .nil (fun b hb => by cases hb) (Shp.leaf hmem) (by rw [cntE_mk]; omega) MM.out r9 (by omega)

  have bv2 : (v2 == 0) = false := by rw [beq_eq_false_iff_ne]; exact hv2
  have hpk := pick_any w2 R (p + 1) 4 (by omega) hr2
  go_wp2_with fail
  refine hpk.mono ?_
  rintro e3 w3 ⟨v3, rfl, _, _, m3, hr3⟩
  have hm3 := hm2.trans m3
  have rb3 := rb2.mv m3 (by omega)
  clear hpk hr2 rb2 hnm2 hm2 m3
  have hs3 := hm3.size
  by_cases hv3 : v3 = 0
  · subst hv3
    have il := Own.new w3 3 #[.int .i64 6, .int .i64 7]
    have hil : Ints (above (R + 1) (w3.alloc (.cells #[.int .i64 6, .int .i64 7] 3))) (some ⟨w3.heap.size, 0, none⟩) 2 [6, 7] := ints_lit [6, 7] il (by omega) rfl (by omega) (fun i hi => by
      match i, hi with
      | 0, _ => rfl
      | 1, _ => rfl)
    have hnum := num_any (w3.alloc (.cells #[.int .i64 6, .int .i64 7] 3)) R (p + 1 + 1) _ 2 [6, 7] (by omega) (hr3.alloc _) hil (by simp)
    have hm4 := hm3.alloc (.cells #[.int .i64 6, .int .i64 7] 3)
    have rb4 := rb3.alloc (.cells #[.int .i64 6, .int .i64 7] 3)
    clear il hil hr3 rb3 hm3
    go_wp2_with fail
    refine hnum.mono ?_
    rintro e4 w4 ⟨op, rfl, hop, m4, hr4⟩
    have hm5 := hm4.trans m4
    have rb5 := rb4.mv m4 (by omega)
    have hs5 := hm5.size
    have hl5 := rb5.lt
    have hlit : op = 6 ∨ op = 7 := by simpa using hop
    clear hnum hm4 rb4 m4 hop
    go_wp2_with fail
    refine (ih (by omega) w4 R (p + 1 + 1 + 1) (by omega) hr4).mono ?_
    rintro e5 w5 ⟨x, A5, c5, F5, p5, rfl, ho, hF, hsh, hcn, m5, hr5, hp5⟩
    have hm6 := hm5.trans m5
    obtain ⟨r0, r1, r2, g0, g1, g2, rl⟩ := (rb5.mv m5 (by omega)).res'
    have hne : ∀ b ∈ F5, b ≠ w.heap.size := fun b hb => by have := hF b hb; omega
    have hF' : ∀ b ∈ F5, w.heap.size ≤ b := fun b hb => by have := hF b hb; omega
    have hnm := hsh.name_le
    have hsh' : Shp d (.mk op ⟨#[]⟩ [x]) := by
      obtain ⟨k, rfl⟩ : ∃ k, d = k + 1 := ⟨d - 1, by omega⟩
      exact Shp.node (by omega) (by omega) (by rcases hlit with rfl | rfl <;> rfl) (fun y hy => by simp at hy; subst hy; exact hsh)
    have Hsh := Lib.hid hsh'
    clear hsh hsh' hF m5 rb5 hm5 hr4 ih
    go_wp2_with fail
    refine bodyPost_ret (v := .agg #[.int .i64 op, .string ⟨#[]⟩, .slice (some ⟨w5.heap.size, 0, none⟩) 1 1]) (by simp [results, Tryd.results82, go_sem, r0, r1, r2, rl, World.cell?_alloc_lt]) rfl ?_
    exact RetDraw.fin1 (own_setN (own_setN (own_setN ho hne _ _) hne _ _) hne _ _) hF' hnm (by simp [World.setCell]) Hsh.out (by omega) (((hm6.setNew (Nat.le_refl _) _).setNew (Nat.le_refl _) _).setNew (Nat.le_refl _) _) (((hr5.setNew hR _).setNew hR _).setNew hR _) (by omega)
  have bv3 : (v3 == 0) = false := by rw [beq_eq_false_iff_ne]; exact hv3
  have il := Own.new w3 3 #[.int .i64 2, .int .i64 3, .int .i64 4, .int .i64 5]
  have hil : Ints (above (R + 1) (w3.alloc (.cells #[.int .i64 2, .int .i64 3, .int .i64 4, .int .i64 5] 3))) (some ⟨w3.heap.size, 0, none⟩) 4 [2, 3, 4, 5] := ints_lit [2, 3, 4, 5] il (by omega) rfl (by omega) (fun i hi => by
    match i, hi with
    | 0, _ => rfl
    | 1, _ => rfl
    | 2, _ => rfl
    | 3, _ => rfl)
  have hnum := num_any (w3.alloc (.cells #[.int .i64 2, .int .i64 3, .int .i64 4, .int .i64 5] 3)) R (p + 1 + 1) _ 4 [2, 3, 4, 5] (by omega) (hr3.alloc _) hil (by simp)
  have hm4 := hm3.alloc (.cells #[.int .i64 2, .int .i64 3, .int .i64 4, .int .i64 5] 3)
  have rb4 := rb3.alloc (.cells #[.int .i64 2, .int .i64 3, .int .i64 4, .int .i64 5] 3)
  clear il hil hr3 rb3 hm3
  go_wp2_with fail
  refine hnum.mono ?_
  rintro e4 w4 ⟨op, rfl, hop, m4, hr4⟩
  have hm5 := hm4.trans m4
  have rb5 := rb4.mv m4 (by omega)
  have hs5 := hm5.size
  have hl5 := rb5.lt
  have hlit : op = 2 ∨ op = 3 ∨ op = 4 ∨ op = 5 := by simpa using hop
  clear hnum hm4 rb4 m4 hop
  go_wp2_with fail
  refine (ih (by omega) w4 R (p + 1 + 1 + 1) (by omega) hr4).mono ?_
  rintro e5 w5 ⟨x, A5, c5, F5, p5, rfl, ho, hF, hsh, hcn, m5, hr5, hp5⟩
  have hm6 := hm5.trans m5
  have rb6 := rb5.mv m5 (by omega)
  have hs6 := m5.size
  clear rb5 hm5 hr4 m5
  go_wp2_with fail
  refine (ih (by omega) w5 R p5 (by omega) hr5).mono ?_
  rintro e6 w6 ⟨y, A6, c6, F6, p6, rfl, ho6, hF6, hsh6, hcn6, m6, hr6, hp6⟩
  have hm7 := hm6.trans m6
  have ho5 := ho.mv' m6 (fun b hb => by have := hF b hb; omega)
  obtain ⟨r0, r1, r2, g0, g1, g2, rl⟩ := (rb6.mv m6 (by omega)).res'
  have hne : ∀ b ∈ F5, b ≠ w.heap.size := fun b hb => by have := hF b hb; omega
  have hF' : ∀ b ∈ F5, w.heap.size ≤ b := fun b hb => by have := hF b hb; omega
  have hne6 : ∀ b ∈ F6, b ≠ w.heap.size := fun b hb => by have := hF6 b hb; omega
  have hF6' : ∀ b ∈ F6, w.heap.size ≤ b := fun b hb => by have := hF6 b hb; omega
  have hnm := hsh.name_le
  have hnm6 := hsh6.name_le
  have hsh' : Shp d (.mk op ⟨#[]⟩ [x, y]) := by
    obtain ⟨k, rfl⟩ : ∃ k, d = k + 1 := ⟨d - 1, by omega⟩
    exact Shp.node (by omega) (by omega) (by rcases hlit with rfl | rfl | rfl | rfl <;> rfl) (fun z hz => by
      simp at hz
      rcases hz with rfl | rfl
      · exact hsh
      · exact hsh6)
  have Hsh := Lib.hid hsh'
  clear hsh hsh6 hsh' hF hF6 m6 rb6 hm6 hr5 ih ho
  go_wp2_with fail
  refine bodyPost_ret (v := .agg #[.int .i64 op, .string ⟨#[]⟩, .slice (some ⟨w6.heap.size, 0, none⟩) 2 2]) (by simp [results, Tryd.results82, go_sem, r0, r1, r2, rl, World.cell?_alloc_lt]) rfl ?_
  exact RetDraw.fin2 (own_setN (own_setN (own_setN ho5 hne _ _) hne _ _) hne _ _) (own_setN (own_setN (own_setN ho6 hne6 _ _) hne6 _ _) hne6 _ _) hF' hF6' hnm hnm6 (by simp [World.setCell]) Hsh.out (by omega) (((hm7.setNew (Nat.le_refl _) _).setNew (Nat.le_refl _) _).setNew (Nat.le_refl _) _) (((hr6.setNew hR _).setNew hR _).setNew hR _) (by omega)

theorem draw_any (d : Nat) : ∀ (hd1 : 1 ≤ d) (hd : d ≤ 20) (w : World) (R p : Nat), p ≤ 1100000000 - 4 * 2 ^ d → Rd w R p → Calls Tryd.prog 82 #[.pointer (some ⟨R, 0, none⟩), .int .i64 d] w (RetDraw w R p d) := by
  induction d with
  | zero => intro h; omega
  | succ d ih =>
    intro hd1 hd w R p hp hr
    refine draw_of (d + 1) hd1 hd (fun h2 w R p hp hr => ?_) w R p hp hr
    have := ih (by omega) (by omega) w R p hp hr
    rw [show ((d + 1 : Nat) : Int) - 1 = d by omega]
    exact this

/-- What l7Some hands back: a valid expression of a small size. -/
def RetSome (w : World) (R p b : Nat) (e : Ending) (w' : World) : Prop :=
  ∃ (x : RE) (A : Option Addr) (c : Nat) (F : List Nat) (p' : Nat), e = .returned (.agg #[.int .i64 x.op, .string x.name, .slice A x.kids.length c]) ∧ OwE w' (.slice A x.kids.length c) x.kids F ∧ (∀ b ∈ F, w.heap.size ≤ b) ∧ Shp 4 x ∧ cntE x < 16 ∧ Mv R w w' ∧ Rd w' R p' ∧ p' ≤ p + b
theorem RetDraw.some4 {w : World} {R p d : Nat} {e : Ending} {w' : World} (hd : d = 3 ∨ d = 2 ∨ d = 4 ∨ d = 1) (h : RetDraw w R p d e w') : RetSome w R p 61 e w' := by
  obtain ⟨x, A, c, F, p', h1, h2, h3, h4, h5, h6, h7, h8⟩ := h
  refine ⟨x, A, c, F, p', h1, h2, h3, ?_, ?_, h6, h7, ?_⟩
  · rcases hd with rfl | rfl | rfl | rfl
    · exact h4.mono
    · exact h4.mono.mono
    · exact h4
    · exact h4.mono.mono.mono
  · rcases hd with rfl | rfl | rfl | rfl <;> omega
  · rcases hd with rfl | rfl | rfl | rfl <;> omega

set_option maxHeartbeats 400000 in
theorem some_any (w : World) (R p : Nat) (hp : p ≤ 1000000000) (hr : Rd w R p) : Calls Tryd.prog 50 #[.pointer (some ⟨R, 0, none⟩)] w (RetSome w R p 100) := by
  have rb := Own.new w 29 #[.int .i64 0, .string ByteArray.empty, .slice none 0 0]
  have hR := hr.lt
  obtain ⟨W, hW⟩ : ∃ W, W = w.alloc (.cells #[.int .i64 0, .string ⟨#[]⟩, .slice none 0 0] 29) := ⟨_, rfl⟩
  have hrW : Rd W R p := by rw [hW]; exact hr.alloc _
  have rbW : Own W w.heap.size 29 #[.int .i64 0, .string ByteArray.empty, .slice none 0 0] := by rw [hW]; exact rb
  have hsW : W.heap.size = w.heap.size + 1 := by rw [hW]; simp
  have hmW : Mv R w W := by rw [hW]; exact (Mv.refl _ _).alloc _
  have il := Own.new W 3 #[.int .i64 3, .int .i64 2, .int .i64 4, .int .i64 1]
  have hil : Ints (above (R + 1) (W.alloc (.cells #[.int .i64 3, .int .i64 2, .int .i64 4, .int .i64 1] 3))) (some ⟨W.heap.size, 0, none⟩) 4 [3, 2, 4, 1] := ints_lit [3, 2, 4, 1] il (by omega) rfl (by omega) (fun i hi => by
    match i, hi with
    | 0, _ => rfl
    | 1, _ => rfl
    | 2, _ => rfl
    | 3, _ => rfl)
  have hnum := num_any (W.alloc (.cells #[.int .i64 3, .int .i64 2, .int .i64 4, .int .i64 1] 3)) R p _ 4 [3, 2, 4, 1] (by omega) (hrW.alloc _) hil (by simp)
  have hm1 := hmW.alloc (.cells #[.int .i64 3, .int .i64 2, .int .i64 4, .int .i64 1] 3)
  have rb1 := rbW.alloc (.cells #[.int .i64 3, .int .i64 2, .int .i64 4, .int .i64 1] 3)
  rw [hsW] at hnum
  clear il hil rbW hmW rb hr
  go_enter Tryd.func50, Tryd.ntmps50
  go_wp2_with fail
  rw [← hW]
  refine hnum.mono ?_
  rintro e2 w2 ⟨d, rfl, hd, m2, hr2⟩
  have hlit : d = 3 ∨ d = 2 ∨ d = 4 ∨ d = 1 := by simpa using hd
  obtain ⟨dn, rfl⟩ : ∃ dn : Nat, d = dn := ⟨d.toNat, by omega⟩
  have hlit' : dn = 3 ∨ dn = 2 ∨ dn = 4 ∨ dn = 1 := by omega
  have hdr := draw_any dn (by omega) (by omega) w2 R (p + 1) (by rcases hlit' with rfl | rfl | rfl | rfl <;> omega) hr2
  have hm2 := hm1.trans m2
  have rb2 := rb1.mv m2 (by omega)
  have hl2 := rb2.lt
  clear hnum hd hlit m2 hr2 hm1 rb1 hW hrW
  go_wp2_with fail
  refine hdr.mono ?_
  intro e3 w3 h3
  obtain ⟨x, A, c, F, p', rfl, ho, hF, hsh, hcn, m3, hr3, hp3⟩ := h3.some4 hlit'
  have hm3 := hm2.trans m3
  obtain ⟨r0, r1, r2, g0, g1, g2, rl⟩ := (rb2.mv m3 (by omega)).res'
  have hne : ∀ b ∈ F, b ≠ w.heap.size := fun b hb => by have := hF b hb; omega
  have hF' : ∀ b ∈ F, w.heap.size ≤ b := fun b hb => by have := hF b hb; omega
  clear hdr h3 hF m3 rb2 hm2
  go_wp2_with fail
  refine bodyPost_ret (v := .agg #[.int .i64 x.op, .string x.name, .slice A x.kids.length c]) (by simp [results, Tryd.results50, go_sem, r0, r1, r2]) rfl ?_
  exact ⟨x, A, c, F, p', rfl, own_setN (own_setN (own_setN ho hne _ _) hne _ _) hne _ _, hF', hsh, hcn, ((hm3.setNew (Nat.le_refl _) _).setNew (Nat.le_refl _) _).setNew (Nat.le_refl _) _, ((hr3.setNew hR _).setNew hR _).setNew hR _, by omega⟩

end Go.Proofs.YtapelogbceoojaaDoor
