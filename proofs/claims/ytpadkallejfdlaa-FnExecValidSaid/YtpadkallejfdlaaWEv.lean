/-
  Events: the walks of eqEvent, eqEventS at equal data, markEventS, heldEventS.
-/
import Derived.Test.YtpadkallejfdlaaWIns2
namespace Go.Proofs.Ytpadkallejfdlaa
open Go.RowKit
set_option linter.unusedVariables false
set_option maxRecDepth 100000

/-- An event's five cells. -/
def QEv (cs : Nat → Value) (x : Ev) : Prop := cs 0 = .int .i64 x.thr ∧ cs 1 = .int .i64 x.idx ∧ cs 2 = .int .i64 x.loc ∧ cs 3 = .bool x.rd ∧ cs 4 = .bool x.wr
theorem qev_congr : ∀ (f g : Nat → Value) (x : Ev), (∀ j, j < 5 → f j = g j) → QEv f x → QEv g x := fun f g x h hq => ⟨(h 0 (by omega)).symm.trans hq.1, (h 1 (by omega)).symm.trans hq.2.1, (h 2 (by omega)).symm.trans hq.2.2.1, (h 3 (by omega)).symm.trans hq.2.2.2.1, (h 4 (by omega)).symm.trans hq.2.2.2.2⟩
abbrev PEv : OwP Ev := flat QEv
theorem pev_loc : OwLoc 5 PEv := flat_loc qev_congr
abbrev OwEv (w : World) (v : Value) (xs : List Ev) (F : List Nat) : Prop := OwRow 5 38 PEv w v xs F
theorem OwEv.evS {w : World} {v : Value} {xs : List Ev} {F : List Nat} {B : Nat} (h : OwEv w v xs F) (hB : ∀ b ∈ F, B ≤ b) : EvS (above B w) v xs := OwRow.slR h (fun cs x F' _ hx => hx.1) hB
theorem OwEv.evS0 {w : World} {v : Value} {xs : List Ev} {F : List Nat} (h : OwEv w v xs F) : EvS w v xs := EvS.le (h.evS (B := 0) (fun _ _ => Nat.zero_le _)) (Le.above _ _)

def valEv (x : Ev) : Value := .agg #[.int .i64 x.thr, .int .i64 x.idx, .int .i64 x.loc, .bool x.rd, .bool x.wr]

set_option maxHeartbeats 400000 in
theorem eqEv_any (x : Ev) (w : World) : Calls Try.prog 40 #[.agg #[.int .i64 x.thr, .int .i64 x.idx, .int .i64 x.loc, .bool x.rd, .bool x.wr], .agg #[.int .i64 x.thr, .int .i64 x.idx, .int .i64 x.loc, .bool x.rd, .bool x.wr]] w (RetB w true) := by
  have hb2 : Below w.heap.size w ((w.alloc (.cells #[.int .i64 x.thr, .int .i64 x.idx, .int .i64 x.loc, .bool x.rd, .bool x.wr] 38)).alloc (.cells #[.int .i64 x.thr, .int .i64 x.idx, .int .i64 x.loc, .bool x.rd, .bool x.wr] 38)) := (((Below.refl _ _).alloc (Nat.le_refl _) _).alloc (by simp) _)
  have Hb2 := Lib.hid hb2
  clear hb2
  go_enter Try.func40, Try.ntmps40
  go_wp2_with fail
  go_ret
  exact ⟨rfl, Hb2.out⟩

set_option maxHeartbeats 1000000 in
theorem eqEvS_any (xs : List Ev) (w : World) (v u : Value) (hr : EvS w v xs) (hr' : EvS w u xs) : Calls Try.prog 13 #[v, u] w (RetB w true) := by
  obtain ⟨A, c, rfl, hm⟩ := hr.slice
  obtain ⟨A', c', rfl, hm'⟩ := hr'.slice
  go_enter Try.func13, Try.ntmps13
  go_wp2_with fail
  go_loopg [5] xs.length (fun g s5 wr => ∃ k : Nat, k ≤ xs.length ∧ g = xs.length - k ∧ s5 = .int .i64 k ∧ Below w.heap.size w wr)
  case atStart => exact ⟨0, Nat.zero_le _, rfl, rfl, Below.refl _ _⟩
  case round =>
    obtain ⟨k, hk, rfl, rfl, hb⟩ := hrel
    by_cases hlt : k < xs.length
    · obtain ⟨b, o, rfl, hbl, k0, k1, k2, k3, k4⟩ := (EvS.le hr (Le.below hb)).get hlt
      obtain ⟨b', o', rfl, hbl', d0, d1, d2, d3, d4⟩ := (EvS.le hr' (Le.below hb)).get hlt
      clear hr hr'
      go_wp2_with fail
      go_still_tail 8, (by kernel_rfl)
      go_wp2_with fail
      refine (eqEv_any xs[k] _).mono ?_
      rintro e' w' ⟨rfl, hb'⟩
      have hb'' := hb.drew.trans (hb'.mono hb.size)
      clear k0 k1 k2 k3 k4 d0 d1 d2 d3 d4 hbl hbl'
      go_wp2_with fail
      go_roundg (xs.length - (k + 1))
      case measure => omega
      case rel => exact ⟨k + 1, by omega, rfl, by go_num, hb''⟩
    · obtain rfl : k = xs.length := by omega
      go_wp2_with fail
      go_ret
      exact ⟨rfl, hb⟩

theorem cells5 {w : World} {b : Nat} {t : TypeId} {n : Nat} {F : Nat → Value} (h : w.rowIs b t n F) {k : Nat} (hk : k * 5 + 5 ≤ n) :
    (w.cell? ⟨b, k * 5, none⟩ = some (F (k * 5)) ∧ w.cell? ⟨b, k * 5 + 1, none⟩ = some (F (k * 5 + 1)) ∧ w.cell? ⟨b, k * 5 + 2, none⟩ = some (F (k * 5 + 2)) ∧ w.cell? ⟨b, k * 5 + 3, none⟩ = some (F (k * 5 + 3)) ∧ w.cell? ⟨b, k * 5 + 4, none⟩ = some (F (k * 5 + 4))) ∧
      w.frozen? ⟨b, k * 5, none⟩ = false ∧ w.frozen? ⟨b, k * 5 + 1, none⟩ = false ∧ w.frozen? ⟨b, k * 5 + 2, none⟩ = false ∧ w.frozen? ⟨b, k * 5 + 3, none⟩ = false ∧ w.frozen? ⟨b, k * 5 + 4, none⟩ = false :=
  ⟨⟨h.cell (by omega), h.cell (by omega), h.cell (by omega), h.cell (by omega), h.cell (by omega)⟩, h.frozen _, h.frozen _, h.frozen _, h.frozen _, h.frozen _⟩
def up5 (F : Nat → Value) (k : Nat) (v0 v1 v2 v3 v4 : Value) : Nat → Value := fun j => if j = k * 5 + 4 then v4 else if j = k * 5 + 3 then v3 else if j = k * 5 + 2 then v2 else if j = k * 5 + 1 then v1 else if j = k * 5 then v0 else F j
theorem up5_other (F : Nat → Value) {k i j : Nat} (v0 v1 v2 v3 v4 : Value) (h : i ≠ k) (hj : j < 5) : up5 F k v0 v1 v2 v3 v4 (i * 5 + j) = F (i * 5 + j) := by
  unfold up5
  rw [if_neg (by omega), if_neg (by omega), if_neg (by omega), if_neg (by omega), if_neg (by omega)]
theorem up5_self (F : Nat → Value) (k : Nat) (v0 v1 v2 v3 v4 : Value) : up5 F k v0 v1 v2 v3 v4 (k * 5 + 0) = v0 ∧ up5 F k v0 v1 v2 v3 v4 (k * 5 + 1) = v1 ∧ up5 F k v0 v1 v2 v3 v4 (k * 5 + 2) = v2 ∧ up5 F k v0 v1 v2 v3 v4 (k * 5 + 3) = v3 ∧ up5 F k v0 v1 v2 v3 v4 (k * 5 + 4) = v4 := by
  unfold up5
  refine ⟨?_, ?_, ?_, ?_, ?_⟩
  · rw [if_neg (by omega), if_neg (by omega), if_neg (by omega), if_neg (by omega), if_pos (by omega)]
  · rw [if_neg (by omega), if_neg (by omega), if_neg (by omega), if_pos rfl]
  · rw [if_neg (by omega), if_neg (by omega), if_pos rfl]
  · rw [if_neg (by omega), if_pos rfl]
  · rw [if_pos rfl]
theorem row_set5 {w : World} {b : Nat} {t : TypeId} {n : Nat} {F : Nat → Value} (h : w.rowIs b t n F) (k : Nat) (v0 v1 v2 v3 v4 : Value) :
    (((((w.setCell ⟨b, k * 5, none⟩ v0).setCell ⟨b, k * 5 + 1, none⟩ v1).setCell ⟨b, k * 5 + 2, none⟩ v2).setCell ⟨b, k * 5 + 3, none⟩ v3).setCell ⟨b, k * 5 + 4, none⟩ v4).rowIs b t n (up5 F k v0 v1 v2 v3 v4) :=
  ((((h.set (k * 5) v0).set (k * 5 + 1) v1).set (k * 5 + 2) v2).set (k * 5 + 3) v3).set (k * 5 + 4) v4

/-- 'k%3 == 0' as the walk writes it. -/
def third (k : Int) : Bool := k.tmod 3 == 0
def mkEv (k : Nat) (_ : Ev) : Ev := ⟨k, (k : Int) + 1, (k : Int) + 1 + 1, third ((k : Int) + 1 + 1 + 1), third ((k : Int) + 1 + 1 + 1 + 1)⟩
def RetMkEv (w : World) (v : Value) (xs : List Ev) (F : List Nat) (k : Nat) (e : Ending) (w' : World) : Prop :=
  e = .returned (.int .i64 ((k + 5 * xs.length : Nat) : Int)) ∧ OwEv w' v (mkG mkEv (fun _ => 5) k xs) F ∧ MvO F w w'

set_option maxHeartbeats 1000000 in
theorem markEvS_any (xs : List Ev) (w : World) (v : Value) (F : List Nat) (k : Nat) (h : OwEv w v xs F) (hnd : F.Nodup) (hk : k + 5 * xs.length < 10 ^ 18) : Calls Try.prog 16 #[v, .int .i64 k] w (RetMkEv w v xs F k) := by
  obtain ⟨A, c, rfl, _, hlen⟩ := h.slice
  go_enter Try.func16, Try.ntmps16
  go_wp2_with fail
  go_loopg [1, 5] xs.length (fun g s1 s5 wr => ∃ i : Nat, i ≤ xs.length ∧ g = xs.length - i ∧ s5 = .int .i64 i ∧ s1 = .int .i64 ((k + 5 * i : Nat) : Int) ∧ OwEv wr (.slice A xs.length c) (midG mkEv (fun _ => 5) k xs i) F ∧ MvO F w wr)
  case atStart => exact ⟨0, Nat.zero_le _, rfl, rfl, rfl, by rw [midG_zero]; exact h, MvO.refl _ _⟩
  case round =>
    obtain ⟨i, hi, rfl, rfl, rfl, ho, m⟩ := hrel
    by_cases hlt : i < xs.length
    · have hml := midG_length mkEv (fun _ => 5) k xs i hi
      obtain ⟨g, N, G, Fi, rfl, hn', hgl, hgF, hsub, hndi, hgi, hrow, hN, ⟨⟨q0, q1, q2, q3, q4⟩, rfl⟩, hback⟩ := ho.elem pev_loc hnd (i := i) (by omega)
      obtain ⟨⟨c0, c1, c2, c3, c4⟩, z0, z1, z2, z3, z4⟩ := cells5 hrow (k := i) (by omega)
      have hset := midG_set mkEv (fun _ => 5) k xs i hlt
      rw [wSum4, List.length_take, show min i xs.length = i by omega] at hset
      obtain ⟨q, hq⟩ : ∃ q : Nat, q = k + 5 * i := ⟨_, rfl⟩
      rw [← hq] at hset ⊢
      have hq1 : q + 5 < 10 ^ 18 := by omega
      have hnx : q + 5 = k + 5 * (i + 1) := by omega
      have hW := row_set5 hrow i (.int .i64 q) (.int .i64 ((q : Int) + 1)) (.int .i64 ((q : Int) + 1 + 1)) (.bool (third ((q : Int) + 1 + 1 + 1))) (.bool (third ((q : Int) + 1 + 1 + 1 + 1)))
      have hres := hback _ _ (mkEv q xs[i]) hW (fun t j ht hj => up5_other _ _ _ _ _ _ ht hj) (fun b hb hne _ => (Below.heap_setCell _ _ _ _ hne).trans ((Below.heap_setCell _ _ _ _ hne).trans ((Below.heap_setCell _ _ _ _ hne).trans ((Below.heap_setCell _ _ _ _ hne).trans (Below.heap_setCell _ _ _ _ hne))))) ⟨up5_self _ _ _ _ _ _ _, rfl⟩
      rw [hset] at hres
      have Hres := Lib.hid hres
      have hm4 := ((((m.set (p := ⟨g, i * 5, none⟩) hgF (.int .i64 q)).set (p := ⟨g, i * 5 + 1, none⟩) hgF (.int .i64 ((q : Int) + 1))).set (p := ⟨g, i * 5 + 2, none⟩) hgF (.int .i64 ((q : Int) + 1 + 1))).set (p := ⟨g, i * 5 + 3, none⟩) hgF (.bool (third ((q : Int) + 1 + 1 + 1)))).set (p := ⟨g, i * 5 + 4, none⟩) hgF (.bool (third ((q : Int) + 1 + 1 + 1 + 1)))
      have Hm4 := Lib.hid hm4
      have Nx := Lib.hid hnx
      clear hback hset hnx hn' hml hq ho h hrow hres hm4 hW q0 q1 q2 q3 q4
      go_wp2_with fail
      go_roundg (xs.length - (i + 1))
      case measure => omega
      case rel => exact ⟨i + 1, by omega, rfl, by go_num, congrArg (Value.int .i64) (by have := Nx.out; omega), Hres.out, Hm4.out⟩
    · obtain rfl : i = xs.length := by omega
      go_wp2_with fail
      go_ret
      rw [midG_all] at ho
      exact ⟨rfl, ho, m⟩

def RetHd (w : World) (n : Nat) (e : Ending) (w' : World) : Prop := e = .returned (.int .i64 (n : Int)) ∧ Below w.heap.size w w'
set_option maxHeartbeats 1000000 in
theorem heldEvS_any (xs : List Ev) (w : World) (v : Value) (k : Nat) (h : EvS w v (mkG mkEv (fun _ => 5) k xs)) (hk : k + 5 * xs.length < 10 ^ 18) : Calls Try.prog 17 #[v, .int .i64 k] w (RetHd w (k + 5 * xs.length)) := by
  obtain ⟨A, c, rfl, hlen⟩ := h.slice
  rw [mkG_length] at hlen h ⊢
  go_enter Try.func17, Try.ntmps17
  go_wp2_with fail
  go_loopg [1, 5] xs.length (fun g s1 s5 wr => ∃ i : Nat, i ≤ xs.length ∧ g = xs.length - i ∧ s5 = .int .i64 i ∧ s1 = .int .i64 ((k + 5 * i : Nat) : Int) ∧ Below w.heap.size w wr)
  case atStart => exact ⟨0, Nat.zero_le _, rfl, rfl, rfl, Below.refl _ _⟩
  case round =>
    obtain ⟨i, hi, rfl, rfl, rfl, hb⟩ := hrel
    by_cases hlt : i < xs.length
    · obtain ⟨b, o, rfl, hbl, k0, k1, k2, k3, k4⟩ := (EvS.le h (Le.below hb)).get (i := i) (by rw [mkG_length]; exact hlt)
      simp only [mkG_get mkEv (fun _ => 5) xs k i hlt, wSum4, List.length_take, show min i xs.length = i by omega] at k0 k1 k2 k3 k4
      obtain ⟨q, hq⟩ : ∃ q : Nat, q = k + 5 * i := ⟨_, rfl⟩
      rw [← hq] at k0 k1 k2 k3 k4 ⊢
      simp only [mkEv, third] at k0 k1 k2 k3 k4
      have hq1 : q + 5 < 10 ^ 18 := by omega
      have hnx : q + 5 = k + 5 * (i + 1) := by omega
      have Nx := Lib.hid hnx
      clear hnx hq h
      go_wp2_with fail
      go_roundg (xs.length - (i + 1))
      case measure => omega
      case rel => exact ⟨i + 1, by omega, rfl, by go_num, congrArg (Value.int .i64) (by have := Nx.out; omega), hb⟩
    · obtain rfl : i = xs.length := by omega
      go_wp2_with fail
      go_ret
      exact ⟨rfl, hb⟩

end Go.Proofs.Ytpadkallejfdlaa
