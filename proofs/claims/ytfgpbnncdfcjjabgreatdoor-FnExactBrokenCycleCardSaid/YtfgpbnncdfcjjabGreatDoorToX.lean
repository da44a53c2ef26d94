/-
  Candidates copied into memory of one's own (laws.toIntS, toIntSS, toExec), and marked there (laws.markExec).
-/
import Derived.Test.YtfgpbnncdfcjjabGreatDoorOwM
import Derived.Test.YtfgpbnncdfcjjabGreatDoorInts
import Derived.Test.YtfgpbnncdfcjjabGreatDoorWInsA
namespace Go.Proofs.YtfgpbnncdfcjjabGreatDoor
open Go.RowKit
set_option linter.unusedVariables false
set_option maxRecDepth 100000

def RetI1 (w : World) (xs : List Int) (e : Ending) (w' : World) : Prop := ∃ A c F, e = .returned (.slice A xs.length c) ∧ OwI1 w' (.slice A xs.length c) xs F ∧ F.Nodup ∧ (∀ b ∈ F, w.heap.size ≤ b) ∧ Below w.heap.size w w'
def RetI2 (w : World) (xs : List (List Int)) (e : Ending) (w' : World) : Prop := ∃ A c F, e = .returned (.slice A xs.length c) ∧ OwI2 w' (.slice A xs.length c) xs F ∧ F.Nodup ∧ (∀ b ∈ F, w.heap.size ≤ b) ∧ Below w.heap.size w w'

set_option maxHeartbeats 1000000 in
theorem toI1_any (xs : List Int) (hlen : xs.length ≤ 1048576) (w : World) (A : Option Addr) (c : Nat) (hr : Ints w A c xs) :
    Calls Tryz.prog 40 #[.slice A xs.length c] w (RetI1 w xs) := by
  have hmk := run_make_any (P := Tryz.prog) 23 3 _ 1 8 Tryz.underlying23 Tryz.infoInt xs.length (by omega) (by omega)
  go_enter Tryz.func40, Tryz.ntmps40
  go_wp2_with fail
  clear hmk
  go_loopg [4] xs.length (fun g s4 wr => ∃ (k : Nat) (F : Nat → Value), k ≤ xs.length ∧ g = xs.length - k ∧ s4 = .int .i64 k ∧ Below w.heap.size w wr ∧
    wr.rowIs w.heap.size 3 xs.length F ∧ Hid (∀ i (h : i < k) (h' : i < xs.length), F i = .int .i64 xs[i]))
  case atStart =>
    obtain ⟨F, hF⟩ := rowIs_made_any w #[.int .i64 0] (xs.length * 1) 3
    rw [Nat.mul_one] at hF
    first
      | exact ⟨0, F, Nat.zero_le _, rfl, rfl, (Below.refl _ _).alloc (Nat.le_refl _) _, hF, fun i h => absurd h (Nat.not_lt_zero _)⟩
      | exact ⟨0, F, Nat.zero_le _, rfl, rfl, (Below.refl _ _).alloc (Nat.le_refl _) _, by simpa using hF, fun i h => absurd h (Nat.not_lt_zero _)⟩
  case round =>
    obtain ⟨k, F, hk, rfl, rfl, hb, hF, hall⟩ := hrel
    by_cases hlt : k < xs.length
    · obtain ⟨b, o, rfl, hbl, k0⟩ := (hr.le (Le.below hb)).get hlt
      clear hr
      have f0 := hF.cell hlt
      have g0 := hF.frozen k
      go_wp2_with fail
      go_roundg (xs.length - (k + 1))
      case measure => omega
      case rel =>
        refine ⟨k + 1, _, by omega, rfl, by go_num, hb.setCell (p := ⟨w.heap.size, k, none⟩) (Nat.le_refl _) _, hF.set k _, fun i hi hi' => ?_⟩
        by_cases e : i = k
        · subst e
          exact if_pos rfl
        · exact (if_neg e).trans (hall.out i (by omega) hi')
    · go_wp2_with fail
      go_ret
      obtain rfl : k = xs.length := by omega
      refine ⟨_, _, _, rfl, OwRow.made (fun _ => []) hF (Nat.le_refl _) (by omega) (by omega) (fun i hi => ⟨(by have := hall.out i hi hi; simpa [QInt] using this), rfl⟩), ?_, ?_, hb⟩
      · rw [flat_ft _ _ (fun _ _ => rfl)]; simp
      · rw [flat_ft _ _ (fun _ _ => rfl)]; simp

set_option maxHeartbeats 1000000 in
theorem toI2_any (p : List (List Int)) (hlen : p.length ≤ 1048576) (hlens : ∀ xs ∈ p, xs.length ≤ 1048576) (w : World) (A : Option Addr) (c : Nat) (hr : Intss w A c p) :
    Calls Tryz.prog 41 #[.slice A p.length c] w (RetI2 w p) := by
  have hmk := run_make_any (P := Tryz.prog) 24 23 _ 1 24 Tryz.underlying24 Tryz.infoInts p.length (by omega) (by omega)
  go_enter Tryz.func41, Tryz.ntmps41
  go_wp2_with fail
  clear hmk
  go_loopg [4] p.length (fun g s4 wr => ∃ (k : Nat) (G : Nat → Value) (Fs : Nat → List Nat), k ≤ p.length ∧ g = p.length - k ∧ s4 = .int .i64 k ∧ Below w.heap.size w wr ∧
    wr.rowIs w.heap.size 23 p.length G ∧ Hid (Fill 1 PI1 wr w.heap.size w.heap.size G p k Fs))
  case atStart =>
    obtain ⟨F, hF⟩ := rowIs_made_any w #[.slice none 0 0] (p.length * 1) 23
    rw [Nat.mul_one] at hF
    first
      | exact ⟨0, F, _, Nat.zero_le _, rfl, rfl, (Below.refl _ _).alloc (Nat.le_refl _) _, hF, Fill.zero _ _ _ _ _ _⟩
      | exact ⟨0, F, _, Nat.zero_le _, rfl, rfl, (Below.refl _ _).alloc (Nat.le_refl _) _, by simpa using hF, Fill.zero _ _ _ _ _ _⟩
  case round =>
    obtain ⟨k, G, Fs, hk, rfl, rfl, hb, hF, hfill⟩ := hrel
    by_cases hlt : k < p.length
    · obtain ⟨b, o, A0, c0, rfl, hbl, k0, hre⟩ := (hr.le (Le.below hb)).get hlt
      clear hr
      have hgl := hF.lt
      go_wp2_with fail
      refine (toI1_any p[k] (hlens _ (List.getElem_mem hlt)) _ _ _ hre).mono ?_
      rintro e' w' ⟨A', c', F', rfl, how, hnd, hge, hb'⟩
      have hF' : w'.rowIs w.heap.size 23 p.length G := hF.of_block (hb'.block _ hF.lt)
      have f0 := hF'.cell hlt
      have g0 := hF'.frozen k
      have How := Lib.hid how
      have Hnd := Lib.hid hnd
      have Hge := Lib.hid hge
      clear k0 hre how hnd hge
      go_wp2_with fail
      go_roundg (p.length - (k + 1))
      case measure => omega
      case rel =>
        refine ⟨k + 1, _, fun i => if i = k then F' else Fs i, by omega, rfl, by go_num, (hb.trans (hb'.mono hb.size)).setCell (p := ⟨w.heap.size, k, none⟩) (Nat.le_refl _) _, hF'.set k _, ?_⟩
        refine Fill.step (P := PI1) pi1_loc hfill.out hlt (cs := fun _ => .slice A' p[k].length c') hb.size hgl hb' How.out Hge.out Hnd.out (fun b hne _ => Below.heap_setCell _ _ _ _ hne) (fun j hj => ?_) (fun t j ht hj => ?_)
        · obtain rfl : j = 0 := by omega
          simp
        · obtain rfl : j = 0 := by omega
          simp [ht]
    · go_wp2_with fail
      go_ret
      obtain rfl : k = p.length := by omega
      obtain ⟨F, h1, h2, h3⟩ := hfill.out.done hF (Nat.le_refl _) (by omega) (by omega) (Nat.le_refl _)
      exact ⟨_, _, F, rfl, h1, h2, h3, hb⟩

/-- A candidate in memory of one's own. -/
structure OwX (w : World) (A : Option Addr) (c : Nat) (B : Option Addr) (d : Nat) (x : Ex) (F1 F2 : List Nat) : Prop where
  f : OwI1 w (.slice A x.from_.length c) x.from_ F1
  o : OwI2 w (.slice B x.order.length d) x.order F2
theorem OwX.rep {w : World} {A : Option Addr} {c : Nat} {B : Option Addr} {d : Nat} {x : Ex} {F1 F2 : List Nat} (h : OwX w A c B d x F1 F2) : RepX w A c B d x :=
  ⟨(h.f.ints (B := 0) fun _ _ => Nat.zero_le _).le' (fun _ _ _ _ _ h => h) (Le.above _ _), (SlR.le (fun _ _ _ ⟨A, c, h1, h2⟩ => ⟨A, c, h1, h2.le (Le.above _ _)⟩) (h.o.intss (B := 0) fun _ _ => Nat.zero_le _) (Le.above _ _))⟩
theorem OwX.below {w w' : World} {A : Option Addr} {c : Nat} {B : Option Addr} {d : Nat} {x : Ex} {F1 F2 : List Nat} (h : OwX w A c B d x F1 F2) (hb : Below w.heap.size w w') : OwX w' A c B d x F1 F2 := ⟨h.f.below (flat_loc qint_congr) hb, h.o.below pi1_loc hb⟩
theorem OwX.move {w w' : World} {A : Option Addr} {c : Nat} {B : Option Addr} {d : Nat} {x : Ex} {F1 F2 : List Nat} (h : OwX w A c B d x F1 F2) (hb : ∀ b ∈ F1 ++ F2, w'.heap[b]? = w.heap[b]?) : OwX w' A c B d x F1 F2 :=
  ⟨h.f.move (flat_loc qint_congr) fun b hm => hb b (List.mem_append_left _ hm), h.o.move pi1_loc fun b hm => hb b (List.mem_append_right _ hm)⟩
theorem OwX.lt {w : World} {A : Option Addr} {c : Nat} {B : Option Addr} {d : Nat} {x : Ex} {F1 F2 : List Nat} (h : OwX w A c B d x F1 F2) : ∀ b ∈ F1 ++ F2, b < w.heap.size := fun b hm => by
  rcases List.mem_append.1 hm with hm | hm
  · exact h.f.lt (flat_loc qint_congr) b hm
  · exact h.o.lt pi1_loc b hm
def RetXO (w : World) (x : Ex) (e : Ending) (w' : World) : Prop := ∃ A c B d F1 F2, e = .returned (.agg #[.slice A x.from_.length c, .slice B x.order.length d]) ∧ OwX w' A c B d x F1 F2 ∧ (F1 ++ F2).Nodup ∧ (∀ b ∈ F1 ++ F2, w.heap.size ≤ b) ∧ Below w.heap.size w w'

set_option maxHeartbeats 1000000 in
theorem toXO_any (x : Ex) (hw : wX x ≤ 1048576) (w : World) (A B : Option Addr) (c d : Nat) (hr : RepX w A c B d x) :
    Calls Tryz.prog 12 #[.agg #[.slice A x.from_.length c, .slice B x.order.length d]] w (RetXO w x) := by
  have hwx : wX x = x.from_.length + (x.order.length + wSum List.length x.order) := rfl
  have h1 : x.from_.length ≤ 1048576 := by omega
  have h2 : x.order.length ≤ 1048576 := by omega
  have h3 : ∀ xs ∈ x.order, xs.length ≤ 1048576 := fun xs hx => by have := wSum_mem List.length hx; omega
  have H3 := Lib.hid h3
  clear hwx hw h3
  go_enter Tryz.func12, Tryz.ntmps12
  go_wp2_with fail
  refine (toI1_any x.from_ h1 _ A c (hr.1.le (((Le.alloc _ _).to_alloc _).to_alloc _))).mono ?_
  rintro e1 w1 ⟨A1, c1, F1, rfl, how1, hn1, hF1, hb1⟩
  have hb : Below w.heap.size w w1 := ((((Below.refl _ _).alloc (Nat.le_refl _) _).alloc (by simp) _).alloc (by simp <;> omega) _).trans (hb1.mono (by simp <;> omega))
  have hF1' : ∀ b ∈ F1, w.heap.size + 3 ≤ b := fun b hm => by have := hF1 b hm; simpa using this
  have oR := ((Own.new (w.alloc (.cells #[.slice A x.from_.length c, .slice B x.order.length d] 26)) 34 #[.slice none 0 0, .slice none 0 0]).alloc (.cells #[.slice none 0 0, .slice none 0 0] 34)).under hb1
  have oO := (Own.new ((w.alloc (.cells #[.slice A x.from_.length c, .slice B x.order.length d] 26)).alloc (.cells #[.slice none 0 0, .slice none 0 0] 34)) 34 #[.slice none 0 0, .slice none 0 0]).under hb1
  have oA := (((Own.new w 26 #[.slice A x.from_.length c, .slice B x.order.length d]).alloc (.cells #[.slice none 0 0, .slice none 0 0] 34)).alloc (.cells #[.slice none 0 0, .slice none 0 0] 34)).under hb1
  simp only [World.size_alloc] at oR oO oA
  have hz1 := oO.lt
  have hL1 := how1.lt (flat_loc qint_congr)
  have How1 := Lib.hid how1
  clear hb1 hF1 how1
  have q0 := oO.cell (i := 0) rfl
  have q1 := oO.frozen 0
  have q2 := oA.cell (i := 1) rfl
  go_wp2_with fail
  have hb1' := hb.setCell (p := ⟨w.heap.size + 1 + 1, 0, none⟩) (by simp <;> omega) (.slice A1 x.from_.length c1)
  refine (toI2_any x.order h2 H3.out _ B d (hr.2.le ((Le.below hb).to_setCell (p := ⟨w.heap.size + 1 + 1, 0, none⟩) (by simp <;> omega) _))).mono ?_
  rintro e2 w2 ⟨A2, c2, F2, rfl, how2, hn2, hF2, hb2⟩
  have hb3 := hb1'.trans (hb2.mono hb1'.size)
  have hF2' : ∀ b ∈ F2, w1.heap.size ≤ b := fun b hm => by have := hF2 b hm; simpa using this
  have hkf : OwI1 w2 (.slice A1 x.from_.length c1) x.from_ F1 := (How1.out.move (flat_loc qint_congr) fun b hm => Below.heap_setCell _ _ _ _ (fun (e : b = w.heap.size + 1 + 1) => by have := hF1' b hm; omega)).below (flat_loc qint_congr) hb2
  have oO2 := (oO.set 0 (.slice A1 x.from_.length c1)).under hb2
  have oR2 := (oR.far (a := ⟨w.heap.size + 1 + 1, 0, none⟩) (by simp) (.slice A1 x.from_.length c1)).under hb2
  have How2 := Lib.hid how2
  clear q0 q1 q2 hb2 how2 hb1' oO oR oA hF2 How1
  have q0 := oO2.cell (i := 0) rfl
  have q1 := oO2.cell (i := 1) rfl
  have q2 := oO2.frozen 1
  have r0 := oR2.cell (i := 0) rfl
  have r1 := oR2.cell (i := 1) rfl
  have r2 := oR2.frozen 0
  have r3 := oR2.frozen 1
  clear oO2 oR2
  go_wp2_with fail
  refine bodyPost_ret (v := .agg #[.slice A1 x.from_.length c1, .slice A2 x.order.length c2]) (by simp [results, Tryz.results12, go_sem, r0, r1]) rfl ?_
  have hmv : ∀ b ∈ F1 ++ F2, (((w2.setCell ⟨w.heap.size + 1 + 1, 1, none⟩ (.slice A2 x.order.length c2)).setCell ⟨w.heap.size + 1, 0, none⟩ (.slice A1 x.from_.length c1)).setCell ⟨w.heap.size + 1, 1, none⟩ (.slice A2 x.order.length c2)).heap[b]? = w2.heap[b]? := fun b hm => by
    have hge : w.heap.size + 3 ≤ b := by
      rcases List.mem_append.1 hm with h | h
      · exact hF1' b h
      · have := hF2' b h; omega
    rw [Below.heap_setCell _ _ _ _ (fun (e : b = w.heap.size + 1) => by omega), Below.heap_setCell _ _ _ _ (fun (e : b = w.heap.size + 1) => by omega), Below.heap_setCell _ _ _ _ (fun (e : b = w.heap.size + 1 + 1) => by omega)]
  refine ⟨A1, c1, A2, c2, F1, F2, rfl, (OwX.mk hkf How2.out).move hmv, ?_, ?_, ((hb3.setCell (by simp <;> omega) _).setCell (by simp) _).setCell (by simp) _⟩
  · exact List.nodup_append.2 ⟨hn1, hn2, fun a ha b hb e => by subst e; have := hL1 a ha; have := hF2' a hb; omega⟩
  · intro b hm
    rcases List.mem_append.1 hm with h | h
    · have := hF1' b h; omega
    · have := hF2' b h; omega

set_option maxHeartbeats 1000000 in
theorem markX_any (x : Ex) (w : World) (A B : Option Addr) (c d : Nat) (F1 F2 : List Nat) (k : Nat) (h : OwX w A c B d x F1 F2) (hnd : (F1 ++ F2).Nodup) (hk : k + wtX x < 10 ^ 18) :
    Calls Tryz.prog 20 #[.agg #[.slice A x.from_.length c, .slice B x.order.length d], .int .i64 k] w (fun e w' => e = .returned (.int .i64 ((k + wtX x : Nat) : Int)) ∧ MvO (F1 ++ F2) w w') := by
  have hwx : wtX x = x.from_.length + wSum List.length x.order := rfl
  obtain ⟨n1, n2, nd⟩ := List.nodup_append.1 hnd
  obtain ⟨W, hW⟩ : ∃ W, W = w.alloc (.cells #[.slice A x.from_.length c, .slice B x.order.length d] 34) := ⟨_, rfl⟩
  have hb : Below w.heap.size w W := by rw [hW]; exact (Below.refl _ _).alloc (Nat.le_refl _) _
  have oX : Own W w.heap.size 34 #[.slice A x.from_.length c, .slice B x.order.length d] := by rw [hW]; exact Own.new _ _ _
  have hO := h.below hb
  have hlt := h.lt
  have h1 := markInts_any x.from_ W _ F1 k hO.f n1 (by omega)
  have q0 := oX.cell (i := 0) (v := .slice A x.from_.length c) rfl
  have hlf : x.from_.length ≤ 9223372036854775807 := hO.rep.1.len
  have hlo : x.order.length ≤ 9223372036854775807 := hO.rep.2.len
  clear h
  go_enter Tryz.func20, Tryz.ntmps20
  go_wp2_with fail
  rw [← hW]
  clear hW
  refine h1.mono ?_
  rintro e1 w1 ⟨rfl, ho1, m1⟩
  have oX1 : Own w1 w.heap.size 34 #[.slice A x.from_.length c, .slice B x.order.length d] := oX.of_block (m1.block _ oX.lt fun hm => by have := hlt _ (List.mem_append_left _ hm); omega)
  have hO2 : OwI2 w1 (.slice B x.order.length d) x.order F2 := hO.o.move pi1_loc fun b hm => m1.block b (hO.o.lt pi1_loc b hm) fun h1 => nd b h1 b hm rfl
  have q1 := oX1.cell (i := 1) (v := .slice B x.order.length d) rfl
  have h2 := markIntss_any x.order w1 _ F2 (k + x.from_.length) hO2 n2 (by omega)
  clear h1 ho1 q0
  go_wp2_with fail
  refine h2.mono ?_
  rintro e2 w2 ⟨rfl, ho2, m2⟩
  clear h2
  go_wp2_with fail
  go_ret
  exact ⟨congrArg _ (congrArg (Value.int .i64) (by rw [hwx]; omega)), m2.os.trans (m1.os.trans hb.os), m2.tape.trans (m1.tape.trans hb.tape), m2.output.trans (m1.output.trans hb.output), Nat.le_trans hb.size (Nat.le_trans m1.size m2.size), fun i hi hn => (m2.block i (Nat.lt_of_lt_of_le hi (Nat.le_trans hb.size m1.size)) fun h => hn (List.mem_append_right _ h)).trans ((m1.block i (Nat.lt_of_lt_of_le hi hb.size) fun h => hn (List.mem_append_left _ h)).trans (hb.block i hi))⟩

end Go.Proofs.YtfgpbnncdfcjjabGreatDoor
