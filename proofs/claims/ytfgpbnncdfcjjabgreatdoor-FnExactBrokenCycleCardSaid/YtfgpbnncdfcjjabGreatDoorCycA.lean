/-
  A queue: a slice of rows of ints that may begin inside a block of one's own, and what appending to it gives. The walks of impl.cycleFrom, impl.FindCycle, spec.l2Path, spec.l2Cycle: the first of the shortest cycles.
-/
import Derived.Test.YtfgpbnncdfcjjabGreatDoorRelA
import Derived.Test.YtfgpbnncdfcjjabGreatDoorRwS
import Derived.ArgAppend

/-! A queue: a slice of rows of ints that may begin inside a block of one's own, and what appending to it gives. -/
namespace Go.Proofs.YtfgpbnncdfcjjabGreatDoor
open Go.RowKit
set_option linter.unusedVariables false
set_option maxRecDepth 100000

/-- A path in a row of one's own, apart from block g. -/
def PR (w : World) (base g : Nat) (A : Option Addr) (c : Nat) (x : List Int) : Prop := RowI w base (.slice A x.length c) x ∧ ∀ b, (Value.slice A x.length c).ownBlock = some b → b ≠ g
theorem PR.below {w w' : World} {base g : Nat} {A : Option Addr} {c : Nat} {x : List Int} (h : PR w base g A c x) (hb : Below w.heap.size w w') : PR w' base g A c x := ⟨RowOf.below h.1 hb, h.2⟩
theorem PR.set {w : World} {base g o : Nat} {v : Value} {A : Option Addr} {c : Nat} {x : List Int} (h : PR w base g A c x) : PR (w.setCell ⟨g, o, none⟩ v) base g A c x :=
  ⟨RowOf.of_block h.1 fun b _ hv _ => Below.heap_setCell _ _ _ _ (h.2 b hv), h.2⟩
theorem PR.moved {w w' : World} {base g g' : Nat} {A : Option Addr} {c : Nat} {x : List Int} (h : PR w base g A c x) (hg : w.grownBy w' none) (hn : w.heap.size ≤ g') : PR w' base g' A c x :=
  ⟨RowOf.of_block h.1 fun b _ hv hl => hg.block b hl (fun e => by cases e), fun b hv e => by have := (RowOf.blk h.1 hv).2; omega⟩
/-- A queue of rows of ints. -/
structure QR (w : World) (base g off cap : Nat) (xs : List (List Int)) : Prop where
  hb : base ≤ g
  lt : g < w.heap.size
  len : xs.length ≤ cap
  max : cap ≤ 9223372036854775807
  cells : ∀ j, j < cap → (w.cell? ⟨g, off + j, none⟩).isSome = true ∧ w.frozen? ⟨g, off + j, none⟩ = false
  el : ∀ i (h : i < xs.length), ∃ A c, w.cell? ⟨g, off + i, none⟩ = some (.slice A xs[i].length c) ∧ Ints (far base (some g) w) A c xs[i] ∧ PR w base g A c xs[i]
section
variable {w w' : World} {base g off cap : Nat} {xs : List (List Int)}
theorem QR.below (h : QR w base g off cap xs) (hb : Below w.heap.size w w') : QR w' base g off cap xs :=
  ⟨h.hb, by have := hb.size; have := h.lt; omega, h.len, h.max,
   fun j hj => by rw [hb.cell (p := ⟨g, off + j, none⟩) h.lt, hb.frozen (p := ⟨g, off + j, none⟩) h.lt]; exact h.cells j hj,
   fun i hi => by
    obtain ⟨A, c, h1, h2, h3⟩ := h.el i hi
    exact ⟨A, c, Le.below hb _ _ h1, h2.le (Le.far_below hb), h3.below hb⟩⟩
theorem QR.drew (h : QR w base g off cap xs) : QR w.drew base g off cap xs := h.below (Below.refl _ _).drew
theorem QR.tail {x : List Int} (h : QR w base g off cap (x :: xs)) : QR w base g (off + 1) (cap - 1) xs := by
  have hl := h.len
  rw [List.length_cons] at hl
  refine ⟨h.hb, h.lt, by omega, by have := h.max; omega, fun j hj => ?_, fun i hi => ?_⟩
  · have := h.cells (j + 1) (by omega)
    rwa [show off + (j + 1) = off + 1 + j by omega] at this
  · obtain ⟨A, c, h1, h2⟩ := h.el (i + 1) (by simpa using hi)
    rw [show off + (i + 1) = off + 1 + i by omega] at h1
    exact ⟨A, c, h1, h2.1, h2.2⟩
theorem Le.far_set (B g : Nat) (w : World) (o : Nat) (v : Value) : Le (Go.Proofs.YtfgpbnncdfcjjabGreatDoor.far B (some g) w) (Go.Proofs.YtfgpbnncdfcjjabGreatDoor.far B (some g) (w.setCell ⟨g, o, none⟩ v)) := fun x u hc => by
  obtain ⟨h1, h2, h3⟩ := of_far hc
  refine far_of h1 h2 ?_
  rw [World.cell?_setCell_other w ⟨g, o, none⟩ x v (fun e => h2 (by rw [← e]))]
  exact h3
/-- There is room. -/
theorem QR.room (h : QR w base g off cap xs) (hroom : xs.length + 1 ≤ cap) {A : Option Addr} {c : Nat} {t : List Int} (ht : Ints (far base (some g) w) A c t) (hpr : PR w base g A c t) :
    QR (w.setCell ⟨g, off + xs.length, none⟩ (.slice A t.length c)) base g off cap (xs ++ [t]) := by
  refine ⟨h.hb, by simpa using h.lt, by simpa using hroom, h.max, fun j hj => ?_, fun i hi => ?_⟩
  · obtain ⟨h1, h2⟩ := h.cells j hj
    refine ⟨?_, by simpa using h2⟩
    by_cases e : j = xs.length
    · subst e
      rw [World.cell?_setCell_same' w ⟨g, off + xs.length, none⟩ _ h1]
      rfl
    · rw [World.cell?_setCell_other w _ _ _ (fun h => e (by injection h; omega))]
      exact h1
  · by_cases e : i = xs.length
    · subst e
      rw [List.getElem_append_right (Nat.le_refl _)]
      refine ⟨A, c, ?_, ?_, by simpa using hpr.set⟩
      · rw [World.cell?_setCell_same' w ⟨g, off + xs.length, none⟩ _ (h.cells xs.length (by omega)).1]
        simp
      · simpa using ht.le (Le.far_set _ _ _ _ _)
    · have hlt : i < xs.length := by rw [List.length_append, List.length_singleton] at hi; omega
      obtain ⟨A', c', h1, h2, h3⟩ := h.el i hlt
      rw [List.getElem_append_left hlt]
      refine ⟨A', c', ?_, h2.le (Le.far_set _ _ _ _ _), h3.set⟩
      rw [World.cell?_setCell_other w _ _ _ (fun h => e (by injection h; omega))]
      exact h1
theorem Le.far_new {B g g' : Nat} {a b : World} (h : a.grownBy b none) (hg : a.heap.size ≤ g') : Le (Go.Proofs.YtfgpbnncdfcjjabGreatDoor.far B (some g) a) (Go.Proofs.YtfgpbnncdfcjjabGreatDoor.far B (some g') b) := fun x u hc => by
  obtain ⟨h1, h2, h3⟩ := of_far hc
  have hl := World.block_lt_of_cell? _ _ h3
  refine far_of h1 (fun e => by injection e; omega) ?_
  rw [h.cell_far x hl (fun e => by cases e)]
  exact h3
/-- There is none: it moves. -/
theorem QR.grow (h : QR w base g off cap xs) (hbase : base ≤ w.heap.size) {v' : Value} {olds : List Value} {A : Option Addr} {c : Nat} {t : List Int}
    (hlo : olds.length = xs.length) (hol : ∀ i (hi : i < xs.length), ∃ A c, olds[i]? = some (.slice A xs[i].length c) ∧ Ints (far base (some g) w) A c xs[i] ∧ PR w base g A c xs[i]) (ht : Ints (far base (some g) w) A c t) (hpr : PR w base g A c t)
    (hown : w'.ownsRow w.heap.size 23 1 v' (xs.length + 1) (olds ++ [.slice A t.length c])) (hg : w.grownBy w' none) :
    ∃ g' cap', v' = .slice (some ⟨g', 0, none⟩) (xs.length + 1) cap' ∧ QR w' base g' 0 cap' (xs ++ [t]) ∧ w.heap.size ≤ g' := by
  rcases hown.2 with ⟨_, h0⟩ | ⟨g', cap', cur, rfl, hbg, hg', hnc, hcm, hcs, htake⟩
  · omega
  · have hlt : g' < w'.heap.size := by
      rcases Nat.lt_or_ge g' w'.heap.size with hlt | hge
      · exact hlt
      · rw [Array.getElem?_eq_none hge] at hg'; cases hg'
    have hcell : ∀ j u, (olds ++ [.slice A t.length c])[j]? = some u → w'.cell? ⟨g', 0 + j, none⟩ = some u := fun j u hj => by
      have := hown.cells (g := g') rfl j u hj
      rwa [Addr.add_lit] at this
    refine ⟨g', cap', rfl, ⟨by omega, hlt, by simpa using hnc, by simpa [maxLen] using hcm, fun j hj => ?_, fun i hi => ?_⟩, hbg⟩
    · refine ⟨?_, by simp [World.frozen?, hg']⟩
      simp [World.cell?, hg']
      omega
    · by_cases e : i = xs.length
      · subst e
        rw [List.getElem_append_right (Nat.le_refl _)]
        refine ⟨A, c, hcell _ _ ?_, ?_, by simpa using hpr.moved hg hbg⟩
        · rw [List.getElem?_append_right (by omega), hlo]
          simp
        · simpa using ht.le (Le.far_new hg hbg)
      · have hlt : i < xs.length := by rw [List.length_append, List.length_singleton] at hi; omega
        obtain ⟨A', c', h1, h2, h3⟩ := hol i hlt
        rw [List.getElem_append_left hlt]
        exact ⟨A', c', hcell _ _ (by rw [List.getElem?_append_left (by omega)]; exact h1), h2.le (Le.far_new hg hbg), h3.moved hg hbg⟩
end

/-- One row more at the queue's end: in place, or in a new block. -/
theorem wpList_append_queue {P : Program} (w : World) {ops : Array Oper} {rest : List Oper} {o : Oper} {a : Act} {Q : Exit → Act → World → Prop}
    (hg : o.guard = none) (s x : Operand) (t : TypeId) (hop : o.op = Op.call { callee := Callee.builtin Builtin.append, args := #[s, x], argTypes := #[t, t] })
    (i : TypeInfo) (z : Value) (bytes : Nat) (h1 : P.underlying t = some (.slice 23)) (h2 : P.info? 23 = some i) (h3 : i.zero = some z) (h4 : i.size = 1) (h5 : i.bytes = bytes) (h6 : z.cells.size = 1) (hby : bytes ≤ 100)
    {base g off cap : Nat} {xs : List (List Int)} (hq : QR w base g off cap xs) (hs : a.eval s = .slice (some ⟨g, off, none⟩) xs.length cap) (hlen : xs.length ≤ 1000000)
    (H : Nat) (c1 : Nat) {A : Option Addr} {c : Nat} {r : List Int} (hx : a.eval x = .slice (some ⟨H, 0, none⟩) 1 c1) (hc : w.cell? ⟨H, 0, none⟩ = some (.slice A r.length c)) (hr : Ints (far base (some g) w) A c r) (hpr : PR w base g A c r) (hbase : base ≤ w.heap.size)
    (hK : ∀ g' off' cap' w', QR w' base g' off' cap' (xs ++ [r]) → Le (far base (some g) w) (far base (some g') w') → (∀ B0, B0 ≤ base → ∀ w0, Below B0 w0 w → B0 ≤ w.heap.size → Below B0 w0 w') → wpList P ops Q rest (a.put o.dst (.slice (some ⟨g', off', none⟩) (xs.length + 1) cap')) w') :
    wpList P ops Q (o :: rest) a w := by
  have hcs : ∀ i (hi : i < xs.length), ∃ A c, ((w.cell? ⟨g, off + i, none⟩).getD undef) = .slice A xs[i].length c ∧ w.cell? ⟨g, off + i, none⟩ = some (.slice A xs[i].length c) ∧ Ints (far base (some g) w) A c xs[i] ∧ PR w base g A c xs[i] := fun i hi => by
    obtain ⟨A', c', e1, e2⟩ := hq.el i hi
    exact ⟨A', c', by rw [e1]; rfl, e1, e2⟩
  obtain ⟨olds, hold⟩ : ∃ olds : List Value, olds = (List.range xs.length).map fun i => (w.cell? ⟨g, off + i, none⟩).getD undef := ⟨_, rfl⟩
  have hlo : olds.length = xs.length := by rw [hold]; simp
  have hget : ∀ j, j < xs.length → olds[j]? = some ((w.cell? ⟨g, off + j, none⟩).getD undef) := fun j hj => by
    rw [hold, List.getElem?_map, List.getElem?_range hj]
    rfl
  refine wpList_append_arg (P := P) w hg s x t hop 23 i z 1 bytes h1 h2 h3 h4 h5 h6 (by omega) g off xs.length cap olds hs (by omega) (fun j u hj => ?_) ⟨H, 0, none⟩ 1 c1 [.slice A r.length c] hx (by rfl) (fun j u hj => ?_) (by simp [Value.oneCell']) (fun hroom j hj => ?_) (by simp [maxLen]; omega) (by have : (xs.length + 1) * bytes ≤ 1000001 * 100 := Nat.mul_le_mul (by omega) hby; omega) (fun hroom => ?_) (fun hfull v' w' hown hgrow => ?_)
  · have hjl : j < xs.length := by
      rcases Nat.lt_or_ge j xs.length with h | h
      · exact h
      · rw [List.getElem?_eq_none (by omega)] at hj; cases hj
    obtain ⟨A', c', e0, e1, _⟩ := hcs j hjl
    rw [hget j hjl, e0] at hj
    rw [e1, hj]
  · match j, hj with
    | 0, hj =>
      rw [List.getElem?_cons_zero] at hj
      rw [← hj, Addr.add_lit]
      exact hc
    | j + 1, hj => simp at hj
  · have : j = 0 := by simpa using hj
    subst this
    rw [Nat.mul_one, Nat.add_zero]
    exact hq.cells _ (by omega)
  · rw [Nat.mul_one]
    refine hK g off cap (w.setCells g (off + xs.length) [.slice A r.length c]) (hq.room hroom hr hpr) (Le.far_set _ _ _ _ _) fun B0 hB0 w0 h0 hs0 => ?_
    exact h0.setCell (p := ⟨g, off + xs.length, none⟩) (by have := hq.hb; show B0 ≤ g; omega) _
  · obtain ⟨g', cap', rfl, hq', hge⟩ := hq.grow hbase hlo (fun i hi => by
      obtain ⟨A', c', e0, e1, e2⟩ := hcs i hi
      exact ⟨A', c', by rw [hget i hi, e0], e2⟩) hr hpr hown hgrow
    exact hK g' 0 cap' w' hq' (Le.far_new hgrow hge) fun B0 hB0 w0 h0 hs0 => below_of_grown h0 hgrow hs0 (fun g hg => by cases hg)

/-- Elements as numbers of the program. -/
def zs (p : List Nat) : List Int := p.map fun k => ((k : Nat) : Int)
theorem zs_length (p : List Nat) : (zs p).length = p.length := by unfold zs; simp
theorem zs_snoc (p : List Nat) (k : Nat) : zs (p ++ [k]) = zs p ++ [((k : Nat) : Int)] := by unfold zs; simp
theorem zs_last {p : List Nat} (h : 0 < p.length) : ∃ hl : (zs p).length - 1 < (zs p).length, (zs p)[(zs p).length - 1] = ((lastN p : Nat) : Int) := by
  have hl : (zs p).length - 1 < (zs p).length := by rw [zs_length]; omega
  refine ⟨hl, ?_⟩
  have hl2 : p.length - 1 < p.length := by omega
  have e : lastN p = p[p.length - 1] := by
    rw [lastN_get h, List.getD_eq_getElem?_getD, List.getElem?_eq_getElem hl2]
    rfl
  rw [e]
  simp only [zs, List.getElem_map, List.length_map]
/-- '.. == 0': not seen. -/
theorem test0_bitN (f : Nat → Bool) {n k : Nat} (h : n ≤ 16) (hk : k < n) : (bits .and .i64 (((bitN f n : Nat) : Int) / 2 ^ k) 1 == 0) = !f k := by
  have h1 := bitN_small f h
  have ht := test_bitN f h hk
  have e0 : (((bitN f n : Nat) : Int) / 2 ^ k) = ((bitN f n / 2 ^ k : Nat) : Int) := by simp
  have h2 : bitN f n / 2 ^ k ≤ bitN f n := Nat.div_le_self _ _
  have e : bits .and .i64 (((bitN f n : Nat) : Int) / 2 ^ k) 1 = ((bitN f n / 2 ^ k % 2 : Nat) : Int) := by
    rw [e0, show (1 : Int) = ((1 : Nat) : Int) from rfl, bits_and_nat _ _ (by omega) (by omega), Nat.and_one_is_mod]
  rw [e] at ht ⊢
  rw [← ht]
  rcases (show bitN f n / 2 ^ k % 2 = 0 ∨ bitN f n / 2 ^ k % 2 = 1 by omega) with e | e <;> rw [e] <;> rfl
theorem QR.head {w : World} {base g off cap : Nat} {x : List Int} {xs : List (List Int)} (h : QR w base g off cap (x :: xs)) : ∃ A c, w.cell? ⟨g, off, none⟩ = some (.slice A x.length c) ∧ Ints (far base (some g) w) A c x ∧ PR w base g A c x := by
  obtain ⟨A, c, h1, h2⟩ := h.el 0 (by simp)
  exact ⟨A, c, h1, h2⟩
theorem PR.of {w : World} {B base g n : Nat} {A : Option Addr} {c : Nat} {x : List Int} (h : RowI w B (.slice A n c) x) (hb : base ≤ B) (hg : g < B) (hn : x.length = n) : PR w base g A c x := by
  subst hn
  exact ⟨RowOf.rebase h fun b hv => by have := (RowOf.blk h hv).1; omega, fun b hv e => by have := (RowOf.blk h hv).1; omega⟩
theorem RowI.far {w : World} {B base g n : Nat} {A : Option Addr} {c : Nat} {xs : List Int} (h : RowI w B (.slice A n c) xs) (hb : base ≤ B) (hg : g < B) : Ints (Go.Proofs.YtfgpbnncdfcjjabGreatDoor.far base (some g) w) A c xs := by
  obtain ⟨A', c', e, h⟩ := RowI.ints h
  injection e with e1 e2 e3
  subst e1 e3
  exact h.le (Le.above_far hb fun g' e => by injection e with e; omega)
/-- One path, of one element. -/
theorem QR.start (w : World) (x : Int) : QR ((w.alloc (.cells #[.int .i64 x] 3)).alloc (.cells #[.slice (some ⟨w.heap.size, 0, none⟩) 1 1] 23)) w.heap.size (w.heap.size + 1) 0 1 [[x]] := by
  have o1 := (Own.new w 3 #[.int .i64 x]).alloc (.cells #[.slice (some ⟨w.heap.size, 0, none⟩) 1 1] 23)
  have o2 : Own ((w.alloc (.cells #[.int .i64 x] 3)).alloc (.cells #[.slice (some ⟨w.heap.size, 0, none⟩) 1 1] 23)) (w.heap.size + 1) 23 #[.slice (some ⟨w.heap.size, 0, none⟩) 1 1] := by simpa using Own.new (w.alloc (.cells #[.int .i64 x] 3)) 23 #[.slice (some ⟨w.heap.size, 0, none⟩) 1 1]
  have c1 := o1.cell (i := 0) rfl
  have c2 := o2.cell (i := 0) rfl
  refine ⟨by omega, by simp, by simp, by omega, fun j hj => ?_, fun i hi => ?_⟩
  · obtain rfl : j = 0 := by omega
    exact ⟨by rw [c2]; rfl, o2.frozen 0⟩
  · obtain rfl : i = 0 := by simpa using hi
    refine ⟨_, _, c2, ⟨_, _, rfl, by simp, fun i hi => ?_⟩, ⟨RowI.single o1 (Nat.le_refl _), fun b hb => ?_⟩⟩
    case refine_2 =>
      have : b = w.heap.size := by cases hb; rfl
      omega
    obtain rfl : i = 0 := by simpa using hi
    refine ⟨_, _, rfl, fun _ => .int .i64 x, fun j hj => ?_, rfl⟩
    obtain rfl : j = 0 := by omega
    exact far_of (Nat.le_refl _) (fun e => by injection e with e; simp at e) c1
theorem seen_zero (n : Nat) : bitN (fun _ => false) n = 0 := by
  refine (bitN_ext fun k => ?_).symm
  simp
end Go.Proofs.YtfgpbnncdfcjjabGreatDoor

/-! The walks of impl.cycleFrom, impl.FindCycle, spec.l2Path, spec.l2Cycle: the first of the shortest cycles. -/
namespace Go.Proofs.YtfgpbnncdfcjjabGreatDoor
open Go.RowKit
set_option linter.unusedVariables false
set_option maxRecDepth 100000

/-- A path handed back, or nil. -/
def RetCyc (w : World) (xs : List Int) (e : Ending) (w' : World) : Prop :=
  (xs = [] ∧ e = .returned (.slice none 0 0) ∧ Below w.heap.size w w') ∨ (xs ≠ [] ∧ ∃ b o c, e = .returned (.slice (some ⟨b, o, none⟩) xs.length c) ∧ Ints (above w.heap.size w') (some ⟨b, o, none⟩) c xs ∧ RowI w' w.heap.size (.slice (some ⟨b, o, none⟩) xs.length c) xs ∧ Below w.heap.size w w')
/-- A queue, or nothing. -/
def QV (w : World) (base : Nat) (v : Value) (Q : List (List Nat)) : Prop :=
  (Q = [] ∧ ∃ A c, v = .slice A 0 c) ∨ (Q ≠ [] ∧ ∃ g off cap, v = .slice (some ⟨g, off, none⟩) (Q.map zs).length cap ∧ QR w base g off cap (Q.map zs))
theorem QV.of {w : World} {base g off cap l : Nat} {Q : List (List Nat)} (hq : QR w base g off cap (Q.map zs)) (hl : l = Q.length) : QV w base (.slice (some ⟨g, off, none⟩) l cap) Q := by
  subst hl
  by_cases h : Q = []
  · subst h
    exact .inl ⟨rfl, _, _, rfl⟩
  · exact .inr ⟨h, g, off, cap, by rw [List.length_map], hq⟩
theorem enough_le {n f : Nat} {Q : List (List Nat)} {S : Nat → Bool} (h : Enough n f Q S) (hf : f ≤ n + 1) : Q.length ≤ n + 1 := by unfold Enough at h; omega
theorem newsP_le (a : Rel) (p : List Nat) (S : Nat → Bool) (k : Nat) : (newsP a p S k).length ≤ k := by
  unfold newsP
  rw [List.length_map]
  exact Nat.le_trans (List.length_filter_le _ _) (by simp)

/-- A path that is not long. -/
def PtOk (n : Nat) (R : Rel) (st f : Nat) (p : List Nat) : Prop := IsPath n R st p ∧ p.length + f ≤ n + 2
theorem pts_start {n : Nat} {R : Rel} {st : Nat} (h : st < n) : ∀ p ∈ [[st]], PtOk n R st (n + 1) p := fun p hp => by
  rw [List.mem_singleton.1 hp]
  exact ⟨.one h, by simp; omega⟩
theorem pts_next {n : Nat} {R : Rel} {st f : Nat} {p : List Nat} {Q : List (List Nat)} (h : ∀ q ∈ p :: Q, PtOk n R st (f + 1) q) (S : Nat → Bool) : ∀ q ∈ Q ++ newsP R p S n, PtOk n R st f q := fun q hq => by
  rcases List.mem_append.1 hq with hq | hq
  · obtain ⟨h1, h2⟩ := h q (List.mem_cons_of_mem _ hq)
    exact ⟨h1, by omega⟩
  · obtain ⟨h1, h2⟩ := h p List.mem_cons_self
    refine ⟨news_path h1 S n (Nat.le_refl _) q hq, ?_⟩
    unfold newsP at hq
    obtain ⟨j, _, rfl⟩ := List.mem_map.1 hq
    rw [List.length_append, List.length_singleton]
    omega

set_option maxHeartbeats 1500000 in
theorem cycFrom_any (R : Rel) (n st : Nat) (hn : n ≤ 16) (hst : st < n) (w : World) (A : Option Addr) (c : Nat) (h : Ints w A c (relN R n)) :
    Calls Tryz.prog 73 #[.slice A n c, .int .i64 st] w (RetCyc w (zs (cycF R n st))) := by
  obtain ⟨i0, hi0, hz0, hz1, hz2⟩ := info_parts Tryz.infoInt
  obtain ⟨i1, hi1, hy0, hy1, hy2⟩ := info_parts Tryz.infoInts
  have hs0 : Hid (QV ((w.alloc (.cells #[.int .i64 st] 3)).alloc (.cells #[.slice (some ⟨w.heap.size, 0, none⟩) 1 1] 23)) w.heap.size (.slice (some ⟨w.heap.size + 1, 0, none⟩) 1 1) [[st]]) :=
    .inr ⟨by simp, _, _, _, rfl, QR.start w st⟩
  go_enter Tryz.func73, Tryz.ntmps73
  go_wp2_with fail
  go_loopg [5, 6] (n + 1) (fun f s5 s6 wr => ∃ (S : Nat → Bool) (Q : List (List Nat)) (v : Value), f ≤ n + 1 ∧ Hid (Enough n f Q S) ∧ Hid (bfs R n st f Q S = cycF R n st) ∧ Hid (∀ p ∈ Q, PtOk n R st f p) ∧ s5 = .int .i64 ((bitN S n : Nat) : Int) ∧ v = s6 ∧ Hid (QV wr w.heap.size v Q) ∧ Below w.heap.size w wr)
  case atStart => exact ⟨fun _ => false, [[st]], _, Nat.le_refl _, enough_start n st, rfl, pts_start hst, by rw [seen_zero]; rfl, rfl, hs0.out, ((Below.refl _ _).alloc (Nat.le_refl _) _).alloc (by simp) _⟩
  case round =>
    clear hs0
    obtain ⟨S, Q, v, hf, hen, hbf, hpt, rfl, rfl, hqv, hb⟩ := hrel
    rcases hqv.out with ⟨rfl, Aq, cq, rfl⟩ | ⟨hne, gq, oq, cq, rfl, hq⟩
    · have Hr : Hid (cycF R n st = []) := by show _ = _; rw [← hbf.out, bfs_nil]
      clear hen hbf hpt hqv
      go_wp2_with fail
      go_ret
      exact .inl ⟨by rw [Hr.out]; rfl, rfl, hb⟩
    · obtain ⟨p, Q', rfl⟩ : ∃ p Q', Q = p :: Q' := List.exists_cons_of_ne_nil hne
      have hlq := enough_le hen.out hf
      obtain ⟨hpp, hpl⟩ := hpt.out p List.mem_cons_self
      have hlt := hpp.last_lt
      have hpos : 0 < (zs p).length := by rw [zs_length]; exact hpp.pos
      obtain ⟨Ap, cp, p0, hIp, hPp⟩ := QR.head (xs := Q'.map zs) hq
      have HPp := Lib.hid hPp.1
      clear hPp
      obtain ⟨hl1, hl2⟩ := zs_last hpp.pos
      have hIw : Ints wr Ap cp (zs p) := hIp.le (Le.far _ _ _)
      obtain ⟨bp, op, rfl, hbp, p1⟩ := hIw.get hl1
      rw [hl2] at p1
      obtain ⟨m, hm⟩ : ∃ m, (zs p).length = m + 1 := ⟨(zs p).length - 1, by omega⟩
      rw [show (zs p).length - 1 = m by omega] at p1
      have hlen : ((p :: Q').map zs).length = (Q'.length + 1) := by simp
      have hrl := related_any R n (lastN p) st hn hlt hst wr A c (h.le (Le.below hb))
      have hml : m ≤ 17 := by rw [zs_length] at hm; omega
      have Hm := Lib.hid hm
      have Hq := Lib.hid hq
      have HIp := Lib.hid hIp
      have hwm : IntKind.i64.wrap (((m + 1 : Nat) : Int) - 1) = (m : Int) := by rw [IntWalk.i64_in _ ⟨by omega, by have := hIw.len; omega⟩]; omega
      have hd1 : decide ((((Q'.length + 1 : Nat) : Int)) > 0) = true := by rw [decide_eq_true_iff]; omega
      have hd2 : (0 : Int) < (((Q'.length + 1 : Nat) : Int)) := by omega
      rw [hm] at p0
      rw [hlen]
      clear hq hIp hIw hl1 hl2 hqv hm hlen hpp hne
      cases hR : R (lastN p) st
      · rw [hR] at hrl
        have Hst := Lib.hid (bfs_step hen.out hR)
        clear hR hen
        go_wp2_with fail
        refine hrl.mono ?_
        rintro e5 w5 ⟨rfl, rfl⟩
        clear hrl
        obtain ⟨f', rfl, hen', hbf'⟩ := Hst.out
        have Hen' := Lib.hid hen'
        have Hbf' : Hid (bfs R n st f' (Q' ++ newsP R p S n) (exS R (lastN p) S n) = cycF R n st) := hbf'.symm.trans hbf.out
        have hpt' : Hid (∀ q ∈ Q' ++ newsP R p S n, PtOk n R st f' q) := pts_next hpt.out S
        have Hzl : Hid ((p :: Q').map zs = zs p :: Q'.map zs) := rfl
        clear hen' hbf' hbf hpt Hst
        go_wp2_with fail
        go_loopg [5, 6, 34] n (fun gk s5 s6 s34 wq => ∃ (k g' off' cap' : Nat) (xs : List (List Int)), k ≤ n ∧ gk = n - k ∧ s5 = .int .i64 ((bitN (exS R (lastN p) S k) n : Nat) : Int) ∧ s6 = .slice (some ⟨g', off', none⟩) xs.length cap' ∧ s34 = .int .i64 k ∧ Hid (xs = ((p :: Q') ++ newsP R p S k).map zs) ∧ Hid (QR wq w.heap.size g' off' cap' xs) ∧ Hid (Ints (far w.heap.size (some g') wq) (some ⟨bp, op, none⟩) cp (zs p)) ∧ Below w.heap.size w wq)
        case atStart => exact ⟨0, gq, oq, cq, (p :: Q').map zs, Nat.zero_le _, rfl, by rw [exS_zero], by simp, rfl, (by show _ = _; rw [newsP_zero, List.append_nil]), Hq.out, HIp.out, hb⟩
        case round =>
          obtain ⟨k, g', off', cap', xs, hk, rfl, rfl, rfl, rfl, hxs, hq', hIp', hbq⟩ := hrel
          have hxl : xs.length ≤ 40 := by rw [hxs.out, List.length_map, List.length_append]; have := newsP_le R p S k; omega
          have hsq := hbq.size
          by_cases hlk : k < n
          · have hr2 := related_any R n (lastN p) k hn hlt hlk wr A c (h.le (Le.below hbq))
            have hseen := test0_bitN (exS R (lastN p) S k) hn hlk
            rw [exS_at] at hseen
            cases hRk : R (lastN p) k
            · have he : (R (lastN p) k && !S k) = false := by rw [hRk]; rfl
              have He := Lib.hid (And.intro (exS_same he) (newsP_same he))
              rw [hRk] at hr2
              clear hseen hRk he
              go_wp2_with fail
              refine hr2.mono ?_
              rintro e6 w6 ⟨rfl, rfl⟩
              go_wp2_with fail
              go_roundg (n - (k + 1))
              case measure => omega
              case rel => exact ⟨k + 1, g', off', cap', xs, by omega, rfl, by rw [He.out.1], rfl, by go_num, (by show _ = _; rw [He.out.2]; exact hxs.out), hq', hIp', hbq⟩
            · rw [hRk] at hr2
              cases hS : S k
              · have he : (R (lastN p) k && !S k) = true := by rw [hRk, hS]; rfl
                have He := Lib.hid (And.intro (exS_more he) (newsP_more he))
                have Hset := Lib.hid (set_bitN (exS R (lastN p) S k) hn hlk)
                rw [hS, Bool.not_false] at hseen
                have hcl := cloneI_any (zs p) wr (some ⟨bp, op, none⟩) cp (hIp'.out.le (Le.far _ _ _)) (by rw [Hm.out]; omega)
                rw [Hm.out] at hcl
                have hglt := hq'.out.lt
                clear hRk he hS
                generalize exS R (lastN p) S k = SS at hseen Hset He ⊢
                go_wp2_with fail
                refine hr2.mono ?_
                rintro e6 w6 ⟨rfl, rfl⟩
                go_wp2_with fail
                refine hcl.mono ?_
                rintro e7 w7 ⟨A7, c7, rfl, hrow7, hb7⟩
                rw [Hm.out] at hrow7 ⊢
                obtain ⟨cs, hown, hqq⟩ := hrow7
                rw [Hm.out] at hown
                obtain ⟨g7, cap7, e7', hg7⟩ := hown.form (by omega)
                injection e7' with e71 e72 e73
                subst e71 e73
                have Hown := Lib.hid hown
                have Hqq := Lib.hid hqq
                have hs7 := hb7.size
                have HB7 := Lib.hid hb7
                clear hown hqq hb7
                go_wp2_with (at_builtin; first
                  | (refine wpList_append_lies (o := ⟨some 57, _, _, _, _, _⟩) _ (by rfl) _ _ _ (by rfl) wr.heap.size 3 i0 _ 1 8 Tryz.underlying23 hi0 hz0 hz1 hz2 rfl (by omega) (.slice (some ⟨g7, 0, none⟩) (m + 1) c7) (m + 1) cs (by rfl) (owns_alloc Hown.out _) ⟨w7.heap.size, 0, none⟩ 1 1 [.int .i64 k] (by rfl) (by rfl) (World.news_of_block (cs := #[.int .i64 k]) (t := 3) (fr := (0, 0)) (heap_alloc_new w7 _)) (by simp [Value.oneCell']) (by omega) (by simp [maxLen]; omega) (by omega) (by simp; omega) (w7.heap.size + 1) (by simp) ?_
                     intro gg cap w8 hown8 hgrow8 hat8 hlt8
                     have hB8 : Below wr.heap.size wr w8 := below_of_grown (HB7.out.alloc (by omega) _) hgrow8 (by simp; omega) (fun g hg => owns_base' Hown.out hg)
                     have hs8 := hB8.size
                     have hr8 : RowI w8 wr.heap.size (.slice (some ⟨gg, 0, none⟩) (m + 1 + 1) cap) (zs p ++ [(k : Int)]) := by
                       have h := RowOf.snoc (news := [.int .i64 (k : Int)]) (x := (k : Int)) qint_congr (by rw [Hm.out]; exact Hown.out) Hqq.out rfl rfl (by rw [Hm.out]; exact hown8)
                       exact h
                     have HR8 := Lib.hid hr8
                     have HB8 := Lib.hid hB8
                     clear hown8 hgrow8 hat8 hr8 hB8)
                  | (refine wpList_append_queue (o := ⟨some 59, _, _, _, _, _⟩) _ (by rfl) _ _ _ (by rfl) i1 _ 24 Tryz.underlying24 hi1 hy0 hy1 hy2 rfl (by omega) (hq'.out.below (HB8.out.alloc (by omega) _)) (by rfl) (by omega) w8.heap.size 1 (r := zs p ++ [(k : Int)]) (A := some ⟨gg, 0, none⟩) (c := cap) (by rfl) (by rw [World.cell?_alloc_new, List.length_append, Hm.out]; rfl) ((HR8.out.far (by omega) hglt).le (Le.far_below ((Below.refl _ _).alloc (Nat.le_refl _) _))) ((PR.of HR8.out (by omega) hglt (by rw [List.length_append, Hm.out]; rfl)).below ((Below.refl _ _).alloc (Nat.le_refl _) _)) (by simp; omega) ?_
                     intro g2 o2 cap2 w9 hq9 hf9 hB9))
                have HB9 : Below w.heap.size w w9 := hB9 _ (Nat.le_refl _) _ (((hbq.trans (HB8.out.mono hsq))).alloc (by omega) _) (by simp; omega)
                have HI9 := (hIp'.out.le (Le.far_below (HB8.out.alloc (by omega) _))).le hf9
                go_wp2_with fail
                go_roundg (n - (k + 1))
                case measure => omega
                case rel => exact ⟨k + 1, g2, o2, cap2, xs ++ [zs p ++ [(k : Int)]], by omega, rfl, by rw [← IntWalk.i64_left, Hset.out, He.out.1], by rw [List.length_append]; rfl, by go_num, (by show _ = _; rw [He.out.2, ← List.append_assoc, List.map_append, ← hxs.out, List.map_singleton, zs_snoc]), hq9, HI9, HB9⟩
              · have he : (R (lastN p) k && !S k) = false := by rw [hRk, hS]; rfl
                have He := Lib.hid (And.intro (exS_same he) (newsP_same he))
                rw [hS, Bool.not_true] at hseen
                clear hRk he hS
                go_wp2_with fail
                refine hr2.mono ?_
                rintro e6 w6 ⟨rfl, rfl⟩
                go_wp2_with fail
                go_roundg (n - (k + 1))
                case measure => omega
                case rel => exact ⟨k + 1, g', off', cap', xs, by omega, rfl, by rw [He.out.1], rfl, by go_num, (by show _ = _; rw [He.out.2]; exact hxs.out), hq', hIp', hbq⟩
          · obtain rfl : k = n := by omega
            have hQl := hq'.out.len
            have hQm := hq'.out.max
            have hxe : xs = zs p :: (Q' ++ newsP R p S k).map zs := by rw [hxs.out, List.cons_append, List.map_cons]
            have hxl1 : xs.length = ((Q' ++ newsP R p S k).map zs).length + 1 := by rw [hxe]; rfl
            have Hqt : Hid (QR wr w.heap.size g' (off' + 1) (cap' - 1) ((Q' ++ newsP R p S k).map zs)) := by
              have h := hq'.out
              rw [hxe] at h
              exact h.tail
            have c1 : (1 : Int) ≤ (xs.length : Int) := by omega
            have c2 : (xs.length : Int) ≤ (cap' : Int) := by omega
            have c3 : (1 : Int) ≤ (cap' : Int) := by omega
            clear hq' hIp'
            rcases Nat.lt_or_ge 1 cap' with hc | hc
            · have c4 : ¬ cap' = 1 := by omega
              go_wp2_with fail
              go_roundg f'
              case measure => omega
              case rel => exact ⟨_, _, _, by omega, Hen'.out, Hbf'.out, hpt'.out, rfl, rfl, QV.of Hqt.out (by rw [List.length_append]), hbq⟩
            · obtain rfl : cap' = 1 := by omega
              have hnil : Q' ++ newsP R p S k = [] := List.eq_nil_of_length_eq_zero (by rw [List.length_map] at hxl1; omega)
              obtain rfl : xs = [zs p] := by rw [hxe, hnil]; rfl
              have Hnil := Lib.hid hnil
              clear hnil hxe hxl1
              go_wp2_with fail
              go_roundg f'
              case measure => omega
              case rel => exact ⟨_, _, _, by omega, Hen'.out, Hbf'.out, hpt'.out, rfl, rfl, .inl ⟨Hnil.out, _, _, rfl⟩, hbq⟩
      · rw [hR] at hrl
        have Hfd : Hid (cycF R n st = p) := by show _ = _; rw [← hbf.out]; exact bfs_found hen.out hR
        clear hR hen hbf hpt
        go_wp2_with fail
        refine hrl.mono ?_
        rintro e5 w5 ⟨rfl, rfl⟩
        go_wp2_with fail
        go_ret
        refine .inr ⟨?_, bp, op, cp, ?_, ?_, ?_, hb⟩
        · rw [Hfd.out]; intro e; rw [e] at hpos; simp at hpos
        · rw [Hfd.out, Hm.out]; rfl
        · rw [Hfd.out]; exact HIp.out.le (Le.far_above _ _ _)
        · rw [Hfd.out]; exact HPp.out

/-- All that has been found so far is not much. -/
def Fewp (n : Nat) (S : Nat → Bool) (al : List (List Nat)) : Prop := al.length + (n - cntN S n) ≤ n + 1
theorem Fewp.next {n : Nat} {R : Rel} {S : Nat → Bool} {al : List (List Nat)} (h : Fewp n S al) (p : List Nat) : Fewp n (exS R (lastN p) S n) (al ++ newsP R p S n) := by
  unfold Fewp at *
  have h1 := cnt_exS R (lastN p) S n n (Nat.le_refl _)
  have h2 := cntN_le (exS R (lastN p) S n) n
  rw [List.length_append, newsP, List.length_map]
  omega

set_option maxHeartbeats 1500000 in
theorem l2Path_any (R : Rel) (n st : Nat) (hn : n ≤ 16) (hst : st < n) (w : World) (A : Option Addr) (c : Nat) (h : Ints w A c (relN R n)) :
    Calls Tryz.prog 75 #[.slice A n c, .int .i64 st] w (RetInts w (zs (cycF R n st))) := by
  obtain ⟨i0, hi0, hz0, hz1, hz2⟩ := info_parts Tryz.infoInt
  obtain ⟨i1, hi1, hy0, hy1, hy2⟩ := info_parts Tryz.infoInts
  have hs0 := Lib.hid (QR.start w st)
  go_enter Tryz.func75, Tryz.ntmps75
  go_wp2_with fail
  go_loopg [5, 6, 7] (n + 1) (fun f s5 s6 s7 wr => ∃ (S : Nat → Bool) (al : List (List Nat)) (i g off cap : Nat), f ≤ n + 1 ∧ Hid (Enough n f (al.drop i) S) ∧ Hid (bfs R n st f (al.drop i) S = cycF R n st) ∧ Hid (∀ p ∈ al.drop i, PtOk n R st f p) ∧ Hid (Fewp n S al) ∧ i ≤ al.length ∧ s5 = .slice (some ⟨g, off, none⟩) al.length cap ∧ s6 = .int .i64 ((bitN S n : Nat) : Int) ∧ s7 = .int .i64 i ∧ Hid (QR wr w.heap.size g off cap (al.map zs)) ∧ Below w.heap.size w wr)
  case atStart => exact ⟨fun _ => false, [[st]], 0, w.heap.size + 1, 0, 1, Nat.le_refl _, enough_start n st, rfl, pts_start hst, (by show _ + _ ≤ _; simp; omega), Nat.zero_le _, rfl, by rw [seen_zero]; rfl, rfl, hs0.out, ((Below.refl _ _).alloc (Nat.le_refl _) _).alloc (by simp) _⟩
  case round =>
    clear hs0
    obtain ⟨S, al, i, gq, oq, cq, hf, hen, hbf, hpt, hfw, hil, rfl, rfl, rfl, hq, hb⟩ := hrel
    have hal : al.length ≤ n + 1 := by have := hfw.out; unfold Fewp at this; omega
    by_cases hlt : i < al.length
    · have hdr : al.drop i = al[i] :: al.drop (i + 1) := List.drop_eq_getElem_cons hlt
      obtain ⟨p, hp⟩ : ∃ p, p = al[i] := ⟨_, rfl⟩
      rw [← hp] at hdr
      rw [hdr] at hen hbf hpt
      obtain ⟨hpp, hpl⟩ := hpt.out p List.mem_cons_self
      have hll := hpp.last_lt
      have hpos : 0 < (zs p).length := by rw [zs_length]; exact hpp.pos
      obtain ⟨Ap, cp, p0, hIp, _⟩ := hq.out.el i (by rw [List.length_map]; exact hlt)
      rw [List.getElem_map, ← hp] at p0 hIp
      obtain ⟨hl1, hl2⟩ := zs_last hpp.pos
      have hIw : Ints wr Ap cp (zs p) := hIp.le (Le.far _ _ _)
      obtain ⟨bp, op, rfl, hbp, p1⟩ := hIw.get hl1
      rw [hl2] at p1
      obtain ⟨m, hm⟩ : ∃ m, (zs p).length = m + 1 := ⟨(zs p).length - 1, by omega⟩
      rw [show (zs p).length - 1 = m by omega] at p1
      have hrl := fun W (hW : Ints W A c (relN R n)) => l2Has_any R n (lastN p) st hn hll hst W A c hW
      have hml : m ≤ 17 := by rw [zs_length] at hm; omega
      have hzl : (zs p).length ≤ 18 := by omega
      have Hm := Lib.hid hm
      have HIp := Lib.hid hIp
      have Hp := Lib.hid hp
      have hwm : IntKind.i64.wrap (((m + 1 : Nat) : Int) - 1) = (m : Int) := by rw [IntWalk.i64_in _ ⟨by omega, by have := hIw.len; omega⟩]; omega
      have hd1 : (i : Int) < (al.length : Int) := by omega
      have hd3 : (m : Int) < (m : Int) + 1 := by omega
      have hd4 : (m : Int) < ((m + 1 : Nat) : Int) := by omega
      have hd5 : decide ((m : Int) < 0) = false := by rw [decide_eq_false_iff_not]; omega
      have hd6 : decide (((m + 1 : Nat) : Int) ≤ (m : Int)) = false := by rw [decide_eq_false_iff_not]; omega
      have hd7 : ¬ ((m : Int) < 0) := by omega
      have hd8 : ¬ (((m + 1 : Nat) : Int) ≤ (m : Int)) := by omega
      have hw2 : IntKind.i64.wrap ((m : Int) + 1 - 1) = (m : Int) := by rw [IntWalk.i64_in _ ⟨by omega, by omega⟩]; omega
      have hgl := hq.out.lt
      rw [hm] at p0
      clear hIp hIw hl1 hl2 hm hpp hp
      have hrw := fun W (hW : Below wr.heap.size wr W) => hrl W (h.le ((Le.below hb).trans (Le.below hW)))
      cases hR : R (lastN p) st
      · rw [hR] at hrw
        have Hst := Lib.hid (bfs_step hen.out hR)
        clear hR hen
        obtain ⟨f', rfl, hen', hbf'⟩ := Hst.out
        have Hen' : Hid (Enough n f' ((al ++ newsP R p S n).drop (i + 1)) (exS R (lastN p) S n)) := by
          rw [List.drop_append_of_le_length (by omega)]; exact hen'
        have Hbf' : Hid (bfs R n st f' ((al ++ newsP R p S n).drop (i + 1)) (exS R (lastN p) S n) = cycF R n st) := by
          rw [List.drop_append_of_le_length (by omega)]; exact hbf'.symm.trans hbf.out
        have hpt' : Hid (∀ q ∈ (al ++ newsP R p S n).drop (i + 1), PtOk n R st f' q) := by
          rw [List.drop_append_of_le_length (by omega)]; exact pts_next hpt.out S
        have Hfw' : Hid (Fewp n (exS R (lastN p) S n) (al ++ newsP R p S n)) := hfw.out.next p
        clear hen' hbf' hbf hpt Hst hrl
        go_wp2_with fail
        have f0 := fun n : Ext wr => n.le _ _ p0
        have f1 := fun n : Ext wr => n.le _ _ p1
        refine wp_region_ext _ (by kernel_rfl) (by kernel_rfl) (Below.refl _ _) ?_
        repeat (go_big_quiet_step (fail))
        refine wpQuiet_nil ?_
        rintro wn ⟨⟨_, hbn⟩, rfl⟩
        have hr1 := hrw wn hbn
        clear f0 f1 hrw
        go_wp2_with fail
        refine hr1.mono ?_
        rintro e5 w5 ⟨rfl, rfl⟩
        go_wp2_with fail
        go_loopg [5, 6, 9] n (fun gk s5 s6 s9 wq => ∃ (k g' off' cap' : Nat) (xs : List (List Int)), k ≤ n ∧ gk = n - k ∧ s5 = .slice (some ⟨g', off', none⟩) xs.length cap' ∧ s6 = .int .i64 ((bitN (exS R (lastN p) S k) n : Nat) : Int) ∧ s9 = .int .i64 k ∧ Hid (xs = (al ++ newsP R p S k).map zs) ∧ Hid (QR wq w.heap.size g' off' cap' xs) ∧ Below w.heap.size w wq)
        case atStart => exact ⟨0, gq, oq, cq, al.map zs, Nat.zero_le _, rfl, by simp, by rw [exS_zero], rfl, (by show _ = _; rw [newsP_zero, List.append_nil]), hq.out.below hbn, hb.trans (hbn.mono hb.size)⟩
        case round =>
          obtain ⟨k, g', off', cap', xs, hk, rfl, rfl, rfl, rfl, hxs, hq', hbq⟩ := hrel
          have hxl : xs.length ≤ 40 := by rw [hxs.out, List.length_map, List.length_append]; have := newsP_le R p S k; omega
          have hsq := hbq.size
          by_cases hlk : k < n
          · have hr2 := l2Has_any R n (lastN p) k hn hll hlk wr A c (h.le (Le.below hbq))
            have hseen := test0_bitN (exS R (lastN p) S k) hn hlk
            rw [exS_at] at hseen
            cases hRk : R (lastN p) k
            · have he : (R (lastN p) k && !S k) = false := by rw [hRk]; rfl
              have He := Lib.hid (And.intro (exS_same he) (newsP_same he))
              rw [hRk] at hr2
              clear hseen hRk he
              go_wp2_with fail
              refine hr2.mono ?_
              rintro e6 w6 ⟨rfl, rfl⟩
              go_wp2_with fail
              go_roundg (n - (k + 1))
              case measure => omega
              case rel => exact ⟨k + 1, g', off', cap', xs, by omega, rfl, rfl, by rw [He.out.1], by go_num, (by show _ = _; rw [He.out.2]; exact hxs.out), hq', hbq⟩
            · rw [hRk] at hr2
              cases hS : S k
              · have he : (R (lastN p) k && !S k) = true := by rw [hRk, hS]; rfl
                have He := Lib.hid (And.intro (exS_more he) (newsP_more he))
                have Hset := Lib.hid (set_bitN (exS R (lastN p) S k) hn hlk)
                rw [hS, Bool.not_false] at hseen
                have hglt := hq'.out.lt
                have hix : xs = al.map zs ++ (newsP R p S k).map zs := by rw [hxs.out, List.map_append]
                have hxi : i < xs.length := by rw [hix, List.length_append, List.length_map]; omega
                obtain ⟨Aj, cj, j0, hIj, _⟩ := hq'.out.el i hxi
                have hge : xs[i] = zs p := by
                  have : xs[i]? = some (zs p) := by rw [hix, List.getElem?_append_left (by rw [List.length_map]; exact hlt), List.getElem?_map, List.getElem?_eq_getElem hlt, Hp.out]; rfl
                  rw [List.getElem?_eq_getElem hxi] at this
                  injection this
                rw [hge, Hm.out] at j0
                rw [hge] at hIj
                have HIj := Lib.hid (hIj.le (Le.far _ _ _))
                have hd2 : (i : Int) < (xs.length : Int) := by omega
                clear hRk he hS hix hge hIj
                generalize exS R (lastN p) S k = SS at hseen Hset He ⊢
                go_wp2_with fail
                refine hr2.mono ?_
                rintro e6 w6 ⟨rfl, rfl⟩
                go_wp2_with (at_builtin; first
                  | (refine wpList_append_list (o := ⟨some 66, _, _, _, _, _⟩) (by rfl) _ _ _ (by rfl) qint_congr (R := RInt) wr.heap.size 3 i0 _ 8 Tryz.underlying23 hi0 hz0 hz1 hz2 rfl (by omega) (.slice (some ⟨wr.heap.size, 0, none⟩) 0 0) [] (by rfl) (RowOf.made _ (Own.new wr _ _) (Nat.le_refl _)) Aj cj (zs p) (by exact congrArg (fun n => Value.slice Aj n cj) Hm.out.symm) (HIj.out.le (Le.alloc _ _)) (fun cs y h => h) qint_one (by simp [maxLen]; omega) (by simp; omega) (by simp) (wr.heap.size + 1) (by simp) ?_
                     intro A5 c5 w5 hrow5 hgrow5 hat5
                     rw [List.nil_append] at hrow5
                     obtain ⟨cs5, hown5, hqq5⟩ := hrow5
                     obtain ⟨g5, cap5, e5, hg5⟩ := hown5.form hpos
                     injection e5 with e51 e52 e53
                     subst e51 e53
                     have hB5 : Below wr.heap.size wr w5 := below_of_grown ((Below.refl _ _).alloc (Nat.le_refl _) _) hgrow5 (by simp) (fun g hg => by cases hg; exact Nat.le_refl _)
                     have hs5 := hB5.size
                     have Hown5 := Lib.hid hown5
                     have Hqq5 := Lib.hid hqq5
                     have HB5 := Lib.hid hB5
                     clear hown5 hqq5 hB5 hgrow5 hat5)
                  | (refine wpList_append_lies (o := ⟨some 69, _, _, _, _, _⟩) _ (by rfl) _ _ _ (by rfl) wr.heap.size 3 i0 _ 1 8 Tryz.underlying23 hi0 hz0 hz1 hz2 rfl (by omega) (.slice (some ⟨g5, 0, none⟩) (zs p).length c5) (zs p).length cs5 (by rfl) (owns_alloc Hown5.out _) ⟨w5.heap.size, 0, none⟩ 1 1 [.int .i64 k] (by rfl) (by rfl) (World.news_of_block (cs := #[.int .i64 k]) (t := 3) (fr := (0, 0)) (heap_alloc_new w5 _)) (by simp [Value.oneCell']) (by omega) (by simp [maxLen]; omega) (by omega) (by simp; omega) (w5.heap.size + 1) (by simp) ?_
                     intro gg cap w8 hown8 hgrow8 hat8 hlt8
                     have hB8 : Below wr.heap.size wr w8 := below_of_grown (HB5.out.alloc (by omega) _) hgrow8 (by simp; omega) (fun g hg => owns_base' Hown5.out hg)
                     have hs8 := hB8.size
                     have hr8 : RowI w8 wr.heap.size (.slice (some ⟨gg, 0, none⟩) ((zs p).length + 1) cap) (zs p ++ [(k : Int)]) := by
                       have h := RowOf.snoc (news := [.int .i64 (k : Int)]) (x := (k : Int)) qint_congr Hown5.out Hqq5.out rfl rfl hown8
                       exact h
                     have HR8 := Lib.hid hr8
                     have HB8 := Lib.hid hB8
                     clear hown8 hgrow8 hat8 hr8 hB8)
                  | (refine wpList_append_queue (o := ⟨some 71, _, _, _, _, _⟩) _ (by rfl) _ _ _ (by rfl) i1 _ 24 Tryz.underlying24 hi1 hy0 hy1 hy2 rfl (by omega) (hq'.out.below (HB8.out.alloc (by omega) _)) (by rfl) (by omega) w8.heap.size 1 (r := zs p ++ [(k : Int)]) (A := some ⟨gg, 0, none⟩) (c := cap) (by rfl) (by rw [World.cell?_alloc_new, List.length_append]; rfl) ((HR8.out.far (by omega) hglt).le (Le.far_below ((Below.refl _ _).alloc (Nat.le_refl _) _))) ((PR.of HR8.out (by omega) hglt (by rw [List.length_append]; rfl)).below ((Below.refl _ _).alloc (Nat.le_refl _) _)) (by simp; omega) ?_
                     intro g2 o2 cap2 w9 hq9 hf9 hB9))
                have HB9 : Below w.heap.size w w9 := hB9 _ (Nat.le_refl _) _ (((hbq.trans (HB8.out.mono hsq))).alloc (by omega) _) (by simp; omega)
                go_wp2_with fail
                go_roundg (n - (k + 1))
                case measure => omega
                case rel => exact ⟨k + 1, g2, o2, cap2, xs ++ [zs p ++ [(k : Int)]], by omega, rfl, by rw [List.length_append]; rfl, by rw [← IntWalk.i64_left, Hset.out, He.out.1], by go_num, (by show _ = _; rw [He.out.2, ← List.append_assoc, List.map_append, ← hxs.out, List.map_singleton, zs_snoc]), hq9, HB9⟩
              · have he : (R (lastN p) k && !S k) = false := by rw [hRk, hS]; rfl
                have He := Lib.hid (And.intro (exS_same he) (newsP_same he))
                rw [hS, Bool.not_true] at hseen
                clear hRk he hS
                go_wp2_with fail
                refine hr2.mono ?_
                rintro e6 w6 ⟨rfl, rfl⟩
                go_wp2_with fail
                go_roundg (n - (k + 1))
                case measure => omega
                case rel => exact ⟨k + 1, g', off', cap', xs, by omega, rfl, rfl, by rw [He.out.1], by go_num, (by show _ = _; rw [He.out.2]; exact hxs.out), hq', hbq⟩
          · obtain rfl : k = n := by omega
            have hxe : xs.length = (al ++ newsP R p S k).length := by rw [hxs.out, List.length_map]
            go_wp2_with fail
            go_roundg f'
            case measure => omega
            case rel => exact ⟨_, al ++ newsP R p S k, i + 1, g', off', cap', by omega, Hen'.out, Hbf'.out, hpt'.out, Hfw'.out, by rw [List.length_append]; omega, by rw [hxe], rfl, by go_num, (by have h := hq'.out; rw [hxs.out] at h; exact h), hbq⟩
      · rw [hR] at hrw
        have Hfd : Hid (cycF R n st = p) := by show _ = _; rw [← hbf.out]; exact bfs_found hen.out hR
        clear hR hen hbf hpt hrl
        go_wp2_with fail
        have f0 := fun n : Ext wr => n.le _ _ p0
        have f1 := fun n : Ext wr => n.le _ _ p1
        refine wp_region_ext _ (by kernel_rfl) (by kernel_rfl) (Below.refl _ _) ?_
        repeat (go_big_quiet_step (fail))
        refine wpQuiet_nil ?_
        rintro wn ⟨⟨_, hbn⟩, rfl⟩
        have hr1 := hrw wn hbn
        clear f0 f1 hrw
        go_wp2_with fail
        refine hr1.mono ?_
        rintro e5 w5 ⟨rfl, rfl⟩
        have p0n := Le.below hbn _ _ p0
        go_wp2_with fail
        go_ret
        refine ⟨_, _, by rw [Hfd.out, Hm.out]; rfl, ?_, hb.trans (hbn.mono hb.size)⟩
        rw [Hfd.out]; exact HIp.out.le ((Le.far_above _ _ _).trans (Le.above_le _ (Le.below hbn)))
    · obtain rfl : i = al.length := by omega
      have Hr : Hid (cycF R n st = []) := by show _ = _; rw [← hbf.out, List.drop_length, bfs_nil]
      clear hen hbf hpt
      go_wp2_with fail
      go_ret
      refine ⟨_, _, by rw [Hr.out]; rfl, ?_, hb.alloc hb.size _⟩
      rw [Hr.out]
      exact ⟨_, _, rfl, by simp [zs], fun i hi => absurd hi (Nat.not_lt_zero _)⟩

/-- The best path so far. -/
def CV (w : World) (base : Nat) (v : Value) (xs : List Int) : Prop :=
  (xs = [] ∧ v = .slice none 0 0) ∨ (xs ≠ [] ∧ ∃ b o c, v = .slice (some ⟨b, o, none⟩) xs.length c ∧ Ints (above base w) (some ⟨b, o, none⟩) c xs ∧ RowI w base (.slice (some ⟨b, o, none⟩) xs.length c) xs)
theorem CV.below {w w' : World} {base : Nat} {v : Value} {xs : List Int} (h : CV w base v xs) (hb : Below w.heap.size w w') : CV w' base v xs := by
  rcases h with h | ⟨h1, b, o, c, h2, h3, h4⟩
  · exact .inl h
  · exact .inr ⟨h1, b, o, c, h2, h3.le (Le.above_le _ (Le.below hb)), RowOf.below h4 hb⟩
theorem best_take {a : Rel} {n m : Nat} (h0 : 0 < (zs (cycF a n m)).length) (h : (zs (bestC a n m)).length = 0 ∨ (zs (cycF a n m)).length < (zs (bestC a n m)).length) : bestC a n (m + 1) = cycF a n m := by
  rw [zs_length] at *
  rw [zs_length] at h
  rw [bestC, if_pos ⟨h0, h⟩]
theorem best_keep {a : Rel} {n m : Nat} (h : (zs (cycF a n m)).length = 0 ∨ ((zs (bestC a n m)).length ≠ 0 ∧ ¬ (zs (cycF a n m)).length < (zs (bestC a n m)).length)) : bestC a n (m + 1) = bestC a n m := by
  rw [zs_length, zs_length] at h
  rw [bestC, if_neg]
  rintro ⟨h1, h2⟩
  omega
theorem len_pos {xs : List Int} (h : xs ≠ []) : 0 < xs.length := List.length_pos_iff.2 h

set_option maxHeartbeats 1500000 in
theorem findCyc_any (R : Rel) (n : Nat) (hn : n ≤ 16) (w : World) (A : Option Addr) (c : Nat) (h : Ints w A c (relN R n)) :
    Calls Tryz.prog 32 #[.slice A n c] w (RetCyc w (zs (bestC R n n))) := by
  have hrv := relValid_any R n hn w A c h
  have hnn : ∀ w, (binOp BinOp.eql 23 (.slice none 0 0) (.slice none 0 0)).run Tryz.prog w = .ok (.bool true) w := fun _ => by kernel_rfl
  have hns : ∀ (b o l c : Nat) (w : World), (binOp BinOp.eql 23 (.slice (some ⟨b, o, none⟩) l c) (.slice none 0 0)).run Tryz.prog w = .ok (.bool false) w := fun _ _ _ _ _ => by kernel_rfl
  go_enter Tryz.func32, Tryz.ntmps32
  go_wp2_with fail
  refine hrv.mono ?_
  rintro e1 w1 ⟨rfl, hb1⟩
  clear hrv
  go_wp2_with fail
  go_loopg [3, 11] n (fun g s3 s11 wr => ∃ (m : Nat) (v : Value), m ≤ n ∧ g = n - m ∧ v = s3 ∧ s11 = .int .i64 m ∧ Hid (CV wr w.heap.size v (zs (bestC R n m))) ∧ Below w.heap.size w wr)
  case atStart => exact ⟨0, _, Nat.zero_le _, rfl, rfl, rfl, .inl ⟨rfl, rfl⟩, hb1⟩
  case round =>
    obtain ⟨m, v, hm, rfl, rfl, rfl, hcv, hb⟩ := hrel
    by_cases hlt : m < n
    · have hc := cycFrom_any R n m hn hlt wr A c (h.le (Le.below hb))
      obtain ⟨P, hP⟩ : ∃ P, P = zs (cycF R n m) := ⟨_, rfl⟩
      obtain ⟨T, hT⟩ : ∃ T, T = zs (bestC R n m) := ⟨_, rfl⟩
      have Hk : Hid ((P.length = 0 ∨ (T.length ≠ 0 ∧ ¬ P.length < T.length)) → zs (bestC R n (m + 1)) = T) := fun h => by rw [hP, hT] at h; rw [best_keep h, hT]
      have Ht : Hid (0 < P.length → (T.length = 0 ∨ P.length < T.length) → zs (bestC R n (m + 1)) = P) := fun h0 h => by rw [hP] at h0; rw [hP, hT] at h; rw [best_take h0 h, hP]
      rw [← hP] at hc
      rw [← hT] at hcv
      clear hP hT
      go_wp2_with fail
      refine hc.mono ?_
      rintro e5 w5 hr5
      clear hc
      rcases hr5 with ⟨rfl, rfl, hb5⟩ | ⟨hne, b5, o5, c5, rfl, hI5, hR5, hb5⟩
      · have hB5 := hb.trans (hb5.mono hb.size)
        have hcv5 := Lib.hid (hcv.out.below hb5)
        go_wp2_with fail
        go_roundg (n - (m + 1))
        case measure => omega
        case rel => exact ⟨m + 1, _, by omega, rfl, rfl, by go_num, by rw [Hk.out (.inl rfl)]; exact hcv5.out, hB5⟩
      · have hB5 := hb.trans (hb5.mono hb.size)
        have hsz := hb.size
        have hPp := len_pos hne
        have HP5 : Hid (CV w5 w.heap.size (.slice (some ⟨b5, o5, none⟩) P.length c5) P) := .inr ⟨hne, b5, o5, c5, rfl, hI5.le (Le.above_mono hsz _), RowOf.rebase hR5 fun g hg => by have := (RowOf.blk hR5 hg).1; omega⟩
        rcases hcv.out with ⟨rfl, rfl⟩ | ⟨hTn, bT, oT, cT, rfl, hIT, hRT⟩
        · clear hI5 hR5
          go_wp2_with fail
          go_roundg (n - (m + 1))
          case measure => omega
          case rel => exact ⟨m + 1, _, by omega, rfl, rfl, by go_num, by rw [Ht.out hPp (.inl rfl)]; exact HP5.out, hB5⟩
        · have HT5 : Hid (CV w5 w.heap.size (.slice (some ⟨bT, oT, none⟩) T.length cT) T) := .inr ⟨hTn, bT, oT, cT, rfl, hIT.le (Le.above_le _ (Le.below hb5)), RowOf.below hRT hb5⟩
          have hTp := len_pos hTn
          clear hI5 hIT hR5 hRT
          by_cases hcmp : P.length < T.length
          · have hd : decide ((P.length : Int) < (T.length : Int)) = true := by rw [decide_eq_true_iff]; omega
            go_wp2_with fail
            go_roundg (n - (m + 1))
            case measure => omega
            case rel => exact ⟨m + 1, _, by omega, rfl, rfl, by go_num, by rw [Ht.out hPp (.inr hcmp)]; exact HP5.out, hB5⟩
          · have hd : decide ((P.length : Int) < (T.length : Int)) = false := by rw [decide_eq_false_iff_not]; omega
            go_wp2_with fail
            go_roundg (n - (m + 1))
            case measure => omega
            case rel => exact ⟨m + 1, _, by omega, rfl, rfl, by go_num, by rw [Hk.out (.inr ⟨by omega, hcmp⟩)]; exact HT5.out, hB5⟩
    · obtain rfl : m = n := by omega
      rcases hcv.out with ⟨h1, rfl⟩ | ⟨h1, b, o, c', rfl, h2, h3⟩
      · go_wp2_with fail
        go_ret
        exact .inl ⟨h1, rfl, hb⟩
      · go_wp2_with fail
        go_ret
        exact .inr ⟨h1, b, o, c', rfl, h2, h3, hb⟩

set_option maxHeartbeats 1500000 in
theorem l2Cyc_any (R : Rel) (n : Nat) (hn : n ≤ 16) (w : World) (A : Option Addr) (c : Nat) (h : Ints w A c (relN R n)) :
    Calls Tryz.prog 37 #[.slice A n c] w (RetInts w (zs (bestC R n n))) := by
  go_enter Tryz.func37, Tryz.ntmps37
  go_wp2_with fail
  go_loopg [3, 4] n (fun g s3 s4 wr => ∃ (m : Nat) (T : List Int) (Ab : Option Addr) (cb : Nat), m ≤ n ∧ g = n - m ∧ s3 = .slice Ab T.length cb ∧ s4 = .int .i64 m ∧ Hid (T = zs (bestC R n m)) ∧ Hid (Ints (above w.heap.size wr) Ab cb T) ∧ Below w.heap.size w wr)
  case atStart => exact ⟨0, [], _, _, Nat.zero_le _, rfl, rfl, rfl, rfl, ⟨_, _, rfl, by simp, fun i hi => absurd hi (Nat.not_lt_zero _)⟩, (Below.refl _ _).alloc (Nat.le_refl _) _⟩
  case round =>
    obtain ⟨m, T, Ab, cb, hm, rfl, rfl, rfl, hT, hI, hb⟩ := hrel
    by_cases hlt : m < n
    · have hc := l2Path_any R n m hn hlt wr A c (h.le (Le.below hb))
      obtain ⟨P, hP⟩ : ∃ P, P = zs (cycF R n m) := ⟨_, rfl⟩
      have Hk : Hid ((P.length = 0 ∨ (T.length ≠ 0 ∧ ¬ P.length < T.length)) → zs (bestC R n (m + 1)) = T) := fun h => by rw [hP, hT.out] at h; rw [best_keep h, hT.out]
      have Ht : Hid (0 < P.length → (T.length = 0 ∨ P.length < T.length) → zs (bestC R n (m + 1)) = P) := fun h0 h => by rw [hP] at h0; rw [hP, hT.out] at h; rw [best_take h0 h, hP]
      rw [← hP] at hc
      clear hP hT
      go_wp2_with fail
      refine hc.mono ?_
      rintro e5 w5 ⟨A5, c5, rfl, hI5, hb5⟩
      have hB5 := hb.trans (hb5.mono hb.size)
      have hsz := hb.size
      have HI5 := Lib.hid (hI5.le (Le.above_mono hsz _))
      have HT5 := Lib.hid (hI.out.le (Le.above_le _ (Le.below hb5)))
      clear hc hI5 hI
      rcases Nat.eq_zero_or_pos P.length with h0 | h0
      · have d1 : decide ((P.length : Int) > 0) = false := by rw [decide_eq_false_iff_not]; omega
        go_wp2_with fail
        go_roundg (n - (m + 1))
        case measure => omega
        case rel => exact ⟨m + 1, T, Ab, cb, by omega, rfl, rfl, by go_num, (Hk.out (.inl h0)).symm, HT5.out, hB5⟩
      · have d1 : decide ((P.length : Int) > 0) = true := by rw [decide_eq_true_iff]; omega
        rcases Nat.eq_zero_or_pos T.length with t0 | t0
        · have d2 : ((T.length : Int) == 0) = true := by rw [beq_iff_eq]; omega
          go_wp2_with fail
          go_roundg (n - (m + 1))
          case measure => omega
          case rel => exact ⟨m + 1, P, A5, c5, by omega, rfl, rfl, by go_num, (Ht.out h0 (.inl t0)).symm, HI5.out, hB5⟩
        · have d2 : ((T.length : Int) == 0) = false := by rw [beq_eq_false_iff_ne]; omega
          by_cases hcmp : P.length < T.length
          · have d3 : decide ((P.length : Int) < (T.length : Int)) = true := by rw [decide_eq_true_iff]; omega
            go_wp2_with fail
            go_roundg (n - (m + 1))
            case measure => omega
            case rel => exact ⟨m + 1, P, A5, c5, by omega, rfl, rfl, by go_num, (Ht.out h0 (.inr hcmp)).symm, HI5.out, hB5⟩
          · have d3 : decide ((P.length : Int) < (T.length : Int)) = false := by rw [decide_eq_false_iff_not]; omega
            go_wp2_with fail
            go_roundg (n - (m + 1))
            case measure => omega
            case rel => exact ⟨m + 1, T, Ab, cb, by omega, rfl, rfl, by go_num, (Hk.out (.inr ⟨by omega, hcmp⟩)).symm, HT5.out, hB5⟩
    · obtain rfl : m = n := by omega
      go_wp2_with fail
      go_ret
      exact ⟨Ab, cb, by rw [← hT.out]; rfl, by rw [← hT.out]; exact hI.out, hb⟩

end Go.Proofs.YtfgpbnncdfcjjabGreatDoor
