/-
  Slices that a call has made and appends to: what they hold. No program in sight.
-/
import Derived.Test.YtfgpbnncdfcjjaaDoorLib
import Derived.Deep.AppendLies
import Derived.OwnWalk
import Derived.Deep.RegionWith
namespace Go.Proofs.YtfgpbnncdfcjjaaDoor
open Go.RowKit
set_option linter.unusedVariables false
set_option maxRecDepth 100000

theorem owns_cell {w : World} {base : Nat} {e : TypeId} {k n : Nat} {v : Value} {cs : List Value} (h : w.ownsRow base e k v n cs) (hk : 0 < k) {i j : Nat} (hi : i < n) (hj : j < k) :
    ∃ g cap, v = .slice (some ⟨g, 0, none⟩) n cap ∧ base ≤ g ∧ w.cell? ⟨g, i * k + j, none⟩ = some (cs.getD (i * k + j) undef) := by
  obtain ⟨hl, h⟩ := h
  rcases h with ⟨_, h0⟩ | ⟨g, cap, cur, hv, hb, hg, hn, _, hc, ht⟩
  · omega
  · refine ⟨g, cap, hv, hb, ?_⟩
    have hlt : i * k + j < n * k := by
      have h1 : (i + 1) * k ≤ n * k := Nat.mul_le_mul_right k hi
      rw [Nat.add_mul, Nat.one_mul] at h1
      omega
    have hle : n * k ≤ cap * k := Nat.mul_le_mul_right k hn
    have h1 : cs[i * k + j]? = cur.toList[i * k + j]? := by rw [← ht, List.getElem?_take, if_pos hlt]
    have h2 : i * k + j < cs.length := by omega
    rw [cell_of_row w g (i * k + j) cur e (0, 0) hg, ← Array.getElem?_toList, ← h1, List.getElem?_eq_getElem h2, List.getD_eq_getElem?_getD, List.getElem?_eq_getElem h2]
    rfl

/-- A slice of the call's own, of elements of k cells each; of each P holds. -/
def RowOf {α : Type} (k : Nat) (Q : (Nat → Value) → α → Prop) (w : World) (base : Nat) (e : TypeId) (v : Value) (xs : List α) : Prop :=
  ∃ cs : List Value, w.ownsRow base e k v xs.length cs ∧ ∀ i (h : i < xs.length), Q (fun j => cs.getD (i * k + j) undef) xs[i]
theorem RowOf.imp {α : Type} {k : Nat} {Q Q' : (Nat → Value) → α → Prop} {w : World} {base : Nat} {e : TypeId} {v : Value} {xs : List α} (h : RowOf k Q w base e v xs) (hq : ∀ cs x, Q cs x → Q' cs x) : RowOf k Q' w base e v xs := by
  obtain ⟨cs, h1, h2⟩ := h
  exact ⟨cs, h1, fun i hi => hq _ _ (h2 i hi)⟩
theorem RowOf.nil {α : Type} (k : Nat) (Q : (Nat → Value) → α → Prop) (w : World) (base : Nat) (e : TypeId) : RowOf k Q w base e (.slice none 0 0) ([] : List α) := ⟨[], World.ownsRow_nil w base e k, fun i hi => absurd hi (Nat.not_lt_zero _)⟩
/-- An empty slice in a block of its own. -/
theorem RowOf.made {α : Type} {k : Nat} (Q : (Nat → Value) → α → Prop) {w : World} {base g : Nat} {e : TypeId} (h : Own w g e #[]) (hb : base ≤ g) : RowOf k Q w base e (.slice (some ⟨g, 0, none⟩) 0 0) ([] : List α) :=
  ⟨[], ⟨by simp, .inr ⟨g, 0, #[], rfl, hb, h, Nat.le_refl _, by simp [maxLen], by simp, by simp⟩⟩, fun i hi => absurd hi (Nat.not_lt_zero _)⟩
theorem RowOf.slR {α : Type} {k : Nat} (hk : 0 < k) {R : World → (Nat → Value) → α → Prop} {Q : (Nat → Value) → α → Prop} {w a : World} {base : Nat} {e : TypeId} {v : Value} {xs : List α} (h : RowOf k Q w base e v xs) (hq : ∀ cs x, Q cs x → R a cs x) (ha : Le (above base w) a) : SlR k R a v xs := by
  obtain ⟨cs, h1, h2⟩ := h
  have hform : ∃ A c, v = .slice A xs.length c ∧ xs.length ≤ 9223372036854775807 := by
    rcases h1.2 with ⟨rfl, h0⟩ | ⟨g, cap, cur, rfl, _, _, hn, hc, _⟩
    · rw [h0]; exact ⟨_, _, rfl, by omega⟩
    · simp only [maxLen] at hc
      exact ⟨_, _, rfl, by omega⟩
  obtain ⟨A, c, rfl, hm⟩ := hform
  refine ⟨A, c, rfl, hm, fun i hi => ?_⟩
  obtain ⟨g, cap, hv, hb, _⟩ := owns_cell h1 hk hi hk
  refine ⟨g, 0, by injection hv, _, fun j hj => ?_, hq _ _ (h2 i hi)⟩
  obtain ⟨g', cap', hv', hb', hc'⟩ := owns_cell h1 hk hi hj
  rw [hv] at hv'
  injection hv' with e1
  injection e1 with e1
  injection e1 with e1
  subst e1
  rw [Nat.zero_add]
  exact ha _ _ (cell_above_of hb hc')
theorem RowOf.slR' {α : Type} {k : Nat} (hk : 0 < k) {R : World → (Nat → Value) → α → Prop} {Q : (Nat → Value) → α → Prop} {w a : World} {base : Nat} {e : TypeId} {v : Value} {xs : List α} (h : RowOf k Q w base e v xs) (hq : ∀ cs x, Q cs x → R a cs x) (ha : ∀ g o u, base ≤ g → v.ownBlock = some g → w.cell? ⟨g, o, none⟩ = some u → a.cell? ⟨g, o, none⟩ = some u) : SlR k R a v xs := by
  obtain ⟨cs, h1, h2⟩ := h
  have hform : ∃ A c, v = .slice A xs.length c ∧ xs.length ≤ 9223372036854775807 := by
    rcases h1.2 with ⟨rfl, h0⟩ | ⟨g, cap, cur, rfl, _, _, hn, hc, _⟩
    · rw [h0]; exact ⟨_, _, rfl, by omega⟩
    · simp only [maxLen] at hc
      exact ⟨_, _, rfl, by omega⟩
  obtain ⟨A, c, rfl, hm⟩ := hform
  refine ⟨A, c, rfl, hm, fun i hi => ?_⟩
  obtain ⟨g, cap, hv, hb, _⟩ := owns_cell h1 hk hi hk
  refine ⟨g, 0, by injection hv, _, fun j hj => ?_, hq _ _ (h2 i hi)⟩
  obtain ⟨g', cap', hv', hb', hc'⟩ := owns_cell h1 hk hi hj
  have e0 := hv.symm.trans hv'
  injection e0 with e1
  injection e1 with e1
  injection e1 with e1
  subst e1
  rw [Nat.zero_add]
  exact ha _ _ _ hb (by rw [hv]; rfl) hc'
/-- One element more. -/
theorem RowOf.snoc {α : Type} {k : Nat} {Q : (Nat → Value) → α → Prop} (hQ : ∀ (f g : Nat → Value) x, (∀ j, j < k → f j = g j) → Q f x → Q g x) {w w' : World} {base : Nat} {e : TypeId} {v v' : Value} {xs : List α} {cs news : List Value} {x : α} (h : w.ownsRow base e k v xs.length cs) (hcs : ∀ i (h : i < xs.length), Q (fun j => cs.getD (i * k + j) undef) xs[i])
    (hn : news.length = k) (hx : Q (fun j => news.getD j undef) x) (h' : w'.ownsRow base e k v' (xs.length + 1) (cs ++ news)) : RowOf k Q w' base e v' (xs ++ [x]) := by
  refine ⟨cs ++ news, by simpa using h', fun i hi => ?_⟩
  rw [List.length_append, List.length_singleton] at hi
  have hl := h.1
  by_cases hlt : i < xs.length
  · rw [List.getElem_append_left hlt]
    refine hQ _ _ _ (fun j hj => ?_) (hcs i hlt)
    have h1 : i * k + j < cs.length := by
      have h1 : (i + 1) * k ≤ xs.length * k := Nat.mul_le_mul_right k hlt
      rw [Nat.add_mul, Nat.one_mul] at h1
      omega
    simp only [List.getD_eq_getElem?_getD]
    rw [List.getElem?_append_left h1]
  · obtain rfl : i = xs.length := by omega
    rw [List.getElem_append_right (Nat.le_refl _)]
    simp only [Nat.sub_self, List.getElem_singleton]
    refine hQ _ _ _ (fun j hj => ?_) hx
    simp only [List.getD_eq_getElem?_getD]
    rw [List.getElem?_append_right (by omega), hl, show xs.length * k + j - xs.length * k = j by omega]
theorem RowOf.of_block {α : Type} {k : Nat} {Q : (Nat → Value) → α → Prop} {w w' : World} {base : Nat} {e : TypeId} {v : Value} {xs : List α} (h : RowOf k Q w base e v xs) (hb : ∀ g, base ≤ g → v.ownBlock = some g → g < w.heap.size → w'.heap[g]? = w.heap[g]?) : RowOf k Q w' base e v xs := by
  obtain ⟨cs, ⟨h1, h3⟩, h2⟩ := h
  refine ⟨cs, ⟨h1, ?_⟩, h2⟩
  rcases h3 with h3 | ⟨g, cap, cur, rfl, hbg, hg, rest⟩
  · exact .inl h3
  · refine .inr ⟨g, cap, cur, rfl, hbg, ?_, rest⟩
    rw [hb g hbg rfl ((Array.getElem?_eq_some_iff.1 hg).elim fun h _ => h)]
    exact hg

/-- The cells of a list lie at an address. -/
def NewsAt (w : World) (ad : Addr) (news : List Value) : Prop := ∀ j u, news[j]? = some u → w.cell? (ad.add j) = some u
theorem NewsAt.le {w w' : World} {ad : Addr} {news : List Value} (h : NewsAt w ad news) (hl : Le w w') : NewsAt w' ad news := fun j u hj => hl _ _ (h j u hj)
theorem add_lit (b o j : Nat) : (⟨b, o, none⟩ : Addr).add j = ⟨b, o + j, none⟩ := by simp [Addr.add]

/-- The cells of a slice of k-cell elements, in a row. -/
theorem SlR.news {α : Type} {k : Nat} {R : World → (Nat → Value) → α → Prop} {w : World} {A : Option Addr} {c n : Nat} {xs : List α} (h : SlR k R w (.slice A n c) xs) (hk : 0 < k) (hn : 0 < n) :
    ∃ b o, A = some ⟨b, o, none⟩ ∧ ∃ news : List Value, news.length = n * k ∧ NewsAt w ⟨b, o, none⟩ news ∧ ∀ i (hi : i < xs.length), ∃ cs, (∀ j, j < k → cs j = news.getD (i * k + j) undef) ∧ R w cs xs[i] := by
  obtain ⟨A', c', e, _, h⟩ := h
  injection e with e1 e2 e3
  subst e1 e2
  obtain ⟨b, o, rfl, _⟩ := h 0 hn
  have key : ∀ i, i < xs.length → ∃ cs : Nat → Value, (∀ j, j < k → w.cell? ⟨b, o + i * k + j, none⟩ = some (cs j)) ∧ ∀ hi : i < xs.length, R w cs xs[i] := fun i hi => by
    obtain ⟨b', o', e, cs, h1, h2⟩ := h i hi
    injection e with e
    injection e with e1 e2
    subst e1 e2
    exact ⟨cs, h1, fun _ => h2⟩
  refine ⟨b, o, rfl, (List.range (xs.length * k)).map (fun t => (w.cell? ⟨b, o + t, none⟩).getD undef), by simp, fun j u hj => ?_, fun i hi => ?_⟩
  · rw [List.getElem?_map] at hj
    rcases Nat.lt_or_ge j (xs.length * k) with hlt | hge
    · rw [List.getElem?_range hlt] at hj
      simp only [Option.map_some, Option.some.injEq] at hj
      have hi : j / k < xs.length := by rw [Nat.div_lt_iff_lt_mul hk]; exact hlt
      obtain ⟨cs, h1, _⟩ := key _ hi
      have h2 := h1 (j % k) (Nat.mod_lt _ hk)
      rw [show o + j / k * k + j % k = o + j by rw [Nat.add_assoc, Nat.mul_comm, Nat.div_add_mod]] at h2
      rw [h2] at hj
      rw [add_lit, h2, ← hj]
      rfl
    · rw [List.getElem?_eq_none (by simpa using hge)] at hj
      cases hj
  · obtain ⟨cs, h1, h2⟩ := key i hi
    refine ⟨cs, fun j hj => ?_, h2 hi⟩
    have hlt : i * k + j < xs.length * k := by
      have h1 : (i + 1) * k ≤ xs.length * k := Nat.mul_le_mul_right k hi
      rw [Nat.add_mul, Nat.one_mul] at h1
      omega
    rw [List.getD_eq_getElem?_getD, List.getElem?_map, List.getElem?_range hlt]
    have := h1 j hj
    rw [Nat.add_assoc] at this
    simp [this]

theorem news_one {k n : Nat} {news : List Value} (hk : 0 < k) (hl : news.length = n * k) (h : ∀ i, i < n → ∀ j, j < k → (news.getD (i * k + j) undef).oneCell' = true) : ∀ u ∈ news, u.oneCell' = true := fun u hu => by
  obtain ⟨t, ht, rfl⟩ := List.getElem_of_mem hu
  have h1 := h (t / k) (by rw [Nat.div_lt_iff_lt_mul hk]; omega) (t % k) (Nat.mod_lt _ hk)
  rw [show t / k * k + t % k = t by rw [Nat.mul_comm, Nat.div_add_mod], List.getD_eq_getElem?_getD, List.getElem?_eq_getElem ht] at h1
  exact h1
theorem made_owns {w : World} {base g k : Nat} {e : TypeId} (h : Own w g e #[]) (hb : base ≤ g) : w.ownsRow base e k (.slice (some ⟨g, 0, none⟩) 0 0) 0 [] :=
  ⟨by simp, .inr ⟨g, 0, #[], rfl, hb, h, Nat.le_refl _, by simp [maxLen], by simp, by simp⟩⟩

/-- Nothing is appended: the slice is handed on. -/
theorem run_append_empty {P : Program} (w : World) (t ty e : TypeId) (i : TypeInfo) (ht : P.underlying t = some (.slice e)) (hi : P.info? e = some i) (b off n cap : Nat) (hn : n ≤ cap) (A : Option Addr) (c : Nat) :
    (Builtin.append_ #[t, t] ty #[.slice (some ⟨b, off, none⟩) n cap, .slice A 0 c]).run P w = .ok (.slice (some ⟨b, off, none⟩) n cap) w := by
  cases A with
  | some a =>
    have h := run_append_room_cells (P := P) w t ty e i ht hi b off n cap a 0 c [] (by simp) (fun j u h => by simp at h) (fun u h => by cases h) (by omega) (fun j hj => absurd hj (Nat.not_lt_zero _)) (fun j hj => absurd hj (Nat.not_lt_zero _))
    rw [h]
    simp [World.setCells]
  | none =>
    simp [Builtin.append_, run_underlying ht, sizeOf, typeInfo, hi, Builtin.lenOf, Builtin.firstCells, hn, storeCells]
theorem step_append_empty {P : Program} (w : World) {ops : Array Oper} {o : Oper} {a : Act} {K : Act → World → Prop} {Q : Exit → Act → World → Prop} {E : Prop} (hgd : o.guard = none) (s x : Operand) (t : TypeId)
    (ho : o.op = .call { callee := .builtin .append, args := #[s, x], argTypes := #[t, t] }) (e : TypeId) (i : TypeInfo) (ht : P.underlying t = some (.slice e)) (hi : P.info? e = some i) (b off n cap : Nat) (hn : n ≤ cap) (A : Option Addr) (c : Nat)
    (hs : a.eval s = .slice (some ⟨b, off, none⟩) n cap) (hx : a.eval x = .slice A 0 c) (h : K (a.put o.dst (.slice (some ⟨b, off, none⟩) n cap)) w) :
    if Region.wanted o (yielded ops a.tmps) = true then Oper.wp P o a w K Q else E := by
  have hw : Region.wanted o (yielded ops a.tmps) = true := by simp [Region.wanted, hgd]
  rw [if_pos hw]
  unfold Oper.wp execOp
  simp only [ho, resolve, invoke, builtin, Sem.run_bind, Sem.run_pure, Result.andThen_ok, List.map_toArray, List.map_cons, List.map_nil, hs, hx, run_append_empty w t o.type e i ht hi b off n cap hn A c]
  exact h

/-- Only the blocks of q. -/
def keepW (q : Nat → Prop) [DecidablePred q] (w : World) : World := { w with heap := w.heap.mapIdx fun i o => if q i then o else .map #[] 0 }

theorem cell_keepW (q : Nat → Prop) [DecidablePred q] (w : World) (a : Addr) : (keepW q w).cell? a = if q a.block then w.cell? a else none := by
  unfold World.cell? keepW
  simp only [Array.getElem?_mapIdx]
  cases h : w.heap[a.block]? with
  | none => simp
  | some o => by_cases hb : q a.block <;> simp [hb]

theorem cell_keepW_of {q : Nat → Prop} [DecidablePred q] {w : World} {a : Addr} {v : Value} (hq : q a.block) (h : w.cell? a = some v) : (keepW q w).cell? a = some v := by rw [cell_keepW, if_pos hq]; exact h

theorem of_cell_keepW {q : Nat → Prop} [DecidablePred q] {w : World} {a : Addr} {v : Value} (h : (keepW q w).cell? a = some v) : q a.block ∧ w.cell? a = some v := by
  rw [cell_keepW] at h
  by_cases hb : q a.block
  · rw [if_pos hb] at h; exact ⟨hb, h⟩
  · rw [if_neg hb] at h; cases h

theorem Le.keepW {q q' : Nat → Prop} [DecidablePred q] [DecidablePred q'] {w w' : World} (h : ∀ a v, q a.block → w.cell? a = some v → q' a.block ∧ w'.cell? a = some v) : Le (Go.Proofs.YtfgpbnncdfcjjaaDoor.keepW q w) (Go.Proofs.YtfgpbnncdfcjjaaDoor.keepW q' w') := fun a v hc => by
  obtain ⟨h1, h2⟩ := of_cell_keepW hc
  obtain ⟨h3, h4⟩ := h a v h1 h2
  exact cell_keepW_of h3 h4

/-- Behind an append to a row of the call's own. -/
theorem mv_grown {w X w1 : World} {R s : Nat} (m : Mv R w X) (h : X.grownBy w1 (some s)) (hs : w.heap.size ≤ s) : Mv R w w1 :=
  ⟨h.os.trans m.os, h.tape.trans m.tape, h.output.trans m.output, Nat.le_trans m.size (World.grownBy.size h), fun i hi hne => (World.grownBy.block h i (Nat.lt_of_lt_of_le hi m.size) (fun e => by injection e with e; omega)).trans (World.grownBy.block m i hi hne)⟩

theorem owns_base {w : World} {base : Nat} {e : TypeId} {k n : Nat} {v : Value} {cs : List Value} (h : w.ownsRow base e k v n cs) {g : Nat} (hv : v.ownBlock = some g) : base ≤ g ∧ g < w.heap.size := by
  rcases h.2 with ⟨rfl, _⟩ | ⟨g', cap, cur, rfl, hb, hg, _⟩
  · cases hv
  · simp only [Value.ownBlock, Option.some.injEq] at hv
    subst hv
    exact ⟨hb, (Array.getElem?_eq_some_iff.1 hg).elim fun h _ => h⟩

theorem owns_of_block {w w' : World} {base : Nat} {e : TypeId} {k n : Nat} {v : Value} {cs : List Value} (h : w.ownsRow base e k v n cs) (hb : ∀ g, v.ownBlock = some g → base ≤ g → g < w.heap.size → w'.heap[g]? = w.heap[g]?) : w'.ownsRow base e k v n cs := by
  refine ⟨h.1, ?_⟩
  rcases h.2 with h3 | ⟨g, cap, cur, rfl, hbg, hg, rest⟩
  · exact .inl h3
  · refine .inr ⟨g, cap, cur, rfl, hbg, ?_, rest⟩
    rw [hb g rfl hbg ((Array.getElem?_eq_some_iff.1 hg).elim fun h _ => h)]
    exact hg

theorem owns_alloc {w : World} {base : Nat} {e : TypeId} {k n : Nat} {v : Value} {cs : List Value} (h : w.ownsRow base e k v n cs) (o : Obj) : (w.alloc o).ownsRow base e k v n cs := by
  refine ⟨h.1, ?_⟩
  rcases h.2 with h3 | ⟨g, cap, cur, rfl, hbg, hg, rest⟩
  · exact .inl h3
  · refine .inr ⟨g, cap, cur, rfl, hbg, ?_, rest⟩
    rw [Go.Deep.blk_alloc_lt _ _ _ ((Array.getElem?_eq_some_iff.1 hg).elim fun h _ => h)]
    exact hg

theorem owns_base' {w : World} {base : Nat} {e : TypeId} {k n : Nat} {v : Value} {cs : List Value} (h : w.ownsRow base e k v n cs) {g : Nat} (hv : v.ownBlock = some g) : base ≤ g := by
  rcases h.2 with ⟨rfl, _⟩ | ⟨g', cap, cur, rfl, hb, hg, _⟩
  · cases hv
  · simp only [Value.ownBlock, Option.some.injEq] at hv
    omega

theorem below_grown {B : Nat} {w X w1 : World} {row : Option Nat} (h : Below B w X) (hg : X.grownBy w1 row) (hB : B ≤ w.heap.size) (hr : ∀ g, row = some g → B ≤ g) : Below B w w1 :=
  ⟨(World.grownBy.os hg).trans h.os, (World.grownBy.tape hg).trans h.tape, (World.grownBy.output hg).trans h.output, Nat.le_trans h.size (World.grownBy.size hg), fun i hi => (World.grownBy.block hg i (by have := h.size; omega) (fun e => by have := hr i e.symm; omega)).trans (h.block i hi)⟩

/-- What may not turn while a row is appended to: what the call has made, but the row. -/
def Kr (base : Nat) (v : Value) (b : Nat) : Prop := base ≤ b ∧ v.ownBlock ≠ some b
instance (base : Nat) (v : Value) : DecidablePred (Kr base v) := fun _ => inferInstanceAs (Decidable (_ ∧ _))

def RowK {α : Type} (k : Nat) (R : World → (Nat → Value) → α → Prop) (w : World) (base : Nat) (e : TypeId) (v : Value) (xs : List α) : Prop := RowOf k (R (keepW (Kr base v) w)) w base e v xs

/-- New memory, and stores into it. -/
theorem RowK.below {α : Type} {k : Nat} {R : World → (Nat → Value) → α → Prop} (hR : ∀ a a' cs x, Le a a' → R a cs x → R a' cs x) {w w' : World} {base : Nat} {e : TypeId} {v : Value} {xs : List α} (h : RowK k R w base e v xs) (hb : Below w.heap.size w w') : RowK k R w' base e v xs :=
  (RowOf.imp h fun cs x hx => hR _ _ _ _ (Le.keepW fun a u hq hc => ⟨hq, Le.below hb _ _ hc⟩) hx).of_block fun g _ _ hlt => hb.block g hlt

/-- One element more: X is the world in which the element's cells have been laid, w1 the one behind the append. -/
theorem RowK.push {α : Type} {k : Nat} {R : World → (Nat → Value) → α → Prop} (hR : ∀ a a' cs x, Le a a' → R a cs x → R a' cs x) (hQ : ∀ a (f g : Nat → Value) x, (∀ j, j < k → f j = g j) → R a f x → R a g x)
    {w X w1 : World} {base gg cap H : Nat} {e : TypeId} {v : Value} {xs : List α} {cs news : List Value} {x : α} (hown : w.ownsRow base e k v xs.length cs) (hq : ∀ i (h : i < xs.length), R (keepW (Kr base v) w) (fun j => cs.getD (i * k + j) undef) xs[i])
    (hX : Below w.heap.size w X) (hg : X.grownBy w1 v.ownBlock) (hn : news.length = k) (hx : R (above w.heap.size X) (fun j => news.getD j undef) x) (hbw : base ≤ w.heap.size)
    (hown1 : w1.ownsRow base e k (.slice (some ⟨gg, 0, none⟩) (xs.length + 1) cap) (xs.length + 1) (cs ++ news)) (hat : v.ownBlock = some gg ∨ gg = H) (hH : X.heap.size = H) :
    RowK k R w1 base e (.slice (some ⟨gg, 0, none⟩) (xs.length + 1) cap) (xs ++ [x]) := by
  have hlt : ∀ g, v.ownBlock = some g → base ≤ g ∧ g < w.heap.size := fun g hv => owns_base hown hv
  have st : ∀ (a : Addr) (u : Value), v.ownBlock ≠ some a.block → X.cell? a = some u → w1.cell? a = some u := fun a u hn hc => by
    rw [World.cell?_of_block (w := X) (World.grownBy.block hg a.block (World.block_lt_of_cell? _ _ hc) (fun e => hn e.symm))]
    exact hc
  have ne : ∀ a : Addr, v.ownBlock ≠ some a.block → a.block < X.heap.size → (Value.slice (some ⟨gg, 0, none⟩) (xs.length + 1) cap).ownBlock ≠ some a.block := fun a hn hl e => by
    simp only [Value.ownBlock, Option.some.injEq] at e
    rcases hat with h | h
    · exact hn (by rw [h, e])
    · omega
  refine RowOf.snoc (fun f g x hfg h => hQ _ f g x hfg h) hown (fun i hi => hR _ _ _ _ (Le.keepW fun a u hqa hc => ?_) (hq i hi)) hn (hR _ _ _ _ (fun a u hc => ?_) hx) hown1
  · have hcX := Le.below hX _ _ hc
    exact ⟨⟨hqa.1, ne a hqa.2 (World.block_lt_of_cell? _ _ hcX)⟩, st a u hqa.2 hcX⟩
  · obtain ⟨h1, h2⟩ := cell_above_lt hc
    have hn' : v.ownBlock ≠ some a.block := fun e => by have := hlt _ e; omega
    exact cell_keepW_of ⟨by omega, ne a hn' (World.block_lt_of_cell? _ _ h2)⟩ (st a u hn' h2)

/-- The slice, as what is handed back stands for it. -/
theorem RowK.slR {α : Type} {k : Nat} (hk : 0 < k) {R : World → (Nat → Value) → α → Prop} (hR : ∀ a a' cs x, Le a a' → R a cs x → R a' cs x) {w : World} {base : Nat} {e : TypeId} {v : Value} {xs : List α} (h : RowK k R w base e v xs) : SlR k R (above base w) v xs :=
  RowOf.slR hk h (fun cs x hx => hR _ _ _ _ (fun a u hc => by
    obtain ⟨h1, h2⟩ := of_cell_keepW hc
    exact cell_above_of h1.1 h2) hx) (Le.refl _)

/-- A row that a draw appends to: the source may turn. -/
theorem RowK.mv {α : Type} {k : Nat} {Rp : World → (Nat → Value) → α → Prop} (hR : ∀ a a' cs x, Le a a' → Rp a cs x → Rp a' cs x) {w w' : World} {base B : Nat} {e : TypeId} {v : Value} {xs : List α} (h : RowK k Rp w base e v xs) (m : Mv B w w') (hB : B < base) : RowK k Rp w' base e v xs :=
  (RowOf.imp h fun cs x hx => hR _ _ _ _ (Le.keepW fun a u hq hc => ⟨hq, m.cell hc (by have := hq.1; omega)⟩) hx).of_block fun g hg _ hlt => m.block hlt (by omega)

/-- One element more. -/
theorem RowK.pushM {α : Type} {k : Nat} {Rp : World → (Nat → Value) → α → Prop} (hR : ∀ a a' cs x, Le a a' → Rp a cs x → Rp a' cs x) (hQ : ∀ a (f g : Nat → Value) x, (∀ j, j < k → f j = g j) → Rp a f x → Rp a g x)
    {w X w1 : World} {base B gg cap H : Nat} {e : TypeId} {v : Value} {xs : List α} {cs news : List Value} {x : α} (hown : w.ownsRow base e k v xs.length cs) (hq : ∀ i (h : i < xs.length), Rp (keepW (Kr base v) w) (fun j => cs.getD (i * k + j) undef) xs[i])
    (hX : Mv B w X) (hB : B < base) (hg : X.grownBy w1 v.ownBlock) (hn : news.length = k) (hx : Rp (keepW (Kr base v) X) (fun j => news.getD j undef) x) (hbw : base ≤ w.heap.size)
    (hown1 : w1.ownsRow base e k (.slice (some ⟨gg, 0, none⟩) (xs.length + 1) cap) (xs.length + 1) (cs ++ news)) (hat : v.ownBlock = some gg ∨ gg = H) (hH : X.heap.size = H) :
    RowK k Rp w1 base e (.slice (some ⟨gg, 0, none⟩) (xs.length + 1) cap) (xs ++ [x]) := by
  have hlt : ∀ g, v.ownBlock = some g → base ≤ g ∧ g < w.heap.size := fun g hv => owns_base hown hv
  have st : ∀ (a : Addr) (u : Value), v.ownBlock ≠ some a.block → X.cell? a = some u → w1.cell? a = some u := fun a u hn hc => by
    rw [World.cell?_of_block (w := X) (World.grownBy.block hg a.block (World.block_lt_of_cell? _ _ hc) (fun e => hn e.symm))]
    exact hc
  have ne : ∀ a : Addr, v.ownBlock ≠ some a.block → a.block < X.heap.size → (Value.slice (some ⟨gg, 0, none⟩) (xs.length + 1) cap).ownBlock ≠ some a.block := fun a hn hl e => by
    simp only [Value.ownBlock, Option.some.injEq] at e
    rcases hat with h | h
    · exact hn (by rw [h, e])
    · omega
  refine RowOf.snoc (fun f g x hfg h => hQ _ f g x hfg h) hown (fun i hi => hR _ _ _ _ (Le.keepW fun a u hqa hc => ?_) (hq i hi)) hn (hR _ _ _ _ (fun a u hc => ?_) hx) hown1
  · have hcX := hX.cell hc (by have := hqa.1; omega)
    exact ⟨⟨hqa.1, ne a hqa.2 (World.block_lt_of_cell? _ _ hcX)⟩, st a u hqa.2 hcX⟩
  · obtain ⟨h1, h2⟩ := of_cell_keepW hc
    exact cell_keepW_of ⟨h1.1, ne a h1.2 (World.block_lt_of_cell? _ _ h2)⟩ (st a u h1.2 h2)

theorem above_keep {X : World} {B base : Nat} {v : Value} (hB : base ≤ B) (h : ∀ g, v.ownBlock = some g → g < B) : Le (above B X) (keepW (Kr base v) X) := fun a u hc => by
  obtain ⟨h1, h2⟩ := cell_above_lt hc
  exact cell_keepW_of ⟨by omega, fun e => by have := h _ e; omega⟩ h2

theorem mv_grown2 {R : Nat} {w X w1 : World} {row : Option Nat} (m : Mv R w X) (h : X.grownBy w1 row) (hr : ∀ g, row = some g → w.heap.size ≤ g) : Mv R w w1 :=
  ⟨(World.grownBy.os h).trans m.os, (World.grownBy.tape h).trans m.tape, (World.grownBy.output h).trans m.output, Nat.le_trans m.size (World.grownBy.size h), fun i hi hn => (World.grownBy.block h i (by have := m.size; omega) (fun e => by have := hr i e.symm; omega)).trans (m.block hi (fun e => hn (by rw [e])))⟩

end Go.Proofs.YtfgpbnncdfcjjaaDoor
