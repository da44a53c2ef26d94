/-
  Slices that a call has made and appends to: what they hold. No program in sight.
-/
import Derived.Test.YtapelogbceoojaaDoorLib
import Derived.Deep.AppendLies
import Derived.OwnWalk
namespace Go.Proofs.YtapelogbceoojaaDoor
open Go.RowKit
set_option linter.unusedVariables false
set_option maxRecDepth 100000

theorem owns_cell {w : World} {base : Nat} {e : TypeId} {k n : Nat} {v : Value} {cs : List Value} (h : w.ownsRow base e k v n cs) (hk : 0 < k) {i j : Nat} (hi : i < n) (hj : j < k) :
    ∃ g cap, v = .slice (some ⟨g, 0, none⟩) n cap ∧ base ≤ g ∧ w.cell? ⟨g, i * k + j, none⟩ = some (cs.getD (i * k + j) undef) := by
  obtain ⟨hl, h⟩ := h
  rcases h with ⟨_, h0⟩ | ⟨g, cap, cur, hv, hb, hg, hn, _, hc, ht⟩
  · omega
  · refine ⟨g, cap, hv, hb, ?_⟩
    have hlt : i * k + j < n * k := by
      have h1 : (i + 1) * k ≤ n * k := Nat.mul_le_mul_right k hi
      rw [Nat.add_mul, Nat.one_mul] at h1
      omega
    have hle : n * k ≤ cap * k := Nat.mul_le_mul_right k hn
    have h1 : cs[i * k + j]? = cur.toList[i * k + j]? := by rw [← ht, List.getElem?_take, if_pos hlt]
    have h2 : i * k + j < cs.length := by omega
    rw [cell_of_row w g (i * k + j) cur e (0, 0) hg, ← Array.getElem?_toList, ← h1, List.getElem?_eq_getElem h2, List.getD_eq_getElem?_getD, List.getElem?_eq_getElem h2]
    rfl

/-- A slice of the call's own, of elements of k cells each; of each P holds. -/
def RowOf {α : Type} (k : Nat) (Q : (Nat → Value) → α → Prop) (w : World) (base : Nat) (e : TypeId) (v : Value) (xs : List α) : Prop :=
  ∃ cs : List Value, w.ownsRow base e k v xs.length cs ∧ ∀ i (h : i < xs.length), Q (fun j => cs.getD (i * k + j) undef) xs[i]
theorem RowOf.imp {α : Type} {k : Nat} {Q Q' : (Nat → Value) → α → Prop} {w : World} {base : Nat} {e : TypeId} {v : Value} {xs : List α} (h : RowOf k Q w base e v xs) (hq : ∀ cs x, Q cs x → Q' cs x) : RowOf k Q' w base e v xs := by
  obtain ⟨cs, h1, h2⟩ := h
  exact ⟨cs, h1, fun i hi => hq _ _ (h2 i hi)⟩
theorem RowOf.nil {α : Type} (k : Nat) (Q : (Nat → Value) → α → Prop) (w : World) (base : Nat) (e : TypeId) : RowOf k Q w base e (.slice none 0 0) ([] : List α) := ⟨[], World.ownsRow_nil w base e k, fun i hi => absurd hi (Nat.not_lt_zero _)⟩
/-- An empty slice in a block of its own. -/
theorem RowOf.made {α : Type} {k : Nat} (Q : (Nat → Value) → α → Prop) {w : World} {base g : Nat} {e : TypeId} (h : Own w g e #[]) (hb : base ≤ g) : RowOf k Q w base e (.slice (some ⟨g, 0, none⟩) 0 0) ([] : List α) :=
  ⟨[], ⟨by simp, .inr ⟨g, 0, #[], rfl, hb, h, Nat.le_refl _, by simp [maxLen], by simp, by simp⟩⟩, fun i hi => absurd hi (Nat.not_lt_zero _)⟩
theorem RowOf.slR {α : Type} {k : Nat} (hk : 0 < k) {R : World → (Nat → Value) → α → Prop} {Q : (Nat → Value) → α → Prop} {w a : World} {base : Nat} {e : TypeId} {v : Value} {xs : List α} (h : RowOf k Q w base e v xs) (hq : ∀ cs x, Q cs x → R a cs x) (ha : Le (above base w) a) : SlR k R a v xs := by
  obtain ⟨cs, h1, h2⟩ := h
  have hform : ∃ A c, v = .slice A xs.length c ∧ xs.length ≤ 9223372036854775807 := by
    rcases h1.2 with ⟨rfl, h0⟩ | ⟨g, cap, cur, rfl, _, _, hn, hc, _⟩
    · rw [h0]; exact ⟨_, _, rfl, by omega⟩
    · simp only [maxLen] at hc
      exact ⟨_, _, rfl, by omega⟩
  obtain ⟨A, c, rfl, hm⟩ := hform
  refine ⟨A, c, rfl, hm, fun i hi => ?_⟩
  obtain ⟨g, cap, hv, hb, _⟩ := owns_cell h1 hk hi hk
  refine ⟨g, 0, by injection hv, _, fun j hj => ?_, hq _ _ (h2 i hi)⟩
  obtain ⟨g', cap', hv', hb', hc'⟩ := owns_cell h1 hk hi hj
  rw [hv] at hv'
  injection hv' with e1
  injection e1 with e1
  injection e1 with e1
  subst e1
  rw [Nat.zero_add]
  exact ha _ _ (cell_above_of hb hc')
theorem RowOf.slR' {α : Type} {k : Nat} (hk : 0 < k) {R : World → (Nat → Value) → α → Prop} {Q : (Nat → Value) → α → Prop} {w a : World} {base : Nat} {e : TypeId} {v : Value} {xs : List α} (h : RowOf k Q w base e v xs) (hq : ∀ cs x, Q cs x → R a cs x) (ha : ∀ g o u, base ≤ g → v.ownBlock = some g → w.cell? ⟨g, o, none⟩ = some u → a.cell? ⟨g, o, none⟩ = some u) : SlR k R a v xs := by
  obtain ⟨cs, h1, h2⟩ := h
  have hform : ∃ A c, v = .slice A xs.length c ∧ xs.length ≤ 9223372036854775807 := by
    rcases h1.2 with ⟨rfl, h0⟩ | ⟨g, cap, cur, rfl, _, _, hn, hc, _⟩
    · rw [h0]; exact ⟨_, _, rfl, by omega⟩
    · simp only [maxLen] at hc
      exact ⟨_, _, rfl, by omega⟩
  obtain ⟨A, c, rfl, hm⟩ := hform
  refine ⟨A, c, rfl, hm, fun i hi => ?_⟩
  obtain ⟨g, cap, hv, hb, _⟩ := owns_cell h1 hk hi hk
  refine ⟨g, 0, by injection hv, _, fun j hj => ?_, hq _ _ (h2 i hi)⟩
  obtain ⟨g', cap', hv', hb', hc'⟩ := owns_cell h1 hk hi hj
  have e0 := hv.symm.trans hv'
  injection e0 with e1
  injection e1 with e1
  injection e1 with e1
  subst e1
  rw [Nat.zero_add]
  exact ha _ _ _ hb (by rw [hv]; rfl) hc'
/-- One element more. -/
theorem RowOf.snoc {α : Type} {k : Nat} {Q : (Nat → Value) → α → Prop} (hQ : ∀ (f g : Nat → Value) x, (∀ j, j < k → f j = g j) → Q f x → Q g x) {w w' : World} {base : Nat} {e : TypeId} {v v' : Value} {xs : List α} {cs news : List Value} {x : α} (h : w.ownsRow base e k v xs.length cs) (hcs : ∀ i (h : i < xs.length), Q (fun j => cs.getD (i * k + j) undef) xs[i])
    (hn : news.length = k) (hx : Q (fun j => news.getD j undef) x) (h' : w'.ownsRow base e k v' (xs.length + 1) (cs ++ news)) : RowOf k Q w' base e v' (xs ++ [x]) := by
  refine ⟨cs ++ news, by simpa using h', fun i hi => ?_⟩
  rw [List.length_append, List.length_singleton] at hi
  have hl := h.1
  by_cases hlt : i < xs.length
  · rw [List.getElem_append_left hlt]
    refine hQ _ _ _ (fun j hj => ?_) (hcs i hlt)
    have h1 : i * k + j < cs.length := by
      have h1 : (i + 1) * k ≤ xs.length * k := Nat.mul_le_mul_right k hlt
      rw [Nat.add_mul, Nat.one_mul] at h1
      omega
    simp only [List.getD_eq_getElem?_getD]
    rw [List.getElem?_append_left h1]
  · obtain rfl : i = xs.length := by omega
    rw [List.getElem_append_right (Nat.le_refl _)]
    simp only [Nat.sub_self, List.getElem_singleton]
    refine hQ _ _ _ (fun j hj => ?_) hx
    simp only [List.getD_eq_getElem?_getD]
    rw [List.getElem?_append_right (by omega), hl, show xs.length * k + j - xs.length * k = j by omega]
theorem RowOf.of_block {α : Type} {k : Nat} {Q : (Nat → Value) → α → Prop} {w w' : World} {base : Nat} {e : TypeId} {v : Value} {xs : List α} (h : RowOf k Q w base e v xs) (hb : ∀ g, base ≤ g → v.ownBlock = some g → g < w.heap.size → w'.heap[g]? = w.heap[g]?) : RowOf k Q w' base e v xs := by
  obtain ⟨cs, ⟨h1, h3⟩, h2⟩ := h
  refine ⟨cs, ⟨h1, ?_⟩, h2⟩
  rcases h3 with h3 | ⟨g, cap, cur, rfl, hbg, hg, rest⟩
  · exact .inl h3
  · refine .inr ⟨g, cap, cur, rfl, hbg, ?_, rest⟩
    rw [hb g hbg rfl ((Array.getElem?_eq_some_iff.1 hg).elim fun h _ => h)]
    exact hg

/-- The cells of a list lie at an address. -/
def NewsAt (w : World) (ad : Addr) (news : List Value) : Prop := ∀ j u, news[j]? = some u → w.cell? (ad.add j) = some u
theorem NewsAt.le {w w' : World} {ad : Addr} {news : List Value} (h : NewsAt w ad news) (hl : Le w w') : NewsAt w' ad news := fun j u hj => hl _ _ (h j u hj)
theorem add_lit (b o j : Nat) : (⟨b, o, none⟩ : Addr).add j = ⟨b, o + j, none⟩ := by simp [Addr.add]

/-- The cells of a slice of k-cell elements, in a row. -/
theorem SlR.news {α : Type} {k : Nat} {R : World → (Nat → Value) → α → Prop} {w : World} {A : Option Addr} {c n : Nat} {xs : List α} (h : SlR k R w (.slice A n c) xs) (hk : 0 < k) (hn : 0 < n) :
    ∃ b o, A = some ⟨b, o, none⟩ ∧ ∃ news : List Value, news.length = n * k ∧ NewsAt w ⟨b, o, none⟩ news ∧ ∀ i (hi : i < xs.length), ∃ cs, (∀ j, j < k → cs j = news.getD (i * k + j) undef) ∧ R w cs xs[i] := by
  obtain ⟨A', c', e, _, h⟩ := h
  injection e with e1 e2 e3
  subst e1 e2
  obtain ⟨b, o, rfl, _⟩ := h 0 hn
  have key : ∀ i, i < xs.length → ∃ cs : Nat → Value, (∀ j, j < k → w.cell? ⟨b, o + i * k + j, none⟩ = some (cs j)) ∧ ∀ hi : i < xs.length, R w cs xs[i] := fun i hi => by
    obtain ⟨b', o', e, cs, h1, h2⟩ := h i hi
    injection e with e
    injection e with e1 e2
    subst e1 e2
    exact ⟨cs, h1, fun _ => h2⟩
  refine ⟨b, o, rfl, (List.range (xs.length * k)).map (fun t => (w.cell? ⟨b, o + t, none⟩).getD undef), by simp, fun j u hj => ?_, fun i hi => ?_⟩
  · rw [List.getElem?_map] at hj
    rcases Nat.lt_or_ge j (xs.length * k) with hlt | hge
    · rw [List.getElem?_range hlt] at hj
      simp only [Option.map_some, Option.some.injEq] at hj
      have hi : j / k < xs.length := by rw [Nat.div_lt_iff_lt_mul hk]; exact hlt
      obtain ⟨cs, h1, _⟩ := key _ hi
      have h2 := h1 (j % k) (Nat.mod_lt _ hk)
      rw [show o + j / k * k + j % k = o + j by rw [Nat.add_assoc, Nat.mul_comm, Nat.div_add_mod]] at h2
      rw [h2] at hj
      rw [add_lit, h2, ← hj]
      rfl
    · rw [List.getElem?_eq_none (by simpa using hge)] at hj
      cases hj
  · obtain ⟨cs, h1, h2⟩ := key i hi
    refine ⟨cs, fun j hj => ?_, h2 hi⟩
    have hlt : i * k + j < xs.length * k := by
      have h1 : (i + 1) * k ≤ xs.length * k := Nat.mul_le_mul_right k hi
      rw [Nat.add_mul, Nat.one_mul] at h1
      omega
    rw [List.getD_eq_getElem?_getD, List.getElem?_map, List.getElem?_range hlt]
    have := h1 j hj
    rw [Nat.add_assoc] at this
    simp [this]

theorem news_one {k n : Nat} {news : List Value} (hk : 0 < k) (hl : news.length = n * k) (h : ∀ i, i < n → ∀ j, j < k → (news.getD (i * k + j) undef).oneCell' = true) : ∀ u ∈ news, u.oneCell' = true := fun u hu => by
  obtain ⟨t, ht, rfl⟩ := List.getElem_of_mem hu
  have h1 := h (t / k) (by rw [Nat.div_lt_iff_lt_mul hk]; omega) (t % k) (Nat.mod_lt _ hk)
  rw [show t / k * k + t % k = t by rw [Nat.mul_comm, Nat.div_add_mod], List.getD_eq_getElem?_getD, List.getElem?_eq_getElem ht] at h1
  exact h1
theorem made_owns {w : World} {base g k : Nat} {e : TypeId} (h : Own w g e #[]) (hb : base ≤ g) : w.ownsRow base e k (.slice (some ⟨g, 0, none⟩) 0 0) 0 [] :=
  ⟨by simp, .inr ⟨g, 0, #[], rfl, hb, h, Nat.le_refl _, by simp [maxLen], by simp, by simp⟩⟩

/-- Nothing is appended: the slice is handed on. -/
theorem run_append_empty {P : Program} (w : World) (t ty e : TypeId) (i : TypeInfo) (ht : P.underlying t = some (.slice e)) (hi : P.info? e = some i) (b off n cap : Nat) (hn : n ≤ cap) (A : Option Addr) (c : Nat) :
    (Builtin.append_ #[t, t] ty #[.slice (some ⟨b, off, none⟩) n cap, .slice A 0 c]).run P w = .ok (.slice (some ⟨b, off, none⟩) n cap) w := by
  cases A with
  | some a =>
    have h := run_append_room_cells (P := P) w t ty e i ht hi b off n cap a 0 c [] (by simp) (fun j u h => by simp at h) (fun u h => by cases h) (by omega) (fun j hj => absurd hj (Nat.not_lt_zero _)) (fun j hj => absurd hj (Nat.not_lt_zero _))
    rw [h]
    simp [World.setCells]
  | none =>
    simp [Builtin.append_, run_underlying ht, sizeOf, typeInfo, hi, Builtin.lenOf, Builtin.firstCells, hn, storeCells]
theorem step_append_empty {P : Program} (w : World) {ops : Array Oper} {o : Oper} {a : Act} {K : Act → World → Prop} {Q : Exit → Act → World → Prop} {E : Prop} (hgd : o.guard = none) (s x : Operand) (t : TypeId)
    (ho : o.op = .call { callee := .builtin .append, args := #[s, x], argTypes := #[t, t] }) (e : TypeId) (i : TypeInfo) (ht : P.underlying t = some (.slice e)) (hi : P.info? e = some i) (b off n cap : Nat) (hn : n ≤ cap) (A : Option Addr) (c : Nat)
    (hs : a.eval s = .slice (some ⟨b, off, none⟩) n cap) (hx : a.eval x = .slice A 0 c) (h : K (a.put o.dst (.slice (some ⟨b, off, none⟩) n cap)) w) :
    if Region.wanted o (yielded ops a.tmps) = true then Oper.wp P o a w K Q else E := by
  have hw : Region.wanted o (yielded ops a.tmps) = true := by simp [Region.wanted, hgd]
  rw [if_pos hw]
  unfold Oper.wp execOp
  simp only [ho, resolve, invoke, builtin, Sem.run_bind, Sem.run_pure, Result.andThen_ok, List.map_toArray, List.map_cons, List.map_nil, hs, hx, run_append_empty w t o.type e i ht hi b off n cap hn A c]
  exact h

end Go.Proofs.YtapelogbceoojaaDoor
