/-
  'append(xs, ys...)' where xs is the call's own row and ys whatever slice that can be read, nil and empty too. No program in sight.
-/
import Derived.Test.YtfgpbnncdfcjjaaDoorThr
import Derived.Maps.AppendAt
namespace Go.Proofs.YtfgpbnncdfcjjaaDoor
open Go.RowKit
set_option linter.unusedVariables false
set_option maxRecDepth 100000

theorem RowOf.slice {α : Type} {k : Nat} {Q : (Nat → Value) → α → Prop} {w : World} {base : Nat} {e : TypeId} {v : Value} {xs : List α} (h : RowOf k Q w base e v xs) : ∃ A c, v = .slice A xs.length c ∧ xs.length ≤ c ∧ c ≤ 9223372036854775807 := by
  obtain ⟨cs, h1, _⟩ := h
  rcases h1.2 with ⟨rfl, h0⟩ | ⟨g, cap, cur, rfl, _, _, hn, hm, _⟩
  · exact ⟨none, 0, by rw [h0], by omega, by omega⟩
  · exact ⟨_, _, rfl, hn, by unfold maxLen at hm; exact hm⟩
/-- More elements. -/
theorem RowOf.more {α : Type} {k : Nat} {Q : (Nat → Value) → α → Prop} (hQ : ∀ (f g : Nat → Value) x, (∀ j, j < k → f j = g j) → Q f x → Q g x) {w w' : World} {base : Nat} {e : TypeId} {v v' : Value} {xs ys : List α} {cs news : List Value} (h : w.ownsRow base e k v xs.length cs) (hcs : ∀ i (h : i < xs.length), Q (fun j => cs.getD (i * k + j) undef) xs[i])
    (hn : news.length = ys.length * k) (hx : ∀ i (hi : i < ys.length), Q (fun j => news.getD (i * k + j) undef) ys[i]) (h' : w'.ownsRow base e k v' (xs.length + ys.length) (cs ++ news)) : RowOf k Q w' base e v' (xs ++ ys) := by
  have hl := h.1
  refine ⟨cs ++ news, by simpa using h', fun i hi => ?_⟩
  rw [List.length_append] at hi
  by_cases hlt : i < xs.length
  · rw [List.getElem_append_left hlt]
    refine hQ _ _ _ (fun j hj => ?_) (hcs i hlt)
    have h1 : i * k + j < cs.length := by
      have h1 : (i + 1) * k ≤ xs.length * k := Nat.mul_le_mul_right k hlt
      rw [Nat.add_mul, Nat.one_mul] at h1
      omega
    simp only [List.getD_eq_getElem?_getD]
    rw [List.getElem?_append_left h1]
  · rw [List.getElem_append_right (by omega)]
    refine hQ _ _ _ (fun j hj => ?_) (hx (i - xs.length) (by omega))
    simp only [List.getD_eq_getElem?_getD]
    have e1 : i * k = xs.length * k + (i - xs.length) * k := by rw [← Nat.add_mul]; congr 1; omega
    rw [List.getElem?_append_right (by omega), hl, show i * k + j - xs.length * k = (i - xs.length) * k + j by omega]

theorem run_append_nilx {P : Program} (w : World) (t ty e : TypeId) (i : TypeInfo) (ht : P.underlying t = some (.slice e)) (hi : P.info? e = some i) (base k : Nat) (v : Value) (n : Nat) (cs : List Value) (h : w.ownsRow base e k v n cs) (c : Nat) :
    (Builtin.append_ #[t, t] ty #[v, .slice none 0 c]).run P w = .ok v w := by
  rcases h.2 with ⟨rfl, rfl⟩ | ⟨g, cap, cur, rfl, _, _, hn, _⟩
  · simp [Builtin.append_, run_underlying ht, sizeOf, typeInfo, hi, Builtin.lenOf, Builtin.firstCells]
  · exact run_append_empty w t ty e i ht hi g 0 n cap hn none c

/-- The law. -/
theorem run_append_list {α : Type} {P : Program} (w : World) {k : Nat} {Q : (Nat → Value) → α → Prop} (hQ : ∀ (f g : Nat → Value) x, (∀ j, j < k → f j = g j) → Q f x → Q g x) {R : World → (Nat → Value) → α → Prop} (t ty : TypeId) (base : Nat) (e : TypeId) (i : TypeInfo) (z : Value) (bytes : Nat) (ht : P.underlying t = some (.slice e)) (hi : P.info? e = some i) (hz : i.zero = some z)
    (hsize : i.size = k) (hby : i.bytes = bytes) (hzs : z.cells.size = k) (hsz : 0 < k) (v : Value) (xs : List α) (hown : RowOf k Q w base e v xs) (A : Option Addr) (c : Nat) (ys : List α) (hy : SlR k R w (.slice A ys.length c) ys)
    (hRQ : ∀ cs y, R w cs y → Q cs y) (h1 : ∀ cs y, Q cs y → ∀ j, j < k → (cs j).oneCell' = true) (h63 : xs.length + ys.length ≤ maxLen) (hbytes : (xs.length + ys.length) * bytes ≤ 140737488355328) (hbase : base ≤ w.heap.size) :
    ∃ v' w', (Builtin.append_ #[t, t] ty #[v, .slice A ys.length c]).run P w = .ok v' w' ∧ RowOf k Q w' base e v' (xs ++ ys) ∧ w.grownBy w' v.ownBlock ∧ (∀ g, v'.ownBlock = some g → v.ownBlock = some g ∨ g = w.heap.size) := by
  have hnil : A = none → ys.length = 0 := fun e => by
    rcases Nat.eq_zero_or_pos ys.length with h | h
    · exact h
    · obtain ⟨b, o, e1, _⟩ := SlR.news hy hsz h
      rw [e] at e1; cases e1
  obtain ⟨cs, ho, hq⟩ := hown
  cases A with
  | none =>
    have h0 := hnil rfl
    obtain rfl : ys = [] := List.length_eq_zero_iff.1 h0
    refine ⟨v, w, run_append_nilx w t ty e i ht hi base k v _ cs ho c, by rw [List.append_nil]; exact ⟨cs, ho, hq⟩, ⟨rfl, rfl, rfl, Nat.le_refl _, fun _ _ _ => rfl⟩, fun g hg => .inl hg⟩
  | some a =>
    rcases Nat.eq_zero_or_pos ys.length with h0 | hpos
    · obtain ⟨v', w', hr, h2, h3, h4, h5⟩ := run_append_own_at (P := P) w base t ty e i z k bytes ht hi hz hsize hby hzs hsz v xs.length cs ho a 0 c [] (by simp) (fun j u h => by simp at h) (fun u h => by cases h) (by omega) (by rw [h0] at hbytes; exact hbytes) hbase
      obtain rfl : ys = [] := List.length_eq_zero_iff.1 h0
      refine ⟨v', w', hr, ?_, h3, fun g hg => ?_⟩
      · rw [List.append_nil]
        rw [List.append_nil, Nat.add_zero] at h2
        exact ⟨cs, h2, hq⟩
      · rcases h5 with h5 | h5
        · exact .inl (by rw [← h5]; exact hg)
        · right; rw [h5] at hg; injection hg with hg; exact hg.symm
    · obtain ⟨b, o, e1, news, hnl, hnw, hnr⟩ := SlR.news hy hsz hpos
      obtain rfl : a = ⟨b, o, none⟩ := by injection e1
      have hnq : ∀ i (hi : i < ys.length), Q (fun j => news.getD (i * k + j) undef) ys[i] := fun i hi => by
        obtain ⟨cs, h1, h2⟩ := hnr i hi
        exact hQ _ _ _ h1 (hRQ _ _ h2)
      obtain ⟨v', w', hr, h2, h3, h4, h5⟩ := run_append_own_at (P := P) w base t ty e i z k bytes ht hi hz hsize hby hzs hsz v xs.length cs ho ⟨b, o, none⟩ ys.length c news hnl hnw (news_one hsz hnl fun i hi j hj => h1 _ _ (hnq i hi) j hj) h63 hbytes hbase
      refine ⟨v', w', hr, RowOf.more hQ ho hq hnl hnq h2, h3, fun g hg => ?_⟩
      rcases h5 with h5 | h5
      · exact .inl (by rw [← h5]; exact hg)
      · right; rw [h5] at hg; injection hg with hg; exact hg.symm

theorem wpList_append_list {α : Type} {P : Program} {w : World} {ops : Array Oper} {rest : List Oper} {o : Oper} {a : Act} {QQ : Exit → Act → World → Prop} (hgd : o.guard = none) (s x : Operand) (t : TypeId) (ho : o.op = .call { callee := .builtin .append, args := #[s, x], argTypes := #[t, t] })
    {k : Nat} {Q : (Nat → Value) → α → Prop} (hQ : ∀ (f g : Nat → Value) x, (∀ j, j < k → f j = g j) → Q f x → Q g x) {R : World → (Nat → Value) → α → Prop} (base : Nat) (e : TypeId) (i : TypeInfo) (z : Value) (bytes : Nat) (ht : P.underlying t = some (.slice e)) (hi : P.info? e = some i) (hz : i.zero = some z)
    (hsize : i.size = k) (hby : i.bytes = bytes) (hzs : z.cells.size = k) (hsz : 0 < k) (v : Value) (xs : List α) (hs : a.eval s = v) (hown : RowOf k Q w base e v xs) (A : Option Addr) (c : Nat) (ys : List α) (hx : a.eval x = .slice A ys.length c) (hy : SlR k R w (.slice A ys.length c) ys)
    (hRQ : ∀ cs y, R w cs y → Q cs y) (h1 : ∀ cs y, Q cs y → ∀ j, j < k → (cs j).oneCell' = true) (h63 : xs.length + ys.length ≤ maxLen) (hbytes : (xs.length + ys.length) * bytes ≤ 140737488355328) (hbase : base ≤ w.heap.size) (H : Nat) (hH : w.heap.size = H)
    (h : ∀ A' c' w', RowOf k Q w' base e (.slice A' (xs ++ ys).length c') (xs ++ ys) → w.grownBy w' v.ownBlock → (∀ g, (Value.slice A' (xs ++ ys).length c').ownBlock = some g → v.ownBlock = some g ∨ g = H) → wpList P ops QQ rest (a.put o.dst (.slice A' (xs ++ ys).length c')) w') : wpList P ops QQ (o :: rest) a w :=
  wpList_plain hgd fun _ hK => by
    obtain ⟨v', w', hr, h2, h3, h4⟩ := run_append_list (P := P) w hQ t o.type base e i z bytes ht hi hz hsize hby hzs hsz v xs hown A c ys hy hRQ h1 h63 hbytes hbase
    obtain ⟨A', c', rfl, _⟩ := h2.slice
    unfold Oper.wp execOp
    simp only [ho, resolve, invoke, builtin, Sem.run_bind, Sem.run_pure, Result.andThen_ok, List.map_toArray, List.map_cons, List.map_nil, hs, hx, hr]
    exact hK _ _ (h A' c' w' h2 h3 (fun g hg => by rw [← hH]; exact h4 g hg))

end Go.Proofs.YtfgpbnncdfcjjaaDoor
