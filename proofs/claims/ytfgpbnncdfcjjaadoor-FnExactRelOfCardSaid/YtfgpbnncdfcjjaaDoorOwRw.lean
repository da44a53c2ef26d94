/-
  Rows that are one's own: a slice whose cells lie in a block by itself, of elements that may lead to blocks of their own; which blocks they are. No program in sight. Rows that a call appends to, of elements that may lead to blocks of their own. No program in sight.
-/
import Derived.Test.YtfgpbnncdfcjjaaDoorLib
import Derived.Test.YtfgpbnncdfcjjaaDoorAp

/-! Rows that are one's own: a slice whose cells lie in a block by itself, of elements that may lead to blocks of their own; which blocks they are. No program in sight. -/
namespace Go.Proofs.YtfgpbnncdfcjjaaDoor
open Go.RowKit
set_option linter.unusedVariables false
set_option maxRecDepth 100000

/-- What an element's cells stand for, in just these blocks. -/
abbrev OwP (α : Type) := World → (Nat → Value) → α → List Nat → Prop
/-- It speaks of its own blocks alone, and of k cells. -/
structure OwLoc {α : Type} (k : Nat) (P : OwP α) : Prop where
  move : ∀ {w w' : World} {cs : Nat → Value} {x : α} {F : List Nat}, P w cs x F → (∀ b ∈ F, w'.heap[b]? = w.heap[b]?) → P w' cs x F
  lt : ∀ {w : World} {cs : Nat → Value} {x : α} {F : List Nat}, P w cs x F → ∀ b ∈ F, b < w.heap.size
  congr : ∀ {w : World} {cs cs' : Nat → Value} {x : α} {F : List Nat}, (∀ j, j < k → cs j = cs' j) → P w cs x F → P w cs' x F

theorem mem_ft {n : Nat} {Fs : Nat → List Nat} {i x : Nat} (hi : i < n) (hx : x ∈ Fs i) : x ∈ ((List.range n).map Fs).flatten :=
  List.mem_flatten.2 ⟨Fs i, List.mem_map.2 ⟨i, List.mem_range.2 hi, rfl⟩, hx⟩
theorem of_mem_ft {n : Nat} {Fs : Nat → List Nat} {x : Nat} (h : x ∈ ((List.range n).map Fs).flatten) : ∃ i, i < n ∧ x ∈ Fs i := by
  obtain ⟨l, hl, hx⟩ := List.mem_flatten.1 h
  obtain ⟨i, hi, rfl⟩ := List.mem_map.1 hl
  exact ⟨i, List.mem_range.1 hi, hx⟩

/-- A slice of k-cell elements, each of them P. -/
def OwRow {α : Type} (k : Nat) (e : TypeId) (P : OwP α) (w : World) (v : Value) (xs : List α) (F : List Nat) : Prop :=
  (v = .slice none 0 0 ∧ xs = [] ∧ F = []) ∨ ∃ (g c N : Nat) (G : Nat → Value) (Fs : Nat → List Nat), v = .slice (some ⟨g, 0, none⟩) xs.length c ∧ xs.length ≤ c ∧ w.rowIs g e N G ∧ xs.length * k ≤ N ∧ xs.length ≤ 9223372036854775807 ∧
    (∀ i (h : i < xs.length), P w (fun j => G (i * k + j)) xs[i] (Fs i)) ∧ F = g :: ((List.range xs.length).map Fs).flatten
namespace OwRow
variable {α : Type} {k : Nat} {e : TypeId} {P : OwP α} {w w' : World} {v : Value} {xs : List α} {F : List Nat}
theorem nil : OwRow k e P w (.slice none 0 0) ([] : List α) [] := Or.inl ⟨rfl, rfl, rfl⟩
theorem slice (h : OwRow k e P w v xs F) : ∃ A c, v = .slice A xs.length c ∧ xs.length ≤ c ∧ xs.length ≤ 9223372036854775807 := by
  rcases h with ⟨rfl, rfl, rfl⟩ | ⟨g, c, N, G, Fs, rfl, hc, _, _, hm, _⟩
  · exact ⟨_, _, rfl, Nat.le_refl _, by simp⟩
  · exact ⟨_, _, rfl, hc, hm⟩
theorem lt (hP : OwLoc k P) (h : OwRow k e P w v xs F) : ∀ b ∈ F, b < w.heap.size := fun b hb => by
  rcases h with ⟨rfl, rfl, rfl⟩ | ⟨g, c, N, G, Fs, rfl, _, hr, _, hm, hel, rfl⟩
  · cases hb
  · rcases List.mem_cons.1 hb with rfl | hb
    · exact hr.lt
    · obtain ⟨i, hi, hx⟩ := of_mem_ft hb
      exact hP.lt (hel i hi) b hx
theorem move (hP : OwLoc k P) (h : OwRow k e P w v xs F) (hb : ∀ b ∈ F, w'.heap[b]? = w.heap[b]?) : OwRow k e P w' v xs F := by
  rcases h with ⟨rfl, rfl, rfl⟩ | ⟨g, c, N, G, Fs, rfl, hc, hr, hN, hm, hel, rfl⟩
  · exact Or.inl ⟨rfl, rfl, rfl⟩
  · exact Or.inr ⟨g, c, N, G, Fs, rfl, hc, hr.of_block (hb g (by simp)), hN, hm, fun i hi => hP.move (hel i hi) fun b hm => hb b (List.mem_cons_of_mem _ (mem_ft hi hm)), rfl⟩
theorem below (hP : OwLoc k P) (h : OwRow k e P w v xs F) (hb : Below w.heap.size w w') : OwRow k e P w' v xs F := h.move hP fun b hm => hb.block b (h.lt hP b hm)
/-- .. so it is what the walks speak of, also where all that lies below it is hidden. -/
theorem slR {R : World → (Nat → Value) → α → Prop} {B : Nat} (h : OwRow k e P w v xs F) (hR : ∀ cs x F', (∀ b ∈ F', B ≤ b) → P w cs x F' → R (above B w) cs x) (hB : ∀ b ∈ F, B ≤ b) : SlR k R (above B w) v xs := by
  rcases h with ⟨rfl, rfl, rfl⟩ | ⟨g, c, N, G, Fs, rfl, hc, hr, hN, hm, hel, rfl⟩
  · exact ⟨none, 0, rfl, by simp, fun i hi => absurd hi (Nat.not_lt_zero _)⟩
  · refine ⟨_, _, rfl, hm, fun i hi => ⟨g, 0, rfl, fun j => G (i * k + j), fun j hj => ?_, hR _ _ _ (fun b hb => hB b (List.mem_cons_of_mem _ (mem_ft hi hb))) (hel i hi)⟩⟩
    have h1 : (i + 1) * k ≤ xs.length * k := Nat.mul_le_mul_right k hi
    rw [Nat.add_mul, Nat.one_mul] at h1
    rw [Nat.zero_add]
    exact cell_above_of (hB g (by simp)) (hr.cell (by omega))

/-- An element: its cells, its blocks, and how another one goes back into its place. -/
theorem elem {A : Option Addr} {n c : Nat} (h : OwRow k e P w (.slice A n c) xs F) (hP : OwLoc k P) (hnd : F.Nodup) {i : Nat} (hi : i < xs.length) :
    ∃ g N G Fi, A = some ⟨g, 0, none⟩ ∧ n = xs.length ∧ g < w.heap.size ∧ g ∈ F ∧ (∀ x ∈ Fi, x ∈ F) ∧ Fi.Nodup ∧ g ∉ Fi ∧ w.rowIs g e N G ∧ (i + 1) * k ≤ N ∧ P w (fun j => G (i * k + j)) xs[i] Fi ∧
      ∀ (w' : World) (G' : Nat → Value) (x : α), w'.rowIs g e N G' → (∀ t j, t ≠ i → j < k → G' (t * k + j) = G (t * k + j)) → (∀ b ∈ F, b ≠ g → b ∉ Fi → w'.heap[b]? = w.heap[b]?) → P w' (fun j => G' (i * k + j)) x Fi → OwRow k e P w' (.slice A n c) (xs.set i x) F := by
  rcases h with ⟨_, rfl, _⟩ | ⟨g, c', N, G, Fs, hv, hc, hr, hN, hm, hel, rfl⟩
  · simp at hi
  · injection hv with e1 e2 e3
    subst e1; subst e2; subst e3
    rw [List.nodup_cons] at hnd
    have hnd2 := hnd.2
    unfold List.Nodup at hnd2
    rw [List.pairwise_flatten] at hnd2
    obtain ⟨hn1, hn2⟩ := hnd2
    have hgn : ∀ j, j < xs.length → g ∉ Fs j := fun j hj hm => hnd.1 (mem_ft hj hm)
    have hij : ∀ j, j < xs.length → j ≠ i → ∀ x ∈ Fs j, x ∉ Fs i := fun j hj hne x hx hx' => by
      rw [List.pairwise_map] at hn2
      have h2 := List.pairwise_iff_getElem.1 hn2
      rcases Nat.lt_or_gt_of_ne hne with h | h
      · exact h2 j i (by simpa using hj) (by simpa using hi) h x (by simpa using hx) x (by simpa using hx') rfl
      · exact h2 i j (by simpa using hi) (by simpa using hj) h x (by simpa using hx') x (by simpa using hx) rfl
    have h1 : (i + 1) * k ≤ xs.length * k := Nat.mul_le_mul_right k hi
    refine ⟨g, N, G, Fs i, rfl, rfl, hr.lt, by simp, fun x hx => List.mem_cons_of_mem _ (mem_ft hi hx), hn1 _ (List.mem_map.2 ⟨i, List.mem_range.2 hi, rfl⟩), hgn i hi, hr, by omega, hel i hi, ?_⟩
    intro w' G' x hr' hG hb hx
    rw [show xs.length = (xs.set i x).length by rw [List.length_set]]
    refine Or.inr ⟨g, c, N, G', Fs, rfl, by rw [List.length_set]; exact hc, hr', by rw [List.length_set]; exact hN, by rw [List.length_set]; exact hm, fun j hj => ?_, by rw [List.length_set]⟩
    rw [List.length_set] at hj
    by_cases hji : j = i
    · subst hji
      rw [List.getElem_set_self]
      exact hx
    · rw [List.getElem_set_ne (fun e => hji e.symm)]
      refine hP.congr (fun t ht => (hG j t hji ht).symm) (hP.move (hel j hj) fun b hbm => hb b (List.mem_cons_of_mem _ (mem_ft hj hbm)) (fun e => hgn j hj (by rw [← e]; exact hbm)) (hij j hj hji b hbm))
/-- The whole row written out: made with its length. -/
theorem made {g c N : Nat} {G : Nat → Value} (Fs : Nat → List Nat) (hr : w.rowIs g e N G) (hc : xs.length ≤ c) (hN : xs.length * k ≤ N) (hm : xs.length ≤ 9223372036854775807) (hel : ∀ i (h : i < xs.length), P w (fun j => G (i * k + j)) xs[i] (Fs i)) :
    OwRow k e P w (.slice (some ⟨g, 0, none⟩) xs.length c) xs (g :: ((List.range xs.length).map Fs).flatten) := Or.inr ⟨g, c, N, G, Fs, rfl, hc, hr, hN, hm, hel, rfl⟩
end OwRow

/-- Elements of scalars alone. -/
def flat {α : Type} (Q : (Nat → Value) → α → Prop) : OwP α := fun _ cs x F => Q cs x ∧ F = []
theorem flat_loc {α : Type} {k : Nat} {Q : (Nat → Value) → α → Prop} (hQ : ∀ (f g : Nat → Value) x, (∀ j, j < k → f j = g j) → Q f x → Q g x) : OwLoc k (flat Q) :=
  ⟨fun h _ => h, (fun h b hb => by rw [h.2] at hb; cases hb), fun hc h => ⟨hQ _ _ _ hc h.1, h.2⟩⟩
/-- Elements that are such slices themselves. -/
def sub {α : Type} (k : Nat) (e : TypeId) (P : OwP α) : OwP (List α) := fun w cs xs F => OwRow k e P w (cs 0) xs F
theorem sub_loc {α : Type} {k : Nat} {e : TypeId} {P : OwP α} (hP : OwLoc k P) : OwLoc 1 (sub k e P) :=
  ⟨fun h hb => OwRow.move hP h hb, fun h => OwRow.lt hP h, fun hc h => by
    unfold sub at h ⊢
    rw [← hc 0 (by omega)]
    exact h⟩

theorem flat_ft (n : Nat) (Fs : Nat → List Nat) (h : ∀ i, i < n → Fs i = []) : ((List.range n).map Fs).flatten = [] := by
  rw [List.flatten_eq_nil_iff]
  intro l hl
  obtain ⟨i, hi, rfl⟩ := List.mem_map.1 hl
  exact h i (List.mem_range.1 hi)

/-- Only the blocks of F, and what is new, may have turned. -/
structure MvO (F : List Nat) (w w' : World) : Prop where
  os : w'.os = w.os
  tape : w'.tape = w.tape
  output : w'.output = w.output
  size : w.heap.size ≤ w'.heap.size
  block : ∀ i, i < w.heap.size → i ∉ F → w'.heap[i]? = w.heap[i]?
namespace MvO
variable {F : List Nat} {a b c : World}
theorem refl (F : List Nat) (w : World) : MvO F w w := ⟨rfl, rfl, rfl, Nat.le_refl _, fun _ _ _ => rfl⟩
theorem trans (h : MvO F a b) (k : MvO F b c) : MvO F a c :=
  ⟨k.os.trans h.os, k.tape.trans h.tape, k.output.trans h.output, Nat.le_trans h.size k.size, fun i hi hn => (k.block i (Nat.lt_of_lt_of_le hi h.size) hn).trans (h.block i hi hn)⟩
theorem of_below (h : Below a.heap.size a b) : MvO F a b := ⟨h.os, h.tape, h.output, h.size, fun i hi _ => h.block i hi⟩
theorem mono {G : List Nat} (h : MvO F a b) (hs : ∀ x ∈ F, x ∈ G) : MvO G a b := ⟨h.os, h.tape, h.output, h.size, fun i hi hn => h.block i hi fun hm => hn (hs i hm)⟩
theorem set (h : MvO F a b) {p : Addr} (hp : p.block ∈ F) (v : Value) : MvO F a (b.setCell p v) :=
  ⟨h.os, h.tape, h.output, by simpa [World.setCell] using h.size, fun i hi hn => (Below.heap_setCell _ _ _ _ (fun e => hn (by rw [e]; exact hp))).trans (h.block i hi hn)⟩
theorem below {B : Nat} (h : MvO F a b) (hF : ∀ x ∈ F, B ≤ x) (hB : B ≤ a.heap.size) : Below B a b := ⟨h.os, h.tape, h.output, h.size, fun i hi => h.block i (by omega) fun hm => by have := hF i hm; omega⟩
theorem cell (h : MvO F a b) {p : Addr} {v : Value} (hc : a.cell? p = some v) (hn : p.block ∉ F) : b.cell? p = some v := by
  rw [World.cell?_of_block (w := a) (h.block _ (World.block_lt_of_cell? _ _ hc) hn)]
  exact hc
/-- What was made ahead of number B is as it was, where F lies behind it. -/
theorem le {B : Nat} {x : World} (h : MvO F a b) (hF : ∀ y ∈ F, B ≤ y) (hx : x.heap.size ≤ B) (hl : Le x a) : Le x b := fun p u hc => h.cell (hl p u hc) fun hm => by
  have := hF _ hm
  have := World.block_lt_of_cell? _ _ hc
  omega
end MvO

/-! ### A row that is being filled -/
structure Fill {α : Type} (k : Nat) (P : OwP α) (w : World) (lo g : Nat) (G : Nat → Value) (xs : List α) (n : Nat) (Fs : Nat → List Nat) : Prop where
  el : ∀ i (h : i < xs.length), i < n → P w (fun j => G (i * k + j)) xs[i] (Fs i)
  nd : ((List.range n).map Fs).flatten.Nodup
  ge : ∀ i, i < n → ∀ b ∈ Fs i, lo ≤ b ∧ b ≠ g
namespace Fill
variable {α : Type} {k : Nat} {P : OwP α} {w : World} {lo g : Nat} {G : Nat → Value} {xs : List α} {n : Nat} {Fs : Nat → List Nat}
theorem zero (P : OwP α) (w : World) (lo g : Nat) (G : Nat → Value) (xs : List α) : Fill k P w lo g G xs 0 (fun _ => []) :=
  ⟨fun i _ h => absurd h (Nat.not_lt_zero _), by simp, fun i h => absurd h (Nat.not_lt_zero _)⟩
/-- One element more: w1 is the world behind the call that made it, w2 the one behind the stores into the row. -/
theorem step (hP : OwLoc k P) (h : Fill k P w lo g G xs n Fs) (hn : n < xs.length) {w1 w2 : World} {G' cs : Nat → Value} {F : List Nat} (hlo : lo ≤ w.heap.size) (hg : g < w.heap.size) (hb : Below w.heap.size w w1) (hx : P w1 cs xs[n] F) (hF : ∀ b ∈ F, w.heap.size ≤ b) (hFn : F.Nodup)
    (h2 : ∀ b, b ≠ g → b < w1.heap.size → w2.heap[b]? = w1.heap[b]?) (hc : ∀ j, j < k → G' (n * k + j) = cs j) (ho : ∀ t j, t ≠ n → j < k → G' (t * k + j) = G (t * k + j)) : Fill k P w2 lo g G' xs (n + 1) (fun i => if i = n then F else Fs i) := by
  have hold : ∀ i, i < n → ∀ b ∈ Fs i, b < w.heap.size := fun i hi b hb => hP.lt (h.el i (by omega) hi) b hb
  refine ⟨fun i hi hin => ?_, ?_, fun i hi b hb => ?_⟩
  · by_cases he : i = n
    · subst he
      rw [if_pos rfl]
      refine hP.congr (fun j hj => (hc j hj).symm) (hP.move hx fun b hb => h2 b (fun e => ?_) (hP.lt hx b hb))
      have := hF b hb
      omega
    · rw [if_neg he]
      have h1 := h.el i hi (by omega)
      refine hP.congr (fun j hj => (ho i j he hj).symm) (hP.move h1 fun b hbm => ?_)
      have hlt := hold i (by omega) b hbm
      rw [h2 b (h.ge i (by omega) b hbm).2 (by have := hb.size; omega)]
      exact hb.block b hlt
  · rw [List.range_succ, List.map_append, List.flatten_append]
    have e1 : (List.range n).map (fun i => if i = n then F else Fs i) = (List.range n).map Fs := List.map_congr_left fun i hi => by
      have := List.mem_range.1 hi
      rw [if_neg (by omega)]
    rw [e1]
    simp only [List.map_cons, List.map_nil, if_true, List.flatten_cons, List.flatten_nil, List.append_nil]
    refine List.nodup_append.2 ⟨h.nd, hFn, fun a ha b hb e => ?_⟩
    obtain ⟨i, hi, hm⟩ := of_mem_ft ha
    have := hold i hi a hm
    have := hF b hb
    omega
  · have hb : b ∈ (if i = n then F else Fs i) := hb
    by_cases he : i = n
    · rw [if_pos he] at hb
      have := hF b hb
      exact ⟨by omega, by omega⟩
    · rw [if_neg he] at hb
      exact h.ge i (by omega) b hb
theorem done {e : TypeId} {c N : Nat} (h : Fill k P w lo g G xs xs.length Fs) (hr : w.rowIs g e N G) (hc : xs.length ≤ c) (hN : xs.length * k ≤ N) (hm : xs.length ≤ 9223372036854775807) (hg : lo ≤ g) :
    ∃ F, OwRow k e P w (.slice (some ⟨g, 0, none⟩) xs.length c) xs F ∧ F.Nodup ∧ ∀ b ∈ F, lo ≤ b := by
  refine ⟨_, OwRow.made Fs hr hc hN hm (fun i hi => h.el i hi hi), ?_, ?_⟩
  · rw [List.nodup_cons]
    refine ⟨fun hm => ?_, h.nd⟩
    obtain ⟨i, hi, hx⟩ := of_mem_ft hm
    exact (h.ge i hi g hx).2 rfl
  · intro b hb
    rcases List.mem_cons.1 hb with rfl | hb
    · exact hg
    · obtain ⟨i, hi, hx⟩ := of_mem_ft hb
      exact (h.ge i hi b hx).1
end Fill

end Go.Proofs.YtfgpbnncdfcjjaaDoor

/-! Rows that a call appends to, of elements that may lead to blocks of their own. No program in sight. -/
namespace Go.Proofs.YtfgpbnncdfcjjaaDoor
open Go.RowKit
set_option linter.unusedVariables false
set_option maxRecDepth 100000

structure RowW {α : Type} (k : Nat) (e : TypeId) (P : OwP α) (w : World) (base : Nat) (v : Value) (xs : List α) (cs : List Value) (Fs : Nat → List Nat) : Prop where
  own : w.ownsRow base e k v xs.length cs
  el : ∀ i (h : i < xs.length), P w (fun j => cs.getD (i * k + j) undef) xs[i] (Fs i)
  nd : ((List.range xs.length).map Fs).flatten.Nodup
  ge : ∀ i, i < xs.length → ∀ b ∈ Fs i, base ≤ b ∧ v.ownBlock ≠ some b
namespace RowW
variable {α : Type} {k : Nat} {e : TypeId} {P : OwP α} {w w' : World} {base : Nat} {v : Value} {xs : List α} {cs : List Value} {Fs : Nat → List Nat}
theorem nil (k : Nat) (e : TypeId) (P : OwP α) (w : World) (base : Nat) : RowW k e P w base (.slice none 0 0) ([] : List α) [] (fun _ => []) :=
  ⟨World.ownsRow_nil w base _ k, fun i h => absurd h (Nat.not_lt_zero _), by simp, fun i h => absurd h (Nat.not_lt_zero _)⟩
theorem made {g : Nat} (k : Nat) (P : OwP α) (h : Own w g e #[]) (hb : base ≤ g) : RowW k e P w base (.slice (some ⟨g, 0, none⟩) 0 0) ([] : List α) [] (fun _ => []) :=
  ⟨made_owns h hb, fun i h => absurd h (Nat.not_lt_zero _), by simp, fun i h => absurd h (Nat.not_lt_zero _)⟩
/-- What is older than the row, and what is not a part of it, may turn. -/
theorem move (hP : OwLoc k P) (h : RowW k e P w base v xs cs Fs) (hb : ∀ b, base ≤ b → b < w.heap.size → w'.heap[b]? = w.heap[b]?) : RowW k e P w' base v xs cs Fs :=
  ⟨owns_of_block h.own fun g _ h1 h2 => hb g h1 h2, fun i hi => hP.move (h.el i hi) fun b hm => hb b (h.ge i hi b hm).1 (hP.lt (h.el i hi) b hm), h.nd, h.ge⟩
theorem below (hP : OwLoc k P) (h : RowW k e P w base v xs cs Fs) (hb : Below w.heap.size w w') : RowW k e P w' base v xs cs Fs := h.move hP fun b _ hl => hb.block b hl
theorem slR (hk : 0 < k) {R : World → (Nat → Value) → α → Prop} {B : Nat} (h : RowW k e P w base v xs cs Fs) (hB : B ≤ base) (hR : ∀ cs x F', (∀ b ∈ F', B ≤ b) → P w cs x F' → R (above B w) cs x) : SlR k R (above B w) v xs := by
  have hrow : RowOf k (fun cs x => ∃ F', (∀ b ∈ F', B ≤ b) ∧ P w cs x F') w base e v xs := ⟨cs, h.own, fun i hi => ⟨Fs i, fun b hb => Nat.le_trans hB (h.ge i hi b hb).1, h.el i hi⟩⟩
  exact hrow.slR hk (fun cs x ⟨F', h1, h2⟩ => hR cs x F' h1 h2) (Le.above_mono hB _)
/-- One element more. -/
theorem push (hP : OwLoc k P) (h : RowW k e P w base v xs cs Fs) {X w1 : World} {gg cap' H : Nat} {x : α} {F : List Nat} {news : List Value} (hs : w.heap.size ≤ X.heap.size) (hX : ∀ b, base ≤ b → b < w.heap.size → X.heap[b]? = w.heap[b]?) (hg : X.grownBy w1 v.ownBlock)
    (hn : news.length = k) (hx : P X (fun j => news.getD j undef) x F) (hF : ∀ b ∈ F, w.heap.size ≤ b) (hFn : F.Nodup) (hbw : base ≤ w.heap.size)
    (hown1 : w1.ownsRow base e k (.slice (some ⟨gg, 0, none⟩) (xs.length + 1) cap') (xs.length + 1) (cs ++ news)) (hat : v.ownBlock = some gg ∨ gg = H) (hH : X.heap.size = H) :
    RowW k e P w1 base (.slice (some ⟨gg, 0, none⟩) (xs.length + 1) cap') (xs ++ [x]) (cs ++ news) (fun i => if i = xs.length then F else Fs i) := by
  have hlen : cs.length = xs.length * k := h.own.1
  have hlt : ∀ g, v.ownBlock = some g → base ≤ g ∧ g < w.heap.size := fun g hv => owns_base h.own hv
  have ne : ∀ b, v.ownBlock ≠ some b → b < X.heap.size → (Value.slice (some ⟨gg, 0, none⟩) (xs.length + 1) cap').ownBlock ≠ some b := fun b hn hl e => by
    simp only [Value.ownBlock, Option.some.injEq] at e
    rcases hat with h | h
    · exact hn (by rw [h, e])
    · omega
  have hold : ∀ i, i < xs.length → ∀ b ∈ Fs i, b < w.heap.size := fun i hi b hb => hP.lt (h.el i hi) b hb
  have hFne : ∀ b ∈ F, v.ownBlock ≠ some b := fun b hb e => by have := hlt _ e; have := hF b hb; omega
  refine ⟨by rw [List.length_append, List.length_singleton]; exact hown1, fun i hi => ?_, ?_, fun i hi b hb => ?_⟩
  · rw [List.length_append, List.length_singleton] at hi
    by_cases hlast : i = xs.length
    · subst hlast
      rw [List.getElem_append_right (Nat.le_refl _)]
      simp only [Nat.sub_self, List.getElem_cons_zero, if_pos]
      refine hP.congr (fun j hj => ?_) (hP.move hx fun b hb => World.grownBy.block hg b (hP.lt hx b hb) (fun e => hFne b hb e.symm))
      show news.getD j undef = (cs ++ news).getD (xs.length * k + j) undef
      rw [List.getD_eq_getElem?_getD, List.getD_eq_getElem?_getD, List.getElem?_append_right (by omega), hlen, Nat.add_sub_cancel_left]
    · have hi' : i < xs.length := by omega
      rw [List.getElem_append_left hi', if_neg hlast]
      have h1 : (i + 1) * k ≤ xs.length * k := Nat.mul_le_mul_right k hi'
      rw [Nat.add_mul, Nat.one_mul] at h1
      refine hP.congr (fun j hj => ?_) (hP.move (h.el i hi') fun b hb => ?_)
      · show cs.getD (i * k + j) undef = (cs ++ news).getD (i * k + j) undef
        rw [List.getD_eq_getElem?_getD, List.getD_eq_getElem?_getD, List.getElem?_append_left (by omega)]
      · have hbl := hold i hi' b hb
        rw [World.grownBy.block hg b (by omega) (fun e => (h.ge i hi' b hb).2 e.symm)]
        exact hX b (h.ge i hi' b hb).1 hbl
  · rw [List.length_append, List.length_singleton, List.range_succ, List.map_append, List.flatten_append]
    have e1 : (List.range xs.length).map (fun i => if i = xs.length then F else Fs i) = (List.range xs.length).map Fs := List.map_congr_left fun i hi => by
      have := List.mem_range.1 hi
      rw [if_neg (by omega)]
    rw [e1]
    simp only [List.map_cons, List.map_nil, if_true, List.flatten_cons, List.flatten_nil, List.append_nil]
    refine List.nodup_append.2 ⟨h.nd, hFn, fun a ha b hb e => ?_⟩
    obtain ⟨i, hi, hm⟩ := of_mem_ft ha
    have := hold i hi a hm
    have := hF b hb
    omega
  · rw [List.length_append, List.length_singleton] at hi
    have hb : b ∈ (if i = xs.length then F else Fs i) := hb
    by_cases hlast : i = xs.length
    · rw [if_pos hlast] at hb
      have := hF b hb
      exact ⟨by omega, ne b (hFne b hb) (hP.lt hx b hb)⟩
    · rw [if_neg hlast] at hb
      obtain ⟨h1, h2⟩ := h.ge i (by omega) b hb
      exact ⟨h1, ne b h2 (by have := hold i (by omega) b hb; omega)⟩
theorem ow (hP : OwLoc k P) (h : RowW k e P w base v xs cs Fs) : ∃ F, OwRow k e P w v xs F ∧ F.Nodup ∧ ∀ b ∈ F, base ≤ b := by
  obtain ⟨own, el, nd, ge⟩ := h
  obtain ⟨hl, h⟩ := own
  rcases h with ⟨rfl, h0⟩ | ⟨g, cap', cur, rfl, hbg, hg, hn, hm, hc, ht⟩
  · obtain rfl : xs = [] := List.length_eq_zero_iff.1 h0
    exact ⟨[], OwRow.nil, List.nodup_nil, fun b hb => by cases hb⟩
  · have hcap : xs.length * k ≤ cap' * k := Nat.mul_le_mul_right k hn
    have hml : xs.length ≤ 9223372036854775807 := by unfold maxLen at hm; omega
    have gg : ∀ j, j < xs.length * k → cur.getD j undef = cs.getD j undef := fun j hj => by
      rw [← ht, List.getD_eq_getElem?_getD, List.getElem?_take, if_pos hj, Array.getElem?_toList]
      simp [Array.getD, show j < cur.size by omega]
    have gs : ∀ i, i < cur.size → cur[i]? = some (cur.getD i undef) := fun i h => by simp [Array.getD, h]
    refine ⟨_, OwRow.made (g := g) (c := cap') (N := cap' * k) (G := fun j => cur.getD j undef) Fs ⟨cur, hg, hc, fun i hi => gs i (by omega)⟩ hn hcap hml (fun i hi => ?_), ?_, ?_⟩
    · have h1 : (i + 1) * k ≤ xs.length * k := Nat.mul_le_mul_right k hi
      rw [Nat.add_mul, Nat.one_mul] at h1
      exact hP.congr (fun j hj => (gg _ (by omega)).symm) (el i hi)
    · rw [List.nodup_cons]
      refine ⟨fun hm => ?_, nd⟩
      obtain ⟨i, hi, hx⟩ := of_mem_ft hm
      exact (ge i hi g hx).2 rfl
    · intro b hb
      rcases List.mem_cons.1 hb with rfl | hb
      · exact hbg
      · obtain ⟨i, hi, hx⟩ := of_mem_ft hb
        exact (ge i hi b hx).1
end RowW

end Go.Proofs.YtfgpbnncdfcjjaaDoor
