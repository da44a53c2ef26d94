/-
  Rows of rows whose elements are shared: what they lead to is read, never written. No program in sight.
-/
import Derived.Test.YtpadkallejfdlaaGrw
namespace Go.Proofs.Ytpadkallejfdlaa
open Go.RowKit
set_option linter.unusedVariables false
set_option maxRecDepth 100000

/-- The world from block B on, without block r. -/
def far (B : Nat) (r : Option Nat) (w : World) : World := keepW (fun b => B ≤ b ∧ ¬ r = some b) w
theorem far_of {B : Nat} {r : Option Nat} {w : World} {x : Addr} {v : Value} (h1 : B ≤ x.block) (h2 : ¬ r = some x.block) (h : w.cell? x = some v) : (far B r w).cell? x = some v := cell_keepW_of ⟨h1, h2⟩ h
theorem of_far {B : Nat} {r : Option Nat} {w : World} {x : Addr} {v : Value} (h : (far B r w).cell? x = some v) : B ≤ x.block ∧ ¬ r = some x.block ∧ w.cell? x = some v :=
  let h' := of_cell_keepW h
  ⟨h'.1.1, h'.1.2, h'.2⟩
theorem Le.far_grown {B : Nat} {a b : World} {r r' : Option Nat} (h : a.grownBy b r) (hr : ∀ g, r' = some g → r = some g ∨ a.heap.size ≤ g) : Le (far B r a) (far B r' b) := fun x v hc => by
  obtain ⟨h1, h2, h3⟩ := of_far hc
  have hl := World.block_lt_of_cell? _ _ h3
  refine far_of h1 (fun e => ?_) ?_
  · rcases hr _ e with e | e
    · exact h2 e
    · omega
  · rw [World.cell?_of_block (w := a) (World.grownBy.block h x.block hl (fun e => h2 e.symm))]
    exact h3
theorem Le.far_below {B : Nat} {a b : World} {r : Option Nat} (h : Below a.heap.size a b) : Le (far B r a) (far B r b) := fun x v hc => by
  obtain ⟨h1, h2, h3⟩ := of_far hc
  exact far_of h1 h2 (Le.below h _ _ h3)
theorem Le.far (B : Nat) (r : Option Nat) (w : World) : Le (Go.Proofs.Ytpadkallejfdlaa.far B r w) w := fun x v hc => (of_far hc).2.2
theorem Le.far_above (B : Nat) (r : Option Nat) (w : World) : Le (Go.Proofs.Ytpadkallejfdlaa.far B r w) (Go.Proofs.Ytpadkallejfdlaa.above B w) := fun x v hc => cell_above_of (of_far hc).1 (of_far hc).2.2
/-- A row that is new. -/
theorem Le.to_far {B : Nat} {a w : World} {r : Option Nat} (h : Le a (Go.Proofs.Ytpadkallejfdlaa.above B w)) (hr : ∀ g, r = some g → a.heap.size ≤ g) : Le a (Go.Proofs.Ytpadkallejfdlaa.far B r w) := fun x v hc => by
  obtain ⟨h1, h2⟩ := cell_above_lt (h x v hc)
  exact far_of h1 (fun e => by have := hr _ e; have := World.block_lt_of_cell? _ _ hc; omega) h2
theorem Le.above_far {B B' : Nat} {w : World} {r : Option Nat} (hB : B ≤ B') (hr : ∀ g, r = some g → g < B') : Le (Go.Proofs.Ytpadkallejfdlaa.above B' w) (Go.Proofs.Ytpadkallejfdlaa.far B r w) := fun x v hc => by
  obtain ⟨h1, h2⟩ := cell_above_lt hc
  exact far_of (by omega) (fun e => by have := hr _ e; omega) h2
theorem above_size (B : Nat) (w : World) : (above B w).heap.size = w.heap.size := by simp [above]

theorem rint_le : ∀ a a' (cs : Nat → Value) (x : Int), Le a a' → RInt a cs x → RInt a' cs x := fun _ _ _ _ _ h => h
theorem rints_le : ∀ a a' (cs : Nat → Value) (x : List Int), Le a a' → RSub 1 RInt a cs x → RSub 1 RInt a' cs x := RSub.le rint_le
theorem rintss_le : ∀ a a' (cs : Nat → Value) (x : List (List Int)), Le a a' → RSub 1 (RSub 1 RInt) a cs x → RSub 1 (RSub 1 RInt) a' cs x := RSub.le rints_le
/-- Slices of slices of ints. -/
abbrev I3 (w : World) (A : Option Addr) (c : Nat) (xs : List (List (List Int))) : Prop := SlR 1 (RSub 1 (RSub 1 RInt)) w (.slice A xs.length c) xs
theorem I3.le {w w' : World} {A : Option Addr} {c : Nat} {xs : List (List (List Int))} (h : I3 w A c xs) (hl : Le w w') : I3 w' A c xs := SlR.le' rintss_le h hl
theorem I3.len {w : World} {A : Option Addr} {c : Nat} {xs : List (List (List Int))} (h : I3 w A c xs) : xs.length ≤ 9223372036854775807 := h.slice.elim fun _ h => h.elim fun _ h => h.2
def RetI3 (w : World) (xs : List (List (List Int))) (e : Ending) (w' : World) : Prop := ∃ A c, e = .returned (.slice A xs.length c) ∧ I3 (above w.heap.size w') A c xs ∧ Below w.heap.size w w'

/-- What slices of ints lead to, in a world that stands still. -/
def QS (W : World) (cs : Nat → Value) (xs : List Int) : Prop := RSub 1 RInt W cs xs
theorem qs_congr (W : World) : ∀ (f g : Nat → Value) (x : List Int), (∀ j, j < 1 → f j = g j) → QS W f x → QS W g x := fun f g x h ⟨A, c, h1, h2⟩ => ⟨A, c, (h 0 (by omega)).symm.trans h1, h2⟩
theorem qs_one (W : World) : ∀ (cs : Nat → Value) (y : List Int), QS W cs y → ∀ j, j < 1 → (cs j).oneCell' = true := fun cs y ⟨A, c, h1, _⟩ j hj => by
  obtain rfl : j = 0 := by omega
  rw [h1]; rfl
theorem QS.le {W W' : World} (h : Le W W') (cs : Nat → Value) (x : List Int) (k : QS W cs x) : QS W' cs x := rints_le _ _ _ _ h k
/-- The slice's own cells are read in the world, what they lead to in the one that stands still. -/
theorem i2_still {W w : World} {A : Option Addr} {c : Nat} {x : List (List Int)} (h : SlR 1 (RSub 1 RInt) W (.slice A x.length c) x) (hl : Le W w) : SlR 1 (fun _ => QS W) w (.slice A x.length c) x := by
  obtain ⟨A', c', e, hm, h⟩ := h
  injection e with e1 e2 e3
  subst e1 e3
  refine ⟨_, _, rfl, hm, fun i hi => ?_⟩
  obtain ⟨b, o, h1, cs, h2, h3⟩ := h i hi
  exact ⟨b, o, h1, cs, fun j hj => hl _ _ (h2 j hj), h3⟩
theorem row_one {α : Type} {Q : (Nat → Value) → α → Prop} {w : World} {g base : Nat} {e : TypeId} {u : Value} {x : α} (h : Own w g e #[u]) (hb : base ≤ g) (hQ : ∀ cs : Nat → Value, cs 0 = u → Q cs x) : RowOf 1 Q w base e (.slice (some ⟨g, 0, none⟩) 1 1) [x] :=
  ⟨[u], ⟨rfl, .inr ⟨g, 1, _, rfl, hb, h, by simp, by simp [maxLen], by simp, by simp⟩⟩, fun i hi => by
    obtain rfl : i = 0 := by simp at hi; omega
    exact hQ _ rfl⟩
theorem RowW.imp {α : Type} {k : Nat} {e : TypeId} {P P' : OwP α} {w : World} {base : Nat} {v : Value} {xs : List α} {cs : List Value} {Fs : Nat → List Nat} (h : RowW k e P w base v xs cs Fs) (hP : ∀ cs x F, P w cs x F → P' w cs x F) : RowW k e P' w base v xs cs Fs :=
  ⟨h.own, fun i hi => hP _ _ _ (h.el i hi), h.nd, h.ge⟩
/-- Rows of slices of ints. -/
abbrev Rows3 (w : World) (base B : Nat) (v : Value) (xs : List (List (List Int))) (cs : List Value) (Fs : Nat → List Nat) : Prop := RowW 1 45 (rowP 1 44 (QS (far B v.ownBlock w))) w base v xs cs Fs
theorem rowP_imp {α : Type} {k : Nat} {e : TypeId} {Q Q' : (Nat → Value) → α → Prop} (h : ∀ cs x, Q cs x → Q' cs x) : ∀ (w : World) (cs : Nat → Value) (x : List α) (F : List Nat), rowP k e Q w cs x F → rowP k e Q' w cs x F := fun w cs x F hp => ⟨hp.1.imp h, hp.2⟩
theorem Rows3.below {w w' : World} {base B : Nat} {v : Value} {xs : List (List (List Int))} {cs : List Value} {Fs : Nat → List Nat} (h : Rows3 w base B v xs cs Fs) (hb : Below w.heap.size w w') : Rows3 w' base B v xs cs Fs :=
  (RowW.below (rowP_loc _ _ _) h hb).imp (rowP_imp (QS.le (Le.far_below hb)) w')
theorem Rows3.i3 {w : World} {base B : Nat} {v : Value} {xs : List (List (List Int))} {cs : List Value} {Fs : Nat → List Nat} (h : Rows3 w base B v xs cs Fs) (hB : B ≤ base) : ∃ A c, v = .slice A xs.length c ∧ I3 (above B w) A c xs := by
  have hs : SlR 1 (RSub 1 (RSub 1 RInt)) (above B w) v xs := h.slR (by omega) hB fun cs x F' hF h => by
    have hs := h.1.slR' (k := 1) (R := RSub 1 RInt) (a := above B w) (by omega) (fun cs x hq => rints_le _ _ _ _ (Le.far_above _ _ _) hq) (fun g o u _ hv hc => cell_above_of (by have := hF g (by rw [h.2]; exact mem_own.2 hv); show B ≤ g; omega) hc)
    obtain ⟨A, c, e, _⟩ := hs.slice
    exact ⟨A, c, e, by rw [← e]; exact hs⟩
  obtain ⟨A, c, rfl, _⟩ := hs.slice
  exact ⟨A, c, rfl, hs⟩
/-- A row more: wr is the world ahead, w7 the one in which the new row stands, w8 the one behind the append. -/
theorem Rows3.push {wr w7 w8 : World} {base B gg cap H : Nat} {v : Value} {xs : List (List (List Int))} {cs : List Value} {Fs : Nat → List Nat} {A : Option Addr} {c : Nat} {t : List (List Int)}
    (h : Rows3 wr base B v xs cs Fs) (h7 : Below wr.heap.size wr w7) (hbw : base ≤ wr.heap.size) (ht : RowOf 1 (QS (far B v.ownBlock wr)) w7 wr.heap.size 44 (.slice A t.length c) t)
    (hg : (w7.alloc (.cells #[.slice A t.length c] 45)).grownBy w8 v.ownBlock) (hown : w8.ownsRow base 45 1 (.slice (some ⟨gg, 0, none⟩) (xs.length + 1) cap) (xs.length + 1) (cs ++ [.slice A t.length c])) (hat : v.ownBlock = some gg ∨ gg = H) (hH : w7.heap.size + 1 = H) :
    ∃ Fs', Rows3 w8 base B (.slice (some ⟨gg, 0, none⟩) (xs.length + 1) cap) (xs ++ [t]) (cs ++ [.slice A t.length c]) Fs' := by
  obtain ⟨Fs', hp⟩ := h.pushRow (fun b _ hl => h7.block b hl) h7.size hbw ht hg hown hat hH
  have hs7 := h7.size
  have hG : wr.grownBy w8 v.ownBlock := grown_next (grown_below (grown_refl wr v.ownBlock) (h7.alloc hs7 _)) hg fun g e => .inl e
  refine ⟨Fs', hp.imp (rowP_imp (QS.le (Le.far_grown hG fun g e => ?_)) w8)⟩
  simp only [Value.ownBlock, Option.some.injEq] at e
  rcases hat with e' | e'
  · exact .inl (by rw [e', e])
  · exact .inr (by omega)

end Go.Proofs.Ytpadkallejfdlaa
