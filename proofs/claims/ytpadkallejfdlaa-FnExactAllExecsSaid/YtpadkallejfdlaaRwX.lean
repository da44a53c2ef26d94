/-
  Rows of candidates: what they lead to is read, never written. No walk.
-/
import Derived.Test.YtpadkallejfdlaaRw3
import Derived.Test.YtpadkallejfdlaaExec
namespace Go.Proofs.Ytpadkallejfdlaa
open Go.RowKit
set_option linter.unusedVariables false
set_option maxRecDepth 100000

theorem Try.infoEx : (Try.prog.info? 50).map (fun i => (i.zero, i.size, i.bytes)) = some (some (.agg #[.slice none 0 0, .slice none 0 0]), 2, 48) := by kernel_rfl

/-- A candidate in two cells. -/
def RX (w : World) (cs : Nat → Value) (x : Ex) : Prop := ∃ A c B d, cs 0 = .slice A x.from_.length c ∧ cs 1 = .slice B x.order.length d ∧ RepX w A c B d x
theorem rx_le : ∀ a a' (cs : Nat → Value) (x : Ex), Le a a' → RX a cs x → RX a' cs x := fun _ _ _ _ h ⟨A, c, B, d, h1, h2, h3⟩ => ⟨A, c, B, d, h1, h2, h3.le h⟩
abbrev ExS (w : World) (v : Value) (xs : List Ex) : Prop := SlR 2 RX w v xs
theorem ExS.le {w w' : World} {v : Value} {xs : List Ex} (h : ExS w v xs) (hl : Le w w') : ExS w' v xs := SlR.le' rx_le h hl
theorem rx_congr (W : World) : ∀ (f g : Nat → Value) (x : Ex), (∀ j, j < 2 → f j = g j) → RX W f x → RX W g x := fun f g x h ⟨A, c, B, d, h1, h2, h3⟩ => ⟨A, c, B, d, (h 0 (by omega)).symm.trans h1, (h 1 (by omega)).symm.trans h2, h3⟩
theorem rx_one (W : World) : ∀ (cs : Nat → Value) (y : Ex), RX W cs y → ∀ j, j < 2 → (cs j).oneCell' = true := fun cs y ⟨A, c, B, d, h1, h2, _⟩ j hj => by
  rcases (show j = 0 ∨ j = 1 by omega) with rfl | rfl
  · rw [h1]; rfl
  · rw [h2]; rfl
/-- An element's place and cells. -/
theorem ExS.get {w : World} {A : Option Addr} {c n : Nat} {xs : List Ex} (h : ExS w (.slice A n c) xs) {i : Nat} (hi : i < xs.length) :
    ∃ b o A1 c1 B1 d1, A = some ⟨b, o, none⟩ ∧ b < w.heap.size ∧ w.cell? ⟨b, o + i * 2, none⟩ = some (.slice A1 xs[i].from_.length c1) ∧ w.cell? ⟨b, o + i * 2 + 1, none⟩ = some (.slice B1 xs[i].order.length d1) ∧ RepX w A1 c1 B1 d1 xs[i] := by
  obtain ⟨A', c', e, _, h⟩ := h
  injection e with e1 e2 e3
  subst e1
  obtain ⟨b, o, rfl, cs, hc, A1, c1, B1, d1, h1, h2, h3⟩ := h i hi
  have k0 := hc 0 (by omega)
  rw [h1] at k0
  have k1 := hc 1 (by omega)
  rw [h2] at k1
  exact ⟨b, o, A1, c1, B1, d1, rfl, World.block_lt_of_cell? _ _ k0, k0, k1, h3⟩
abbrev RowX (w : World) (base : Nat) (v : Value) (xs : List Ex) : Prop := RowOf 2 (RX (far base v.ownBlock w)) w base 50 v xs
theorem RowX.exS {w : World} {base : Nat} {v : Value} {xs : List Ex} (h : RowX w base v xs) : ExS (above base w) v xs :=
  RowOf.slR (R := RX) (by omega) h (fun cs x hx => rx_le _ _ _ _ (Le.far_above _ _ _) hx) (Le.refl _)
theorem RowX.below {w w' : World} {base : Nat} {v : Value} {xs : List Ex} (h : RowX w base v xs) (hb : Below w.heap.size w w') : RowX w' base v xs :=
  (RowOf.below h hb).imp fun cs x hx => rx_le _ _ _ _ (Le.far_below hb) hx
/-- A candidate more. -/
theorem RowX.push {wr w7 w8 : World} {base gg cap H : Nat} {v : Value} {xs : List Ex} {cs : List Value} {A B : Option Addr} {c d : Nat} {x : Ex}
    (hcs : wr.ownsRow base 50 2 v xs.length cs) (hq : ∀ i (h : i < xs.length), RX (far base v.ownBlock wr) (fun j => cs.getD (i * 2 + j) undef) xs[i]) (h7 : Below wr.heap.size wr w7) (hbw : base ≤ wr.heap.size) (hx : RepX (above wr.heap.size w7) A c B d x)
    (hg : (w7.alloc (.cells #[.slice A x.from_.length c, .slice B x.order.length d] 50)).grownBy w8 v.ownBlock)
    (hown : w8.ownsRow base 50 2 (.slice (some ⟨gg, 0, none⟩) (xs.length + 1) cap) (xs.length + 1) (cs ++ [.slice A x.from_.length c, .slice B x.order.length d])) (hat : v.ownBlock = some gg ∨ gg = H) (hH : w7.heap.size + 1 = H) :
    RowX w8 base (.slice (some ⟨gg, 0, none⟩) (xs.length + 1) cap) (xs ++ [x]) := by
  have hs7 := h7.size
  have hG : wr.grownBy w8 v.ownBlock := grown_next (grown_below (grown_refl wr v.ownBlock) (h7.alloc hs7 _)) hg fun g e => .inl e
  have hv : ∀ g, v.ownBlock = some g → base ≤ g ∧ g < wr.heap.size := fun g e => owns_base hcs e
  have hfar : Le (far base v.ownBlock wr) (far base (Value.slice (some ⟨gg, 0, none⟩) (xs.length + 1) cap).ownBlock w8) := Le.far_grown hG fun g e => by
    simp only [Value.ownBlock, Option.some.injEq] at e
    rcases hat with e' | e'
    · exact .inl (by rw [e', e])
    · exact .inr (by omega)
  have hnew : Le (above wr.heap.size w7) (far base (Value.slice (some ⟨gg, 0, none⟩) (xs.length + 1) cap).ownBlock w8) := fun p u hc => by
    obtain ⟨h1, h2⟩ := cell_above_lt hc
    have hl := World.block_lt_of_cell? _ _ h2
    refine far_of (by omega) (fun e => ?_) ?_
    · simp only [Value.ownBlock, Option.some.injEq] at e
      rcases hat with e' | e'
      · have := hv _ e'; omega
      · omega
    · rw [World.cell?_of_block (w := w7.alloc (.cells #[.slice A x.from_.length c, .slice B x.order.length d] 50)) (World.grownBy.block hg p.block (by simp; omega) (fun e => by have := hv _ e.symm; omega))]
      exact Le.alloc _ _ _ _ h2
  exact RowOf.snoc (rx_congr _) hcs (fun i hi => rx_le _ _ _ _ hfar (hq i hi)) rfl ⟨A, c, B, d, rfl, rfl, hx.le hnew⟩ hown
def RetExS (w : World) (xs : List Ex) (e : Ending) (w' : World) : Prop := ∃ A c, e = .returned (.slice A xs.length c) ∧ ExS (above w.heap.size w') (.slice A xs.length c) xs ∧ Below w.heap.size w w'

end Go.Proofs.Ytpadkallejfdlaa
