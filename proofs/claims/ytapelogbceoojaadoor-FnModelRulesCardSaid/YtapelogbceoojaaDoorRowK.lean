/-
  Slices that a call has made and appends to, of elements that lead to memory: what they hold stays though the row itself is appended to. No program in sight.
-/
import Derived.Test.YtapelogbceoojaaDoorCut
import Derived.Test.YtapelogbceoojaaDoorMut
namespace Go.Proofs.YtapelogbceoojaaDoor
open Go.RowKit
set_option linter.unusedVariables false
set_option maxRecDepth 100000

/-- What may not turn while a row is appended to: what the call has made, but the row. -/
def Kr (base : Nat) (v : Value) (b : Nat) : Prop := base ≤ b ∧ v.ownBlock ≠ some b
instance (base : Nat) (v : Value) : DecidablePred (Kr base v) := fun _ => inferInstanceAs (Decidable (_ ∧ _))
def RowK {α : Type} (k : Nat) (R : World → (Nat → Value) → α → Prop) (w : World) (base : Nat) (e : TypeId) (v : Value) (xs : List α) : Prop := RowOf k (R (keepW (Kr base v) w)) w base e v xs

/-- New memory, and stores into it. -/
theorem RowK.below {α : Type} {k : Nat} {R : World → (Nat → Value) → α → Prop} (hR : ∀ a a' cs x, Le a a' → R a cs x → R a' cs x) {w w' : World} {base : Nat} {e : TypeId} {v : Value} {xs : List α} (h : RowK k R w base e v xs) (hb : Below w.heap.size w w') : RowK k R w' base e v xs :=
  (RowOf.imp h fun cs x hx => hR _ _ _ _ (Le.keepW fun a u hq hc => ⟨hq, Le.below hb _ _ hc⟩) hx).of_block fun g _ _ hlt => hb.block g hlt

/-- One element more: X is the world in which the element's cells have been laid, w1 the one behind the append. -/
theorem RowK.push {α : Type} {k : Nat} {R : World → (Nat → Value) → α → Prop} (hR : ∀ a a' cs x, Le a a' → R a cs x → R a' cs x) (hQ : ∀ a (f g : Nat → Value) x, (∀ j, j < k → f j = g j) → R a f x → R a g x)
    {w X w1 : World} {base gg cap H : Nat} {e : TypeId} {v : Value} {xs : List α} {cs news : List Value} {x : α} (hown : w.ownsRow base e k v xs.length cs) (hq : ∀ i (h : i < xs.length), R (keepW (Kr base v) w) (fun j => cs.getD (i * k + j) undef) xs[i])
    (hX : Below w.heap.size w X) (hg : X.grownBy w1 v.ownBlock) (hn : news.length = k) (hx : R (above w.heap.size X) (fun j => news.getD j undef) x) (hbw : base ≤ w.heap.size)
    (hown1 : w1.ownsRow base e k (.slice (some ⟨gg, 0, none⟩) (xs.length + 1) cap) (xs.length + 1) (cs ++ news)) (hat : v.ownBlock = some gg ∨ gg = H) (hH : X.heap.size = H) :
    RowK k R w1 base e (.slice (some ⟨gg, 0, none⟩) (xs.length + 1) cap) (xs ++ [x]) := by
  have hlt : ∀ g, v.ownBlock = some g → base ≤ g ∧ g < w.heap.size := fun g hv => owns_base hown hv
  have st : ∀ (a : Addr) (u : Value), v.ownBlock ≠ some a.block → X.cell? a = some u → w1.cell? a = some u := fun a u hn hc => by
    rw [World.cell?_of_block (w := X) (World.grownBy.block hg a.block (World.block_lt_of_cell? _ _ hc) (fun e => hn e.symm))]
    exact hc
  have ne : ∀ a : Addr, v.ownBlock ≠ some a.block → a.block < X.heap.size → (Value.slice (some ⟨gg, 0, none⟩) (xs.length + 1) cap).ownBlock ≠ some a.block := fun a hn hl e => by
    simp only [Value.ownBlock, Option.some.injEq] at e
    rcases hat with h | h
    · exact hn (by rw [h, e])
    · omega
  refine RowOf.snoc (fun f g x hfg h => hQ _ f g x hfg h) hown (fun i hi => hR _ _ _ _ (Le.keepW fun a u hqa hc => ?_) (hq i hi)) hn (hR _ _ _ _ (fun a u hc => ?_) hx) hown1
  · have hcX := Le.below hX _ _ hc
    exact ⟨⟨hqa.1, ne a hqa.2 (World.block_lt_of_cell? _ _ hcX)⟩, st a u hqa.2 hcX⟩
  · obtain ⟨h1, h2⟩ := cell_above_lt hc
    have hn' : v.ownBlock ≠ some a.block := fun e => by have := hlt _ e; omega
    exact cell_keepW_of ⟨by omega, ne a hn' (World.block_lt_of_cell? _ _ h2)⟩ (st a u hn' h2)
/-- The slice, as what is handed back stands for it. -/
theorem RowK.slR {α : Type} {k : Nat} (hk : 0 < k) {R : World → (Nat → Value) → α → Prop} (hR : ∀ a a' cs x, Le a a' → R a cs x → R a' cs x) {w : World} {base : Nat} {e : TypeId} {v : Value} {xs : List α} (h : RowK k R w base e v xs) : SlR k R (above base w) v xs :=
  RowOf.slR hk h (fun cs x hx => hR _ _ _ _ (fun a u hc => by
    obtain ⟨h1, h2⟩ := of_cell_keepW hc
    exact cell_above_of h1.1 h2) hx) (Le.refl _)

end Go.Proofs.YtapelogbceoojaaDoor
