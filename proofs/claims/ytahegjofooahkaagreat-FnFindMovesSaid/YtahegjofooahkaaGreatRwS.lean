/-
  Rows of rows that a call builds; 'append(xs, ys...)' at a step of a region that draws its order. No program in sight. Worlds in which a row of the call's own has been appended to, again and again. No program in sight. Rows of rows whose elements are shared: what they lead to is read, never written. No program in sight. Rows of candidates: what they lead to is read, never written. No walk.
-/
import Derived.Test.YtahegjofooahkaaGreatSlA
import Derived.Test.YtahegjofooahkaaGreatInts

/-! Rows of rows that a call builds; 'append(xs, ys...)' at a step of a region that draws its order. No program in sight. -/
namespace Go.Proofs.YtahegjofooahkaaGreat
open Go.RowKit
set_option linter.unusedVariables false
set_option maxRecDepth 100000

/-- At a step of a region that draws its order. -/
theorem step_append_list {α : Type} {P : Program} {w : World} {ops : Array Oper} {o : Oper} {a : Act} {K : Act → World → Prop} {QQ : Exit → Act → World → Prop} {E : Prop} (hgd : o.guard = none) (s x : Operand) (t : TypeId) (ho : o.op = .call { callee := .builtin .append, args := #[s, x], argTypes := #[t, t] })
    {k : Nat} {Q : (Nat → Value) → α → Prop} (hQ : ∀ (f g : Nat → Value) x, (∀ j, j < k → f j = g j) → Q f x → Q g x) {R : World → (Nat → Value) → α → Prop} (base : Nat) (e : TypeId) (i : TypeInfo) (z : Value) (bytes : Nat) (ht : P.underlying t = some (.slice e)) (hi : P.info? e = some i) (hz : i.zero = some z)
    (hsize : i.size = k) (hby : i.bytes = bytes) (hzs : z.cells.size = k) (hsz : 0 < k) (v : Value) (xs : List α) (hs : a.eval s = v) (hown : RowOf k Q w base e v xs) (A : Option Addr) (c : Nat) (ys : List α) (hx : a.eval x = .slice A ys.length c) (hy : SlR k R w (.slice A ys.length c) ys)
    (hRQ : ∀ cs y, R w cs y → Q cs y) (h1 : ∀ cs y, Q cs y → ∀ j, j < k → (cs j).oneCell' = true) (h63 : xs.length + ys.length ≤ maxLen) (hbytes : (xs.length + ys.length) * bytes ≤ 140737488355328) (hbase : base ≤ w.heap.size) (H : Nat) (hH : w.heap.size = H)
    (h : ∀ A' c' w', RowOf k Q w' base e (.slice A' (xs ++ ys).length c') (xs ++ ys) → w.grownBy w' v.ownBlock → (∀ g, (Value.slice A' (xs ++ ys).length c').ownBlock = some g → v.ownBlock = some g ∨ g = H) → K (a.put o.dst (.slice A' (xs ++ ys).length c')) w') :
    if Region.wanted o (yielded ops a.tmps) = true then Oper.wp P o a w K QQ else E := by
  have hw : Region.wanted o (yielded ops a.tmps) = true := by simp [Region.wanted, hgd]
  rw [if_pos hw]
  obtain ⟨v', w', hr, h2, h3, h4⟩ := run_append_list (P := P) w hQ t o.type base e i z bytes ht hi hz hsize hby hzs hsz v xs hown A c ys hy hRQ h1 h63 hbytes hbase
  obtain ⟨A', c', rfl, _⟩ := h2.slice
  unfold Oper.wp execOp
  simp only [ho, resolve, invoke, builtin, Sem.run_bind, Sem.run_pure, Result.andThen_ok, List.map_toArray, List.map_cons, List.map_nil, hs, hx, hr]
  exact h A' c' w' h2 h3 (fun g hg => by rw [← hH]; exact h4 g hg)

/-! ### Rows of rows -/
/-- An element that is a row in a block of its own. -/
def rowP {α : Type} (k : Nat) (e : TypeId) (Q : (Nat → Value) → α → Prop) : OwP (List α) := fun w cs t F => RowOf k Q w 0 e (cs 0) t ∧ F = (cs 0).ownBlock.toList
theorem rowP_loc {α : Type} (k : Nat) (e : TypeId) (Q : (Nat → Value) → α → Prop) : OwLoc 1 (rowP k e Q) :=
  ⟨fun {w w' cs x F} h hb => ⟨h.1.of_block fun g _ hv _ => hb g (by rw [h.2]; exact mem_own.2 hv), h.2⟩,
   fun {w cs x F} h b hb => by rw [h.2] at hb; exact (h.1.blk (mem_own.1 hb)).2,
   fun {w cs cs' x F} hc h => by unfold rowP at h ⊢; rw [← hc 0 (by omega)]; exact h⟩
theorem RowOf.rowP {α : Type} {k : Nat} {e : TypeId} {Q : (Nat → Value) → α → Prop} {w : World} {base : Nat} {v : Value} {t : List α} (h : RowOf k Q w base e v t) : Go.Proofs.YtahegjofooahkaaGreat.rowP k e Q w (fun _ => v) t v.ownBlock.toList := ⟨h.rebase fun _ _ => Nat.zero_le _, rfl⟩
/-- Such rows are readable. -/
theorem RowW.slR2 {α : Type} {k : Nat} {e e' : TypeId} {Q : (Nat → Value) → α → Prop} (hk : 0 < k) {R : World → (Nat → Value) → α → Prop} (hR : ∀ w cs x, Q cs x → R w cs x) {w : World} {base : Nat} {v : Value} {xss : List (List α)} {cs : List Value} {Fs : Nat → List Nat} (h : RowW 1 e (Go.Proofs.YtahegjofooahkaaGreat.rowP k e' Q) w base v xss cs Fs) : SlR 1 (RSub k R) (above base w) v xss :=
  h.slR (by omega) (Nat.le_refl _) fun cs x F' hF h => by
    have hs := h.1.slR' (k := k) (R := R) (a := above base w) hk (fun cs x h => hR _ _ _ h) (fun g o u _ hv hc => cell_above_of (by have := hF g (by rw [h.2]; exact mem_own.2 hv); show base ≤ g; omega) hc)
    obtain ⟨A, c, e, _⟩ := hs.slice
    exact ⟨A, c, e, by rw [← e]; exact hs⟩
/-- Rows of ints. -/
abbrev RowsI (w : World) (base : Nat) (v : Value) (xss : List (List Int)) (cs : List Value) (Fs : Nat → List Nat) : Prop := RowW 1 24 (rowP 1 3 QInt) w base v xss cs Fs
theorem RowsI.intss {w : World} {base : Nat} {v : Value} {xss : List (List Int)} {cs : List Value} {Fs : Nat → List Nat} (h : RowsI w base v xss cs Fs) : ∃ A c, v = .slice A xss.length c ∧ Intss (above base w) A c xss := by
  have hs := h.slR2 (R := RInt) (by omega) (fun _ _ _ h => h)
  obtain ⟨A, c, rfl, _⟩ := hs.slice
  exact ⟨A, c, rfl, hs⟩
end Go.Proofs.YtahegjofooahkaaGreat

/-! Worlds in which a row of the call's own has been appended to, again and again. No program in sight. -/
namespace Go.Proofs.YtahegjofooahkaaGreat
open Go.RowKit
set_option linter.unusedVariables false
set_option maxRecDepth 100000

theorem grown_refl (w : World) (r : Option Nat) : w.grownBy w r := ⟨rfl, rfl, rfl, Nat.le_refl _, fun _ _ _ => rfl⟩
theorem grown_below {a b c : World} {r : Option Nat} (h : a.grownBy b r) (hb : Below b.heap.size b c) : a.grownBy c r :=
  ⟨hb.os.trans (World.grownBy.os h), hb.tape.trans (World.grownBy.tape h), hb.output.trans (World.grownBy.output h), Nat.le_trans (World.grownBy.size h) hb.size, fun k hk hn => (hb.block k (Nat.lt_of_lt_of_le hk (World.grownBy.size h))).trans (World.grownBy.block h k hk hn)⟩
theorem grown_next {a b c : World} {r s : Option Nat} (h : a.grownBy b r) (k : b.grownBy c s) (hs : ∀ g, s = some g → r = some g ∨ a.heap.size ≤ g) : a.grownBy c r :=
  ⟨(World.grownBy.os k).trans (World.grownBy.os h), (World.grownBy.tape k).trans (World.grownBy.tape h), (World.grownBy.output k).trans (World.grownBy.output h), Nat.le_trans (World.grownBy.size h) (World.grownBy.size k), fun i hi hn =>
    (World.grownBy.block k i (Nat.lt_of_lt_of_le hi (World.grownBy.size h)) (fun e => by
      rcases hs i e.symm with h1 | h1
      · exact hn h1.symm
      · omega)).trans (World.grownBy.block h i hi hn)⟩
theorem below_of_grown {B : Nat} {w a b : World} {r : Option Nat} (h : Below B w a) (k : a.grownBy b r) (hB : B ≤ a.heap.size) (hr : ∀ g, r = some g → B ≤ g) : Below B w b :=
  ⟨(World.grownBy.os k).trans h.os, (World.grownBy.tape k).trans h.tape, (World.grownBy.output k).trans h.output, Nat.le_trans h.size (World.grownBy.size k), fun i hi => (World.grownBy.block k i (by omega) (fun e => by have := hr i e.symm; omega)).trans (h.block i hi)⟩
/-- Where row v' has come from row v. -/
def RowFrom (v : Value) (a : World) (v' : Value) : Prop := ∀ g, v'.ownBlock = some g → v.ownBlock = some g ∨ a.heap.size ≤ g
theorem Ints.drop {w : World} {b o c : Nat} {xs : List Int} (h : Ints w (some ⟨b, o, none⟩) c xs) (i c' : Nat) (hi : i ≤ xs.length) : Ints w (some ⟨b, o + i, none⟩) c' (xs.drop i) := by
  have hl := h.len
  refine Ints.mk (by rw [List.length_drop]; omega) fun j hj => ?_
  rw [List.length_drop] at hj
  obtain ⟨b', o', e, _, hc⟩ := h.get (i := i + j) (by omega)
  injection e with e
  injection e with e1 e2
  subst e1 e2
  rw [List.getElem_drop, show o + i + j = o + (i + j) by omega]
  exact hc

end Go.Proofs.YtahegjofooahkaaGreat

/-! Rows of rows whose elements are shared: what they lead to is read, never written. No program in sight. -/
namespace Go.Proofs.YtahegjofooahkaaGreat
open Go.RowKit
set_option linter.unusedVariables false
set_option maxRecDepth 100000

/-- The world from block B on, without block r. -/
def far (B : Nat) (r : Option Nat) (w : World) : World := keepW (fun b => B ≤ b ∧ ¬ r = some b) w
theorem rint_le : ∀ a a' (cs : Nat → Value) (x : Int), Le a a' → RInt a cs x → RInt a' cs x := fun _ _ _ _ _ h => h
theorem rints_le : ∀ a a' (cs : Nat → Value) (x : List Int), Le a a' → RSub 1 RInt a cs x → RSub 1 RInt a' cs x := RSub.le rint_le
/-- Slices of slices of ints. -/
abbrev I3 (w : World) (A : Option Addr) (c : Nat) (xs : List (List (List Int))) : Prop := SlR 1 (RSub 1 (RSub 1 RInt)) w (.slice A xs.length c) xs
def RetI3 (w : World) (xs : List (List (List Int))) (e : Ending) (w' : World) : Prop := ∃ A c, e = .returned (.slice A xs.length c) ∧ I3 (above w.heap.size w') A c xs ∧ Below w.heap.size w w'

/-- What slices of ints lead to, in a world that stands still. -/
def QS (W : World) (cs : Nat → Value) (xs : List Int) : Prop := RSub 1 RInt W cs xs
theorem qs_congr (W : World) : ∀ (f g : Nat → Value) (x : List Int), (∀ j, j < 1 → f j = g j) → QS W f x → QS W g x := fun f g x h ⟨A, c, h1, h2⟩ => ⟨A, c, (h 0 (by omega)).symm.trans h1, h2⟩
theorem qs_one (W : World) : ∀ (cs : Nat → Value) (y : List Int), QS W cs y → ∀ j, j < 1 → (cs j).oneCell' = true := fun cs y ⟨A, c, h1, _⟩ j hj => by
  obtain rfl : j = 0 := by omega
  rw [h1]; rfl
theorem QS.le {W W' : World} (h : Le W W') (cs : Nat → Value) (x : List Int) (k : QS W cs x) : QS W' cs x := rints_le _ _ _ _ h k
/-- The slice's own cells are read in the world, what they lead to in the one that stands still. -/
theorem i2_still {W w : World} {A : Option Addr} {c : Nat} {x : List (List Int)} (h : SlR 1 (RSub 1 RInt) W (.slice A x.length c) x) (hl : Le W w) : SlR 1 (fun _ => QS W) w (.slice A x.length c) x := by
  obtain ⟨A', c', e, hm, h⟩ := h
  injection e with e1 e2 e3
  subst e1 e3
  refine ⟨_, _, rfl, hm, fun i hi => ?_⟩
  obtain ⟨b, o, h1, cs, h2, h3⟩ := h i hi
  exact ⟨b, o, h1, cs, fun j hj => hl _ _ (h2 j hj), h3⟩
/-- Rows of slices of ints. -/
abbrev Rows3 (w : World) (base B : Nat) (v : Value) (xs : List (List (List Int))) (cs : List Value) (Fs : Nat → List Nat) : Prop := RowW 1 31 (rowP 1 24 (QS (far B v.ownBlock w))) w base v xs cs Fs
end Go.Proofs.YtahegjofooahkaaGreat

/-! Rows of candidates: what they lead to is read, never written. No walk. -/
namespace Go.Proofs.YtahegjofooahkaaGreat
open Go.RowKit
set_option linter.unusedVariables false
set_option maxRecDepth 100000

/-- A candidate in two cells. -/
def RX (w : World) (cs : Nat → Value) (x : Ex) : Prop := ∃ A c B d, cs 0 = .slice A x.from_.length c ∧ cs 1 = .slice B x.order.length d ∧ RepX w A c B d x
abbrev ExS (w : World) (v : Value) (xs : List Ex) : Prop := SlR 2 RX w v xs
def RetExS (w : World) (xs : List Ex) (e : Ending) (w' : World) : Prop := ∃ A c, e = .returned (.slice A xs.length c) ∧ ExS (above w.heap.size w') (.slice A xs.length c) xs ∧ Below w.heap.size w w'

end Go.Proofs.YtahegjofooahkaaGreat
