/-
  Rows of rows that a call builds; 'append(xs, ys...)' at a step of a region that draws its order. No program in sight. Worlds in which a row of the call's own has been appended to, again and again. No program in sight. Rows of rows whose elements are shared: what they lead to is read, never written. No program in sight. Rows of candidates: what they lead to is read, never written. No walk.
-/
import Derived.Test.YtahegjofooahkaaGreatSlA
import Derived.Test.YtahegjofooahkaaGreatInts

/-! Rows of rows that a call builds; 'append(xs, ys...)' at a step of a region that draws its order. No program in sight. -/
namespace Go.Proofs.YtahegjofooahkaaGreat
open Go.RowKit
set_option linter.unusedVariables false
set_option maxRecDepth 100000

/-- At a step of a region that draws its order. -/
theorem step_append_list {α : Type} {P : Program} {w : World} {ops : Array Oper} {o : Oper} {a : Act} {K : Act → World → Prop} {QQ : Exit → Act → World → Prop} {E : Prop} (hgd : o.guard = none) (s x : Operand) (t : TypeId) (ho : o.op = .call { callee := .builtin .append, args := #[s, x], argTypes := #[t, t] })
    {k : Nat} {Q : (Nat → Value) → α → Prop} (hQ : ∀ (f g : Nat → Value) x, (∀ j, j < k → f j = g j) → Q f x → Q g x) {R : World → (Nat → Value) → α → Prop} (base : Nat) (e : TypeId) (i : TypeInfo) (z : Value) (bytes : Nat) (ht : P.underlying t = some (.slice e)) (hi : P.info? e = some i) (hz : i.zero = some z)
    (hsize : i.size = k) (hby : i.bytes = bytes) (hzs : z.cells.size = k) (hsz : 0 < k) (v : Value) (xs : List α) (hs : a.eval s = v) (hown : RowOf k Q w base e v xs) (A : Option Addr) (c : Nat) (ys : List α) (hx : a.eval x = .slice A ys.length c) (hy : SlR k R w (.slice A ys.length c) ys)
    (hRQ : ∀ cs y, R w cs y → Q cs y) (h1 : ∀ cs y, Q cs y → ∀ j, j < k → (cs j).oneCell' = true) (h63 : xs.length + ys.length ≤ maxLen) (hbytes : (xs.length + ys.length) * bytes ≤ 140737488355328) (hbase : base ≤ w.heap.size) (H : Nat) (hH : w.heap.size = H)
    (h : ∀ A' c' w', RowOf k Q w' base e (.slice A' (xs ++ ys).length c') (xs ++ ys) → w.grownBy w' v.ownBlock → (∀ g, (Value.slice A' (xs ++ ys).length c').ownBlock = some g → v.ownBlock = some g ∨ g = H) → K (a.put o.dst (.slice A' (xs ++ ys).length c')) w') :
    if Region.wanted o (yielded ops a.tmps) = true then Oper.wp P o a w K QQ else E := by
  have hw : Region.wanted o (yielded ops a.tmps) = true := by simp [Region.wanted, hgd]
  rw [if_pos hw]
  obtain ⟨v', w', hr, h2, h3, h4⟩ := run_append_list (P := P) w hQ t o.type base e i z bytes ht hi hz hsize hby hzs hsz v xs hown A c ys hy hRQ h1 h63 hbytes hbase
  obtain ⟨A', c', rfl, _⟩ := h2.slice
  unfold Oper.wp execOp
  simp only [ho, resolve, invoke, builtin, Sem.run_bind, Sem.run_pure, Result.andThen_ok, List.map_toArray, List.map_cons, List.map_nil, hs, hx, hr]
  exact h A' c' w' h2 h3 (fun g hg => by rw [← hH]; exact h4 g hg)

/-! ### Rows of rows -/
/-- An element that is a row in a block of its own. -/
def rowP {α : Type} (k : Nat) (e : TypeId) (Q : (Nat → Value) → α → Prop) : OwP (List α) := fun w cs t F => RowOf k Q w 0 e (cs 0) t ∧ F = (cs 0).ownBlock.toList
theorem rowP_loc {α : Type} (k : Nat) (e : TypeId) (Q : (Nat → Value) → α → Prop) : OwLoc 1 (rowP k e Q) :=
  ⟨fun {w w' cs x F} h hb => ⟨h.1.of_block fun g _ hv _ => hb g (by rw [h.2]; exact mem_own.2 hv), h.2⟩,
   fun {w cs x F} h b hb => by rw [h.2] at hb; exact (h.1.blk (mem_own.1 hb)).2,
   fun {w cs cs' x F} hc h => by unfold rowP at h ⊢; rw [← hc 0 (by omega)]; exact h⟩
theorem RowOf.rowP {α : Type} {k : Nat} {e : TypeId} {Q : (Nat → Value) → α → Prop} {w : World} {base : Nat} {v : Value} {t : List α} (h : RowOf k Q w base e v t) : Go.Proofs.YtahegjofooahkaaGreat.rowP k e Q w (fun _ => v) t v.ownBlock.toList := ⟨h.rebase fun _ _ => Nat.zero_le _, rfl⟩
/-- Such rows are readable. -/
theorem RowW.slR2 {α : Type} {k : Nat} {e e' : TypeId} {Q : (Nat → Value) → α → Prop} (hk : 0 < k) {R : World → (Nat → Value) → α → Prop} (hR : ∀ w cs x, Q cs x → R w cs x) {w : World} {base : Nat} {v : Value} {xss : List (List α)} {cs : List Value} {Fs : Nat → List Nat} (h : RowW 1 e (Go.Proofs.YtahegjofooahkaaGreat.rowP k e' Q) w base v xss cs Fs) : SlR 1 (RSub k R) (above base w) v xss :=
  h.slR (by omega) (Nat.le_refl _) fun cs x F' hF h => by
    have hs := h.1.slR' (k := k) (R := R) (a := above base w) hk (fun cs x h => hR _ _ _ h) (fun g o u _ hv hc => cell_above_of (by have := hF g (by rw [h.2]; exact mem_own.2 hv); show base ≤ g; omega) hc)
    obtain ⟨A, c, e, _⟩ := hs.slice
    exact ⟨A, c, e, by rw [← e]; exact hs⟩
/-- A row more: w is the world in which the row of rows stands, wr the one before the new row's slice is put into a box, w6 the one behind the append. -/
theorem RowW.pushRow {α : Type} {k : Nat} {e e' : TypeId} {Q : (Nat → Value) → α → Prop} {w wr w6 : World} {base gg cap H : Nat} {v : Value} {xss : List (List α)} {cs : List Value} {Fs : Nat → List Nat} {A : Option Addr} {c : Nat} {t : List α}
    (h : RowW 1 e (Go.Proofs.YtahegjofooahkaaGreat.rowP k e' Q) w base v xss cs Fs) (hb : ∀ b, base ≤ b → b < w.heap.size → wr.heap[b]? = w.heap[b]?) (hs : w.heap.size ≤ wr.heap.size) (hbw : base ≤ w.heap.size) (ht : RowOf k Q wr w.heap.size e' (.slice A t.length c) t)
    (hg : (wr.alloc (.cells #[.slice A t.length c] e)).grownBy w6 v.ownBlock) (hown : w6.ownsRow base e 1 (.slice (some ⟨gg, 0, none⟩) (xss.length + 1) cap) (xss.length + 1) (cs ++ [.slice A t.length c])) (hat : v.ownBlock = some gg ∨ gg = H) (hH : wr.heap.size + 1 = H) :
    ∃ Fs', RowW 1 e (Go.Proofs.YtahegjofooahkaaGreat.rowP k e' Q) w6 base (.slice (some ⟨gg, 0, none⟩) (xss.length + 1) cap) (xss ++ [t]) (cs ++ [.slice A t.length c]) Fs' :=
  ⟨_, h.push (rowP_loc k e' Q) (by simp; omega) (fun b h1 h2 => (Go.Deep.blk_alloc_lt _ _ _ (by omega)).trans (hb b h1 h2)) hg rfl (RowOf.rowP (ht.of_block (w' := wr.alloc (.cells #[.slice A t.length c] e)) fun g _ _ hl => Go.Deep.blk_alloc_lt _ _ _ hl)) (fun b hb => (ht.blk (mem_own.1 hb)).1) (own_nodup _) hbw hown hat (by simp; omega)⟩

/-- Rows of ints. -/
abbrev RowsI (w : World) (base : Nat) (v : Value) (xss : List (List Int)) (cs : List Value) (Fs : Nat → List Nat) : Prop := RowW 1 24 (rowP 1 3 QInt) w base v xss cs Fs
theorem rsub_ints {w : World} {cs : Nat → Value} {xs : List Int} (h : RSub 1 RInt w cs xs) : RInts w cs xs := h
theorem RowsI.intss {w : World} {base : Nat} {v : Value} {xss : List (List Int)} {cs : List Value} {Fs : Nat → List Nat} (h : RowsI w base v xss cs Fs) : ∃ A c, v = .slice A xss.length c ∧ Intss (above base w) A c xss := by
  have hs := h.slR2 (R := RInt) (by omega) (fun _ _ _ h => h)
  obtain ⟨A, c, rfl, _⟩ := hs.slice
  exact ⟨A, c, rfl, hs⟩
theorem RowI.single {w : World} {g base : Nat} {n : Int} (h : Own w g 3 #[.int .i64 n]) (hb : base ≤ g) : RowI w base (.slice (some ⟨g, 0, none⟩) 1 1) [n] :=
  ⟨[.int .i64 n], ⟨rfl, .inr ⟨g, 1, _, rfl, hb, h, by simp, by simp [maxLen], by simp, by simp⟩⟩, fun i hi => by
    obtain rfl : i = 0 := by simp at hi; omega
    rfl⟩

end Go.Proofs.YtahegjofooahkaaGreat

/-! Worlds in which a row of the call's own has been appended to, again and again. No program in sight. -/
namespace Go.Proofs.YtahegjofooahkaaGreat
open Go.RowKit
set_option linter.unusedVariables false
set_option maxRecDepth 100000

theorem grown_refl (w : World) (r : Option Nat) : w.grownBy w r := ⟨rfl, rfl, rfl, Nat.le_refl _, fun _ _ _ => rfl⟩
theorem grown_below {a b c : World} {r : Option Nat} (h : a.grownBy b r) (hb : Below b.heap.size b c) : a.grownBy c r :=
  ⟨hb.os.trans (World.grownBy.os h), hb.tape.trans (World.grownBy.tape h), hb.output.trans (World.grownBy.output h), Nat.le_trans (World.grownBy.size h) hb.size, fun k hk hn => (hb.block k (Nat.lt_of_lt_of_le hk (World.grownBy.size h))).trans (World.grownBy.block h k hk hn)⟩
theorem grown_next {a b c : World} {r s : Option Nat} (h : a.grownBy b r) (k : b.grownBy c s) (hs : ∀ g, s = some g → r = some g ∨ a.heap.size ≤ g) : a.grownBy c r :=
  ⟨(World.grownBy.os k).trans (World.grownBy.os h), (World.grownBy.tape k).trans (World.grownBy.tape h), (World.grownBy.output k).trans (World.grownBy.output h), Nat.le_trans (World.grownBy.size h) (World.grownBy.size k), fun i hi hn =>
    (World.grownBy.block k i (Nat.lt_of_lt_of_le hi (World.grownBy.size h)) (fun e => by
      rcases hs i e.symm with h1 | h1
      · exact hn h1.symm
      · omega)).trans (World.grownBy.block h i hi hn)⟩
theorem below_of_grown {B : Nat} {w a b : World} {r : Option Nat} (h : Below B w a) (k : a.grownBy b r) (hB : B ≤ a.heap.size) (hr : ∀ g, r = some g → B ≤ g) : Below B w b :=
  ⟨(World.grownBy.os k).trans h.os, (World.grownBy.tape k).trans h.tape, (World.grownBy.output k).trans h.output, Nat.le_trans h.size (World.grownBy.size k), fun i hi => (World.grownBy.block k i (by omega) (fun e => by have := hr i e.symm; omega)).trans (h.block i hi)⟩
/-- What lies behind number B stays, where the row lies ahead of it. -/
theorem Le.above_grown {B : Nat} {a b : World} {r : Option Nat} (h : a.grownBy b r) (hr : ∀ g, r = some g → g < B) : Le (Go.Proofs.YtahegjofooahkaaGreat.above B a) (Go.Proofs.YtahegjofooahkaaGreat.above B b) := fun x v hc => by
  obtain ⟨h1, h2⟩ := cell_above_lt hc
  refine cell_above_of h1 ?_
  rw [World.cell?_of_block (w := a) (World.grownBy.block h x.block (World.block_lt_of_cell? _ _ h2) (fun e => by have := hr _ e.symm; omega))]
  exact h2
/-- Where row v' has come from row v. -/
def RowFrom (v : Value) (a : World) (v' : Value) : Prop := ∀ g, v'.ownBlock = some g → v.ownBlock = some g ∨ a.heap.size ≤ g
theorem RowFrom.refl (v : Value) (a : World) : RowFrom v a v := fun g h => .inl h
theorem RowFrom.next {v v' : Value} {a : World} {gg H n c : Nat} (h : RowFrom v a v') (hat : v'.ownBlock = some gg ∨ gg = H) (hH : a.heap.size ≤ H) : RowFrom v a (.slice (some ⟨gg, 0, none⟩) n c) := fun g hg => by
  simp only [Value.ownBlock, Option.some.injEq] at hg
  subst hg
  rcases hat with e | e
  · exact h _ e
  · exact .inr (by omega)
/-- A part of a slice of ints. -/
theorem Ints.take {w : World} {A : Option Addr} {c : Nat} {xs : List Int} (h : Ints w A c xs) (i : Nat) (hi : i ≤ xs.length) : Ints w A c (xs.take i) := by
  have hl := h.len
  obtain ⟨A', c', e, _, h⟩ := h
  injection e with e1 e2 e3
  subst e1
  refine ⟨_, _, rfl, by rw [List.length_take]; omega, fun j hj => ?_⟩
  rw [List.length_take] at hj
  obtain ⟨b, o, h1, cs, h2, h3⟩ := h j (by omega)
  exact ⟨b, o, h1, cs, h2, by rw [List.getElem_take]; exact h3⟩
theorem Ints.drop {w : World} {b o c : Nat} {xs : List Int} (h : Ints w (some ⟨b, o, none⟩) c xs) (i c' : Nat) (hi : i ≤ xs.length) : Ints w (some ⟨b, o + i, none⟩) c' (xs.drop i) := by
  have hl := h.len
  refine Ints.mk (by rw [List.length_drop]; omega) fun j hj => ?_
  rw [List.length_drop] at hj
  obtain ⟨b', o', e, _, hc⟩ := h.get (i := i + j) (by omega)
  injection e with e
  injection e with e1 e2
  subst e1 e2
  rw [List.getElem_drop, show o + i + j = o + (i + j) by omega]
  exact hc

end Go.Proofs.YtahegjofooahkaaGreat

/-! Rows of rows whose elements are shared: what they lead to is read, never written. No program in sight. -/
namespace Go.Proofs.YtahegjofooahkaaGreat
open Go.RowKit
set_option linter.unusedVariables false
set_option maxRecDepth 100000

/-- The world from block B on, without block r. -/
def far (B : Nat) (r : Option Nat) (w : World) : World := keepW (fun b => B ≤ b ∧ ¬ r = some b) w
theorem far_of {B : Nat} {r : Option Nat} {w : World} {x : Addr} {v : Value} (h1 : B ≤ x.block) (h2 : ¬ r = some x.block) (h : w.cell? x = some v) : (far B r w).cell? x = some v := cell_keepW_of ⟨h1, h2⟩ h
theorem of_far {B : Nat} {r : Option Nat} {w : World} {x : Addr} {v : Value} (h : (far B r w).cell? x = some v) : B ≤ x.block ∧ ¬ r = some x.block ∧ w.cell? x = some v :=
  let h' := of_cell_keepW h
  ⟨h'.1.1, h'.1.2, h'.2⟩
theorem Le.far_grown {B : Nat} {a b : World} {r r' : Option Nat} (h : a.grownBy b r) (hr : ∀ g, r' = some g → r = some g ∨ a.heap.size ≤ g) : Le (far B r a) (far B r' b) := fun x v hc => by
  obtain ⟨h1, h2, h3⟩ := of_far hc
  have hl := World.block_lt_of_cell? _ _ h3
  refine far_of h1 (fun e => ?_) ?_
  · rcases hr _ e with e | e
    · exact h2 e
    · omega
  · rw [World.cell?_of_block (w := a) (World.grownBy.block h x.block hl (fun e => h2 e.symm))]
    exact h3
theorem Le.far_below {B : Nat} {a b : World} {r : Option Nat} (h : Below a.heap.size a b) : Le (far B r a) (far B r b) := fun x v hc => by
  obtain ⟨h1, h2, h3⟩ := of_far hc
  exact far_of h1 h2 (Le.below h _ _ h3)
theorem Le.far (B : Nat) (r : Option Nat) (w : World) : Le (Go.Proofs.YtahegjofooahkaaGreat.far B r w) w := fun x v hc => (of_far hc).2.2
theorem Le.far_above (B : Nat) (r : Option Nat) (w : World) : Le (Go.Proofs.YtahegjofooahkaaGreat.far B r w) (Go.Proofs.YtahegjofooahkaaGreat.above B w) := fun x v hc => cell_above_of (of_far hc).1 (of_far hc).2.2
/-- A row that is new. -/
theorem Le.to_far {B : Nat} {a w : World} {r : Option Nat} (h : Le a (Go.Proofs.YtahegjofooahkaaGreat.above B w)) (hr : ∀ g, r = some g → a.heap.size ≤ g) : Le a (Go.Proofs.YtahegjofooahkaaGreat.far B r w) := fun x v hc => by
  obtain ⟨h1, h2⟩ := cell_above_lt (h x v hc)
  exact far_of h1 (fun e => by have := hr _ e; have := World.block_lt_of_cell? _ _ hc; omega) h2
theorem Le.above_far {B B' : Nat} {w : World} {r : Option Nat} (hB : B ≤ B') (hr : ∀ g, r = some g → g < B') : Le (Go.Proofs.YtahegjofooahkaaGreat.above B' w) (Go.Proofs.YtahegjofooahkaaGreat.far B r w) := fun x v hc => by
  obtain ⟨h1, h2⟩ := cell_above_lt hc
  exact far_of (by omega) (fun e => by have := hr _ e; omega) h2
theorem above_size (B : Nat) (w : World) : (above B w).heap.size = w.heap.size := by simp [above]

theorem rint_le : ∀ a a' (cs : Nat → Value) (x : Int), Le a a' → RInt a cs x → RInt a' cs x := fun _ _ _ _ _ h => h
theorem rints_le : ∀ a a' (cs : Nat → Value) (x : List Int), Le a a' → RSub 1 RInt a cs x → RSub 1 RInt a' cs x := RSub.le rint_le
theorem rintss_le : ∀ a a' (cs : Nat → Value) (x : List (List Int)), Le a a' → RSub 1 (RSub 1 RInt) a cs x → RSub 1 (RSub 1 RInt) a' cs x := RSub.le rints_le
/-- Slices of slices of ints. -/
abbrev I3 (w : World) (A : Option Addr) (c : Nat) (xs : List (List (List Int))) : Prop := SlR 1 (RSub 1 (RSub 1 RInt)) w (.slice A xs.length c) xs
theorem I3.le {w w' : World} {A : Option Addr} {c : Nat} {xs : List (List (List Int))} (h : I3 w A c xs) (hl : Le w w') : I3 w' A c xs := SlR.le' rintss_le h hl
theorem I3.len {w : World} {A : Option Addr} {c : Nat} {xs : List (List (List Int))} (h : I3 w A c xs) : xs.length ≤ 9223372036854775807 := h.slice.elim fun _ h => h.elim fun _ h => h.2
def RetI3 (w : World) (xs : List (List (List Int))) (e : Ending) (w' : World) : Prop := ∃ A c, e = .returned (.slice A xs.length c) ∧ I3 (above w.heap.size w') A c xs ∧ Below w.heap.size w w'

/-- What slices of ints lead to, in a world that stands still. -/
def QS (W : World) (cs : Nat → Value) (xs : List Int) : Prop := RSub 1 RInt W cs xs
theorem qs_congr (W : World) : ∀ (f g : Nat → Value) (x : List Int), (∀ j, j < 1 → f j = g j) → QS W f x → QS W g x := fun f g x h ⟨A, c, h1, h2⟩ => ⟨A, c, (h 0 (by omega)).symm.trans h1, h2⟩
theorem qs_one (W : World) : ∀ (cs : Nat → Value) (y : List Int), QS W cs y → ∀ j, j < 1 → (cs j).oneCell' = true := fun cs y ⟨A, c, h1, _⟩ j hj => by
  obtain rfl : j = 0 := by omega
  rw [h1]; rfl
theorem QS.le {W W' : World} (h : Le W W') (cs : Nat → Value) (x : List Int) (k : QS W cs x) : QS W' cs x := rints_le _ _ _ _ h k
/-- The slice's own cells are read in the world, what they lead to in the one that stands still. -/
theorem i2_still {W w : World} {A : Option Addr} {c : Nat} {x : List (List Int)} (h : SlR 1 (RSub 1 RInt) W (.slice A x.length c) x) (hl : Le W w) : SlR 1 (fun _ => QS W) w (.slice A x.length c) x := by
  obtain ⟨A', c', e, hm, h⟩ := h
  injection e with e1 e2 e3
  subst e1 e3
  refine ⟨_, _, rfl, hm, fun i hi => ?_⟩
  obtain ⟨b, o, h1, cs, h2, h3⟩ := h i hi
  exact ⟨b, o, h1, cs, fun j hj => hl _ _ (h2 j hj), h3⟩
theorem row_one {α : Type} {Q : (Nat → Value) → α → Prop} {w : World} {g base : Nat} {e : TypeId} {u : Value} {x : α} (h : Own w g e #[u]) (hb : base ≤ g) (hQ : ∀ cs : Nat → Value, cs 0 = u → Q cs x) : RowOf 1 Q w base e (.slice (some ⟨g, 0, none⟩) 1 1) [x] :=
  ⟨[u], ⟨rfl, .inr ⟨g, 1, _, rfl, hb, h, by simp, by simp [maxLen], by simp, by simp⟩⟩, fun i hi => by
    obtain rfl : i = 0 := by simp at hi; omega
    exact hQ _ rfl⟩
theorem RowW.imp {α : Type} {k : Nat} {e : TypeId} {P P' : OwP α} {w : World} {base : Nat} {v : Value} {xs : List α} {cs : List Value} {Fs : Nat → List Nat} (h : RowW k e P w base v xs cs Fs) (hP : ∀ cs x F, P w cs x F → P' w cs x F) : RowW k e P' w base v xs cs Fs :=
  ⟨h.own, fun i hi => hP _ _ _ (h.el i hi), h.nd, h.ge⟩
/-- Rows of slices of ints. -/
abbrev Rows3 (w : World) (base B : Nat) (v : Value) (xs : List (List (List Int))) (cs : List Value) (Fs : Nat → List Nat) : Prop := RowW 1 31 (rowP 1 24 (QS (far B v.ownBlock w))) w base v xs cs Fs
theorem rowP_imp {α : Type} {k : Nat} {e : TypeId} {Q Q' : (Nat → Value) → α → Prop} (h : ∀ cs x, Q cs x → Q' cs x) : ∀ (w : World) (cs : Nat → Value) (x : List α) (F : List Nat), rowP k e Q w cs x F → rowP k e Q' w cs x F := fun w cs x F hp => ⟨hp.1.imp h, hp.2⟩
theorem Rows3.below {w w' : World} {base B : Nat} {v : Value} {xs : List (List (List Int))} {cs : List Value} {Fs : Nat → List Nat} (h : Rows3 w base B v xs cs Fs) (hb : Below w.heap.size w w') : Rows3 w' base B v xs cs Fs :=
  (RowW.below (rowP_loc _ _ _) h hb).imp (rowP_imp (QS.le (Le.far_below hb)) w')
theorem Rows3.i3 {w : World} {base B : Nat} {v : Value} {xs : List (List (List Int))} {cs : List Value} {Fs : Nat → List Nat} (h : Rows3 w base B v xs cs Fs) (hB : B ≤ base) : ∃ A c, v = .slice A xs.length c ∧ I3 (above B w) A c xs := by
  have hs : SlR 1 (RSub 1 (RSub 1 RInt)) (above B w) v xs := h.slR (by omega) hB fun cs x F' hF h => by
    have hs := h.1.slR' (k := 1) (R := RSub 1 RInt) (a := above B w) (by omega) (fun cs x hq => rints_le _ _ _ _ (Le.far_above _ _ _) hq) (fun g o u _ hv hc => cell_above_of (by have := hF g (by rw [h.2]; exact mem_own.2 hv); show B ≤ g; omega) hc)
    obtain ⟨A, c, e, _⟩ := hs.slice
    exact ⟨A, c, e, by rw [← e]; exact hs⟩
  obtain ⟨A, c, rfl, _⟩ := hs.slice
  exact ⟨A, c, rfl, hs⟩
/-- A row more: wr is the world ahead, w7 the one in which the new row stands, w8 the one behind the append. -/
theorem Rows3.push {wr w7 w8 : World} {base B gg cap H : Nat} {v : Value} {xs : List (List (List Int))} {cs : List Value} {Fs : Nat → List Nat} {A : Option Addr} {c : Nat} {t : List (List Int)}
    (h : Rows3 wr base B v xs cs Fs) (h7 : Below wr.heap.size wr w7) (hbw : base ≤ wr.heap.size) (ht : RowOf 1 (QS (far B v.ownBlock wr)) w7 wr.heap.size 24 (.slice A t.length c) t)
    (hg : (w7.alloc (.cells #[.slice A t.length c] 31)).grownBy w8 v.ownBlock) (hown : w8.ownsRow base 31 1 (.slice (some ⟨gg, 0, none⟩) (xs.length + 1) cap) (xs.length + 1) (cs ++ [.slice A t.length c])) (hat : v.ownBlock = some gg ∨ gg = H) (hH : w7.heap.size + 1 = H) :
    ∃ Fs', Rows3 w8 base B (.slice (some ⟨gg, 0, none⟩) (xs.length + 1) cap) (xs ++ [t]) (cs ++ [.slice A t.length c]) Fs' := by
  obtain ⟨Fs', hp⟩ := h.pushRow (fun b _ hl => h7.block b hl) h7.size hbw ht hg hown hat hH
  have hs7 := h7.size
  have hG : wr.grownBy w8 v.ownBlock := grown_next (grown_below (grown_refl wr v.ownBlock) (h7.alloc hs7 _)) hg fun g e => .inl e
  refine ⟨Fs', hp.imp (rowP_imp (QS.le (Le.far_grown hG fun g e => ?_)) w8)⟩
  simp only [Value.ownBlock, Option.some.injEq] at e
  rcases hat with e' | e'
  · exact .inl (by rw [e', e])
  · exact .inr (by omega)

end Go.Proofs.YtahegjofooahkaaGreat

/-! Rows of candidates: what they lead to is read, never written. No walk. -/
namespace Go.Proofs.YtahegjofooahkaaGreat
open Go.RowKit
set_option linter.unusedVariables false
set_option maxRecDepth 100000

/-- A candidate in two cells. -/
def RX (w : World) (cs : Nat → Value) (x : Ex) : Prop := ∃ A c B d, cs 0 = .slice A x.from_.length c ∧ cs 1 = .slice B x.order.length d ∧ RepX w A c B d x
theorem rx_le : ∀ a a' (cs : Nat → Value) (x : Ex), Le a a' → RX a cs x → RX a' cs x := fun _ _ _ _ h ⟨A, c, B, d, h1, h2, h3⟩ => ⟨A, c, B, d, h1, h2, h3.le h⟩
abbrev ExS (w : World) (v : Value) (xs : List Ex) : Prop := SlR 2 RX w v xs
theorem ExS.le {w w' : World} {v : Value} {xs : List Ex} (h : ExS w v xs) (hl : Le w w') : ExS w' v xs := SlR.le' rx_le h hl
theorem rx_congr (W : World) : ∀ (f g : Nat → Value) (x : Ex), (∀ j, j < 2 → f j = g j) → RX W f x → RX W g x := fun f g x h ⟨A, c, B, d, h1, h2, h3⟩ => ⟨A, c, B, d, (h 0 (by omega)).symm.trans h1, (h 1 (by omega)).symm.trans h2, h3⟩
theorem rx_one (W : World) : ∀ (cs : Nat → Value) (y : Ex), RX W cs y → ∀ j, j < 2 → (cs j).oneCell' = true := fun cs y ⟨A, c, B, d, h1, h2, _⟩ j hj => by
  rcases (show j = 0 ∨ j = 1 by omega) with rfl | rfl
  · rw [h1]; rfl
  · rw [h2]; rfl
/-- An element's place and cells. -/
theorem ExS.get {w : World} {A : Option Addr} {c n : Nat} {xs : List Ex} (h : ExS w (.slice A n c) xs) {i : Nat} (hi : i < xs.length) :
    ∃ b o A1 c1 B1 d1, A = some ⟨b, o, none⟩ ∧ b < w.heap.size ∧ w.cell? ⟨b, o + i * 2, none⟩ = some (.slice A1 xs[i].from_.length c1) ∧ w.cell? ⟨b, o + i * 2 + 1, none⟩ = some (.slice B1 xs[i].order.length d1) ∧ RepX w A1 c1 B1 d1 xs[i] := by
  obtain ⟨A', c', e, _, h⟩ := h
  injection e with e1 e2 e3
  subst e1
  obtain ⟨b, o, rfl, cs, hc, A1, c1, B1, d1, h1, h2, h3⟩ := h i hi
  have k0 := hc 0 (by omega)
  rw [h1] at k0
  have k1 := hc 1 (by omega)
  rw [h2] at k1
  exact ⟨b, o, A1, c1, B1, d1, rfl, World.block_lt_of_cell? _ _ k0, k0, k1, h3⟩
def RetExS (w : World) (xs : List Ex) (e : Ending) (w' : World) : Prop := ∃ A c, e = .returned (.slice A xs.length c) ∧ ExS (above w.heap.size w') (.slice A xs.length c) xs ∧ Below w.heap.size w w'

end Go.Proofs.YtahegjofooahkaaGreat
