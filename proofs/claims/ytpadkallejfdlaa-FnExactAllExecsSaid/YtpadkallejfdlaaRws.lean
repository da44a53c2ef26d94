/-
  Rows of rows that a call builds; 'append(xs, ys...)' at a step of a region that draws its order. No program in sight.
-/
import Derived.Test.YtpadkallejfdlaaSl
namespace Go.Proofs.Ytpadkallejfdlaa
open Go.RowKit
set_option linter.unusedVariables false
set_option maxRecDepth 100000

/-- At a step of a region that draws its order. -/
theorem step_append_list {α : Type} {P : Program} {w : World} {ops : Array Oper} {o : Oper} {a : Act} {K : Act → World → Prop} {QQ : Exit → Act → World → Prop} {E : Prop} (hgd : o.guard = none) (s x : Operand) (t : TypeId) (ho : o.op = .call { callee := .builtin .append, args := #[s, x], argTypes := #[t, t] })
    {k : Nat} {Q : (Nat → Value) → α → Prop} (hQ : ∀ (f g : Nat → Value) x, (∀ j, j < k → f j = g j) → Q f x → Q g x) {R : World → (Nat → Value) → α → Prop} (base : Nat) (e : TypeId) (i : TypeInfo) (z : Value) (bytes : Nat) (ht : P.underlying t = some (.slice e)) (hi : P.info? e = some i) (hz : i.zero = some z)
    (hsize : i.size = k) (hby : i.bytes = bytes) (hzs : z.cells.size = k) (hsz : 0 < k) (v : Value) (xs : List α) (hs : a.eval s = v) (hown : RowOf k Q w base e v xs) (A : Option Addr) (c : Nat) (ys : List α) (hx : a.eval x = .slice A ys.length c) (hy : SlR k R w (.slice A ys.length c) ys)
    (hRQ : ∀ cs y, R w cs y → Q cs y) (h1 : ∀ cs y, Q cs y → ∀ j, j < k → (cs j).oneCell' = true) (h63 : xs.length + ys.length ≤ maxLen) (hbytes : (xs.length + ys.length) * bytes ≤ 140737488355328) (hbase : base ≤ w.heap.size) (H : Nat) (hH : w.heap.size = H)
    (h : ∀ A' c' w', RowOf k Q w' base e (.slice A' (xs ++ ys).length c') (xs ++ ys) → w.grownBy w' v.ownBlock → (∀ g, (Value.slice A' (xs ++ ys).length c').ownBlock = some g → v.ownBlock = some g ∨ g = H) → K (a.put o.dst (.slice A' (xs ++ ys).length c')) w') :
    if Region.wanted o (yielded ops a.tmps) = true then Oper.wp P o a w K QQ else E := by
  have hw : Region.wanted o (yielded ops a.tmps) = true := by simp [Region.wanted, hgd]
  rw [if_pos hw]
  obtain ⟨v', w', hr, h2, h3, h4⟩ := run_append_list (P := P) w hQ t o.type base e i z bytes ht hi hz hsize hby hzs hsz v xs hown A c ys hy hRQ h1 h63 hbytes hbase
  obtain ⟨A', c', rfl, _⟩ := h2.slice
  unfold Oper.wp execOp
  simp only [ho, resolve, invoke, builtin, Sem.run_bind, Sem.run_pure, Result.andThen_ok, List.map_toArray, List.map_cons, List.map_nil, hs, hx, hr]
  exact h A' c' w' h2 h3 (fun g hg => by rw [← hH]; exact h4 g hg)

/-! ### Rows of rows -/
/-- An element that is a row in a block of its own. -/
def rowP {α : Type} (k : Nat) (e : TypeId) (Q : (Nat → Value) → α → Prop) : OwP (List α) := fun w cs t F => RowOf k Q w 0 e (cs 0) t ∧ F = (cs 0).ownBlock.toList
theorem rowP_loc {α : Type} (k : Nat) (e : TypeId) (Q : (Nat → Value) → α → Prop) : OwLoc 1 (rowP k e Q) :=
  ⟨fun {w w' cs x F} h hb => ⟨h.1.of_block fun g _ hv _ => hb g (by rw [h.2]; exact mem_own.2 hv), h.2⟩,
   fun {w cs x F} h b hb => by rw [h.2] at hb; exact (h.1.blk (mem_own.1 hb)).2,
   fun {w cs cs' x F} hc h => by unfold rowP at h ⊢; rw [← hc 0 (by omega)]; exact h⟩
theorem RowOf.rowP {α : Type} {k : Nat} {e : TypeId} {Q : (Nat → Value) → α → Prop} {w : World} {base : Nat} {v : Value} {t : List α} (h : RowOf k Q w base e v t) : Go.Proofs.Ytpadkallejfdlaa.rowP k e Q w (fun _ => v) t v.ownBlock.toList := ⟨h.rebase fun _ _ => Nat.zero_le _, rfl⟩
/-- Such rows are readable. -/
theorem RowW.slR2 {α : Type} {k : Nat} {e e' : TypeId} {Q : (Nat → Value) → α → Prop} (hk : 0 < k) {R : World → (Nat → Value) → α → Prop} (hR : ∀ w cs x, Q cs x → R w cs x) {w : World} {base : Nat} {v : Value} {xss : List (List α)} {cs : List Value} {Fs : Nat → List Nat} (h : RowW 1 e (Go.Proofs.Ytpadkallejfdlaa.rowP k e' Q) w base v xss cs Fs) : SlR 1 (RSub k R) (above base w) v xss :=
  h.slR (by omega) (Nat.le_refl _) fun cs x F' hF h => by
    have hs := h.1.slR' (k := k) (R := R) (a := above base w) hk (fun cs x h => hR _ _ _ h) (fun g o u _ hv hc => cell_above_of (by have := hF g (by rw [h.2]; exact mem_own.2 hv); show base ≤ g; omega) hc)
    obtain ⟨A, c, e, _⟩ := hs.slice
    exact ⟨A, c, e, by rw [← e]; exact hs⟩
/-- A row more: w is the world in which the row of rows stands, wr the one before the new row's slice is put into a box, w6 the one behind the append. -/
theorem RowW.pushRow {α : Type} {k : Nat} {e e' : TypeId} {Q : (Nat → Value) → α → Prop} {w wr w6 : World} {base gg cap H : Nat} {v : Value} {xss : List (List α)} {cs : List Value} {Fs : Nat → List Nat} {A : Option Addr} {c : Nat} {t : List α}
    (h : RowW 1 e (Go.Proofs.Ytpadkallejfdlaa.rowP k e' Q) w base v xss cs Fs) (hb : ∀ b, base ≤ b → b < w.heap.size → wr.heap[b]? = w.heap[b]?) (hs : w.heap.size ≤ wr.heap.size) (hbw : base ≤ w.heap.size) (ht : RowOf k Q wr w.heap.size e' (.slice A t.length c) t)
    (hg : (wr.alloc (.cells #[.slice A t.length c] e)).grownBy w6 v.ownBlock) (hown : w6.ownsRow base e 1 (.slice (some ⟨gg, 0, none⟩) (xss.length + 1) cap) (xss.length + 1) (cs ++ [.slice A t.length c])) (hat : v.ownBlock = some gg ∨ gg = H) (hH : wr.heap.size + 1 = H) :
    ∃ Fs', RowW 1 e (Go.Proofs.Ytpadkallejfdlaa.rowP k e' Q) w6 base (.slice (some ⟨gg, 0, none⟩) (xss.length + 1) cap) (xss ++ [t]) (cs ++ [.slice A t.length c]) Fs' :=
  ⟨_, h.push (rowP_loc k e' Q) (by simp; omega) (fun b h1 h2 => (Go.Deep.blk_alloc_lt _ _ _ (by omega)).trans (hb b h1 h2)) hg rfl (RowOf.rowP (ht.of_block (w' := wr.alloc (.cells #[.slice A t.length c] e)) fun g _ _ hl => Go.Deep.blk_alloc_lt _ _ _ hl)) (fun b hb => (ht.blk (mem_own.1 hb)).1) (own_nodup _) hbw hown hat (by simp; omega)⟩

/-- Rows of ints. -/
abbrev RowsI (w : World) (base : Nat) (v : Value) (xss : List (List Int)) (cs : List Value) (Fs : Nat → List Nat) : Prop := RowW 1 44 (rowP 1 3 QInt) w base v xss cs Fs
theorem rsub_ints {w : World} {cs : Nat → Value} {xs : List Int} (h : RSub 1 RInt w cs xs) : RInts w cs xs := h
theorem RowsI.intss {w : World} {base : Nat} {v : Value} {xss : List (List Int)} {cs : List Value} {Fs : Nat → List Nat} (h : RowsI w base v xss cs Fs) : ∃ A c, v = .slice A xss.length c ∧ Intss (above base w) A c xss := by
  have hs := h.slR2 (R := RInt) (by omega) (fun _ _ _ h => h)
  obtain ⟨A, c, rfl, _⟩ := hs.slice
  exact ⟨A, c, rfl, hs⟩
theorem RowI.single {w : World} {g base : Nat} {n : Int} (h : Own w g 3 #[.int .i64 n]) (hb : base ≤ g) : RowI w base (.slice (some ⟨g, 0, none⟩) 1 1) [n] :=
  ⟨[.int .i64 n], ⟨rfl, .inr ⟨g, 1, _, rfl, hb, h, by simp, by simp [maxLen], by simp, by simp⟩⟩, fun i hi => by
    obtain rfl : i = 0 := by simp at hi; omega
    rfl⟩

end Go.Proofs.Ytpadkallejfdlaa
