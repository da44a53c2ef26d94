/-
  The walks of the reference's reading of expressions: l7Is, l7Op. The walks of the reference's reading of expressions: l7Prime. The walks of the reference's reading of expressions: l7Parse. The walk of spec.ParseRelExpr.
-/
import Derived.Test.YtfgpbnncdfcjjaaGreatDoorVal
import Derived.Test.YtfgpbnncdfcjjaaGreatDoorWPars
import Derived.Test.YtfgpbnncdfcjjaaGreatDoorWText
import Derived.Test.YtfgpbnncdfcjjaaGreatDoorRE

/-! The walks of the reference's reading of expressions: l7Is, l7Op. -/
namespace Go.Proofs.YtfgpbnncdfcjjaaGreatDoor
open Go.RowKit
set_option linter.unusedVariables false
set_option maxRecDepth 100000

/-- What is left of a text at an offset. -/
def rest (s : ByteArray) (at_ : Nat) : List UInt8 := s.data.toList.drop at_
theorem rest_lt {s : ByteArray} {k : Nat} (h : k < s.size) : rest s k = s[k] :: rest s (k + 1) := by
  unfold rest
  exact List.drop_eq_getElem_cons (by simpa using h)
theorem rest_ge {s : ByteArray} {k : Nat} (h : s.size ≤ k) : rest s k = [] := by
  unfold rest
  exact List.drop_of_length_le (by simpa using h)
def headB (s : ByteArray) (k : Nat) (c : UInt8) : Bool := decide ((rest s k).head? = some c)

theorem sgn_size' {o : Int} (h1 : 2 ≤ o) (h2 : o ≤ 5) : 0 < (sgn o).size := by
  have h : o = 2 ∨ o = 3 ∨ o = 4 ∨ o = 5 := by omega
  rcases h with rfl | rfl | rfl | rfl <;> decide
theorem sgn_sg' {o : Int} (h1 : 2 ≤ o) (h2 : o ≤ 5) : (sgn o)[0]'(sgn_size' h1 h2) = sg o := by
  have h : o = 2 ∨ o = 3 ∨ o = 4 ∨ o = 5 := by omega
  rcases h with rfl | rfl | rfl | rfl <;> rfl
def RetOp (w : World) (s : ByteArray) (k : Nat) (l : Int) (e : Ending) (w' : World) : Prop :=
  ∃ op : Int, e = .returned (.int .i64 op) ∧ Below w.heap.size w w' ∧ ((op = 0 ∧ ∀ o : Int, 2 ≤ o → o ≤ 5 → lvl o = l → headB s k (sg o) = false) ∨ (2 ≤ op ∧ op ≤ 5 ∧ lvl op = l ∧ headB s k (sg op) = true))

end Go.Proofs.YtfgpbnncdfcjjaaGreatDoor

/-! The walks of the reference's reading of expressions: l7Prime. -/
namespace Go.Proofs.YtfgpbnncdfcjjaaGreatDoor
open Go.RowKit
set_option linter.unusedVariables false
set_option maxRecDepth 100000

def RetSp (c : Cmd) (w : World) (s : ByteArray) (k d : Nat) (e : Ending) (w' : World) : Prop :=
  ∃ (x : RE) (A : Option Addr) (cc : Nat) (F : List Nat) (nx : Int), e = .returned (.tuple #[.agg #[.int .i64 x.op, .string x.name, .slice A x.kids.length cc], .int .i64 nx]) ∧ OwE w' (.slice A x.kids.length cc) x.kids F ∧ (∀ b ∈ F, w.heap.size ≤ b) ∧ x.name.size ≤ 300 ∧ Below w.heap.size w w' ∧ -1 ≤ nx ∧ nx ≤ s.size ∧
    (0 ≤ nx → (k : Int) < nx ∧ (cntE x : Int) ≤ nx - k) ∧ (nx < 0 → cntE x ≤ d + 1) ∧ (∀ x0 u, Ps c (rest s k) x0 u → Shp d x0 → x0 = x ∧ 0 ≤ nx ∧ rest s nx.toNat = u)

theorem cntE_mk (op : Int) (name : ByteArray) : cntE (.mk op name []) = 1 := by rw [cntE, cntL]
/-- Nothing read: the empty expression, -1. -/
theorem RetSp.fail {c : Cmd} {w W : World} {s : ByteArray} {k d : Nat} (hb : Below w.heap.size w W) (hn : ∀ x0 u, Ps c (rest s k) x0 u → ¬ Shp d x0) : RetSp c w s k d (.returned (.tuple #[.agg #[.int .i64 0, .string ⟨#[]⟩, .slice none 0 0], .int .i64 (-1)])) W :=
  ⟨.mk 0 ⟨#[]⟩ [], none, 0, [], -1, rfl, .nil, (fun b hb => by cases hb), (by show ByteArray.size ⟨#[]⟩ ≤ 300; decide), hb, by omega, by omega, by omega, fun _ => by rw [cntE_mk]; omega, fun x0 u hp hs => absurd hs (hn x0 u hp)⟩

theorem own_setN {w : World} {v : Value} {es : List RE} {F : List Nat} (h : OwE w v es F) {b : Nat} (hb : ∀ x ∈ F, x ≠ b) (o : Nat) (u : Value) : OwE (w.setCell ⟨b, o, none⟩ u) v es F :=
  h.of_blocks fun x hx => Below.heap_setCell _ _ _ _ (hb x hx)
theorem own_allocN {w : World} {v : Value} {es : List RE} {F : List Nat} (h : OwE w v es F) (o : Obj) : OwE (w.alloc o) v es F := h.of_blocks fun b hb => Go.Deep.blk_alloc_lt _ _ _ (h.lt b hb)
theorem own_below {w w' : World} {v : Value} {es : List RE} {F : List Nat} (h : OwE w v es F) (hb : Below w.heap.size w w') : OwE w' v es F := h.of_blocks fun b hm => hb.block b (h.lt b hm)
theorem Own.res' {w : World} {b : Nat} {t : TypeId} {v0 v1 v2 : Value} (h : Own w b t #[v0, v1, v2]) : w.cell? ⟨b, 0, none⟩ = some v0 ∧ w.cell? ⟨b, 1, none⟩ = some v1 ∧ w.cell? ⟨b, 2, none⟩ = some v2 ∧ w.frozen? ⟨b, 0, none⟩ = false ∧ w.frozen? ⟨b, 1, none⟩ = false ∧ w.frozen? ⟨b, 2, none⟩ = false ∧ b < w.heap.size :=
  ⟨h.cell rfl, h.cell rfl, h.cell rfl, h.frozen 0, h.frozen 1, h.frozen 2, h.lt⟩
theorem size_set3' (W : World) (a b c : Addr) (v0 v1 v2 : Value) : (((W.setCell a v0).setCell b v1).setCell c v2).heap.size = W.heap.size := by simp [World.setCell]

/-- What the reading says, for an expression x read up to nx. -/
def SpOk (c : Cmd) (s : ByteArray) (k d : Nat) (x : RE) (nx : Int) : Prop :=
  -1 ≤ nx ∧ nx ≤ s.size ∧ (0 ≤ nx → (k : Int) < nx ∧ (cntE x : Int) ≤ nx - k) ∧ (nx < 0 → cntE x ≤ d + 1) ∧ (∀ x0 u, Ps c (rest s k) x0 u → Shp d x0 → x0 = x ∧ 0 ≤ nx ∧ rest s nx.toNat = u)
/-- The block of the result is written. -/
theorem RetSp.fin {c : Cmd} {w W : World} {s : ByteArray} {k d : Nat} {x : RE} {A : Option Addr} {cc : Nat} {F : List Nat} {nx : Int} {v0 v1 v2 : Value} (ho : OwE W (.slice A x.kids.length cc) x.kids F) (hF : ∀ b ∈ F, w.heap.size < b)
    (hn : x.name.size ≤ 300) (m : Below w.heap.size w W) (hp : SpOk c s k d x nx) :
    RetSp c w s k d (.returned (.tuple #[.agg #[.int .i64 x.op, .string x.name, .slice A x.kids.length cc], .int .i64 nx])) (((W.setCell ⟨w.heap.size, 0, none⟩ v0).setCell ⟨w.heap.size, 1, none⟩ v1).setCell ⟨w.heap.size, 2, none⟩ v2) := by
  have hne : ∀ b ∈ F, b ≠ w.heap.size := fun b hb => by have := hF b hb; omega
  exact ⟨x, A, cc, F, nx, rfl, own_setN (own_setN (own_setN ho hne _ _) hne _ _) hne _ _, fun b hb => Nat.le_of_lt (hF b hb), hn, ((m.setCell (Nat.le_refl _) _).setCell (Nat.le_refl _) _).setCell (Nat.le_refl _) _, hp⟩
theorem RetSp.alloc {c : Cmd} {w W : World} {s : ByteArray} {k d : Nat} {e : Ending} (h : RetSp c w s k d e W) (o : Obj) : RetSp c w s k d e (W.alloc o) := by
  obtain ⟨x, A, cc, F, nx, h1, h2, h3, h4, h5, h6⟩ := h
  exact ⟨x, A, cc, F, nx, h1, own_allocN h2 o, h3, h4, h5.alloc h5.size _, h6⟩
/-- .. of one operand, in a block made last. -/
theorem RetSp.fin1 {c : Cmd} {w V : World} {s : ByteArray} {k d m : Nat} {op : Int} {x : RE} {A : Option Addr} {cc : Nat} {F : List Nat} {nx : Int} (ho : OwE V (.slice A x.kids.length cc) x.kids F) (hF : ∀ b ∈ F, w.heap.size < b)
    (hn : x.name.size ≤ 300) (hm : V.heap.size = m) (hb : Below w.heap.size w V) (hp : SpOk c s k d (.mk op ⟨#[]⟩ [x]) nx) :
    RetSp c w s k d (.returned (.tuple #[.agg #[.int .i64 op, .string ⟨#[]⟩, .slice (some ⟨m, 0, none⟩) 1 1], .int .i64 nx])) (V.alloc (.cells #[.int .i64 x.op, .string x.name, .slice A x.kids.length cc] 50)) := by
  subst hm
  have one := ho.one (by omega)
  refine ⟨.mk op ⟨#[]⟩ [x], _, 1, _, nx, rfl, one, fun b hm => ?_, (by show ByteArray.size ⟨#[]⟩ ≤ 300; decide), hb.alloc hb.size _, hp⟩
  rcases List.mem_cons.1 hm with rfl | hm
  · exact hb.size
  · exact Nat.le_of_lt (hF b hm)

theorem ext_rest (s : ByteArray) (k j : Nat) : (s.extract k j).data.toList = (rest s k).take (j - k) := by
  unfold rest
  rw [ByteArray.data_extract, Array.toList_extract, List.extract_eq_take_drop]
theorem take_rest (s : ByteArray) {k j : Nat} (h : k ≤ j) : (rest s k).take (j - k) ++ rest s j = rest s k := by
  have h1 : rest s j = (rest s k).drop (j - k) := by
    unfold rest
    rw [List.drop_drop, show k + (j - k) = j by omega]
  rw [h1, List.take_append_drop]
theorem rest_get {s : ByteArray} {k j : Nat} (h : k ≤ j) (hj : j < s.size) (hl : j - k < (rest s k).length) : (rest s k)[j - k]'hl = s[j] := by
  have h1 := List.getElem_drop (xs := s.data.toList) (i := k) (j := j - k) (h := hl)
  simp only [show k + (j - k) = j by omega] at h1
  exact h1
/-- What the reading of a name comes to. -/
theorem name_done {s : ByteArray} {k d j : Nat} (hkj : k ≤ j) (hj : j ≤ s.size) (hs : s.size ≤ 300) (hlet : ∀ c ∈ (rest s k).take (j - k), isLet c) (hno : ¬ letHead (rest s j)) (hne : k ≠ j) (hd : d ≠ 0) : SpOk .atom s k d (.mk 1 (s.extract k j) []) j := by
  refine ⟨by omega, by omega, fun _ => ⟨by omega, by rw [cntE_mk]; omega⟩, fun h => by omega, fun x0 u hp _ => ?_⟩
  have hn : (rest s k).take (j - k) ≠ [] := fun e => by
    have h1 := congrArg List.length e
    unfold rest at h1
    simp at h1
    omega
  rw [← take_rest s hkj] at hp
  obtain ⟨rfl, rfl⟩ := hp.atom_name hn hlet hno
  rw [← ext_rest, toArray_data']
  exact ⟨rfl, by omega, by rw [Int.toNat_natCast]⟩
theorem name_none {s : ByteArray} {k : Nat} (hk : k < s.size) (h40 : s[k] ≠ 40) (h126 : s[k] ≠ 126) (h43 : s[k] ≠ 43) (hno : ¬ letHead (rest s k)) : ∀ x0 u, ¬ Ps .atom (rest s k) x0 u := fun x0 u hp => by
  obtain ⟨c, t', h, hc⟩ := hp.atom_none
  have h1 := h
  rw [rest_lt hk] at h1
  injection h1 with h1 _
  rcases hc with rfl | rfl | rfl | hc
  · exact h40 h1
  · exact h126 h1
  · exact h43 h1
  · rw [h] at hno; exact hno hc

end Go.Proofs.YtfgpbnncdfcjjaaGreatDoor

/-! The walks of the reference's reading of expressions: l7Parse. -/
namespace Go.Proofs.YtfgpbnncdfcjjaaGreatDoor
open Go.RowKit
set_option linter.unusedVariables false
set_option maxRecDepth 100000

/-- The loop of l7Parse: what is on the left so far, and where it ends. -/
def SpLp (s : ByteArray) (k d l : Nat) (x : RE) (nx : Int) : Prop :=
  -1 ≤ nx ∧ nx ≤ s.size ∧ (0 ≤ nx → (k : Int) < nx ∧ (cntE x : Int) ≤ nx - k) ∧ (∀ x0 u, Ps (.lev (l + 1)) (rest s k) x0 u → Shp d x0 → 0 ≤ nx ∧ Ps (.loop (l + 1) x) (rest s nx.toNat) x0 u)
theorem SpLp.start {s : ByteArray} {k d l : Nat} {x : RE} {nx : Int} (h : SpOk (.lev l) s k d x nx) : SpLp s k d l x nx := by
  refine ⟨h.1, h.2.1, h.2.2.1, fun x0 u hp hs => ?_⟩
  obtain ⟨e, v, h1, h2⟩ := hp.lev_succ
  obtain ⟨rfl, h3, rfl⟩ := h.2.2.2.2 _ _ h1 (h2.loop_shp rfl hs)
  exact ⟨h3, h2⟩
theorem SpLp.stop {s : ByteArray} {k d l : Nat} {x : RE} {n : Nat} (h : SpLp s k d l x n) (hno : ∀ o : Int, 2 ≤ o → o ≤ 5 → lvl o = ((l : Int) + 1) → headB s n (sg o) = false) : SpOk (.lev (l + 1)) s k d x n := by
  refine ⟨h.1, h.2.1, h.2.2.1, fun h => by omega, fun x0 u hp hs => ?_⟩
  obtain ⟨_, h2⟩ := h.2.2.2 x0 u hp hs
  rw [Int.toNat_natCast] at h2 ⊢
  obtain ⟨rfl, rfl⟩ := h2.loop_done fun op h1 h3 h4 => by
    have := hno op h1 h3 (by omega)
    unfold headB at this
    exact of_decide_eq_false this
  exact ⟨rfl, by omega, rfl⟩
theorem head_lt {s : ByteArray} {n : Nat} {c : UInt8} (h : headB s n c = true) : n < s.size ∧ rest s n = c :: rest s (n + 1) := by
  unfold headB at h
  have h1 := of_decide_eq_true h
  have hlt : n < s.size := by
    apply Classical.byContradiction
    intro hge
    rw [rest_ge (by omega)] at h1
    cases h1
  refine ⟨hlt, ?_⟩
  rw [rest_lt hlt] at h1 ⊢
  simp only [List.head?_cons, Option.some.injEq] at h1
  rw [h1]
theorem SpLp.next {s : ByteArray} {k d l n : Nat} {x y : RE} {nx op : Int} (h : SpLp s k d l x n) (h2 : 2 ≤ op) (h5 : op ≤ 5) (hl : lvl op = (l : Int) + 1) (hh : headB s n (sg op) = true)
    (hy : SpOk (.lev l) s (n + 1) d y nx) : SpLp s k d l (.mk op ⟨#[]⟩ [x, y]) nx := by
  refine ⟨hy.1, hy.2.1, fun hn => ?_, fun x0 u hp hs => ?_⟩
  · have h1 := h.2.2.1 (by omega)
    have h3 := hy.2.2.1 hn
    rw [cntE, cntL, cntL, cntL]
    omega
  · obtain ⟨_, h3⟩ := h.2.2.2 x0 u hp hs
    rw [Int.toNat_natCast, (head_lt hh).2] at h3
    obtain ⟨e2, v, h4, h6⟩ := h3.loop_more h2 h5 (by omega)
    have hsh := h6.loop_shp rfl hs
    obtain ⟨rfl, h7, rfl⟩ := hy.2.2.2.2 _ _ h4 (hsh.kid (by simp [RE.kids]))
    exact ⟨h7, h6⟩
theorem SpLp.none {s : ByteArray} {k d l : Nat} {x : RE} {nx : Int} (h : SpLp s k d l x nx) (hn : nx < 0) : ∀ x0 u, Ps (.lev (l + 1)) (rest s k) x0 u → ¬ Shp d x0 := fun x0 u hp hs => by
  have := (h.2.2.2 x0 u hp hs).1
  omega
/-- How far the loop still has to go. -/
def spGap (s : ByteArray) (nx : Int) : Nat := if nx < 0 then 0 else s.size + 1 - nx.toNat
theorem spGap_lt {s : ByteArray} {n : Nat} {nx : Int} (hn : n ≤ s.size) (h : 0 ≤ nx → (n : Int) < nx) : spGap s nx < spGap s n := by
  unfold spGap
  by_cases h0 : nx < 0
  · rw [if_pos h0, if_neg (by omega)]; omega
  · have := h (by omega)
    rw [if_neg h0, if_neg (by omega)]; omega

theorem own_two {w : World} {x y : RE} {v u : Value} {F G : List Nat} {m : Nat} (h : OwE w v x.kids F) (k : OwE w u y.kids G) (hn : x.name.size ≤ 9223372036854775807) (hm : y.name.size ≤ 9223372036854775807) (e : w.heap.size = m) :
    OwE (w.alloc (.cells #[.int .i64 x.op, .string x.name, v, .int .i64 y.op, .string y.name, u] 50)) (.slice (some ⟨m, 0, none⟩) 2 2) [x, y] (m :: (F ++ G)) := by
  subst e
  exact h.two k hn hm

end Go.Proofs.YtfgpbnncdfcjjaaGreatDoor

/-! The walk of spec.ParseRelExpr. -/
namespace Go.Proofs.YtfgpbnncdfcjjaaGreatDoor
open Go.RowKit
set_option linter.unusedVariables false
set_option maxRecDepth 100000

theorem rest_zero (s : ByteArray) : rest s 0 = s.data.toList := by unfold rest; rw [List.drop_zero]
theorem rest_nil {s : ByteArray} {k : Nat} (h : rest s k = []) : s.size ≤ k := by
  unfold rest at h
  rw [List.drop_eq_nil_iff] at h
  simpa using h

def RetReadS (w : World) (t : ByteArray) (e : Ending) (w' : World) : Prop :=
  ∃ (x : RE) (b : Bool) (A : Option Addr) (k : Nat) (F : List Nat), e = .returned (.tuple #[.agg #[.int .i64 x.op, .string x.name, .slice A x.kids.length k], .bool b]) ∧ Read t x b ∧ OwE w' (.slice A x.kids.length k) x.kids F ∧ (∀ b ∈ F, w.heap.size ≤ b) ∧ x.name.size ≤ 300 ∧ Below w.heap.size w w'
theorem RetReadS.fail {w W : World} {t : ByteArray} (hb : Below w.heap.size w W) (hn : ∀ y, Val y → ct y ≠ t) : RetReadS w t (.returned (.tuple #[.agg #[.int .i64 0, .string ⟨#[]⟩, .slice none 0 0], .bool false])) W :=
  ⟨.mk 0 ⟨#[]⟩ [], false, none, 0, [], rfl, Or.inr ⟨rfl, rfl, hn⟩, .nil, (fun b hb => by cases hb), (by show ByteArray.size ⟨#[]⟩ ≤ 300; decide), hb⟩

end Go.Proofs.YtfgpbnncdfcjjaaGreatDoor
