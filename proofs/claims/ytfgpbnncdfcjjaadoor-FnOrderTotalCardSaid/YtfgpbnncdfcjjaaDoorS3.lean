/-
  The walks of the reference's composition, inverse, closure, of its tests for cycles and of its count.
-/
import Derived.Test.YtfgpbnncdfcjjaaDoorS2
namespace Go.Proofs.YtfgpbnncdfcjjaaDoor
open Go.RowKit
set_option linter.unusedVariables false
set_option maxRecDepth 100000

/-! ### Compositions, row by row -/
def coP (a b : Rel) (m i : Nat) : Nat → Bool := fun k => (List.range m).any fun t => a i t && b t k
theorem coP_all (n : Nat) (a b : Rel) (i : Nat) : coP a b n i = coR n a b i := rfl
theorem coP_zero (a b : Rel) (i n : Nat) : bitN (coP a b 0 i) n = 0 := by
  induction n with
  | zero => rfl
  | succ n ih => rw [bitN, ih, show coP a b 0 i n = false from rfl]; simp
theorem coP_more {a b : Rel} {m i n : Nat} (hn : n ≤ 16) (h : a i m = true) : bits .or .i64 ((bitN (coP a b m i) n : Nat) : Int) ((bitN (b m) n : Nat) : Int) = ((bitN (coP a b (m + 1) i) n : Nat) : Int) := by
  rw [or_bitN _ _ hn]
  congr 2
  funext k
  show (coP a b m i k || b m k) = coP a b (m + 1) i k
  unfold coP
  rw [any_range_succ]
  simp [h]
theorem coP_same {a b : Rel} {m i : Nat} (h : a i m = false) : coP a b (m + 1) i = coP a b m i := by
  funext k
  unfold coP
  rw [any_range_succ]
  simp [h]

/-! ### Relations that are written row by row -/
theorem relN_set {f g : Rel} {n i : Nat} (h : ∀ r k, r < n → k < n → r ≠ i → f r k = g r k) : (relN f n).set i ((bitN (g i) n : Nat) : Int) = relN g n := by
  apply List.ext_getElem
  · simp [relN_length]
  · intro r h1 h2
    have hr : r < n := by rw [relN_length] at h2; exact h2
    rw [relN_get]
    by_cases e : i = r
    · subst e; rw [List.getElem_set_self]
    · rw [List.getElem_set_ne e, relN_get, bitN_congr fun k hk => h r k hr hk (fun e' => e e'.symm)]
theorem relN_getD (f : Rel) {n i : Nat} (h : i < n) : (relN f n).getD i 0 = ((bitN (f i) n : Nat) : Int) := by
  have h1 : i < (relN f n).length := by rw [relN_length]; exact h
  rw [List.getD_eq_getElem?_getD, List.getElem?_eq_getElem h1]
  exact relN_get f n i h1
theorem relN_none {f : Rel} {n : Nat} (h : ∀ i k, i < n → k < n → f i k = false) : relN f n = List.replicate n 0 := by
  apply List.ext_getElem
  · simp [relN_length]
  · intro r h1 h2
    have hr : r < n := by rw [relN_length] at h1; exact h1
    rw [relN_get, List.getElem_replicate]
    have : bitN (f r) n = 0 := by
      rw [bitN_congr (g := fun _ => false) fun k hk => h r k hr hk]
      exact Nat.eq_of_testBit_eq fun k => by rw [bitN_bit]; simp
    rw [this]
    rfl
/-- The inverse, the rows below i and the pairs below k of row i being done. -/
def invP (a : Rel) (i k : Nat) : Rel := fun t s => a s t && (decide (s < i) || (decide (s = i) && decide (t < k)))
theorem invP_zero (a : Rel) (n : Nat) : relN (invP a 0 0) n = List.replicate n 0 := relN_none fun i k _ _ => by unfold invP; simp
theorem invP_all (a : Rel) (n : Nat) : relN (invP a n 0) n = relN (inR a) n := relN_congr fun i k _ hk => by
  show (a k i && (decide (k < n) || _)) = a k i
  simp [hk]
theorem invP_next (a : Rel) (n i : Nat) : relN (invP a i n) n = relN (invP a (i + 1) 0) n := relN_congr fun t s ht _ => by
  unfold invP
  by_cases e : s = i
  · subst e; simp [ht]
  · have : decide (s < i + 1) = decide (s < i) := decide_eq_decide.2 (by omega)
    simp [this, e]
theorem invP_same {a : Rel} {n i k : Nat} (h : a i k = false) : relN (invP a i (k + 1)) n = relN (invP a i k) n := relN_congr fun t s _ _ => by
  unfold invP
  by_cases e : t = k ∧ s = i
  · obtain ⟨rfl, rfl⟩ := e
    simp [h]
  · by_cases e2 : s = i
    · have : decide (t < k + 1) = decide (t < k) := decide_eq_decide.2 (by omega)
      simp [this]
    · simp [e2]
theorem invP_more {a : Rel} {n i k : Nat} (hn : n ≤ 16) (hi : i < n) (h : a i k = true) : bits .or .i64 ((bitN (invP a i k k) n : Nat) : Int) (IntKind.i64.wrap ((2 : Int) ^ i)) = ((bitN (invP a i (k + 1) k) n : Nat) : Int) := by
  rw [set_bitN _ hn hi]
  congr 2
  funext s
  unfold invP
  by_cases e : s = i
  · subst e; simp [h]
  · simp [e]
theorem invP_set {a : Rel} {n i k : Nat} : (relN (invP a i k) n).set k ((bitN (invP a i (k + 1) k) n : Nat) : Int) = relN (invP a i (k + 1)) n := relN_set fun r s _ _ hr => by
  unfold invP
  have : decide (r < k + 1) = decide (r < k) := decide_eq_decide.2 (by omega)
  rw [this]
/-- The closure, m middles being done and of the next one the rows below i. -/
def clM (a : Rel) (m i : Nat) : Rel := fun r k => if r < i then clR (m + 1) a r k else clR m a r k
theorem clM_zero (a : Rel) (m : Nat) : clM a m 0 = clR m a := rfl
theorem clM_all (a : Rel) (m n : Nat) : relN (clM a m n) n = relN (clM a (m + 1) 0) n := relN_congr fun r k hr _ => by
  show (if r < n then clR (m + 1) a r k else clR m a r k) = clR (m + 1) a r k
  rw [if_pos hr]
theorem clM_row (a : Rel) (m i : Nat) : clM a m i i = clR m a i := by
  funext k
  show (if i < i then _ else _) = _
  rw [if_neg (Nat.lt_irrefl _)]
theorem clM_mid (a : Rel) (m i : Nat) : clM a m i m = clR m a m := by
  funext k
  show (if m < i then (clR m a m k || (clR m a m m && clR m a m k)) else clR m a m k) = clR m a m k
  split
  · cases clR m a m k <;> simp
  · rfl
theorem clM_same {a : Rel} {m i n : Nat} (h : clR m a i m = false) : relN (clM a m (i + 1)) n = relN (clM a m i) n := relN_congr fun r k _ _ => by
  show (if r < i + 1 then clR (m + 1) a r k else clR m a r k) = (if r < i then clR (m + 1) a r k else clR m a r k)
  by_cases e : r = i
  · subst e
    rw [if_pos (by omega), if_neg (by omega)]
    show (clR m a r k || (clR m a r m && clR m a m k)) = clR m a r k
    rw [h]
    simp
  · by_cases h2 : r < i
    · rw [if_pos h2, if_pos (by omega)]
    · rw [if_neg h2, if_neg (by omega)]
theorem clM_more {a : Rel} {m i n : Nat} (hn : n ≤ 16) (h : clR m a i m = true) : bits .or .i64 ((bitN (clR m a i) n : Nat) : Int) ((bitN (clR m a m) n : Nat) : Int) = ((bitN (clM a m (i + 1) i) n : Nat) : Int) := by
  rw [or_bitN _ _ hn]
  congr 2
  funext k
  show _ = (if i < i + 1 then (clR m a i k || (clR m a i m && clR m a m k)) else _)
  rw [if_pos (by omega), h]
  simp
theorem clM_set {a : Rel} {m i n : Nat} : (relN (clM a m i) n).set i ((bitN (clM a m (i + 1) i) n : Nat) : Int) = relN (clM a m (i + 1)) n := relN_set fun r k _ _ hr => by
  show (if r < i then _ else _) = (if r < i + 1 then _ else _)
  by_cases h2 : r < i
  · rw [if_pos h2, if_pos (by omega)]
  · rw [if_neg h2, if_neg (by omega)]

end Go.Proofs.YtfgpbnncdfcjjaaDoor
