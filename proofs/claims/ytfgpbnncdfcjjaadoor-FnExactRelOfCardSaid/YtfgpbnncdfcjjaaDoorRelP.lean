/-
  Relations as rows of bits; the relations on the events of a candidate. No program in sight.
-/
import Derived.Test.YtfgpbnncdfcjjaaDoorCands
import Derived.Test.YtfgpbnncdfcjjaaDoorWr
namespace Go.Proofs.YtfgpbnncdfcjjaaDoor
open Go.RowKit
set_option linter.unusedVariables false
set_option maxRecDepth 100000

/-- The number whose bits are those of f below n. -/
def bitN (f : Nat → Bool) : Nat → Nat
  | 0 => 0
  | n + 1 => bitN f n ||| (if f n = true then 1 <<< n else 0)
theorem bitN_bit (f : Nat → Bool) : ∀ n k, (bitN f n).testBit k = (decide (k < n) && f k)
  | 0, k => by simp [bitN]
  | n + 1, k => by
    rw [bitN, Nat.testBit_or, bitN_bit f n k]
    by_cases hf : f n = true
    · rw [if_pos hf, Nat.shiftLeft_eq, Nat.one_mul, Nat.testBit_two_pow]
      by_cases hk : n = k
      · subst hk; simp [hf]
      · have : decide (k < n + 1) = decide (k < n) := decide_eq_decide.2 (by omega)
        simp [hk, this]
    · rw [if_neg hf, Nat.zero_testBit, Bool.or_false]
      by_cases hk : k = n
      · subst hk
        have : f k = false := by simpa using hf
        simp [this]
      · have : decide (k < n + 1) = decide (k < n) := decide_eq_decide.2 (by omega)
        rw [this]
theorem bitN_lt (f : Nat → Bool) : ∀ n, bitN f n < 2 ^ n
  | 0 => by simp [bitN]
  | n + 1 => by
    rw [bitN]
    refine Nat.or_lt_two_pow (Nat.lt_of_lt_of_le (bitN_lt f n) (Nat.pow_le_pow_right (by omega) (by omega))) ?_
    split
    · rw [Nat.shiftLeft_eq, Nat.one_mul]
      exact Nat.pow_lt_pow_right (by omega) (by omega)
    · exact Nat.two_pow_pos _
theorem bitN_congr {f g : Nat → Bool} : ∀ {n : Nat}, (∀ k, k < n → f k = g k) → bitN f n = bitN g n
  | 0, _ => rfl
  | n + 1, h => by
    rw [bitN, bitN, bitN_congr fun k hk => h k (by omega), h n (by omega)]
def relN (is : Nat → Nat → Bool) (n : Nat) : List Int := (List.range n).map fun i => ((bitN (is i) n : Nat) : Int)
theorem relN_length (is : Nat → Nat → Bool) (n : Nat) : (relN is n).length = n := by unfold relN; simp
theorem relN_get (is : Nat → Nat → Bool) (n i : Nat) (h : i < (relN is n).length) : (relN is n)[i] = ((bitN (is i) n : Nat) : Int) := by simp only [relN, List.getElem_map, List.getElem_range]
theorem relN_congr {f g : Nat → Nat → Bool} {n : Nat} (h : ∀ i k, i < n → k < n → f i k = g i k) : relN f n = relN g n := by
  unfold relN
  refine List.map_congr_left fun i hi => ?_
  have hi := List.mem_range.1 hi
  rw [bitN_congr fun k hk => h i k hi hk]
/-- While it is built: rows below i are done, row i up to k. -/
def midR (is : Nat → Nat → Bool) (n i k : Nat) : List Int := (List.range n).map fun t => if t < i then ((bitN (is t) n : Nat) : Int) else if t = i then ((bitN (is i) k : Nat) : Int) else 0
theorem midR_length (is : Nat → Nat → Bool) (n i k : Nat) : (midR is n i k).length = n := by unfold midR; simp
theorem midR_get (is : Nat → Nat → Bool) (n i k : Nat) (h : i < (midR is n i k).length) : (midR is n i k)[i] = ((bitN (is i) k : Nat) : Int) := by simp [midR]
theorem midR_zero (is : Nat → Nat → Bool) (n : Nat) : midR is n 0 0 = List.replicate n 0 := by
  unfold midR
  apply List.ext_getElem
  · simp
  · intro i h1 h2
    simp only [List.getElem_map, List.getElem_range, List.getElem_replicate]
    rw [if_neg (by omega)]
    split <;> rfl
theorem midR_next (is : Nat → Nat → Bool) (n i : Nat) : midR is n i n = midR is n (i + 1) 0 := by
  unfold midR
  refine List.map_congr_left fun t ht => ?_
  by_cases h1 : t < i
  · rw [if_pos h1, if_pos (by omega)]
  · rw [if_neg h1]
    by_cases h2 : t = i
    · subst h2
      rw [if_pos rfl, if_pos (by omega)]
    · rw [if_neg h2, if_neg (by omega)]
      split <;> rfl
theorem midR_all (is : Nat → Nat → Bool) (n : Nat) : midR is n n 0 = relN is n := by
  unfold midR relN
  refine List.map_congr_left fun t ht => ?_
  rw [if_pos (List.mem_range.1 ht)]
theorem midR_set (is : Nat → Nat → Bool) (n i k : Nat) : (midR is n i k).set i ((bitN (is i) (k + 1) : Nat) : Int) = midR is n i (k + 1) := by
  apply List.ext_getElem
  · simp [midR_length]
  · intro t h1 h2
    have ht : t < n := by rw [midR_length] at h2; exact h2
    by_cases e : i = t
    · subst e
      rw [List.getElem_set_self, midR_get]
    · rw [List.getElem_set_ne e]
      simp only [midR, List.getElem_map, List.getElem_range]
      rw [if_neg (show ¬ t = i from fun h => e h.symm), if_neg (show ¬ t = i from fun h => e h.symm)]
theorem midR_same (is : Nat → Nat → Bool) (n i k : Nat) (h : is i k = false) : midR is n i (k + 1) = midR is n i k := by
  unfold midR
  refine List.map_congr_left fun t ht => ?_
  split
  · rfl
  · split
    · rw [bitN, if_neg (by rw [h]; decide), Nat.or_zero]
    · rfl

/-! ### The relations -/
def e0 : Ev := ⟨0, 0, 0, false, false⟩
def sameT (a b : Ev) : Bool := decide (a.thr = b.thr) && decide (0 ≤ a.thr)
def poB (a b : Ev) : Bool := sameT a b && decide (a.idx < b.idx)
def befB (o : List Int) (i k : Int) : Bool := decide (0 ≤ plI o i) && decide (0 ≤ plI o k) && decide (plI o i < plI o k)
def ordAt (x : Ex) (loc : Int) : List Int := x.order.getD loc.toNat []
def fenB (p : Prg) (a b : Ev) : Bool := (((p.getD a.thr.toNat []).take b.idx.toNat).drop (a.idx.toNat + 1)).any fun y => decide (y.op = 4)
def pairB (p : Prg) (x : Ex) (L : List Ev) (j i k : Nat) : Bool :=
  match j with
  | 0 => poB (L.getD i e0) (L.getD k e0)
  | 1 => decide ((L.getD i e0).loc = (L.getD k e0).loc)
  | 2 => !sameT (L.getD i e0) (L.getD k e0)
  | 3 => decide (x.from_.getD k 0 = (i : Int))
  | 4 => befB (ordAt x (L.getD i e0).loc) i k
  | 5 => (L.getD i e0).rd && (L.getD k e0).wr && !decide (i = k) && befB (ordAt x (L.getD i e0).loc) (x.from_.getD i 0) k
  | 6 => poB (L.getD i e0) (L.getD k e0) && fenB p (L.getD i e0) (L.getD k e0)
  | 7 => (L.getD i e0).wr && !(L.getD i e0).rd && (L.getD k e0).rd && !(L.getD k e0).wr
  | 8 => (L.getD i e0).wr && !(L.getD i e0).rd && (L.getD k e0).wr && !(L.getD k e0).rd
  | _ => decide (i = k)
def relO (p : Prg) (x : Ex) (j : Nat) : List Int := relN (pairB p x (evs p) j) (evs p).length
theorem plI_ge {o : List Int} {n : Int} : 0 ≤ plI o n ↔ n ∈ o := by
  have := plI_lt (xs := o) (n := n)
  constructor
  · intro h
    by_cases hm : n ∈ o
    · exact hm
    · have := this.2 hm; omega
  · intro h
    rcases Int.lt_or_le (plI o n) 0 with h1 | h1
    · exact absurd h (this.1 h1)
    · exact h1
theorem befB_false {o : List Int} {i k : Int} (h : i ∉ o ∨ k ∉ o) : befB o i k = false := by
  unfold befB
  rcases h with h | h
  · rw [decide_eq_false (fun hg => h (plI_ge.1 hg))]; rfl
  · rw [decide_eq_false (p := 0 ≤ plI o k) (fun hg => h (plI_ge.1 hg))]; simp
theorem befB_mem {o : List Int} {i k : Int} (h1 : i ∈ o) (h2 : k ∈ o) : befB o i k = decide (plI o i < plI o k) := by
  unfold befB
  rw [decide_eq_true (plI_ge.2 h1), decide_eq_true (plI_ge.2 h2)]
  rfl
section
variable {p : Prg} {x : Ex}
theorem cand_loc (h : CandOk p x) {i : Nat} (hi : i < (evs p).length) : ∃ l : Nat, l ≤ 2 ∧ (evs p)[i].loc = l ∧ (ordAt x (evs p)[i].loc).Perm (wrs (evs p) l) := by
  obtain ⟨l, hl, h2⟩ : ∃ l : Nat, (evs p)[i].loc = l ∧ l ≤ 2 := by
    rcases evs_loc h.1.1 _ (List.getElem_mem hi) with e | e | e
    · exact ⟨0, e, by omega⟩
    · exact ⟨1, e, by omega⟩
    · exact ⟨2, e, by omega⟩
  refine ⟨l, h2, hl, ?_⟩
  unfold ordAt
  rw [hl, Int.toNat_natCast]
  exact (h.2.2.2 l (by omega)).1
/-- An event lies in the order of a location just if it writes it. -/
theorem mem_ord (h : CandOk p x) {i k : Nat} (hi : i < (evs p).length) (hk : k < (evs p).length) : ((k : Int) ∈ ordAt x (evs p)[i].loc) ↔ ((evs p)[k].wr = true ∧ (evs p)[k].loc = (evs p)[i].loc) := by
  obtain ⟨l, _, hl, hp⟩ := cand_loc h hi
  rw [hp.mem_iff, mem_wrs]
  constructor
  · rintro ⟨j, hj, e, hw⟩
    obtain rfl : k = j := by omega
    unfold wrl at hw
    simp only [Bool.and_eq_true, decide_eq_true_iff] at hw
    exact ⟨hw.1, by rw [hl]; exact hw.2⟩
  · rintro ⟨hw, hloc⟩
    exact ⟨k, hk, rfl, by unfold wrl; simp [hw, hloc, hl]⟩
theorem spec_rf (h : CandOk p x) {i k : Nat} (hi : i < (evs p).length) (hk : k < (evs p).length) : ((evs p)[k].rd && decide (x.from_.getD k 0 = (i : Int))) = decide (x.from_.getD k 0 = (i : Int)) := by
  cases hr : (evs p)[k].rd
  · have h1 := h.2.1.2 k hk
    rw [if_neg (by rw [hr]; decide)] at h1
    rw [h1]
    simp only [Bool.false_and]
    exact (decide_eq_false (by omega)).symm
  · simp
theorem spec_co (h : CandOk p x) {i k : Nat} (hi : i < (evs p).length) (hk : k < (evs p).length) :
    ((evs p)[i].wr && (evs p)[k].wr && decide ((evs p)[i].loc = (evs p)[k].loc) && decide (plI (ordAt x (evs p)[i].loc) i < plI (ordAt x (evs p)[i].loc) k)) = befB (ordAt x (evs p)[i].loc) i k := by
  have m1 := mem_ord h hi hi
  have m2 := mem_ord h hi hk
  by_cases h1 : (evs p)[i].wr = true
  · by_cases h2 : (evs p)[k].wr = true ∧ (evs p)[k].loc = (evs p)[i].loc
    · rw [befB_mem (m1.2 ⟨h1, rfl⟩) (m2.2 h2)]
      simp [h1, h2.1, h2.2]
    · rw [befB_false (.inr fun hm => h2 (m2.1 hm))]
      by_cases h3 : (evs p)[k].wr = true
      · have h4 : ¬ (evs p)[i].loc = (evs p)[k].loc := fun e => h2 ⟨h3, e.symm⟩
        simp [h4]
      · simp [h3]
  · rw [befB_false (.inl fun hm => h1 (m1.1 hm).1)]
    simp [h1]
theorem spec_fr (h : CandOk p x) {i k : Nat} (hi : i < (evs p).length) (hk : k < (evs p).length) :
    ((evs p)[i].rd && (evs p)[k].wr && decide ((evs p)[i].loc = (evs p)[k].loc) && !decide (i = k) && decide (plI (ordAt x (evs p)[i].loc) (x.from_.getD i 0) < plI (ordAt x (evs p)[i].loc) k)) = ((evs p)[i].rd && (evs p)[k].wr && !decide (i = k) && befB (ordAt x (evs p)[i].loc) (x.from_.getD i 0) k) := by
  cases hr : (evs p)[i].rd
  · simp
  · cases hw : (evs p)[k].wr
    · simp
    · have m2 := mem_ord h hi hk
      by_cases hl : (evs p)[k].loc = (evs p)[i].loc
      · have h1 := h.2.1.2 i hi
        rw [if_pos hr] at h1
        obtain ⟨l, _, hl2, hp⟩ := cand_loc h hi
        have m1 : x.from_.getD i 0 ∈ ordAt x (evs p)[i].loc := by rw [hp.mem_iff, ← hl2]; exact h1.1
        rw [befB_mem m1 (m2.2 ⟨hw, hl⟩)]
        simp [hl]
      · have h4 : ¬ (evs p)[i].loc = (evs p)[k].loc := fun e => hl e.symm
        rw [befB_false (.inr fun hm => hl (m2.1 hm).2)]
        simp [h4]
end

end Go.Proofs.YtfgpbnncdfcjjaaDoor
