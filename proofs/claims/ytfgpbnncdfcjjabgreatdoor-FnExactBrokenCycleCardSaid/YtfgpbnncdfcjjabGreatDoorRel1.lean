/-
  Relations as rows of bits; the relations on the events of a candidate. No program in sight. Laws of the relations on the events of a candidate. No program in sight. Bits of numbers as the walks write them. No program in sight. Operations on relations that are rows of bits. No program in sight. Laws between the relations on the events of a candidate, and of closures. No program in sight. Counts of pairs, relations without cycles, and the shortest cycle that a search finds, plainly. No program in sight.
-/
import Derived.Test.YtfgpbnncdfcjjabGreatDoorCands
import Derived.Test.YtfgpbnncdfcjjabGreatDoorWrCV

/-! Relations as rows of bits; the relations on the events of a candidate. No program in sight. -/
namespace Go.Proofs.YtfgpbnncdfcjjabGreatDoor
open Go.RowKit
set_option linter.unusedVariables false
set_option maxRecDepth 100000

/-- The number whose bits are those of f below n. -/
def bitN (f : Nat → Bool) : Nat → Nat
  | 0 => 0
  | n + 1 => bitN f n ||| (if f n = true then 1 <<< n else 0)
theorem bitN_bit (f : Nat → Bool) : ∀ n k, (bitN f n).testBit k = (decide (k < n) && f k)
  | 0, k => by simp [bitN]
  | n + 1, k => by
    rw [bitN, Nat.testBit_or, bitN_bit f n k]
    by_cases hf : f n = true
    · rw [if_pos hf, Nat.shiftLeft_eq, Nat.one_mul, Nat.testBit_two_pow]
      by_cases hk : n = k
      · subst hk; simp [hf]
      · have : decide (k < n + 1) = decide (k < n) := decide_eq_decide.2 (by omega)
        simp [hk, this]
    · rw [if_neg hf, Nat.zero_testBit, Bool.or_false]
      by_cases hk : k = n
      · subst hk
        have : f k = false := by simpa using hf
        simp [this]
      · have : decide (k < n + 1) = decide (k < n) := decide_eq_decide.2 (by omega)
        rw [this]
theorem bitN_lt (f : Nat → Bool) : ∀ n, bitN f n < 2 ^ n
  | 0 => by simp [bitN]
  | n + 1 => by
    rw [bitN]
    refine Nat.or_lt_two_pow (Nat.lt_of_lt_of_le (bitN_lt f n) (Nat.pow_le_pow_right (by omega) (by omega))) ?_
    split
    · rw [Nat.shiftLeft_eq, Nat.one_mul]
      exact Nat.pow_lt_pow_right (by omega) (by omega)
    · exact Nat.two_pow_pos _
theorem bitN_congr {f g : Nat → Bool} : ∀ {n : Nat}, (∀ k, k < n → f k = g k) → bitN f n = bitN g n
  | 0, _ => rfl
  | n + 1, h => by
    rw [bitN, bitN, bitN_congr fun k hk => h k (by omega), h n (by omega)]
def relN (is : Nat → Nat → Bool) (n : Nat) : List Int := (List.range n).map fun i => ((bitN (is i) n : Nat) : Int)
theorem relN_length (is : Nat → Nat → Bool) (n : Nat) : (relN is n).length = n := by unfold relN; simp
theorem relN_get (is : Nat → Nat → Bool) (n i : Nat) (h : i < (relN is n).length) : (relN is n)[i] = ((bitN (is i) n : Nat) : Int) := by simp only [relN, List.getElem_map, List.getElem_range]
theorem relN_congr {f g : Nat → Nat → Bool} {n : Nat} (h : ∀ i k, i < n → k < n → f i k = g i k) : relN f n = relN g n := by
  unfold relN
  refine List.map_congr_left fun i hi => ?_
  have hi := List.mem_range.1 hi
  rw [bitN_congr fun k hk => h i k hi hk]
/-- While it is built: rows below i are done, row i up to k. -/
def midR (is : Nat → Nat → Bool) (n i k : Nat) : List Int := (List.range n).map fun t => if t < i then ((bitN (is t) n : Nat) : Int) else if t = i then ((bitN (is i) k : Nat) : Int) else 0
theorem midR_length (is : Nat → Nat → Bool) (n i k : Nat) : (midR is n i k).length = n := by unfold midR; simp
theorem midR_get (is : Nat → Nat → Bool) (n i k : Nat) (h : i < (midR is n i k).length) : (midR is n i k)[i] = ((bitN (is i) k : Nat) : Int) := by simp [midR]
theorem midR_zero (is : Nat → Nat → Bool) (n : Nat) : midR is n 0 0 = List.replicate n 0 := by
  unfold midR
  apply List.ext_getElem
  · simp
  · intro i h1 h2
    simp only [List.getElem_map, List.getElem_range, List.getElem_replicate]
    rw [if_neg (by omega)]
    split <;> rfl
theorem midR_next (is : Nat → Nat → Bool) (n i : Nat) : midR is n i n = midR is n (i + 1) 0 := by
  unfold midR
  refine List.map_congr_left fun t ht => ?_
  by_cases h1 : t < i
  · rw [if_pos h1, if_pos (by omega)]
  · rw [if_neg h1]
    by_cases h2 : t = i
    · subst h2
      rw [if_pos rfl, if_pos (by omega)]
    · rw [if_neg h2, if_neg (by omega)]
      split <;> rfl
theorem midR_all (is : Nat → Nat → Bool) (n : Nat) : midR is n n 0 = relN is n := by
  unfold midR relN
  refine List.map_congr_left fun t ht => ?_
  rw [if_pos (List.mem_range.1 ht)]
theorem midR_set (is : Nat → Nat → Bool) (n i k : Nat) : (midR is n i k).set i ((bitN (is i) (k + 1) : Nat) : Int) = midR is n i (k + 1) := by
  apply List.ext_getElem
  · simp [midR_length]
  · intro t h1 h2
    have ht : t < n := by rw [midR_length] at h2; exact h2
    by_cases e : i = t
    · subst e
      rw [List.getElem_set_self, midR_get]
    · rw [List.getElem_set_ne e]
      simp only [midR, List.getElem_map, List.getElem_range]
      rw [if_neg (show ¬ t = i from fun h => e h.symm), if_neg (show ¬ t = i from fun h => e h.symm)]
theorem midR_same (is : Nat → Nat → Bool) (n i k : Nat) (h : is i k = false) : midR is n i (k + 1) = midR is n i k := by
  unfold midR
  refine List.map_congr_left fun t ht => ?_
  split
  · rfl
  · split
    · rw [bitN, if_neg (by rw [h]; decide), Nat.or_zero]
    · rfl

/-! ### The relations -/
def e0 : Ev := ⟨0, 0, 0, false, false⟩
def sameT (a b : Ev) : Bool := decide (a.thr = b.thr) && decide (0 ≤ a.thr)
def poB (a b : Ev) : Bool := sameT a b && decide (a.idx < b.idx)
def befB (o : List Int) (i k : Int) : Bool := decide (0 ≤ plI o i) && decide (0 ≤ plI o k) && decide (plI o i < plI o k)
def ordAt (x : Ex) (loc : Int) : List Int := x.order.getD loc.toNat []
def fenB (p : Prg) (a b : Ev) : Bool := (((p.getD a.thr.toNat []).take b.idx.toNat).drop (a.idx.toNat + 1)).any fun y => decide (y.op = 4)
def pairB (p : Prg) (x : Ex) (L : List Ev) (j i k : Nat) : Bool :=
  match j with
  | 0 => poB (L.getD i e0) (L.getD k e0)
  | 1 => decide ((L.getD i e0).loc = (L.getD k e0).loc)
  | 2 => !sameT (L.getD i e0) (L.getD k e0)
  | 3 => decide (x.from_.getD k 0 = (i : Int))
  | 4 => befB (ordAt x (L.getD i e0).loc) i k
  | 5 => (L.getD i e0).rd && (L.getD k e0).wr && !decide (i = k) && befB (ordAt x (L.getD i e0).loc) (x.from_.getD i 0) k
  | 6 => poB (L.getD i e0) (L.getD k e0) && fenB p (L.getD i e0) (L.getD k e0)
  | 7 => (L.getD i e0).wr && !(L.getD i e0).rd && (L.getD k e0).rd && !(L.getD k e0).wr
  | 8 => (L.getD i e0).wr && !(L.getD i e0).rd && (L.getD k e0).wr && !(L.getD k e0).rd
  | _ => decide (i = k)
def relO (p : Prg) (x : Ex) (j : Nat) : List Int := relN (pairB p x (evs p) j) (evs p).length
theorem plI_ge {o : List Int} {n : Int} : 0 ≤ plI o n ↔ n ∈ o := by
  have := plI_lt (xs := o) (n := n)
  constructor
  · intro h
    by_cases hm : n ∈ o
    · exact hm
    · have := this.2 hm; omega
  · intro h
    rcases Int.lt_or_le (plI o n) 0 with h1 | h1
    · exact absurd h (this.1 h1)
    · exact h1
theorem befB_false {o : List Int} {i k : Int} (h : i ∉ o ∨ k ∉ o) : befB o i k = false := by
  unfold befB
  rcases h with h | h
  · rw [decide_eq_false (fun hg => h (plI_ge.1 hg))]; rfl
  · rw [decide_eq_false (p := 0 ≤ plI o k) (fun hg => h (plI_ge.1 hg))]; simp
theorem befB_mem {o : List Int} {i k : Int} (h1 : i ∈ o) (h2 : k ∈ o) : befB o i k = decide (plI o i < plI o k) := by
  unfold befB
  rw [decide_eq_true (plI_ge.2 h1), decide_eq_true (plI_ge.2 h2)]
  rfl
section
variable {p : Prg} {x : Ex}
theorem cand_loc (h : CandOk p x) {i : Nat} (hi : i < (evs p).length) : ∃ l : Nat, l ≤ 2 ∧ (evs p)[i].loc = l ∧ (ordAt x (evs p)[i].loc).Perm (wrs (evs p) l) := by
  obtain ⟨l, hl, h2⟩ : ∃ l : Nat, (evs p)[i].loc = l ∧ l ≤ 2 := by
    rcases evs_loc h.1.1 _ (List.getElem_mem hi) with e | e | e
    · exact ⟨0, e, by omega⟩
    · exact ⟨1, e, by omega⟩
    · exact ⟨2, e, by omega⟩
  refine ⟨l, h2, hl, ?_⟩
  unfold ordAt
  rw [hl, Int.toNat_natCast]
  exact (h.2.2.2 l (by omega)).1
/-- An event lies in the order of a location just if it writes it. -/
theorem mem_ord (h : CandOk p x) {i k : Nat} (hi : i < (evs p).length) (hk : k < (evs p).length) : ((k : Int) ∈ ordAt x (evs p)[i].loc) ↔ ((evs p)[k].wr = true ∧ (evs p)[k].loc = (evs p)[i].loc) := by
  obtain ⟨l, _, hl, hp⟩ := cand_loc h hi
  rw [hp.mem_iff, mem_wrs]
  constructor
  · rintro ⟨j, hj, e, hw⟩
    obtain rfl : k = j := by omega
    unfold wrl at hw
    simp only [Bool.and_eq_true, decide_eq_true_iff] at hw
    exact ⟨hw.1, by rw [hl]; exact hw.2⟩
  · rintro ⟨hw, hloc⟩
    exact ⟨k, hk, rfl, by unfold wrl; simp [hw, hloc, hl]⟩
theorem spec_rf (h : CandOk p x) {i k : Nat} (hi : i < (evs p).length) (hk : k < (evs p).length) : ((evs p)[k].rd && decide (x.from_.getD k 0 = (i : Int))) = decide (x.from_.getD k 0 = (i : Int)) := by
  cases hr : (evs p)[k].rd
  · have h1 := h.2.1.2 k hk
    rw [if_neg (by rw [hr]; decide)] at h1
    rw [h1]
    simp only [Bool.false_and]
    exact (decide_eq_false (by omega)).symm
  · simp
theorem spec_co (h : CandOk p x) {i k : Nat} (hi : i < (evs p).length) (hk : k < (evs p).length) :
    ((evs p)[i].wr && (evs p)[k].wr && decide ((evs p)[i].loc = (evs p)[k].loc) && decide (plI (ordAt x (evs p)[i].loc) i < plI (ordAt x (evs p)[i].loc) k)) = befB (ordAt x (evs p)[i].loc) i k := by
  have m1 := mem_ord h hi hi
  have m2 := mem_ord h hi hk
  by_cases h1 : (evs p)[i].wr = true
  · by_cases h2 : (evs p)[k].wr = true ∧ (evs p)[k].loc = (evs p)[i].loc
    · rw [befB_mem (m1.2 ⟨h1, rfl⟩) (m2.2 h2)]
      simp [h1, h2.1, h2.2]
    · rw [befB_false (.inr fun hm => h2 (m2.1 hm))]
      by_cases h3 : (evs p)[k].wr = true
      · have h4 : ¬ (evs p)[i].loc = (evs p)[k].loc := fun e => h2 ⟨h3, e.symm⟩
        simp [h4]
      · simp [h3]
  · rw [befB_false (.inl fun hm => h1 (m1.1 hm).1)]
    simp [h1]
theorem spec_fr (h : CandOk p x) {i k : Nat} (hi : i < (evs p).length) (hk : k < (evs p).length) :
    ((evs p)[i].rd && (evs p)[k].wr && decide ((evs p)[i].loc = (evs p)[k].loc) && !decide (i = k) && decide (plI (ordAt x (evs p)[i].loc) (x.from_.getD i 0) < plI (ordAt x (evs p)[i].loc) k)) = ((evs p)[i].rd && (evs p)[k].wr && !decide (i = k) && befB (ordAt x (evs p)[i].loc) (x.from_.getD i 0) k) := by
  cases hr : (evs p)[i].rd
  · simp
  · cases hw : (evs p)[k].wr
    · simp
    · have m2 := mem_ord h hi hk
      by_cases hl : (evs p)[k].loc = (evs p)[i].loc
      · have h1 := h.2.1.2 i hi
        rw [if_pos hr] at h1
        obtain ⟨l, _, hl2, hp⟩ := cand_loc h hi
        have m1 : x.from_.getD i 0 ∈ ordAt x (evs p)[i].loc := by rw [hp.mem_iff, ← hl2]; exact h1.1
        rw [befB_mem m1 (m2.2 ⟨hw, hl⟩)]
        simp [hl]
      · have h4 : ¬ (evs p)[i].loc = (evs p)[k].loc := fun e => hl e.symm
        rw [befB_false (.inr fun hm => hl (m2.1 hm).2)]
        simp [h4]
end

end Go.Proofs.YtfgpbnncdfcjjabGreatDoor

/-! Laws of the relations on the events of a candidate. No program in sight. -/
namespace Go.Proofs.YtfgpbnncdfcjjabGreatDoor
open Go.RowKit
set_option linter.unusedVariables false
set_option maxRecDepth 100000

theorem plF_get {n : Int} : ∀ {xs : List Int} {i : Nat}, n ∈ xs → ∃ k, ∃ h : k < xs.length, plF i xs n = ((i + k : Nat) : Int) ∧ xs[k] = n
  | [], _, h => by cases h
  | y :: xs, i, h => by
    by_cases hy : y = n
    · exact ⟨0, by simp, by rw [plF, if_pos hy]; rfl, hy⟩
    · have hm : n ∈ xs := by
        rcases List.mem_cons.1 h with e | h
        · exact absurd e.symm hy
        · exact h
      obtain ⟨k, hk, h1, h2⟩ := plF_get (i := i + 1) hm
      exact ⟨k + 1, by simpa using hk, by rw [plF, if_neg hy, h1]; congr 1; omega, by simpa using h2⟩
theorem plI_get {n : Int} {xs : List Int} (h : n ∈ xs) : ∃ k, ∃ hk : k < xs.length, plI xs n = (k : Int) ∧ xs[k] = n := by
  obtain ⟨k, hk, h1, h2⟩ := plF_get (i := 0) h
  exact ⟨k, hk, by unfold plI; rw [h1, Nat.zero_add], h2⟩
theorem plI_inj {xs : List Int} {a b : Int} (ha : a ∈ xs) (hb : b ∈ xs) (h : plI xs a = plI xs b) : a = b := by
  obtain ⟨i, hi, e1, h1⟩ := plI_get ha
  obtain ⟨k, hk, e2, h2⟩ := plI_get hb
  obtain rfl : i = k := by omega
  rw [← h1, ← h2]
theorem plI_head {xs : List Int} {a : Int} (h : xs.head? = some a) : plI xs a = 0 := by
  cases xs with
  | nil => cases h
  | cons y ys =>
    simp only [List.head?_cons, Option.some.injEq] at h
    subst h
    unfold plI
    rw [plF, if_pos rfl]
    rfl
theorem getD_evs {L : List Ev} {i : Nat} (h : i < L.length) : L.getD i e0 = L[i] := by simp [h]
section
variable {p : Prg} {x : Ex}
theorem evs_ini {l : Nat} (hl : l ≤ 2) : ∃ h : l < (evs p).length, (evs p)[l].loc = l ∧ (evs p)[l].wr = true ∧ (evs p)[l].rd = false := by
  have h3 : l < ini.length := by show l < 3; omega
  have hlt : l < (evs p).length := by unfold evs; rw [List.length_append]; omega
  refine ⟨hlt, ?_⟩
  have he : (evs p)[l] = ini[l] := List.getElem_append_left h3
  rw [he]
  have : l = 0 ∨ l = 1 ∨ l = 2 := by omega
  rcases this with rfl | rfl | rfl <;> exact ⟨rfl, rfl, rfl⟩
theorem first_writes (h : CandOk p x) {l i : Nat} (hl : l ≤ 2) (hi : i < (evs p).length) : pairB p x (evs p) 4 l i = ((evs p)[i].wr && decide ((evs p)[i].loc = (l : Int)) && !decide (i = l)) := by
  obtain ⟨hll, hloc, hw, _⟩ := evs_ini (p := p) hl
  show befB (ordAt x ((evs p).getD l e0).loc) l i = _
  rw [getD_evs hll]
  have m1 := (mem_ord h hll hll).2 ⟨hw, rfl⟩
  have m2 := mem_ord h hll hi
  have hhd : (ordAt x (evs p)[l].loc).head? = some (l : Int) := by
    unfold ordAt
    rw [hloc, Int.toNat_natCast]
    exact (h.2.2.2 l (by omega)).2
  have h0 := plI_head hhd
  generalize ordAt x (evs p)[l].loc = o at m1 m2 hhd h0 ⊢
  by_cases hm : (evs p)[i].wr = true ∧ (evs p)[i].loc = (evs p)[l].loc
  · have mi := m2.2 hm
    rw [befB_mem m1 mi, h0, hm.1, hm.2, hloc]
    by_cases e : i = l
    · subst e
      simp [h0]
    · obtain ⟨k, hk, e1, h1⟩ := plI_get mi
      have hk0 : 0 < k := by
        rcases Nat.eq_zero_or_pos k with h2 | h2
        · exfalso
          have e3 : plI o (i : Int) = plI o (l : Int) := by rw [h0, e1, h2]; rfl
          have := plI_inj mi m1 e3
          omega
        · exact h2
      rw [e1]
      simp [e, hk0]
  · rw [befB_false (.inr fun hm' => hm (m2.1 hm'))]
    by_cases h1 : (evs p)[i].wr = true
    · have h2 : ¬ (evs p)[i].loc = (l : Int) := fun e => hm ⟨h1, by rw [e, hloc]⟩
      simp [h2]
    · simp [h1]
theorem order_total (h : CandOk p x) {i k : Nat} (hi : i < (evs p).length) (hk : k < (evs p).length) :
    (pairB p x (evs p) 4 i k || pairB p x (evs p) 4 k i) = ((evs p)[i].wr && (evs p)[k].wr && decide ((evs p)[i].loc = (evs p)[k].loc) && !decide (i = k)) := by
  show (befB (ordAt x ((evs p).getD i e0).loc) i k || befB (ordAt x ((evs p).getD k e0).loc) k i) = _
  rw [getD_evs hi, getD_evs hk]
  have mii := mem_ord h hi hi
  have mik := mem_ord h hi hk
  have mki := mem_ord h hk hi
  have mkk := mem_ord h hk hk
  by_cases hm : (evs p)[i].wr = true ∧ (evs p)[k].wr = true ∧ (evs p)[i].loc = (evs p)[k].loc
  · obtain ⟨h1, h2, h3⟩ := hm
    have a1 := mii.2 ⟨h1, rfl⟩
    have a2 := mik.2 ⟨h2, h3.symm⟩
    rw [← h3] at *
    rw [befB_mem a1 a2, befB_mem a2 a1, h1, h2]
    by_cases e : i = k
    · subst e; simp
    · have hne : plI (ordAt x (evs p)[i].loc) (i : Int) ≠ plI (ordAt x (evs p)[i].loc) (k : Int) := fun e' => by
        have := plI_inj a1 a2 e'
        omega
      simp only [Bool.true_and, decide_true, e, decide_false, Bool.not_false, Bool.or_eq_true, decide_eq_true_iff]
      omega
  · have z1 : befB (ordAt x (evs p)[i].loc) (i : Int) (k : Int) = false := befB_false (by
      by_cases h1 : (evs p)[i].wr = true
      · right
        intro hm'
        have := mik.1 hm'
        exact hm ⟨h1, this.1, this.2.symm⟩
      · left
        exact fun hm' => h1 (mii.1 hm').1)
    have z2 : befB (ordAt x (evs p)[k].loc) (k : Int) (i : Int) = false := befB_false (by
      by_cases h1 : (evs p)[k].wr = true
      · right
        intro hm'
        have := mki.1 hm'
        exact hm ⟨this.1, h1, this.2⟩
      · left
        exact fun hm' => h1 (mkk.1 hm').1)
    rw [z1, z2]
    by_cases h1 : (evs p)[i].wr = true
    · by_cases h2 : (evs p)[k].wr = true
      · have h3 : ¬ (evs p)[i].loc = (evs p)[k].loc := fun e => hm ⟨h1, h2, e⟩
        simp [h3]
      · simp [h2]
    · simp [h1]
end

end Go.Proofs.YtfgpbnncdfcjjabGreatDoor

/-! Bits of numbers as the walks write them. No program in sight. -/
namespace Go.Proofs.YtfgpbnncdfcjjabGreatDoor
open Go.RowKit
set_option linter.unusedVariables false
set_option maxRecDepth 100000

theorem ofInt64 (a : Nat) (ha : a < 9223372036854775808) : (BitVec.ofInt 64 (a : Int)).toNat = a := by
  rw [BitVec.ofInt_natCast, BitVec.toNat_ofNat]; exact Nat.mod_eq_of_lt (by omega)
theorem bits_or_nat (a b : Nat) (ha : a < 9223372036854775808) (hb : b < 9223372036854775808) : bits .or .i64 (a : Int) (b : Int) = ((a ||| b : Nat) : Int) := by
  have hx : a ||| b < 2 ^ 63 := Nat.or_lt_two_pow (by omega) (by omega)
  show IntKind.i64.wrap ((BitVec.ofInt 64 (a : Int) ||| BitVec.ofInt 64 (b : Int)).toNat : Int) = _
  rw [BitVec.toNat_or, ofInt64 a ha, ofInt64 b hb, IntKind.wrap_i64]
  omega
theorem bits_and_nat (a b : Nat) (ha : a < 9223372036854775808) (hb : b < 9223372036854775808) : bits .and .i64 (a : Int) (b : Int) = ((a &&& b : Nat) : Int) := by
  have hx : a &&& b < 2 ^ 63 := Nat.and_lt_two_pow _ (by omega)
  show IntKind.i64.wrap ((BitVec.ofInt 64 (a : Int) &&& BitVec.ofInt 64 (b : Int)).toNat : Int) = _
  rw [BitVec.toNat_and, ofInt64 a ha, ofInt64 b hb, IntKind.wrap_i64]
  omega
theorem wrap_pow (k : Nat) (hk : k < 62) : IntKind.i64.wrap ((2 : Int) ^ k) = ((1 <<< k : Nat) : Int) := by
  have h1 : 2 ^ k < 2 ^ 62 := Nat.pow_lt_pow_right (by omega) hk
  have h2 : ((2 : Int) ^ k) = ((2 ^ k : Nat) : Int) := by simp
  rw [Nat.shiftLeft_eq, Nat.one_mul, h2]
  generalize 2 ^ k = m at h1
  exact IntWalk.i64_in _ ⟨by omega, by omega⟩
theorem shl_lt (k : Nat) (hk : k < 62) : 1 <<< k < 9223372036854775808 := by
  rw [Nat.shiftLeft_eq, Nat.one_mul]
  have : 2 ^ k < 2 ^ 62 := Nat.pow_lt_pow_right (by omega) hk
  omega
/-- 'row | 1<<k'. -/
theorem or_bit (a k : Nat) (ha : a < 9223372036854775808) (hk : k < 62) : bits .or .i64 (a : Int) (IntKind.i64.wrap ((2 : Int) ^ k)) = ((a ||| 1 <<< k : Nat) : Int) := by
  rw [wrap_pow k hk]
  exact bits_or_nat _ _ ha (shl_lt k hk)
theorem bitN_small (f : Nat → Bool) {n : Nat} (h : n ≤ 16) : bitN f n < 65536 := by
  have h1 := bitN_lt f n
  have h2 : 2 ^ n ≤ 2 ^ 16 := Nat.pow_le_pow_right (by omega) h
  omega
theorem bitN_step (f : Nat → Bool) (k : Nat) (hk : k < 16) (h : f k = true) : bits .or .i64 ((bitN f k : Nat) : Int) (IntKind.i64.wrap ((2 : Int) ^ k)) = ((bitN f (k + 1) : Nat) : Int) := by
  have := bitN_small f (n := k) (by omega)
  rw [or_bit _ _ (by omega) (by omega), bitN, if_pos h]
/-- 'row>>k&1 == 1'. -/
theorem bit_test (a k : Nat) (ha : a < 9223372036854775808) : (bits .and .i64 ((a : Int) / 2 ^ k) 1 == 1) = a.testBit k := by
  have h1 : ((a : Int) / 2 ^ k) = ((a / 2 ^ k : Nat) : Int) := by simp
  have h2 : a / 2 ^ k ≤ a := Nat.div_le_self _ _
  rw [h1, show (1 : Int) = ((1 : Nat) : Int) from rfl, bits_and_nat _ _ (by omega) (by omega)]
  rw [Nat.testBit_eq_decide_div_mod_eq, Nat.and_one_is_mod, Bool.eq_iff_iff, beq_iff_eq, decide_eq_true_iff]
  omega

end Go.Proofs.YtfgpbnncdfcjjabGreatDoor

/-! Operations on relations that are rows of bits. No program in sight. -/
namespace Go.Proofs.YtfgpbnncdfcjjabGreatDoor
open Go.RowKit
set_option linter.unusedVariables false
set_option maxRecDepth 100000

abbrev Rel := Nat → Nat → Bool
theorem bitN_ext {n : Nat} {a : Nat} {f : Nat → Bool} (h : ∀ k, a.testBit k = (decide (k < n) && f k)) : a = bitN f n := Nat.eq_of_testBit_eq fun k => by rw [h, bitN_bit]
theorem bitN_or (f g : Nat → Bool) (n : Nat) : bitN f n ||| bitN g n = bitN (fun k => f k || g k) n := bitN_ext fun k => by
  rw [Nat.testBit_or, bitN_bit, bitN_bit]
  cases decide (k < n) <;> simp
theorem bitN_and (f g : Nat → Bool) (n : Nat) : bitN f n &&& bitN g n = bitN (fun k => f k && g k) n := bitN_ext fun k => by
  rw [Nat.testBit_and, bitN_bit, bitN_bit]
  cases decide (k < n) <;> simp
theorem bitN_set (f : Nat → Bool) {n i : Nat} (hi : i < n) : bitN f n ||| 1 <<< i = bitN (fun s => f s || decide (s = i)) n := bitN_ext fun k => by
  rw [Nat.testBit_or, bitN_bit, Nat.shiftLeft_eq, Nat.one_mul, Nat.testBit_two_pow]
  by_cases hk : k < n
  · have e : decide (i = k) = decide (k = i) := decide_eq_decide.2 ⟨fun h => h.symm, fun h => h.symm⟩
    simp [hk, e]
  · have : ¬ i = k := by omega
    simp [hk, this]
theorem andNot_nat (a b : Nat) (ha : a < 9223372036854775808) (hb : b < 9223372036854775808) : ∃ c : Nat, bits .andNot .i64 (a : Int) (b : Int) = (c : Int) ∧ c < 9223372036854775808 ∧ ∀ k, c.testBit k = (a.testBit k && !b.testBit k) := by
  refine ⟨a &&& (2 ^ 64 - 1 - b), ?_, Nat.lt_of_le_of_lt Nat.and_le_left ha, fun k => ?_⟩
  · have hx : a &&& (2 ^ 64 - 1 - b) ≤ a := Nat.and_le_left
    show IntKind.i64.wrap ((BitVec.ofInt 64 (a : Int) &&& ~~~BitVec.ofInt 64 (b : Int)).toNat : Int) = _
    rw [BitVec.toNat_and, BitVec.toNat_not, ofInt64 a ha, ofInt64 b hb, IntKind.wrap_i64]
    omega
  · rw [Nat.testBit_and]
    by_cases hk : k < 64
    · congr 1
      have h2 : b < 2 ^ 64 := by omega
      rw [show 2 ^ 64 - 1 - b = 2 ^ 64 - (b + 1) by omega, Nat.testBit_two_pow_sub_succ h2 k]
      simp [hk]
    · have h1 : a.testBit k = false := Nat.testBit_lt_two_pow (Nat.lt_of_lt_of_le ha (Nat.le_trans (by decide : 9223372036854775808 ≤ 2 ^ 64) (Nat.pow_le_pow_right (by omega) (by omega))))
      rw [h1]; rfl
theorem andNot_bitN (f g : Nat → Bool) {n : Nat} (h : n ≤ 16) : bits .andNot .i64 ((bitN f n : Nat) : Int) ((bitN g n : Nat) : Int) = ((bitN (fun k => f k && !g k) n : Nat) : Int) := by
  have h1 := bitN_small f h
  have h2 := bitN_small g h
  obtain ⟨c, e, _, hc⟩ := andNot_nat (bitN f n) (bitN g n) (by omega) (by omega)
  rw [e]
  congr 1
  refine bitN_ext fun k => ?_
  rw [hc, bitN_bit, bitN_bit]
  cases decide (k < n) <;> simp
theorem or_bitN (f g : Nat → Bool) {n : Nat} (h : n ≤ 16) : bits .or .i64 ((bitN f n : Nat) : Int) ((bitN g n : Nat) : Int) = ((bitN (fun k => f k || g k) n : Nat) : Int) := by
  have h1 := bitN_small f h
  have h2 := bitN_small g h
  rw [bits_or_nat _ _ (by omega) (by omega), bitN_or]
theorem and_bitN (f g : Nat → Bool) {n : Nat} (h : n ≤ 16) : bits .and .i64 ((bitN f n : Nat) : Int) ((bitN g n : Nat) : Int) = ((bitN (fun k => f k && g k) n : Nat) : Int) := by
  have h1 := bitN_small f h
  have h2 := bitN_small g h
  rw [bits_and_nat _ _ (by omega) (by omega), bitN_and]
theorem set_bitN (f : Nat → Bool) {n i : Nat} (h : n ≤ 16) (hi : i < n) : bits .or .i64 ((bitN f n : Nat) : Int) (IntKind.i64.wrap ((2 : Int) ^ i)) = ((bitN (fun s => f s || decide (s = i)) n : Nat) : Int) := by
  have h1 := bitN_small f h
  rw [or_bit _ _ (by omega) (by omega), bitN_set f hi]
/-- 'related(r, i, k)', 'l2Has(r, i, k)'. -/
theorem test_bitN (f : Nat → Bool) {n k : Nat} (h : n ≤ 16) (hk : k < n) : (bits .and .i64 (((bitN f n : Nat) : Int) / 2 ^ k) 1 == 1) = f k := by
  have h1 := bitN_small f h
  rw [bit_test _ _ (by omega), bitN_bit, decide_eq_true hk, Bool.true_and]

/-! ### The operations -/
def unR (a b : Rel) : Rel := fun i k => a i k || b i k
def meR (a b : Rel) : Rel := fun i k => a i k && b i k
def miR (a b : Rel) : Rel := fun i k => a i k && !b i k
def inR (a : Rel) : Rel := fun i k => a k i
def coR (n : Nat) (a b : Rel) : Rel := fun i k => (List.range n).any fun t => a i t && b t k
/-- One middle element more. -/
def clS (m : Nat) (a : Rel) : Rel := fun i k => a i k || (a i m && a m k)
def clR : Nat → Rel → Rel
  | 0, a => a
  | m + 1, a => clS m (clR m a)
theorem co_step (n m : Nat) (a b : Rel) (i : Nat) (hm : m < n) (h : a i m = true) (f : Nat → Bool) (hf : ∀ k, f k = (List.range m).any fun t => a i t && b t k) : (fun k => f k || b m k) = fun k => (List.range (m + 1)).any fun t => a i t && b t k := by
  funext k
  rw [List.range_succ, List.any_append, hf]
  simp [h]
theorem any_range_succ (m : Nat) (g : Nat → Bool) : (List.range (m + 1)).any g = ((List.range m).any g || g m) := by
  rw [List.range_succ, List.any_append]
  simp
/-- A list of numbers that is such a relation. -/
def IsRel (n : Nat) (xs : List Int) : Prop := n ≤ 16 ∧ ∃ a : Rel, xs = relN a n

end Go.Proofs.YtfgpbnncdfcjjabGreatDoor

/-! Laws between the relations on the events of a candidate, and of closures. No program in sight. -/
namespace Go.Proofs.YtfgpbnncdfcjjabGreatDoor
open Go.RowKit
set_option linter.unusedVariables false
set_option maxRecDepth 100000

def TrR (n : Nat) (a : Rel) : Prop := ∀ i k m, i < n → k < n → m < n → a i k = true → a k m = true → a i m = true
def IrR (n : Nat) (a : Rel) : Prop := ∀ i, i < n → a i i = false
def SubR (n : Nat) (a b : Rel) : Prop := ∀ i k, i < n → k < n → a i k = true → b i k = true
def EqR (n : Nat) (a b : Rel) : Prop := ∀ i k, i < n → k < n → a i k = b i k
/-- A transitive relation is its own closure. -/
theorem cl_trans {n : Nat} {a : Rel} (h : TrR n a) : ∀ m, m ≤ n → EqR n (clR m a) a
  | 0, _ => fun _ _ _ _ => rfl
  | m + 1, hm => fun i k hi hk => by
    have ih := cl_trans h m (by omega)
    show (clR m a i k || (clR m a i m && clR m a m k)) = a i k
    rw [ih i k hi hk, ih i m hi (by omega), ih m k (by omega) hk]
    cases h1 : a i m
    · simp
    · cases h2 : a m k
      · simp
      · rw [h i m k hi (by omega) hk h1 h2]; rfl
theorem relN_eqR {n : Nat} {a b : Rel} (h : EqR n a b) : relN a n = relN b n := relN_congr h
theorem un_sub {n : Nat} {a b : Rel} (h : SubR n a b) : relN (unR a b) n = relN b n := relN_congr fun i k hi hk => by
  show (a i k || b i k) = b i k
  cases ha : a i k
  · simp
  · rw [h i k hi hk ha]; rfl
theorem un_subs {n : Nat} {a b c : Rel} (h1 : SubR n a c) (h2 : SubR n b c) : SubR n (unR a b) c := fun i k hi hk h => by
  rcases Bool.or_eq_true_iff.1 h with h | h
  · exact h1 i k hi hk h
  · exact h2 i k hi hk h
section
variable {p : Prg} {x : Ex}
theorem getE {i : Nat} (hi : i < (evs p).length) : (evs p).getD i e0 = (evs p)[i] := getD_evs hi
theorem poB_tr {a b c : Ev} (h1 : poB a b = true) (h2 : poB b c = true) : poB a c = true := by
  unfold poB sameT at *
  simp only [Bool.and_eq_true, decide_eq_true_iff] at *
  omega
theorem poB_ir (a : Ev) : poB a a = false := by unfold poB; simp
theorem po_tr (n : Nat) : TrR n (pairB p x (evs p) 0) := fun i k m _ _ _ h1 h2 => poB_tr h1 h2
theorem po_ir (n : Nat) : IrR n (pairB p x (evs p) 0) := fun i _ => poB_ir _
theorem befB_iff {o : List Int} {i k : Int} : befB o i k = true ↔ i ∈ o ∧ k ∈ o ∧ plI o i < plI o k := by
  unfold befB
  simp only [Bool.and_eq_true, decide_eq_true_iff, plI_ge]
  exact and_assoc
theorem co_iff {i k : Nat} (hi : i < (evs p).length) (hk : k < (evs p).length) : pairB p x (evs p) 4 i k = true ↔ ((i : Int) ∈ ordAt x (evs p)[i].loc ∧ (k : Int) ∈ ordAt x (evs p)[i].loc ∧ plI (ordAt x (evs p)[i].loc) i < plI (ordAt x (evs p)[i].loc) k) := by
  show befB (ordAt x ((evs p).getD i e0).loc) i k = true ↔ _
  rw [getE hi, befB_iff]
theorem co_tr (h : CandOk p x) : TrR (evs p).length (pairB p x (evs p) 4) := fun i k m hi hk hm h1 h2 => by
  have a1 := (co_iff hi hk).1 h1
  have a2 := (co_iff hk hm).1 h2
  have e := ((mem_ord h hi hk).1 a1.2.1).2
  rw [e] at a2
  exact (co_iff hi hm).2 ⟨a1.1, a2.2.1, Int.lt_trans a1.2.2 a2.2.2⟩
theorem co_ir : IrR (evs p).length (pairB p x (evs p) 4) := fun i hi => by
  cases hc : pairB p x (evs p) 4 i i
  · rfl
  · have := ((co_iff hi hi).1 hc).2.2
    omega
/-- What a read reads from. -/
theorem from_rd (h : CandOk p x) {i t : Nat} (hi : i < (evs p).length) (e : x.from_.getD i 0 = (t : Int)) : (evs p)[i].rd = true ∧ ∃ ht : t < (evs p).length, (evs p)[t].wr = true ∧ (evs p)[t].loc = (evs p)[i].loc := by
  have h1 := h.2.1.2 i hi
  cases hr : (evs p)[i].rd
  · rw [if_neg (by rw [hr]; decide)] at h1
    omega
  · rw [if_pos hr] at h1
    obtain ⟨j, hj, e2, hw⟩ := mem_wrs.1 h1.1
    obtain rfl : t = j := by omega
    unfold wrl at hw
    simp only [Bool.and_eq_true, decide_eq_true_iff] at hw
    exact ⟨rfl, hj, hw.1, hw.2⟩
theorem rd_from (h : CandOk p x) {i : Nat} (hi : i < (evs p).length) (hr : (evs p)[i].rd = true) : ∃ t : Nat, x.from_.getD i 0 = (t : Int) ∧ t ≠ i ∧ ∃ ht : t < (evs p).length, (evs p)[t].wr = true ∧ (evs p)[t].loc = (evs p)[i].loc := by
  have h1 := h.2.1.2 i hi
  rw [if_pos hr] at h1
  obtain ⟨j, hj, e2, hw⟩ := mem_wrs.1 h1.1
  unfold wrl at hw
  simp only [Bool.and_eq_true, decide_eq_true_iff] at hw
  exact ⟨j, e2, fun e => h1.2 (by rw [e2, e]), hj, hw.1, hw.2⟩
theorem fr_iff {i k : Nat} (hi : i < (evs p).length) (hk : k < (evs p).length) : pairB p x (evs p) 5 i k = true ↔ ((evs p)[i].rd = true ∧ (evs p)[k].wr = true ∧ i ≠ k ∧ befB (ordAt x (evs p)[i].loc) (x.from_.getD i 0) k = true) := by
  show ((((evs p).getD i e0).rd && ((evs p).getD k e0).wr && !decide (i = k)) && befB (ordAt x ((evs p).getD i e0).loc) (x.from_.getD i 0) k) = true ↔ _
  rw [getE hi, getE hk]
  simp only [Bool.and_eq_true, Bool.not_eq_true', decide_eq_false_iff_not]
  exact ⟨fun ⟨⟨⟨a, b⟩, c⟩, d⟩ => ⟨a, b, c, d⟩, fun ⟨a, b, c, d⟩ => ⟨⟨⟨a, b⟩, c⟩, d⟩⟩
/-- Reads come before the writes that follow their sources. -/
theorem fr_from (h : CandOk p x) : EqR (evs p).length (pairB p x (evs p) 5) (miR (coR (evs p).length (inR (pairB p x (evs p) 3)) (pairB p x (evs p) 4)) (pairB p x (evs p) 9)) := fun i k hi hk => by
  apply Bool.eq_iff_iff.2
  rw [fr_iff hi hk]
  show _ ↔ (((List.range (evs p).length).any fun t => decide (x.from_.getD i 0 = (t : Int)) && pairB p x (evs p) 4 t k) && !decide (i = k)) = true
  simp only [Bool.and_eq_true, Bool.not_eq_true', decide_eq_false_iff_not, List.any_eq_true, List.mem_range, decide_eq_true_iff]
  constructor
  · rintro ⟨hr, hw, hne, hb⟩
    obtain ⟨t, e, _, ht, htw, htl⟩ := rd_from h hi hr
    have hb' := befB_iff.1 hb
    rw [e, ← htl] at hb'
    exact ⟨⟨t, ht, e, (co_iff ht hk).2 hb'⟩, hne⟩
  · rintro ⟨⟨t, ht, e, hc⟩, hne⟩
    have a1 := (co_iff ht hk).1 hc
    obtain ⟨hr, ht', htw, htl⟩ := from_rd h hi e
    have hm := (mem_ord h ht hk).1 a1.2.1
    refine ⟨hr, hm.1, hne, befB_iff.2 ?_⟩
    rw [e, ← htl]
    exact a1
theorem fence_po : SubR (evs p).length (pairB p x (evs p) 6) (pairB p x (evs p) 0) := fun i k _ _ h => (Bool.and_eq_true_iff.1 h).1
theorem loc_iff {i k : Nat} (hi : i < (evs p).length) (hk : k < (evs p).length) : pairB p x (evs p) 1 i k = true ↔ (evs p)[i].loc = (evs p)[k].loc := by
  show decide (((evs p).getD i e0).loc = ((evs p).getD k e0).loc) = true ↔ _
  rw [getE hi, getE hk, decide_eq_true_iff]
theorem rf_loc (h : CandOk p x) : SubR (evs p).length (pairB p x (evs p) 3) (pairB p x (evs p) 1) := fun i k hi hk hp => by
  have e : x.from_.getD k 0 = (i : Int) := of_decide_eq_true hp
  obtain ⟨_, _, _, h2⟩ := from_rd h hk e
  exact (loc_iff hi hk).2 h2
theorem co_loc (h : CandOk p x) : SubR (evs p).length (pairB p x (evs p) 4) (pairB p x (evs p) 1) := fun i k hi hk hp =>
  (loc_iff hi hk).2 ((mem_ord h hi hk).1 ((co_iff hi hk).1 hp).2.1).2.symm
theorem fr_loc (h : CandOk p x) : SubR (evs p).length (pairB p x (evs p) 5) (pairB p x (evs p) 1) := fun i k hi hk hp => by
  have h1 := (fr_iff hi hk).1 hp
  exact (loc_iff hi hk).2 ((mem_ord h hi hk).1 (befB_iff.1 h1.2.2.2).2.1).2.symm
end

end Go.Proofs.YtfgpbnncdfcjjabGreatDoor

/-! Counts of pairs, relations without cycles, and the shortest cycle that a search finds, plainly. No program in sight. -/
namespace Go.Proofs.YtfgpbnncdfcjjabGreatDoor
open Go.RowKit
set_option linter.unusedVariables false
set_option maxRecDepth 100000

/-! ### Counts -/
def cntN (f : Nat → Bool) : Nat → Nat
  | 0 => 0
  | n + 1 => cntN f n + (if f n = true then 1 else 0)
theorem cntN_le (f : Nat → Bool) : ∀ n, cntN f n ≤ n
  | 0 => Nat.le_refl _
  | n + 1 => by
    have := cntN_le f n
    rw [cntN]
    split <;> omega
theorem cntN_congr {f g : Nat → Bool} : ∀ {n : Nat}, (∀ k, k < n → f k = g k) → cntN f n = cntN g n
  | 0, _ => rfl
  | n + 1, h => by rw [cntN, cntN, cntN_congr fun k hk => h k (by omega), h n (by omega)]
theorem cntN_zero {f : Nat → Bool} : ∀ {n : Nat}, cntN f n = 0 ↔ ∀ k, k < n → f k = false
  | 0 => ⟨fun _ k hk => absurd hk (Nat.not_lt_zero _), fun _ => rfl⟩
  | n + 1 => by
    rw [cntN]
    constructor
    · intro h k hk
      cases hf : f n
      · by_cases e : k = n
        · rw [e]; exact hf
        · exact (cntN_zero (n := n)).1 (by rw [hf] at h; simpa using h) k (by omega)
      · rw [hf] at h; simp at h
    · intro h
      rw [h n (by omega), cntN_zero.2 fun k hk => h k (by omega)]
      rfl
/-- The pairs in the rows below m. -/
def cntR (a : Rel) (n : Nat) : Nat → Nat
  | 0 => 0
  | m + 1 => cntR a n m + cntN (a m) n
theorem cntR_le (a : Rel) (n : Nat) : ∀ m, cntR a n m ≤ m * n
  | 0 => Nat.zero_le _
  | m + 1 => by
    have h1 := cntR_le a n m
    have h2 := cntN_le (a m) n
    rw [cntR, Nat.add_mul, Nat.one_mul]
    omega
theorem cntR_zero {a : Rel} {n : Nat} : ∀ {m : Nat}, cntR a n m = 0 ↔ ∀ i k, i < m → k < n → a i k = false
  | 0 => ⟨fun _ i k hi => absurd hi (Nat.not_lt_zero _), fun _ => rfl⟩
  | m + 1 => by
    rw [cntR]
    constructor
    · intro h i k hi hk
      by_cases e : i = m
      · rw [e]; exact (cntN_zero (f := a m) (n := n)).1 (by omega) k hk
      · exact (cntR_zero (a := a) (n := n) (m := m)).1 (by omega) i k (by omega) hk
    · intro h
      have h1 := cntN_zero.2 fun k hk => h m k (by omega) hk
      have h2 := (cntR_zero (a := a) (n := n) (m := m)).2 fun i k hi hk => h i k (by omega) hk
      omega

/-! ### Without cycles -/
def irB (a : Rel) (n : Nat) : Bool := !(List.range n).any fun i => a i i
def acB (a : Rel) (n : Nat) : Bool := irB (clR n a) n
theorem irB_iff {a : Rel} {n : Nat} : irB a n = true ↔ IrR n a := by
  unfold irB IrR
  rw [Bool.not_eq_true', List.any_eq_false]
  simp only [List.mem_range, Bool.not_eq_true]
theorem cl_sub (a : Rel) : ∀ (m i k : Nat), a i k = true → clR m a i k = true
  | 0, _, _, h => h
  | m + 1, i, k, h => by
    show (clR m a i k || _) = true
    rw [cl_sub a m i k h]
    rfl
theorem cl_empty {a : Rel} {n : Nat} (h : ∀ i k, i < n → k < n → a i k = false) : ∀ m, m ≤ n → ∀ i k, i < n → k < n → clR m a i k = false
  | 0, _, i, k, hi, hk => h i k hi hk
  | m + 1, hm, i, k, hi, hk => by
    show (clR m a i k || (clR m a i m && clR m a m k)) = false
    rw [cl_empty h m (by omega) i k hi hk, cl_empty h m (by omega) i m hi (by omega)]
    rfl
theorem acB_irB {a : Rel} {n : Nat} (h : acB a n = true) : irB a n = true := by
  have h1 := irB_iff.1 h
  rw [irB_iff]
  intro i hi
  cases hc : a i i
  · rfl
  · have := h1 i hi
    rw [cl_sub a n i i hc] at this
    cases this
theorem acB_empty {a : Rel} {n : Nat} (h : cntR a n n = 0) : acB a n = true :=
  irB_iff.2 fun i hi => cl_empty (cntR_zero.1 h) n (Nat.le_refl _) i i hi hi
theorem acB_congr {a b : Rel} {n : Nat} (h : EqR n a b) : acB a n = acB b n := by
  have key : ∀ m, m ≤ n → EqR n (clR m a) (clR m b) := fun m => by
    induction m with
    | zero => exact fun _ => h
    | succ m ih =>
      intro hm i k hi hk
      show (clR m a i k || (clR m a i m && clR m a m k)) = (clR m b i k || (clR m b i m && clR m b m k))
      rw [ih (by omega) i k hi hk, ih (by omega) i m hi (by omega), ih (by omega) m k (by omega) hk]
  have h1 := key n (Nat.le_refl _)
  apply Bool.eq_iff_iff.2
  unfold acB
  rw [irB_iff, irB_iff]
  exact ⟨fun h2 i hi => by rw [← h1 i i hi hi]; exact h2 i hi, fun h2 i hi => by rw [h1 i i hi hi]; exact h2 i hi⟩
/-- A transitive relation without self-pairs has no cycles. -/
theorem acB_trans {a : Rel} {n : Nat} (ht : TrR n a) (hi : IrR n a) : acB a n = true :=
  irB_iff.2 fun i h => by rw [cl_trans ht n (Nat.le_refl _) i i h h]; exact hi i h
inductive Tc (n : Nat) (a : Rel) : Nat → Nat → Prop
  | one {i k : Nat} : i < n → k < n → a i k = true → Tc n a i k
  | step {i k m : Nat} : i < n → k < n → a i k = true → Tc n a k m → Tc n a i m
theorem Tc.trans {n : Nat} {a : Rel} {i k m : Nat} (h : Tc n a i k) (g : Tc n a k m) : Tc n a i m := by
  induction h with
  | one h1 h2 h3 => exact .step h1 h2 h3 g
  | step h1 h2 h3 _ ih => exact .step h1 h2 h3 (ih g)
theorem cl_tc {n : Nat} {a : Rel} : ∀ m, m ≤ n → ∀ i k, i < n → k < n → clR m a i k = true → Tc n a i k
  | 0, _, i, k, hi, hk, h => .one hi hk h
  | m + 1, hm, i, k, hi, hk, h => by
    have h' : (clR m a i k || (clR m a i m && clR m a m k)) = true := h
    rw [Bool.or_eq_true, Bool.and_eq_true] at h'
    rcases h' with h1 | ⟨h1, h2⟩
    · exact cl_tc m (by omega) i k hi hk h1
    · exact (cl_tc m (by omega) i m hi (by omega) h1).trans (cl_tc m (by omega) m k (by omega) hk h2)

/-! ### The search for a cycle -/
def lastN (p : List Nat) : Nat := p.getLastD 0
/-- What has been seen when the elements below k have been looked at. -/
def exS (a : Rel) (t : Nat) (S : Nat → Bool) (k : Nat) : Nat → Bool := fun j => S j || (decide (j < k) && a t j)
/-- The paths that a path has grown to then. -/
def newsP (a : Rel) (p : List Nat) (S : Nat → Bool) (k : Nat) : List (List Nat) := ((List.range k).filter fun j => a (lastN p) j && !S j).map fun j => p ++ [j]
theorem exS_zero (a : Rel) (t : Nat) (S : Nat → Bool) : exS a t S 0 = S := by
  funext j
  unfold exS
  simp
theorem exS_at (a : Rel) (t : Nat) (S : Nat → Bool) (k : Nat) : exS a t S k k = S k := by
  unfold exS
  simp
theorem exS_same {a : Rel} {t : Nat} {S : Nat → Bool} {k : Nat} (h : (a t k && !S k) = false) : exS a t S (k + 1) = exS a t S k := by
  funext j
  unfold exS
  by_cases e : j = k
  · subst e
    cases h1 : a t j <;> cases h2 : S j <;> simp [h1, h2] at h ⊢
  · have : decide (j < k + 1) = decide (j < k) := decide_eq_decide.2 (by omega)
    rw [this]
theorem exS_more {a : Rel} {t : Nat} {S : Nat → Bool} {k : Nat} (h : (a t k && !S k) = true) : (fun j => exS a t S k j || decide (j = k)) = exS a t S (k + 1) := by
  have h1 := (Bool.and_eq_true_iff.1 h).1
  funext j
  unfold exS
  by_cases e : j = k
  · subst e
    simp [h1]
  · have : decide (j < k + 1) = decide (j < k) := decide_eq_decide.2 (by omega)
    simp [this, e]
theorem newsP_zero (a : Rel) (p : List Nat) (S : Nat → Bool) : newsP a p S 0 = [] := rfl
theorem newsP_same {a : Rel} {p : List Nat} {S : Nat → Bool} {k : Nat} (h : (a (lastN p) k && !S k) = false) : newsP a p S (k + 1) = newsP a p S k := by
  unfold newsP
  rw [List.range_succ, List.filter_append]
  simp [h]
theorem newsP_more {a : Rel} {p : List Nat} {S : Nat → Bool} {k : Nat} (h : (a (lastN p) k && !S k) = true) : newsP a p S (k + 1) = newsP a p S k ++ [p ++ [k]] := by
  unfold newsP
  rw [List.range_succ, List.filter_append]
  simp [h]
theorem cnt_exS (a : Rel) (t : Nat) (S : Nat → Bool) : ∀ n k, k ≤ n → cntN (exS a t S k) n = cntN S n + ((List.range k).filter fun j => a t j && !S j).length
  | n, 0, _ => by rw [exS_zero]; rfl
  | n, k + 1, hk => by
    have ih := cnt_exS a t S n k (by omega)
    have key : ∀ (f g : Nat → Bool) (m : Nat), k < m → f k = false → (∀ j, j ≠ k → g j = f j) → g k = true → cntN g m = cntN f m + 1 := fun f g m => by
      induction m with
      | zero => intro h; omega
      | succ m ihm =>
        intro hm hf hg hgk
        rw [cntN, cntN]
        by_cases e : k = m
        · subst e
          rw [hf, hgk, cntN_congr fun j hj => hg j (by omega)]
          simp
        · rw [ihm (by omega) hf hg hgk, hg m (by omega)]
          omega
    rw [List.range_succ, List.filter_append, List.length_append, ← Nat.add_assoc, ← ih]
    cases h : (a t k && !S k)
    · rw [exS_same h]
      simp [h]
    · rw [key (exS a t S k) (exS a t S (k + 1)) n (by omega) ?_ ?_ ?_]
      · simp [h]
      · rw [exS_at]
        have := (Bool.and_eq_true_iff.1 h).2
        simpa using this
      · intro j hj
        rw [← exS_more h]
        simp [hj]
      · rw [← exS_more h]
        simp
def bfs (a : Rel) (n st : Nat) : Nat → List (List Nat) → (Nat → Bool) → List Nat
  | 0, _, _ => []
  | _ + 1, [], _ => []
  | f + 1, p :: Q, S => if a (lastN p) st = true then p else bfs a n st f (Q ++ newsP a p S n) (exS a (lastN p) S n)
/-- The fuel is enough. -/
def Enough (n f : Nat) (Q : List (List Nat)) (S : Nat → Bool) : Prop := Q.length + (n - cntN S n) ≤ f
theorem Enough.next {a : Rel} {n f : Nat} {p : List Nat} {Q : List (List Nat)} {S : Nat → Bool} (h : Enough n (f + 1) (p :: Q) S) : Enough n f (Q ++ newsP a p S n) (exS a (lastN p) S n) := by
  unfold Enough at *
  have h1 := cnt_exS a (lastN p) S n n (Nat.le_refl _)
  have h2 := cntN_le (exS a (lastN p) S n) n
  rw [List.length_append, newsP, List.length_map]
  rw [List.length_cons] at h
  omega
theorem bfs_nil (a : Rel) (n st f : Nat) (S : Nat → Bool) : bfs a n st f [] S = [] := by cases f <;> rfl
theorem bfs_found {a : Rel} {n st f : Nat} {p : List Nat} {Q : List (List Nat)} {S : Nat → Bool} (he : Enough n f (p :: Q) S) (h : a (lastN p) st = true) : bfs a n st f (p :: Q) S = p := by
  cases f with
  | zero => unfold Enough at he; simp at he
  | succ f => rw [bfs, if_pos h]
theorem bfs_step {a : Rel} {n st f : Nat} {p : List Nat} {Q : List (List Nat)} {S : Nat → Bool} (he : Enough n f (p :: Q) S) (h : a (lastN p) st = false) : ∃ g, f = g + 1 ∧ Enough n g (Q ++ newsP a p S n) (exS a (lastN p) S n) ∧ bfs a n st f (p :: Q) S = bfs a n st g (Q ++ newsP a p S n) (exS a (lastN p) S n) := by
  cases f with
  | zero => unfold Enough at he; simp at he
  | succ f => exact ⟨f, rfl, he.next, by rw [bfs, if_neg (by rw [h]; decide)]⟩
/-- Paths from st. -/
inductive IsPath (n : Nat) (a : Rel) (st : Nat) : List Nat → Prop
  | one : st < n → IsPath n a st [st]
  | more {p : List Nat} {k : Nat} : IsPath n a st p → k < n → a (lastN p) k = true → IsPath n a st (p ++ [k])
theorem lastN_snoc (p : List Nat) (k : Nat) : lastN (p ++ [k]) = k := by
  unfold lastN
  simp [List.getLastD_eq_getLast?]
theorem IsPath.last_lt {n : Nat} {a : Rel} {st : Nat} {p : List Nat} (h : IsPath n a st p) : lastN p < n := by
  cases h with
  | one h => exact h
  | more _ h _ => rw [lastN_snoc]; exact h
theorem IsPath.lt {n : Nat} {a : Rel} {st : Nat} {p : List Nat} (h : IsPath n a st p) : ∀ k ∈ p, k < n := by
  induction h with
  | one h => intro k hk; rw [List.mem_singleton.1 hk]; exact h
  | more _ h _ ih =>
    intro k hk
    rcases List.mem_append.1 hk with hk | hk
    · exact ih k hk
    · rw [List.mem_singleton.1 hk]; exact h
theorem IsPath.pos {n : Nat} {a : Rel} {st : Nat} {p : List Nat} (h : IsPath n a st p) : 0 < p.length := by
  cases h with
  | one h => simp
  | more _ h _ => simp
theorem IsPath.head {n : Nat} {a : Rel} {st : Nat} {p : List Nat} (h : IsPath n a st p) : p.getD 0 0 = st := by
  induction h with
  | one h => rfl
  | @more p k h1 h2 h3 ih =>
    have := h1.pos
    rw [← ih]
    simp only [List.getD_eq_getElem?_getD]
    rw [List.getElem?_append_left this]
theorem lastN_get {p : List Nat} (h : 0 < p.length) : lastN p = p.getD (p.length - 1) 0 := by
  unfold lastN
  rw [List.getLastD_eq_getLast?, List.getLast?_eq_getElem?, List.getD_eq_getElem?_getD]
theorem IsPath.edge {n : Nat} {a : Rel} {st : Nat} {p : List Nat} (h : IsPath n a st p) : ∀ i, i + 1 < p.length → a (p.getD i 0) (p.getD (i + 1) 0) = true := by
  induction h with
  | one h => intro i hi; simp at hi
  | @more p k h1 h2 h3 ih =>
    intro i hi
    rw [List.length_append, List.length_singleton] at hi
    have hp := h1.pos
    by_cases e : i + 1 = p.length
    · have e1 : (p ++ [k]).getD i 0 = lastN p := by
        rw [lastN_get hp, List.getD_eq_getElem?_getD, List.getElem?_append_left (by omega), List.getD_eq_getElem?_getD, show p.length - 1 = i by omega]
      have e2 : (p ++ [k]).getD (i + 1) 0 = k := by
        rw [e, List.getD_eq_getElem?_getD, List.getElem?_append_right (Nat.le_refl _)]
        simp
      rw [e1, e2]
      exact h3
    · have e1 : ∀ j, j < p.length → (p ++ [k]).getD j 0 = p.getD j 0 := fun j hj => by
        rw [List.getD_eq_getElem?_getD, List.getElem?_append_left hj, List.getD_eq_getElem?_getD]
      rw [e1 i (by omega), e1 (i + 1) (by omega)]
      exact ih i (by omega)
theorem news_path {n : Nat} {a : Rel} {st : Nat} {p : List Nat} (h : IsPath n a st p) (S : Nat → Bool) (k : Nat) (hk : k ≤ n) : ∀ q ∈ newsP a p S k, IsPath n a st q := fun q hq => by
  unfold newsP at hq
  obtain ⟨j, hj, rfl⟩ := List.mem_map.1 hq
  rw [List.mem_filter, List.mem_range, Bool.and_eq_true] at hj
  exact .more h (by omega) hj.2.1
theorem bfs_sound {n : Nat} {a : Rel} {st : Nat} : ∀ (f : Nat) (Q : List (List Nat)) (S : Nat → Bool), (∀ p ∈ Q, IsPath n a st p) → bfs a n st f Q S = [] ∨ (IsPath n a st (bfs a n st f Q S) ∧ a (lastN (bfs a n st f Q S)) st = true)
  | 0, _, _, _ => .inl rfl
  | _ + 1, [], _, _ => .inl rfl
  | f + 1, p :: Q, S, h => by
    rw [bfs]
    by_cases hc : a (lastN p) st = true
    · rw [if_pos hc]
      exact .inr ⟨h p List.mem_cons_self, hc⟩
    · rw [if_neg hc]
      refine bfs_sound f _ _ fun q hq => ?_
      rcases List.mem_append.1 hq with hq | hq
      · exact h q (List.mem_cons_of_mem _ hq)
      · exact news_path (h p List.mem_cons_self) S n (Nat.le_refl _) q hq
/-- Where nothing is found, what has been seen is closed and does not lead back. -/
theorem bfs_closed {n : Nat} {a : Rel} {st : Nat} : ∀ (f : Nat) (Q : List (List Nat)) (S D : Nat → Bool), Enough n f Q S → (∀ p ∈ Q, IsPath n a st p) →
    (∀ i, i < n → (S i || decide (i = st)) = true → D i = true ∨ ∃ p ∈ Q, lastN p = i) → (∀ i, D i = true → a i st = false ∧ ∀ k, k < n → a i k = true → S k = true) → bfs a n st f Q S = [] →
    ∃ E : Nat → Bool, (∀ i, i < n → (E i || decide (i = st)) = true → a i st = false ∧ ∀ k, k < n → a i k = true → E k = true)
  | f, [], S, D, _, _, h1, h2, _ => ⟨S, fun i hi h => by
    rcases h1 i hi h with h | ⟨p, hp, _⟩
    · exact h2 i h
    · cases hp⟩
  | 0, p :: Q, S, D, he, _, _, _, _ => by unfold Enough at he; simp at he
  | f + 1, p :: Q, S, D, he, hQ, h1, h2, hr => by
    rw [bfs] at hr
    by_cases hc : a (lastN p) st = true
    · rw [if_pos hc] at hr
      have := (hQ p List.mem_cons_self).pos
      rw [hr] at this
      simp at this
    · rw [if_neg hc] at hr
      have hc' : a (lastN p) st = false := by simpa using hc
      have hp := hQ p List.mem_cons_self
      refine bfs_closed f _ _ (fun i => D i || decide (i = lastN p)) he.next (fun q hq => ?_) (fun i hi h => ?_) (fun i h => ?_) hr
      · rcases List.mem_append.1 hq with hq | hq
        · exact hQ q (List.mem_cons_of_mem _ hq)
        · exact news_path hp S n (Nat.le_refl _) q hq
      · by_cases hs : (S i || decide (i = st)) = true
        · rcases h1 i hi hs with h | ⟨q, hq, e⟩
          · exact .inl (by simp [h])
          · rcases List.mem_cons.1 hq with rfl | hq
            · exact .inl (by simp [e])
            · exact .inr ⟨q, List.mem_append_left _ hq, e⟩
        · have hS : S i = false := by
            cases hh : S i
            · rfl
            · rw [hh] at hs; simp at hs
          have hst : ¬ i = st := fun e => hs (by simp [e])
          unfold exS at h
          rw [hS, decide_eq_true hi] at h
          simp [hst] at h
          refine .inr ⟨p ++ [i], List.mem_append_right _ ?_, lastN_snoc _ _⟩
          unfold newsP
          exact List.mem_map.2 ⟨i, List.mem_filter.2 ⟨List.mem_range.2 hi, by simp [h, hS]⟩, rfl⟩
      · by_cases e : i = lastN p
        · subst e
          exact ⟨hc', fun k hk hak => by unfold exS; simp [hk, hak]⟩
        · have hD : D i = true := by simpa [e] using h
          obtain ⟨h3, h4⟩ := h2 i hD
          exact ⟨h3, fun k hk hak => by unfold exS; simp [h4 k hk hak]⟩
def cycF (a : Rel) (n st : Nat) : List Nat := bfs a n st (n + 1) [[st]] fun _ => false
theorem enough_start (n st : Nat) : Enough n (n + 1) [[st]] fun _ => false := by
  unfold Enough
  simp
  omega
theorem cycF_sound {n : Nat} {a : Rel} {st : Nat} (h : st < n) : cycF a n st = [] ∨ (IsPath n a st (cycF a n st) ∧ a (lastN (cycF a n st)) st = true) :=
  bfs_sound _ _ _ fun p hp => by rw [List.mem_singleton.1 hp]; exact .one h
theorem cycF_none {n : Nat} {a : Rel} {st : Nat} (h : st < n) (hr : cycF a n st = []) : ¬ Tc n a st st := by
  obtain ⟨E, hE⟩ := bfs_closed (a := a) (n := n) (st := st) (n + 1) [[st]] (fun _ => false) (fun _ => false) (enough_start n st) (fun p hp => by rw [List.mem_singleton.1 hp]; exact .one h)
    (fun i hi h => .inr ⟨[st], List.mem_singleton.2 rfl, by simp at h; exact h.symm⟩) (fun i h => by cases h) hr
  have key : ∀ i k, Tc n a i k → (E i || decide (i = st)) = true → k ≠ st := fun i k h => by
    induction h with
    | one h1 h2 h3 =>
      intro h4 e
      subst e
      rw [(hE _ h1 h4).1] at h3
      cases h3
    | step h1 h2 h3 _ ih =>
      intro h4
      exact ih (by rw [(hE _ h1 h4).2 _ h2 h3]; rfl)
  intro ht
  exact key _ _ ht (by simp) rfl
/-- The best of the cycles from the elements below m. -/
def bestC (a : Rel) (n : Nat) : Nat → List Nat
  | 0 => []
  | m + 1 => if 0 < (cycF a n m).length ∧ ((bestC a n m).length = 0 ∨ (cycF a n m).length < (bestC a n m).length) then cycF a n m else bestC a n m
theorem bestC_ok {a : Rel} {n : Nat} : ∀ m, m ≤ n → bestC a n m = [] ∨ ∃ st, st < n ∧ IsPath n a st (bestC a n m) ∧ a (lastN (bestC a n m)) st = true
  | 0, _ => .inl rfl
  | m + 1, hm => by
    rw [bestC]
    split
    · rcases cycF_sound (n := n) (a := a) (st := m) (by omega) with h | ⟨h1, h2⟩
      · exact .inl h
      · exact .inr ⟨m, by omega, h1, h2⟩
    · exact bestC_ok m (by omega)
theorem bestC_none {a : Rel} {n : Nat} : ∀ m, m ≤ n → bestC a n m = [] → ∀ i, i < m → cycF a n i = []
  | 0, _, _, i, hi => absurd hi (Nat.not_lt_zero _)
  | m + 1, hm, h, i, hi => by
    rw [bestC] at h
    split at h
    · rename_i hc
      rw [h] at hc
      simp at hc
    · rename_i hc
      by_cases e : i = m
      · subst e
        rw [h] at hc
        simp only [List.length_nil, true_or, and_true, Nat.not_lt, Nat.le_zero] at hc
        exact List.length_eq_zero_iff.1 hc
      · exact bestC_none m (by omega) h i (by omega)
/-- A relation with a cycle has one that is found. -/
theorem bestC_some {a : Rel} {n : Nat} (h : acB a n = false) : bestC a n n ≠ [] := fun hb => by
  have h1 : ¬ IrR n (clR n a) := fun h2 => by
    have := irB_iff.2 h2
    unfold acB at h
    rw [h] at this
    cases this
  apply h1
  intro i hi
  cases hc : clR n a i i
  · rfl
  · exact absurd (cl_tc n (Nat.le_refl _) i i hi hi hc) (cycF_none hi (bestC_none n (Nat.le_refl _) hb i hi))
theorem bestC_edges {a : Rel} {n i : Nat} (hi : i < (bestC a n n).length) : a ((bestC a n n).getD i 0) ((bestC a n n).getD ((i + 1) % (bestC a n n).length) 0) = true := by
  rcases bestC_ok (a := a) (n := n) n (Nat.le_refl _) with h | ⟨st, hst, h1, h2⟩
  · rw [h] at hi; simp at hi
  · by_cases e : i + 1 < (bestC a n n).length
    · rw [Nat.mod_eq_of_lt e]
      exact h1.edge i e
    · have e1 : i + 1 = (bestC a n n).length := by omega
      rw [e1, Nat.mod_self, h1.head]
      rw [lastN_get (by omega)] at h2
      rw [show i = (bestC a n n).length - 1 by omega]
      exact h2
theorem bestC_lt {a : Rel} {n : Nat} : ∀ k ∈ bestC a n n, k < n := fun k hk => by
  rcases bestC_ok (a := a) (n := n) n (Nat.le_refl _) with h | ⟨st, hst, h1, h2⟩
  · rw [h] at hk; cases hk
  · exact h1.lt k hk

end Go.Proofs.YtfgpbnncdfcjjabGreatDoor
