/-
  Laws between the relations on the events of a candidate, and of closures. No program in sight.
-/
import Derived.Test.YtfgpbnncdfcjjaaDoorRelQ
import Derived.Test.YtfgpbnncdfcjjaaDoorRelO
namespace Go.Proofs.YtfgpbnncdfcjjaaDoor
open Go.RowKit
set_option linter.unusedVariables false
set_option maxRecDepth 100000

def TrR (n : Nat) (a : Rel) : Prop := ∀ i k m, i < n → k < n → m < n → a i k = true → a k m = true → a i m = true
def IrR (n : Nat) (a : Rel) : Prop := ∀ i, i < n → a i i = false
def SubR (n : Nat) (a b : Rel) : Prop := ∀ i k, i < n → k < n → a i k = true → b i k = true
def EqR (n : Nat) (a b : Rel) : Prop := ∀ i k, i < n → k < n → a i k = b i k
/-- A transitive relation is its own closure. -/
theorem cl_trans {n : Nat} {a : Rel} (h : TrR n a) : ∀ m, m ≤ n → EqR n (clR m a) a
  | 0, _ => fun _ _ _ _ => rfl
  | m + 1, hm => fun i k hi hk => by
    have ih := cl_trans h m (by omega)
    show (clR m a i k || (clR m a i m && clR m a m k)) = a i k
    rw [ih i k hi hk, ih i m hi (by omega), ih m k (by omega) hk]
    cases h1 : a i m
    · simp
    · cases h2 : a m k
      · simp
      · rw [h i m k hi (by omega) hk h1 h2]; rfl
theorem relN_eqR {n : Nat} {a b : Rel} (h : EqR n a b) : relN a n = relN b n := relN_congr h
theorem un_sub {n : Nat} {a b : Rel} (h : SubR n a b) : relN (unR a b) n = relN b n := relN_congr fun i k hi hk => by
  show (a i k || b i k) = b i k
  cases ha : a i k
  · simp
  · rw [h i k hi hk ha]; rfl
theorem un_subs {n : Nat} {a b c : Rel} (h1 : SubR n a c) (h2 : SubR n b c) : SubR n (unR a b) c := fun i k hi hk h => by
  rcases Bool.or_eq_true_iff.1 h with h | h
  · exact h1 i k hi hk h
  · exact h2 i k hi hk h
section
variable {p : Prg} {x : Ex}
theorem getE {i : Nat} (hi : i < (evs p).length) : (evs p).getD i e0 = (evs p)[i] := getD_evs hi
theorem poB_tr {a b c : Ev} (h1 : poB a b = true) (h2 : poB b c = true) : poB a c = true := by
  unfold poB sameT at *
  simp only [Bool.and_eq_true, decide_eq_true_iff] at *
  omega
theorem poB_ir (a : Ev) : poB a a = false := by unfold poB; simp
theorem po_tr (n : Nat) : TrR n (pairB p x (evs p) 0) := fun i k m _ _ _ h1 h2 => poB_tr h1 h2
theorem po_ir (n : Nat) : IrR n (pairB p x (evs p) 0) := fun i _ => poB_ir _
theorem befB_iff {o : List Int} {i k : Int} : befB o i k = true ↔ i ∈ o ∧ k ∈ o ∧ plI o i < plI o k := by
  unfold befB
  simp only [Bool.and_eq_true, decide_eq_true_iff, plI_ge]
  exact and_assoc
theorem co_iff {i k : Nat} (hi : i < (evs p).length) (hk : k < (evs p).length) : pairB p x (evs p) 4 i k = true ↔ ((i : Int) ∈ ordAt x (evs p)[i].loc ∧ (k : Int) ∈ ordAt x (evs p)[i].loc ∧ plI (ordAt x (evs p)[i].loc) i < plI (ordAt x (evs p)[i].loc) k) := by
  show befB (ordAt x ((evs p).getD i e0).loc) i k = true ↔ _
  rw [getE hi, befB_iff]
theorem co_tr (h : CandOk p x) : TrR (evs p).length (pairB p x (evs p) 4) := fun i k m hi hk hm h1 h2 => by
  have a1 := (co_iff hi hk).1 h1
  have a2 := (co_iff hk hm).1 h2
  have e := ((mem_ord h hi hk).1 a1.2.1).2
  rw [e] at a2
  exact (co_iff hi hm).2 ⟨a1.1, a2.2.1, Int.lt_trans a1.2.2 a2.2.2⟩
theorem co_ir : IrR (evs p).length (pairB p x (evs p) 4) := fun i hi => by
  cases hc : pairB p x (evs p) 4 i i
  · rfl
  · have := ((co_iff hi hi).1 hc).2.2
    omega
/-- What a read reads from. -/
theorem from_rd (h : CandOk p x) {i t : Nat} (hi : i < (evs p).length) (e : x.from_.getD i 0 = (t : Int)) : (evs p)[i].rd = true ∧ ∃ ht : t < (evs p).length, (evs p)[t].wr = true ∧ (evs p)[t].loc = (evs p)[i].loc := by
  have h1 := h.2.1.2 i hi
  cases hr : (evs p)[i].rd
  · rw [if_neg (by rw [hr]; decide)] at h1
    omega
  · rw [if_pos hr] at h1
    obtain ⟨j, hj, e2, hw⟩ := mem_wrs.1 h1.1
    obtain rfl : t = j := by omega
    unfold wrl at hw
    simp only [Bool.and_eq_true, decide_eq_true_iff] at hw
    exact ⟨rfl, hj, hw.1, hw.2⟩
theorem rd_from (h : CandOk p x) {i : Nat} (hi : i < (evs p).length) (hr : (evs p)[i].rd = true) : ∃ t : Nat, x.from_.getD i 0 = (t : Int) ∧ t ≠ i ∧ ∃ ht : t < (evs p).length, (evs p)[t].wr = true ∧ (evs p)[t].loc = (evs p)[i].loc := by
  have h1 := h.2.1.2 i hi
  rw [if_pos hr] at h1
  obtain ⟨j, hj, e2, hw⟩ := mem_wrs.1 h1.1
  unfold wrl at hw
  simp only [Bool.and_eq_true, decide_eq_true_iff] at hw
  exact ⟨j, e2, fun e => h1.2 (by rw [e2, e]), hj, hw.1, hw.2⟩
theorem fr_iff {i k : Nat} (hi : i < (evs p).length) (hk : k < (evs p).length) : pairB p x (evs p) 5 i k = true ↔ ((evs p)[i].rd = true ∧ (evs p)[k].wr = true ∧ i ≠ k ∧ befB (ordAt x (evs p)[i].loc) (x.from_.getD i 0) k = true) := by
  show ((((evs p).getD i e0).rd && ((evs p).getD k e0).wr && !decide (i = k)) && befB (ordAt x ((evs p).getD i e0).loc) (x.from_.getD i 0) k) = true ↔ _
  rw [getE hi, getE hk]
  simp only [Bool.and_eq_true, Bool.not_eq_true', decide_eq_false_iff_not]
  exact ⟨fun ⟨⟨⟨a, b⟩, c⟩, d⟩ => ⟨a, b, c, d⟩, fun ⟨a, b, c, d⟩ => ⟨⟨⟨a, b⟩, c⟩, d⟩⟩
/-- Reads come before the writes that follow their sources. -/
theorem fr_from (h : CandOk p x) : EqR (evs p).length (pairB p x (evs p) 5) (miR (coR (evs p).length (inR (pairB p x (evs p) 3)) (pairB p x (evs p) 4)) (pairB p x (evs p) 9)) := fun i k hi hk => by
  apply Bool.eq_iff_iff.2
  rw [fr_iff hi hk]
  show _ ↔ (((List.range (evs p).length).any fun t => decide (x.from_.getD i 0 = (t : Int)) && pairB p x (evs p) 4 t k) && !decide (i = k)) = true
  simp only [Bool.and_eq_true, Bool.not_eq_true', decide_eq_false_iff_not, List.any_eq_true, List.mem_range, decide_eq_true_iff]
  constructor
  · rintro ⟨hr, hw, hne, hb⟩
    obtain ⟨t, e, _, ht, htw, htl⟩ := rd_from h hi hr
    have hb' := befB_iff.1 hb
    rw [e, ← htl] at hb'
    exact ⟨⟨t, ht, e, (co_iff ht hk).2 hb'⟩, hne⟩
  · rintro ⟨⟨t, ht, e, hc⟩, hne⟩
    have a1 := (co_iff ht hk).1 hc
    obtain ⟨hr, ht', htw, htl⟩ := from_rd h hi e
    have hm := (mem_ord h ht hk).1 a1.2.1
    refine ⟨hr, hm.1, hne, befB_iff.2 ?_⟩
    rw [e, ← htl]
    exact a1
theorem fence_po : SubR (evs p).length (pairB p x (evs p) 6) (pairB p x (evs p) 0) := fun i k _ _ h => (Bool.and_eq_true_iff.1 h).1
theorem loc_iff {i k : Nat} (hi : i < (evs p).length) (hk : k < (evs p).length) : pairB p x (evs p) 1 i k = true ↔ (evs p)[i].loc = (evs p)[k].loc := by
  show decide (((evs p).getD i e0).loc = ((evs p).getD k e0).loc) = true ↔ _
  rw [getE hi, getE hk, decide_eq_true_iff]
theorem rf_loc (h : CandOk p x) : SubR (evs p).length (pairB p x (evs p) 3) (pairB p x (evs p) 1) := fun i k hi hk hp => by
  have e : x.from_.getD k 0 = (i : Int) := of_decide_eq_true hp
  obtain ⟨_, _, _, h2⟩ := from_rd h hk e
  exact (loc_iff hi hk).2 h2
theorem co_loc (h : CandOk p x) : SubR (evs p).length (pairB p x (evs p) 4) (pairB p x (evs p) 1) := fun i k hi hk hp =>
  (loc_iff hi hk).2 ((mem_ord h hi hk).1 ((co_iff hi hk).1 hp).2.1).2.symm
theorem fr_loc (h : CandOk p x) : SubR (evs p).length (pairB p x (evs p) 5) (pairB p x (evs p) 1) := fun i k hi hk hp => by
  have h1 := (fr_iff hi hk).1 hp
  exact (loc_iff hi hk).2 ((mem_ord h hi hk).1 (befB_iff.1 h1.2.2.2).2.1).2.symm
end

end Go.Proofs.YtfgpbnncdfcjjaaDoor
