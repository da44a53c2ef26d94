/-
  Valid expressions, plainly: which node is well formed, the size that the program counts, the shape and the count that the reference takes; they agree. No program in sight.
-/
import Derived.Test.YtapelogbceoojaaDoorRE
import Derived.Test.YtapelogbceoojaaDoorNames
namespace Go.Proofs.YtapelogbceoojaaDoor
open Go.RowKit
set_option linter.unusedVariables false
set_option maxRecDepth 100000

def lvl (op : Int) : Int := if op = 2 then 3 else if op = 3 ∨ op = 4 then 2 else if op = 5 then 1 else 0
def sgn (op : Int) : ByteArray := if op = 2 then ⟨#[124]⟩ else if op = 3 then ⟨#[38]⟩ else if op = 4 then ⟨#[45]⟩ else if op = 5 then ⟨#[59]⟩ else if op = 6 then ⟨#[126]⟩ else if op = 7 then ⟨#[43]⟩ else ⟨#[]⟩
def kidsI (op : Int) : Int := if op = 1 then 0 else if 2 ≤ op ∧ op ≤ 5 then 2 else if op = 6 ∨ op = 7 then 1 else -1

/-- A node by itself is well formed. -/
def NodeOk (e : RE) : Prop := (e.kids.length : Int) = kidsI e.op ∧ ((e.op = 1) ↔ e.name ∈ nm) ∧ (e.op ≠ 1 → e.name = ⟨#[]⟩)

mutual
/-- How many nodes. -/
def cntE : RE → Nat
  | .mk _ _ kids => 1 + cntL kids
def cntL : List RE → Nat
  | [] => 0
  | e :: es => cntE e + cntL es
end
theorem cntE_eq (e : RE) : cntE e = 1 + cntL e.kids := by cases e; rw [cntE, RE.kids]
theorem cntE_pos (e : RE) : 1 ≤ cntE e := by rw [cntE_eq]; omega
theorem cntL_eq (es : List RE) : cntL es = wSum cntE es := by
  induction es with
  | nil => rfl
  | cons e es ih => rw [cntL, wSum, ih]
theorem cntE_le (e : RE) : cntE e ≤ 1 + wE e := by
  induction e using RE.ind with | h op name kids ih => ?_
  have key : ∀ es : List RE, (∀ k ∈ es, cntE k ≤ 1 + wE k) → cntL es ≤ es.length + wL es := by
    intro es
    induction es with
    | nil => intro _; simp [cntL]
    | cons a es ih' =>
      intro h
      have h1 := h a (by simp)
      have h2 := ih' fun k hk => h k (by simp [hk])
      simp only [cntL, wL, List.length_cons]
      omega
  have := key kids ih
  rw [cntE, wE]
  omega

/-- A well formed expression, at most so deep. -/
def Shp : Nat → RE → Prop
  | 0, _ => False
  | m + 1, e => NodeOk e ∧ ∀ k ∈ e.kids, Shp m k

/-- A valid expression. -/
def Val (e : RE) : Prop := Shp 12 e ∧ cntE e ≤ 40
open Classical in
noncomputable def valB (e : RE) : Bool := decide (Val e)
theorem valB_iff {e : RE} : valB e = true ↔ Val e := by simp [valB]
open Classical in
noncomputable def shpB (m : Nat) (e : RE) : Bool := decide (Shp m e)
theorem shpB_iff {m : Nat} {e : RE} : shpB m e = true ↔ Shp m e := by simp [shpB]
theorem shpB_false {m : Nat} {e : RE} : shpB m e = false ↔ ¬ Shp m e := by simp [shpB]

/-- What the program's count may be: the number of nodes of a well formed expression of at most 40, else more than 40. -/
def SizeOk (m : Nat) (e : RE) (r : Int) : Prop := 1 ≤ r ∧ r ≤ 41 + 41 * m ∧ (Shp m e ∧ cntE e ≤ 40 → r = cntE e) ∧ (¬ (Shp m e ∧ cntE e ≤ 40) → 40 < r)
/-- What the reference's count may be. -/
def CountOk (e : RE) (most : Int) (r : Int) : Prop := 1 ≤ r ∧ r ≤ cntE e ∧ (cntE e ≤ most → r = cntE e) ∧ (most < cntE e → most < r)

theorem cntL_take_succ (es : List RE) (k : Nat) (h : k < es.length) : cntL (es.take (k + 1)) = cntL (es.take k) + cntE es[k] := by
  rw [cntL_eq, cntL_eq, wSum_take_succ cntE es k h]
theorem cntL_take_le (es : List RE) (k : Nat) : cntL (es.take k) ≤ cntL es := by
  rw [cntL_eq, cntL_eq]
  exact wSum_take_le cntE es k

/-- The loop over the operands has come to k with the count cnt. -/
def SizeAt (m : Nat) (kids : List RE) (k : Nat) (cnt : Int) : Prop := 1 ≤ cnt ∧ cnt ≤ 40 ∧ cnt = 1 + cntL (kids.take k) ∧ ∀ j (_ : j < k) (h : j < kids.length), Shp m kids[j]
theorem SizeAt.start (m : Nat) (kids : List RE) : SizeAt m kids 0 1 := ⟨by omega, by omega, by simp [cntL], fun j hj => absurd hj (Nat.not_lt_zero _)⟩
theorem SizeAt.break_ {m : Nat} {op : Int} {name : ByteArray} {kids : List RE} {k : Nat} {cnt r : Int} (h : SizeAt m kids k cnt) (hk : k < kids.length) (hr : SizeOk m kids[k] r) (hgt : 40 < cnt + r) : SizeOk (m + 1) (.mk op name kids) (cnt + r) := by
  obtain ⟨h1, h2, h3, _⟩ := h
  obtain ⟨r1, r2, r3, r4⟩ := hr
  refine ⟨by omega, by omega, fun hv => ?_, fun _ => hgt⟩
  have hs : Shp m kids[k] := hv.1.2 _ (List.getElem_mem hk)
  have hc := hv.2
  rw [cntE] at hc
  have ht := cntL_take_succ kids k hk
  have hl := cntL_take_le kids (k + 1)
  have := r3 ⟨hs, by omega⟩
  omega
theorem SizeAt.step {m : Nat} {kids : List RE} {k : Nat} {cnt r : Int} (h : SizeAt m kids k cnt) (hk : k < kids.length) (hr : SizeOk m kids[k] r) (hle : cnt + r ≤ 40) : SizeAt m kids (k + 1) (cnt + r) := by
  obtain ⟨h1, h2, h3, h4⟩ := h
  obtain ⟨r1, r2, r3, r4⟩ := hr
  have hv : Shp m kids[k] ∧ cntE kids[k] ≤ 40 := Classical.byContradiction fun hn => by have := r4 hn; omega
  have := r3 hv
  have ht := cntL_take_succ kids k hk
  refine ⟨by omega, hle, by omega, fun j hj hj' => ?_⟩
  by_cases e : j = k
  · subst e
    exact hv.1
  · exact h4 j (by omega) hj'
theorem SizeAt.done {m : Nat} {op : Int} {name : ByteArray} {kids : List RE} {cnt : Int} (h : SizeAt m kids kids.length cnt) (hn : NodeOk (.mk op name kids)) : SizeOk (m + 1) (.mk op name kids) cnt := by
  obtain ⟨h1, h2, h3, h4⟩ := h
  rw [List.take_length] at h3
  have hs : Shp (m + 1) (.mk op name kids) := ⟨hn, fun k hk => by
    obtain ⟨i, hi, e⟩ := List.getElem_of_mem hk
    rw [← e]
    exact h4 i hi hi⟩
  have hc : cntE (.mk op name kids) = 1 + cntL kids := by rw [cntE]
  exact ⟨h1, by omega, fun _ => by omega, fun hn' => absurd ⟨hs, by omega⟩ hn'⟩

/-- The reference's loop over the operands has come to k with the count n. -/
def CountAt (kids : List RE) (most : Int) (k : Nat) (n : Int) : Prop := 1 ≤ n ∧ n ≤ 1 + cntL (kids.take k) ∧ (1 + cntL (kids.take k) ≤ most → n = 1 + cntL (kids.take k)) ∧ (most < 1 + cntL (kids.take k) → most < n)
theorem CountAt.start (kids : List RE) (most : Int) : CountAt kids most 0 1 := ⟨by omega, by simp [cntL], fun _ => by simp [cntL], fun h => by simpa [cntL] using h⟩
theorem CountAt.step {kids : List RE} {most : Int} {k : Nat} {n r : Int} (h : CountAt kids most k n) (hk : k < kids.length) (hn : n ≤ most) (hr : CountOk kids[k] (most - n) r) : CountAt kids most (k + 1) (n + r) := by
  obtain ⟨h1, h2, h3, h4⟩ := h
  obtain ⟨r1, r2, r3, r4⟩ := hr
  have ht := cntL_take_succ kids k hk
  have hle : 1 + (cntL (kids.take k) : Int) ≤ most := Classical.byContradiction fun hc => by have := h4 (by omega); omega
  have hx := h3 hle
  refine ⟨by omega, by omega, fun h => ?_, fun h => ?_⟩
  · have := r3 (by omega)
    omega
  · have := r4 (by omega)
    omega
theorem CountAt.done {op : Int} {name : ByteArray} {kids : List RE} {most : Int} {n : Int} (h : CountAt kids most kids.length n) : CountOk (.mk op name kids) most n := by
  unfold CountAt at h
  rw [List.take_length] at h
  have hc : (cntE (.mk op name kids) : Int) = 1 + cntL kids := by rw [cntE]; omega
  unfold CountOk
  rw [hc]
  exact h
theorem CountAt.over {op : Int} {name : ByteArray} {kids : List RE} {most : Int} {k : Nat} {n : Int} (h : CountAt kids most k n) (hn : most < n) : CountOk (.mk op name kids) most n := by
  obtain ⟨h1, h2, h3, h4⟩ := h
  have hc : (cntE (.mk op name kids) : Int) = 1 + cntL kids := by rw [cntE]; omega
  have hl := cntL_take_le kids k
  refine ⟨h1, by omega, fun h => ?_, fun _ => hn⟩
  have := h3 (by omega)
  omega

theorem sizeOk_val {e : RE} {r : Int} (h : SizeOk 12 e r) : decide (r ≤ 40) = valB e := by
  rw [Bool.eq_iff_iff, decide_eq_true_iff, valB_iff]
  obtain ⟨_, _, h1, h2⟩ := h
  constructor
  · intro hr
    exact Classical.byContradiction fun hn => by have := h2 hn; omega
  · intro hv
    have := h1 hv
    have := hv.2
    omega
theorem countOk_val {e : RE} {r : Int} (h : CountOk e 40 r) : decide (r ≤ 40) = decide (cntE e ≤ 40) := by
  rw [Bool.eq_iff_iff, decide_eq_true_iff, decide_eq_true_iff]
  obtain ⟨_, _, h1, h2⟩ := h
  constructor
  · intro hr
    exact Classical.byContradiction fun hn => by have := h2 (by omega); omega
  · intro hv
    have := h1 (by omega)
    omega

end Go.Proofs.YtapelogbceoojaaDoor
