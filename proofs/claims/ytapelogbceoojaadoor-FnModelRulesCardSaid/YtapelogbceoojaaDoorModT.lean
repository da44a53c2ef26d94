/-
  The text of a model, plainly; the table of the words of rules.
-/
import Derived.Test.YtapelogbceoojaaDoorText
import Derived.Test.YtapelogbceoojaaDoorWMod
import Derived.Lib.Join
namespace Go.Proofs.YtapelogbceoojaaDoor
open Go.RowKit
set_option linter.unusedVariables false
set_option maxRecDepth 100000

def wd (k : Int) : ByteArray := if k = 1 then ⟨#[97, 99, 121, 99, 108, 105, 99]⟩ else if k = 2 then ⟨#[105, 114, 114, 101, 102]⟩ else if k = 3 then ⟨#[101, 109, 112, 116, 121]⟩ else ⟨#[]⟩
/-- The words of rules. -/
def rwds : List ByteArray := [⟨#[]⟩, ⟨#[97, 99, 121, 99, 108, 105, 99]⟩, ⟨#[105, 114, 114, 101, 102]⟩, ⟨#[101, 109, 112, 116, 121]⟩]
def GR (w : World) : Prop := Strs w (some ⟨0, 0, none⟩) 4 rwds
theorem GR.le {w w' : World} (h : GR w) (hl : Le w w') : GR w' := Strs.le h hl
theorem size_wd (k : Int) : (wd k).size ≤ 7 := by
  unfold wd
  repeat (split; · decide)
  decide
theorem kind_cases {k : Int} (h1 : 1 ≤ k) (h3 : k ≤ 3) : k = 1 ∨ k = 2 ∨ k = 3 := by omega
theorem GR.word {w : World} (h : GR w) {k : Int} (h1 : 1 ≤ k) (h3 : k ≤ 3) : w.cell? ⟨0, k.toNat, none⟩ = some (.string (wd k)) := by
  rcases kind_cases h1 h3 with rfl | rfl | rfl
  · obtain ⟨b, o, e, _, hc⟩ := Strs.get h (i := 1) (by decide)
    simp only [Option.some.injEq, Addr.mk.injEq, and_true] at e
    obtain ⟨rfl, rfl⟩ := e
    exact hc
  · obtain ⟨b, o, e, _, hc⟩ := Strs.get h (i := 2) (by decide)
    simp only [Option.some.injEq, Addr.mk.injEq, and_true] at e
    obtain ⟨rfl, rfl⟩ := e
    exact hc
  · obtain ⟨b, o, e, _, hc⟩ := Strs.get h (i := 3) (by decide)
    simp only [Option.some.injEq, Addr.mk.injEq, and_true] at e
    obtain ⟨rfl, rfl⟩ := e
    exact hc

/-- The text of one rule. -/
def part (r : RU) : ByteArray := wd r.kind ++ ⟨#[32]⟩ ++ ct r.e
theorem size_part {r : RU} (h : UOk r) : (part r).size ≤ 400 := by
  have h1 := size_wd r.kind
  have h2 := size_ct 12 r.e h.2.2.1
  have h3 := h.2.2.2
  unfold part
  simp only [ByteArray.size_append, ByteArray.size_mk']
  simp
  omega
/-- The texts of rules, a sign between each and the next. -/
def mt (rs : List RU) : ByteArray := ⟨(Lib.join ((rs.map part).map (·.data.toList)) [47]).toArray⟩
theorem mt_nil : mt [] = ⟨#[]⟩ := rfl
theorem app_toArray (a b : List UInt8) : (⟨(a ++ b).toArray⟩ : ByteArray) = ⟨a.toArray⟩ ++ ⟨b.toArray⟩ := by
  apply ByteArray.ext
  simp
theorem toArray_data (a : ByteArray) : (⟨a.data.toList.toArray⟩ : ByteArray) = a := by
  apply ByteArray.ext
  simp
theorem mt_snoc (rs : List RU) (r : RU) (h : rs ≠ []) : mt (rs ++ [r]) = mt rs ++ ⟨#[47]⟩ ++ part r := by
  match rs, h with
  | a :: rs, _ =>
    unfold mt
    simp only [List.cons_append, List.map_cons, Lib.join_cons]
    rw [show Lib.joinTail [47] (((rs ++ [r]).map part).map (·.data.toList)) = Lib.joinTail [47] ((rs.map part).map (·.data.toList)) ++ ([47] ++ (part r).data.toList) by simp [Lib.joinTail]]
    rw [← List.append_assoc, app_toArray, app_toArray [47], ByteArray.append_assoc, toArray_data]
theorem mt_one (r : RU) : mt [r] = part r := by
  unfold mt
  simp only [List.map_cons, List.map_nil, Lib.join_one]
theorem lens_le (xs : List (List UInt8)) (n : Nat) (h : ∀ x ∈ xs, x.length ≤ n) : Lib.lens xs ≤ n * xs.length := by
  induction xs with
  | nil => simp [Lib.lens]
  | cons a xs ih =>
    have h1 := h a (by simp)
    have h2 := ih fun x hx => h x (by simp [hx])
    simp only [Lib.lens, List.map_cons, List.sum_cons, List.length_cons] at h2 ⊢
    rw [Nat.mul_succ]
    omega
theorem join_len (rs : List RU) (hm : ∀ r ∈ rs, UOk r) (h5 : rs.length ≤ 5) : (Lib.join ((rs.map part).map (·.data.toList)) [47]).length ≤ 3000 := by
  match rs with
  | [] => simp [Lib.join_nil]
  | a :: rs =>
    simp only [List.map_cons]
    rw [Lib.join_length]
    have h := lens_le ((part a).data.toList :: (rs.map part).map (·.data.toList)) 400 (by
      intro x hx
      have hx' : x ∈ ((a :: rs).map part).map (·.data.toList) := hx
      obtain ⟨y, hy, rfl⟩ := List.mem_map.1 hx'
      obtain ⟨r, hr, rfl⟩ := List.mem_map.1 hy
      have := size_part (hm r hr)
      simpa using this)
    simp only [List.length_cons, List.length_map, List.length_nil] at h h5 ⊢
    omega
/-- What FormatModel answers. -/
noncomputable def fmtM (rs : List RU) : ByteArray := if mB rs then mt rs else ⟨#[]⟩
theorem fmtM_true {rs : List RU} (h : mB rs = true) : fmtM rs = mt rs := by unfold fmtM; rw [if_pos h]
theorem fmtM_false {rs : List RU} (h : mB rs = false) : fmtM rs = ⟨#[]⟩ := by unfold fmtM; rw [if_neg (by rw [h]; decide)]

end Go.Proofs.YtapelogbceoojaaDoor
