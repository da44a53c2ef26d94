/-
  strings.Split at one byte and strings.Cut at a space, as the walks speak of them.
-/
import Derived.Test.YtapelogbceoojaaDoorReadM
import Derived.Test.YtapelogbceoojaaDoorShelf
import Derived.Lib.SplitLaws
import Derived.Lib.CountLaws
import Derived.Shelf.Vars
namespace Go.Proofs.YtapelogbceoojaaDoor
open Go.RowKit
set_option linter.unusedVariables false
set_option maxRecDepth 100000

theorem idx_none {c : UInt8} : ∀ {l : List UInt8}, c ∉ l → Lib.index l [c] = -1 := by
  intro l
  induction l with
  | nil => intro _; rfl
  | cons b l ih =>
    intro h
    have h1 : c ≠ b := fun e => h (by simp [e])
    have h2 := ih fun hm => h (by simp [hm])
    simp [Lib.index, h1, h2]
theorem idx_at {c : UInt8} {r : List UInt8} : ∀ {a : List UInt8}, c ∉ a → Lib.index (a ++ c :: r) [c] = a.length := by
  intro a
  induction a with
  | nil => intro _; simp [Lib.index]
  | cons b l ih =>
    intro h
    have h1 : c ≠ b := fun e => h (by simp [e])
    have h2 := ih fun hm => h (by simp [hm])
    have h4 : ((l.length : Int) == -1) = false := by rw [beq_eq_false_iff_ne]; omega
    simp [Lib.index, h1, h2, h4]
theorem split_spl (c : UInt8) : ∀ (n : Nat) (l : List UInt8), l.length ≤ n → Lib.splitK [c] 0 (Lib.count l [c]) l = spl c [] l := by
  intro n
  induction n with
  | zero =>
    intro l h
    obtain rfl : l = [] := List.length_eq_zero_iff.1 (by omega)
    rw [Lib.count_miss (idx_none (by simp))]
    rfl
  | succ n ih =>
    intro l h
    by_cases hm : c ∈ l
    · obtain ⟨a, r, rfl, hn⟩ := List.eq_append_cons_of_mem hm
      have hi := idx_at (r := r) hn
      have hc := Lib.count_hit (s := a ++ c :: r) (sub := [c]) (by simp) hi
      have hd : (a ++ c :: r).drop (a.length + [c].length) = r := by simp
      rw [hd] at hc
      rw [hc, Nat.add_comm, Lib.splitK, if_neg (by rw [hi, beq_iff_eq]; omega), hi]
      rw [show ((a.length : Int).toNat + [c].length) = a.length + [c].length by simp, hd, ih r (by simp at h; omega)]
      rw [spl_noc a [] _ (fun x hx e => hn (by rw [← e]; exact hx)), List.nil_append, spl_eq]
      simp
    · rw [Lib.count_miss (idx_none hm)]
      have h1 := spl_noc (c := c) l [] [] (fun x hx e => hm (by rw [← e]; exact hx))
      rw [List.append_nil] at h1
      rw [h1, spl_nil]
      rfl
theorem splitB_cut (c : UInt8) (s : ByteArray) : Lib.splitB ⟨#[c]⟩ 0 (Lib.countB s ⟨#[c]⟩) s = cutB s c := by
  have h1 := Lib.splitB_data ⟨#[c]⟩ 0 (Lib.countB s ⟨#[c]⟩) s
  rw [show (⟨#[c]⟩ : ByteArray).data.toList = [c] from rfl] at h1
  have h2 := split_spl c _ s.data.toList (Nat.le_refl _)
  unfold cutB
  rw [← h2, show Lib.count s.data.toList [c] = Lib.countB s ⟨#[c]⟩ from rfl, ← h1, List.map_map]
  conv => lhs; rw [← List.map_id (Lib.splitB _ _ _ _)]
  refine List.map_congr_left fun x _ => ?_
  simp
theorem cut_len (s : ByteArray) (c : UInt8) : (cutB s c).length = Lib.countB s ⟨#[c]⟩ + 1 := by
  rw [← splitB_cut]
  exact Lib.splitB_all ⟨#[c]⟩ (Nat.le_refl 1) 0 _ _ rfl
theorem cut_len_le (s : ByteArray) (c : UInt8) : (cutB s c).length ≤ s.size + 1 := by
  rw [cut_len]
  have := Lib.countB_le ⟨#[c]⟩ (Nat.le_refl 1) _ s (Nat.le_refl _)
  omega

/-- What internal/bytealg.MaxLen holds does not matter. -/
def GM (w : World) : Prop := ∃ m, w.cell? ⟨2, 0, none⟩ = some (.int .i64 m)
theorem GM.le {w w' : World} (h : GM w) (hl : Le w w') : GM w' := h.elim fun m hm => ⟨m, hl _ _ hm⟩
theorem GM.of_shaped {w : World} (h : w.ShapedOpen Tryd.prog) : GM w :=
  cell_of_shapedOpen_int (zero := #[.int .i64 0]) (t := 3) h (of_decide_eq_true (by kernel_rfl)) (by kernel_rfl) rfl (by kernel_rfl) (by kernel_rfl) Tryd.underlying3

theorem split_any (s : ByteArray) (c : UInt8) (w : World) (hs : s.size ≤ 2000000) (hg : GM w) : Calls Tryd.prog 73 #[.string s, .string ⟨#[c]⟩] w (RetStrs w (cutB s c)) := by
  obtain ⟨m, hm⟩ := hg
  refine (Tryd.strings_Split s ⟨#[c]⟩ m w (by omega) hm (Nat.le_refl 1)).mono ?_
  rintro e w' ⟨rfl, rfl⟩
  refine ⟨some ⟨w.heap.size, 0, none⟩, (cutB s c).length, by rw [cut_len], ?_, (Below.refl _ _).alloc (Nat.le_refl _) _⟩
  rw [splitB_cut]
  refine Strs.mk (by have := cut_len_le s c; omega) fun i hi => ?_
  refine cell_above_of (Nat.le_refl _) ?_
  simp [hi]

/-- Cutting a text at the first byte c. -/
def cut2 (s : ByteArray) (c : UInt8) : ByteArray × ByteArray := (⟨(Lib.cut s.data.toList [c]).1.toArray⟩, ⟨(Lib.cut s.data.toList [c]).2.1.toArray⟩)
theorem cut2_part {r : RU} (h : UOk r) : cut2 (part r) 32 = (wd r.kind, ct r.e) := by
  unfold cut2 part
  rw [ByteArray.data_append, ByteArray.data_append, Array.toList_append, Array.toList_append, List.append_assoc]
  rw [show (⟨#[32]⟩ : ByteArray).data.toList ++ (ct r.e).data.toList = 32 :: (ct r.e).data.toList from rfl]
  have hi := idx_at (c := 32) (r := (ct r.e).data.toList) (a := (wd r.kind).data.toList) (fun hm => (okc_wd r.kind _ hm).2 rfl)
  unfold Lib.cut
  rw [hi, if_pos (Int.natCast_nonneg _), Int.toNat_natCast, List.take_left', List.drop_append, List.drop_of_length_le (by simp)]
  · simp
  · rfl
theorem cut2_nil (c : UInt8) : cut2 ⟨#[]⟩ c = (⟨#[]⟩, ⟨#[]⟩) := rfl
theorem cut2_size (s : ByteArray) (c : UInt8) : (cut2 s c).1.size ≤ s.size ∧ (cut2 s c).2.size ≤ s.size := by
  have hl : s.data.toList.length = s.size := by simp
  have key : (Lib.cut s.data.toList [c]).1.length ≤ s.data.toList.length ∧ (Lib.cut s.data.toList [c]).2.1.length ≤ s.data.toList.length := by
    unfold Lib.cut
    split
    · exact ⟨by rw [List.length_take]; omega, by rw [List.length_drop]; omega⟩
    · exact ⟨Nat.le_refl _, Nat.zero_le _⟩
  rw [hl] at key
  exact ⟨by show ByteArray.size ⟨_⟩ ≤ _; rw [ByteArray.size_mk', List.size_toArray]; exact key.1, by show ByteArray.size ⟨_⟩ ≤ _; rw [ByteArray.size_mk', List.size_toArray]; exact key.2⟩
def RetCut (w : World) (p : ByteArray × ByteArray) (e : Ending) (w' : World) : Prop := ∃ b, e = .returned (.tuple #[.string p.1, .string p.2, .bool b]) ∧ Below w.heap.size w w'
theorem cut2_any (s : ByteArray) (w : World) (hs : s.size ≤ 2000000) (hg : GM w) : Calls Tryd.prog 74 #[.string s, .string ⟨#[32]⟩] w (RetCut w (cut2 s 32)) := by
  obtain ⟨m, hm⟩ := hg
  refine (Tryd.strings_Cut s ⟨#[32]⟩ m w (by omega) hm).mono ?_
  rintro e w' ⟨rfl, n, rfl⟩
  exact ⟨_, rfl, below_of_drewN _ _⟩

end Go.Proofs.YtapelogbceoojaaDoor
