/-
  The walks of l1Tests and l17Cut (the pieces of a text are no longer than it), as far as draws of programs want them.
-/
import Derived.Test.YtpadkallejfdlaaDp2
import Derived.Test.YtpadkallejfdlaaAp
namespace Go.Proofs.Ytpadkallejfdlaa
open Go.RowKit
set_option linter.unusedVariables false
set_option maxRecDepth 100000

theorem Try.infoStr : (Try.prog.info? 9).map (fun i => (i.zero, i.size, i.bytes)) = some (some (.string ⟨#[]⟩), 1, 16) := by kernel_rfl
def QStr (cs : Nat → Value) (s : ByteArray) : Prop := cs 0 = .string s
theorem qstr_congr : ∀ (f g : Nat → Value) (x : ByteArray), (∀ j, j < 1 → f j = g j) → QStr f x → QStr g x := fun f g x h hq => (h 0 (by omega)).symm.trans hq

def RetCutX (w : World) (s : ByteArray) (e : Ending) (w' : World) : Prop := ∃ (ss : List ByteArray) (A : Option Addr) (c : Nat), e = .returned (.slice A ss.length c) ∧ ss.length ≤ s.size + 2 ∧ (∀ y ∈ ss, y.size ≤ s.size) ∧ Strs (above w.heap.size w') A c ss ∧ Below w.heap.size w w'
theorem ext_le (s : ByteArray) (i j : Nat) : (s.extract i j).size ≤ s.size := by rw [ByteArray.size_extract]; omega
theorem cutx_more {s : ByteArray} {P : List ByteArray} (f i : Nat) (h : ∀ y ∈ P, y.size ≤ s.size) : ∀ y ∈ P ++ [s.extract f i], y.size ≤ s.size := fun y hy => by
  rcases List.mem_append.1 hy with hy | hy
  · exact h y hy
  · rw [List.mem_singleton.1 hy]; exact ext_le s f i

set_option maxHeartbeats 2000000 in
theorem cutx_any (s : ByteArray) (c : UInt8) (w : World) (hs : s.size ≤ 2000000) : Calls Try.prog 119 #[.string s, .int .u8 c.toNat] w (RetCutX w s) := by
  obtain ⟨i0, hi0, hz0, hz1, hz2⟩ := info_parts Try.infoStr
  go_enter Try.func119, Try.ntmps119
  go_wp2_with fail
  go_loopg [5, 6, 7] (s.size + 2) (fun g s5 s6 s7 wr => ∃ (i f : Nat) (P : List ByteArray) (v : Value), i ≤ s.size + 1 ∧ f ≤ i ∧ g = s.size + 2 - i ∧ v = s5 ∧ s6 = .int .i64 f ∧ s7 = .int .i64 i ∧ P.length ≤ i ∧ RowOf 1 QStr wr w.heap.size 9 v P ∧ Hid (∀ y ∈ P, y.size ≤ s.size) ∧ Below w.heap.size w wr)
  case atStart => exact ⟨0, 0, [], _, by omega, by omega, rfl, rfl, rfl, rfl, by simp, RowOf.made _ (Own.new _ _ _) (Nat.le_refl _), (fun y hy => by cases hy), (Below.refl _ _).alloc (Nat.le_refl _) _⟩
  case round =>
    obtain ⟨i, f, P, v, hi, hf, rfl, rfl, rfl, rfl, hP, hrow, hat, hb⟩ := hrel
    by_cases hle : i ≤ s.size
    · have bl : decide ((i : Int) ≤ (s.size : Int)) = true := by rw [decide_eq_true_iff]; omega
      obtain ⟨cs, hown, hq⟩ := hrow
      have hsb := hb.size
      have Hq := Lib.hid hq
      have Hown := Lib.hid hown
      clear hown hq
      by_cases hlt : i < s.size
      · have bne : ((i : Int) == (s.size : Int)) = false := by rw [beq_eq_false_iff_ne]; omega
        by_cases hc : s[i] = c
        · have hcb : ((s[i].toNat : Int) == (c.toNat : Int)) = true := by rw [hc]; simp
          have Hat := Lib.hid (cutx_more f i hat.out)
          clear hc hat
          go_wp2_with (at_builtin; refine wpList_append_lies _ (by rfl) _ _ _ (by rfl) w.heap.size 9 i0 _ 1 16 Try.underlying105 hi0 hz0 hz1 hz2 rfl (by omega) v P.length cs (by rfl) (owns_alloc Hown.out _) ⟨wr.heap.size, 0, none⟩ 1 1 [.string (s.extract f i)] (by rfl) (by rfl) (World.news_of_block (cs := #[.string (s.extract f i)]) (t := 9) (fr := (0, 0)) (heap_alloc_new wr _)) (by simp [Value.oneCell']) (by omega) (by simp [maxLen]; omega) (by omega) (by simp; omega) (wr.heap.size + 1) (by simp) ?_; intro gg cap w1 hown1 hgrow hat1 hlt1)
          go_roundg (s.size + 2 - (i + 1))
          case measure => omega
          case rel =>
            exact ⟨i + 1, i + 1, P ++ [s.extract f i], _, by omega, by omega, rfl, rfl, by go_num, by go_num, by simp; omega, RowOf.snoc (news := [.string (s.extract f i)]) qstr_congr Hown.out Hq.out rfl rfl hown1, Hat.out, below_grown (hb.alloc hsb _) hgrow (Nat.le_refl _) (fun g hg => owns_base' Hown.out hg)⟩
        · have hcb : ((s[i].toNat : Int) == (c.toNat : Int)) = false := by
            rw [beq_eq_false_iff_ne]
            intro e
            exact hc (UInt8.toNat_inj.1 (by omega))
          have Hat := hat
          clear hc
          go_wp2_with fail
          go_roundg (s.size + 2 - (i + 1))
          case measure => omega
          case rel => exact ⟨i + 1, f, P, v, by omega, by omega, rfl, rfl, rfl, by go_num, by omega, ⟨cs, Hown.out, Hq.out⟩, Hat.out, hb⟩
      · obtain rfl : i = s.size := by omega
        have bne : ((s.size : Int) == (s.size : Int)) = true := by simp
        have Hat := Lib.hid (cutx_more f s.size hat.out)
        clear hat
        go_wp2_with (at_builtin; refine wpList_append_lies _ (by rfl) _ _ _ (by rfl) w.heap.size 9 i0 _ 1 16 Try.underlying105 hi0 hz0 hz1 hz2 rfl (by omega) v P.length cs (by rfl) (owns_alloc Hown.out _) ⟨wr.heap.size, 0, none⟩ 1 1 [.string (s.extract f s.size)] (by rfl) (by rfl) (World.news_of_block (cs := #[.string (s.extract f s.size)]) (t := 9) (fr := (0, 0)) (heap_alloc_new wr _)) (by simp [Value.oneCell']) (by omega) (by simp [maxLen]; omega) (by omega) (by simp; omega) (wr.heap.size + 1) (by simp) ?_; intro gg cap w1 hown1 hgrow hat1 hlt1)
        go_roundg (s.size + 2 - (s.size + 1))
        case measure => omega
        case rel =>
          exact ⟨s.size + 1, s.size + 1, P ++ [s.extract f s.size], _, by omega, by omega, rfl, rfl, by go_num, by go_num, by simp; omega, RowOf.snoc (news := [.string (s.extract f s.size)]) qstr_congr Hown.out Hq.out rfl rfl hown1, Hat.out, below_grown (hb.alloc hsb _) hgrow (Nat.le_refl _) (fun g hg => owns_base' Hown.out hg)⟩
    · have bl : decide ((i : Int) ≤ (s.size : Int)) = false := by rw [decide_eq_false_iff_not]; omega
      have hsl := hrow.slR (k := 1) (R := RStr) (by omega) (a := above w.heap.size wr) (fun cs x h => h) (Le.refl _)
      obtain ⟨A9, c9, rfl, _⟩ := hsl.slice
      have Hsl := Lib.hid hsl
      have Hat := hat
      clear hsl hrow
      go_wp2_with fail
      go_ret
      exact ⟨P, A9, c9, rfl, by omega, Hat.out, Hsl.out, hb⟩


/-- The texts that the reference draws programs from. -/
def tests : List ByteArray := [⟨#[120, 61, 49, 59, 97, 61, 121, 124, 121, 61, 49, 59, 97, 61, 120]⟩, ⟨#[120, 61, 49, 59, 102, 101, 110, 99, 101, 59, 97, 61, 121, 124, 121, 61, 49, 59, 102, 101, 110, 99, 101, 59, 97, 61, 120]⟩, ⟨#[120, 61, 49, 59, 121, 61, 49, 124, 97, 61, 121, 59, 98, 61, 120]⟩, ⟨#[120, 61, 49, 59, 121, 61, 49, 124, 97, 61, 121, 59, 102, 101, 110, 99, 101, 59, 98, 61, 120]⟩, ⟨#[120, 61, 49, 59, 102, 101, 110, 99, 101, 59, 121, 61, 49, 124, 97, 61, 121, 59, 98, 61, 120]⟩, ⟨#[97, 61, 120, 59, 121, 61, 49, 124, 97, 61, 121, 59, 120, 61, 49]⟩, ⟨#[97, 61, 120, 59, 121, 61, 97, 124, 97, 61, 121, 59, 120, 61, 97]⟩, ⟨#[120, 61, 49, 124, 120, 61, 50, 124, 97, 61, 120, 59, 98, 61, 120]⟩, ⟨#[120, 61, 49, 124, 121, 61, 49, 124, 97, 61, 120, 59, 98, 61, 121, 124, 97, 61, 121, 59, 98, 61, 120]⟩, ⟨#[120, 61, 49, 124, 97, 61, 120, 59, 121, 61, 49, 124, 97, 61, 121, 59, 98, 61, 120]⟩, ⟨#[120, 61, 49, 124, 121, 61, 49, 124, 97, 61, 120, 59, 98, 61, 121]⟩, ⟨#[97, 61, 120, 58, 49, 124, 97, 61, 120, 58, 50, 124, 120, 61, 51]⟩, ⟨#[120, 61, 49, 59, 97, 61, 120, 59, 98, 61, 121, 124, 121, 61, 49, 59, 97, 61, 121, 59, 98, 61, 120]⟩, ⟨#[120, 61, 50, 59, 121, 61, 49, 124, 121, 61, 50, 59, 120, 61, 49]⟩, ⟨#[97, 61, 120, 58, 49, 59, 98, 61, 121, 124, 97, 61, 121, 58, 49, 59, 98, 61, 120]⟩, ⟨#[120, 61, 49, 59, 120, 61, 50, 124, 97, 61, 120, 59, 98, 61, 120]⟩, ⟨#[120, 61, 49, 59, 121, 61, 49, 59, 97, 61, 122, 124, 122, 61, 49, 59, 97, 61, 121, 59, 98, 61, 120]⟩, ⟨#[97, 61, 120, 58, 49, 124, 98, 61, 120, 58, 49]⟩, ⟨#[102, 101, 110, 99, 101]⟩, ⟨#[]⟩, ⟨#[120, 61, 49, 59, 97, 61, 121, 124, 121, 61, 49, 59, 102, 101, 110, 99, 101, 59, 97, 61, 120]⟩]
theorem tests_small : ∀ y ∈ tests, y.size ≤ 100 := by
  unfold tests
  simp only [List.forall_mem_cons, List.not_mem_nil, false_implies, implies_true, and_true]
  decide

set_option maxHeartbeats 400000 in
theorem tests_any (w : World) : Calls Try.prog 100 #[] w (RetStrs w tests) := by
  go_enter Try.func100, Try.ntmps100
  go_wp2_with fail
  go_ret
  refine ⟨_, _, rfl, Strs.mk (by simp [tests]) fun i hi => cell_above_of (Nat.le_refl _) ?_, (Below.refl _ _).alloc (Nat.le_refl _) _⟩
  rw [Nat.zero_add]
  simp only [World.cell?_alloc_new]
  match i, hi with
  | 0, _ => rfl
  | 1, _ => rfl
  | 2, _ => rfl
  | 3, _ => rfl
  | 4, _ => rfl
  | 5, _ => rfl
  | 6, _ => rfl
  | 7, _ => rfl
  | 8, _ => rfl
  | 9, _ => rfl
  | 10, _ => rfl
  | 11, _ => rfl
  | 12, _ => rfl
  | 13, _ => rfl
  | 14, _ => rfl
  | 15, _ => rfl
  | 16, _ => rfl
  | 17, _ => rfl
  | 18, _ => rfl
  | 19, _ => rfl
  | 20, _ => rfl
  | n + 21, h => exact absurd (show n + 21 < 21 from h) (by omega)

end Go.Proofs.Ytpadkallejfdlaa
