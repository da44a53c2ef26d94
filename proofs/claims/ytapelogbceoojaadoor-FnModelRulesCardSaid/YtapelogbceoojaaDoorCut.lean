/-
  The walk of l17Cut: a text cut at every byte c.
-/
import Derived.Test.YtapelogbceoojaaDoorWSp2
import Derived.Test.YtapelogbceoojaaDoorApp
import Derived.Test.YtapelogbceoojaaDoorNames
namespace Go.Proofs.YtapelogbceoojaaDoor
open Go.RowKit
set_option linter.unusedVariables false
set_option maxRecDepth 100000

/-- Cutting a text at every c; what has been read of the piece at hand comes first. -/
def spl (c : UInt8) : List UInt8 → List UInt8 → List (List UInt8)
  | cur, [] => [cur]
  | cur, b :: bs => if b = c then cur :: spl c [] bs else spl c (cur ++ [b]) bs
def cutB (s : ByteArray) (c : UInt8) : List ByteArray := (spl c [] s.data.toList).map fun l => ⟨l.toArray⟩
theorem spl_nil (c : UInt8) (cur : List UInt8) : spl c cur [] = [cur] := rfl
theorem spl_eq (c : UInt8) (cur bs : List UInt8) : spl c cur (c :: bs) = cur :: spl c [] bs := by rw [spl, if_pos rfl]
theorem spl_ne {b c : UInt8} (h : b ≠ c) (cur bs : List UInt8) : spl c cur (b :: bs) = spl c (cur ++ [b]) bs := by rw [spl, if_neg h]
theorem spl_len (c : UInt8) : ∀ (bs cur : List UInt8), ∀ y ∈ spl c cur bs, y.length ≤ cur.length + bs.length := by
  intro bs
  induction bs with
  | nil => intro cur y hy; rw [spl_nil, List.mem_singleton] at hy; subst hy; simp
  | cons b bs ih =>
    intro cur y hy
    rw [List.length_cons]
    by_cases h : b = c
    · subst h
      rw [spl_eq] at hy
      rcases List.mem_cons.1 hy with rfl | hy
      · omega
      · have := ih [] y hy
        rw [List.length_nil] at this
        omega
    · rw [spl_ne h] at hy
      have := ih _ y hy
      rw [List.length_append, List.length_singleton] at this
      omega
theorem cut_size {s : ByteArray} {c : UInt8} {y : ByteArray} (h : y ∈ cutB s c) : y.size ≤ s.size := by
  unfold cutB at h
  obtain ⟨l, hl, rfl⟩ := List.mem_map.1 h
  have h1 := spl_len c _ _ l hl
  rw [ByteArray.size_mk']
  simpa using h1
/-- What is still to come, at offset i, the piece at hand having begun at f. -/
def tl (s : ByteArray) (c : UInt8) (f i : Nat) : List (List UInt8) := if i ≤ s.size then spl c (s.extract f i).data.toList (rest s i) else []
def CutAt (s : ByteArray) (c : UInt8) (f i : Nat) (P : List ByteArray) : Prop := spl c [] s.data.toList = P.map (·.data.toList) ++ tl s c f i
theorem ext_empty (s : ByteArray) (i : Nat) : (s.extract i i).data.toList = [] := by rw [ext_rest, Nat.sub_self, List.take_zero]
theorem ext_snoc {s : ByteArray} {f i : Nat} (h : f ≤ i) (hi : i < s.size) : (s.extract f (i + 1)).data.toList = (s.extract f i).data.toList ++ [s[i]] := by
  have hl : i - f < (rest s f).length := by unfold rest; simp; omega
  rw [ext_rest, ext_rest, show i + 1 - f = (i - f) + 1 by omega, List.take_succ_eq_append_getElem hl, rest_get h hi hl]
theorem CutAt.start (s : ByteArray) (c : UInt8) : CutAt s c 0 0 [] := by
  unfold CutAt tl
  rw [if_pos (Nat.zero_le _), ext_empty]
  unfold rest
  simp
theorem CutAt.piece {s : ByteArray} {c : UInt8} {f i : Nat} {P : List ByteArray} (h : CutAt s c f i P) (hi : i < s.size) (hc : s[i] = c) : CutAt s c (i + 1) (i + 1) (P ++ [s.extract f i]) := by
  unfold CutAt tl at h ⊢
  rw [if_pos (by omega), rest_lt hi, hc, spl_eq] at h
  rw [if_pos (by omega), ext_empty, h]
  simp
theorem CutAt.on {s : ByteArray} {c : UInt8} {f i : Nat} {P : List ByteArray} (h : CutAt s c f i P) (hf : f ≤ i) (hi : i < s.size) (hc : s[i] ≠ c) : CutAt s c f (i + 1) P := by
  unfold CutAt tl at h ⊢
  rw [if_pos (by omega), rest_lt hi, spl_ne hc] at h
  rw [if_pos (by omega), h, ext_snoc hf hi]
theorem CutAt.last {s : ByteArray} {c : UInt8} {f : Nat} {P : List ByteArray} (h : CutAt s c f s.size P) : CutAt s c (s.size + 1) (s.size + 1) (P ++ [s.extract f s.size]) := by
  unfold CutAt tl at h ⊢
  rw [if_pos (Nat.le_refl _), rest_ge (Nat.le_refl _), spl_nil] at h
  rw [if_neg (by omega), h]
  simp
theorem CutAt.done {s : ByteArray} {c : UInt8} {f i : Nat} {P : List ByteArray} (h : CutAt s c f i P) (hi : s.size < i) : P = cutB s c := by
  unfold CutAt tl at h
  rw [if_neg (by omega), List.append_nil] at h
  unfold cutB
  rw [h, List.map_map]
  conv => lhs; rw [← List.map_id P]
  refine List.map_congr_left fun x _ => ?_
  simp

theorem Tryd.infoStr : (Tryd.prog.info? 9).map (fun i => (i.zero, i.size, i.bytes)) = some (some (.string ⟨#[]⟩), 1, 16) := by kernel_rfl
def QStr (cs : Nat → Value) (s : ByteArray) : Prop := cs 0 = .string s
theorem qstr_congr : ∀ (f g : Nat → Value) (x : ByteArray), (∀ j, j < 1 → f j = g j) → QStr f x → QStr g x := fun f g x h hq => (h 0 (by omega)).symm.trans hq

theorem owns_alloc {w : World} {base : Nat} {e : TypeId} {k n : Nat} {v : Value} {cs : List Value} (h : w.ownsRow base e k v n cs) (o : Obj) : (w.alloc o).ownsRow base e k v n cs := by
  refine ⟨h.1, ?_⟩
  rcases h.2 with h3 | ⟨g, cap, cur, rfl, hbg, hg, rest⟩
  · exact .inl h3
  · refine .inr ⟨g, cap, cur, rfl, hbg, ?_, rest⟩
    rw [Go.Deep.blk_alloc_lt _ _ _ ((Array.getElem?_eq_some_iff.1 hg).elim fun h _ => h)]
    exact hg

theorem owns_base' {w : World} {base : Nat} {e : TypeId} {k n : Nat} {v : Value} {cs : List Value} (h : w.ownsRow base e k v n cs) {g : Nat} (hv : v.ownBlock = some g) : base ≤ g := by
  rcases h.2 with ⟨rfl, _⟩ | ⟨g', cap, cur, rfl, hb, hg, _⟩
  · cases hv
  · simp only [Value.ownBlock, Option.some.injEq] at hv
    omega
theorem below_grown {B : Nat} {w X w1 : World} {row : Option Nat} (h : Below B w X) (hg : X.grownBy w1 row) (hB : B ≤ w.heap.size) (hr : ∀ g, row = some g → B ≤ g) : Below B w w1 :=
  ⟨(World.grownBy.os hg).trans h.os, (World.grownBy.tape hg).trans h.tape, (World.grownBy.output hg).trans h.output, Nat.le_trans h.size (World.grownBy.size hg), fun i hi => (World.grownBy.block hg i (by have := h.size; omega) (fun e => by have := hr i e.symm; omega)).trans (h.block i hi)⟩

set_option maxHeartbeats 2000000 in
theorem cut_any (s : ByteArray) (c : UInt8) (w : World) (hs : s.size ≤ 2000000) : Calls Tryd.prog 71 #[.string s, .int .u8 c.toNat] w (RetStrs w (cutB s c)) := by
  obtain ⟨i0, hi0, hz0, hz1, hz2⟩ := info_parts Tryd.infoStr
  go_enter Tryd.func71, Tryd.ntmps71
  go_wp2_with fail
  go_loopg [5, 6, 7] (s.size + 2) (fun g s5 s6 s7 wr => ∃ (i f : Nat) (P : List ByteArray) (v : Value), i ≤ s.size + 1 ∧ f ≤ i ∧ g = s.size + 2 - i ∧ v = s5 ∧ s6 = .int .i64 f ∧ s7 = .int .i64 i ∧ P.length ≤ i ∧ RowOf 1 QStr wr w.heap.size 9 v P ∧ Hid (CutAt s c f i P) ∧ Below w.heap.size w wr)
  case atStart => exact ⟨0, 0, [], _, by omega, by omega, rfl, rfl, rfl, rfl, by simp, RowOf.made _ (Own.new _ _ _) (Nat.le_refl _), CutAt.start s c, (Below.refl _ _).alloc (Nat.le_refl _) _⟩
  case round =>
    obtain ⟨i, f, P, v, hi, hf, rfl, rfl, rfl, rfl, hP, hrow, hat, hb⟩ := hrel
    by_cases hle : i ≤ s.size
    · have bl : decide ((i : Int) ≤ (s.size : Int)) = true := by rw [decide_eq_true_iff]; omega
      obtain ⟨cs, hown, hq⟩ := hrow
      have hsb := hb.size
      have Hq := Lib.hid hq
      have Hown := Lib.hid hown
      clear hown hq
      by_cases hlt : i < s.size
      · have bne : ((i : Int) == (s.size : Int)) = false := by rw [beq_eq_false_iff_ne]; omega
        by_cases hc : s[i] = c
        · have hcb : ((s[i].toNat : Int) == (c.toNat : Int)) = true := by rw [hc]; simp
          have Hat := Lib.hid (hat.out.piece hlt hc)
          clear hc hat
          go_wp2_with (at_builtin; refine wpList_append_lies _ (by rfl) _ _ _ (by rfl) w.heap.size 9 i0 _ 1 16 Tryd.underlying86 hi0 hz0 hz1 hz2 rfl (by omega) v P.length cs (by rfl) (owns_alloc Hown.out _) ⟨wr.heap.size, 0, none⟩ 1 1 [.string (s.extract f i)] (by rfl) (by rfl) (World.news_of_block (cs := #[.string (s.extract f i)]) (t := 9) (fr := (0, 0)) (heap_alloc_new wr _)) (by simp [Value.oneCell']) (by omega) (by simp [maxLen]; omega) (by omega) (by simp; omega) (wr.heap.size + 1) (by simp) ?_; intro gg cap w1 hown1 hgrow hat1 hlt1)
          go_roundg (s.size + 2 - (i + 1))
          case measure => omega
          case rel =>
            exact ⟨i + 1, i + 1, P ++ [s.extract f i], _, by omega, by omega, rfl, rfl, by go_num, by go_num, by simp; omega, RowOf.snoc (news := [.string (s.extract f i)]) qstr_congr Hown.out Hq.out rfl rfl hown1, Hat.out, below_grown (hb.alloc hsb _) hgrow (Nat.le_refl _) (fun g hg => owns_base' Hown.out hg)⟩
        · have hcb : ((s[i].toNat : Int) == (c.toNat : Int)) = false := by
            rw [beq_eq_false_iff_ne]
            intro e
            exact hc (UInt8.toNat_inj.1 (by omega))
          have Hat := Lib.hid (hat.out.on hf hlt hc)
          clear hc hat
          go_wp2_with fail
          go_roundg (s.size + 2 - (i + 1))
          case measure => omega
          case rel => exact ⟨i + 1, f, P, v, by omega, by omega, rfl, rfl, rfl, by go_num, by omega, ⟨cs, Hown.out, Hq.out⟩, Hat.out, hb⟩
      · obtain rfl : i = s.size := by omega
        have bne : ((s.size : Int) == (s.size : Int)) = true := by simp
        have Hat := Lib.hid hat.out.last
        clear hat
        go_wp2_with (at_builtin; refine wpList_append_lies _ (by rfl) _ _ _ (by rfl) w.heap.size 9 i0 _ 1 16 Tryd.underlying86 hi0 hz0 hz1 hz2 rfl (by omega) v P.length cs (by rfl) (owns_alloc Hown.out _) ⟨wr.heap.size, 0, none⟩ 1 1 [.string (s.extract f s.size)] (by rfl) (by rfl) (World.news_of_block (cs := #[.string (s.extract f s.size)]) (t := 9) (fr := (0, 0)) (heap_alloc_new wr _)) (by simp [Value.oneCell']) (by omega) (by simp [maxLen]; omega) (by omega) (by simp; omega) (wr.heap.size + 1) (by simp) ?_; intro gg cap w1 hown1 hgrow hat1 hlt1)
        go_roundg (s.size + 2 - (s.size + 1))
        case measure => omega
        case rel =>
          exact ⟨s.size + 1, s.size + 1, P ++ [s.extract f s.size], _, by omega, by omega, rfl, rfl, by go_num, by go_num, by simp; omega, RowOf.snoc (news := [.string (s.extract f s.size)]) qstr_congr Hown.out Hq.out rfl rfl hown1, Hat.out, below_grown (hb.alloc hsb _) hgrow (Nat.le_refl _) (fun g hg => owns_base' Hown.out hg)⟩
    · have bl : decide ((i : Int) ≤ (s.size : Int)) = false := by rw [decide_eq_false_iff_not]; omega
      have hdone := hat.out.done (by omega)
      have hsl := hrow.slR (k := 1) (R := RStr) (by omega) (a := above w.heap.size wr) (fun cs x h => h) (Le.refl _)
      obtain ⟨A9, c9, rfl, _⟩ := hsl.slice
      subst hdone
      have Hsl := Lib.hid hsl
      clear hsl hrow hat
      go_wp2_with fail
      go_ret
      exact ⟨A9, c9, rfl, Hsl.out, hb⟩

end Go.Proofs.YtapelogbceoojaaDoor
