/-
  The walk of l1Copy: the program in new memory, to be written.
-/
import Derived.Test.YtpadkallejfdlaaDp6
import Derived.Test.YtpadkallejfdlaaAl
namespace Go.Proofs.Ytpadkallejfdlaa
open Go.RowKit
set_option linter.unusedVariables false
set_option maxRecDepth 100000

theorem qin_one : ∀ (cs : Nat → Value) (y : Ins), QIn cs y → ∀ j, j < 4 → (cs j).oneCell' = true := fun cs y h j hj => by
  match j, hj with
  | 0, _ => rw [h.1]; rfl
  | 1, _ => rw [h.2.1]; rfl
  | 2, _ => rw [h.2.2.1]; rfl
  | 3, _ => rw [h.2.2.2]; rfl

def RetCp (w : World) (p : Prg) (e : Ending) (w' : World) : Prop := ∃ (v : Value) (cs : List Value) (Fs : Nat → List Nat), e = .returned v ∧ PrgW w' w.heap.size v p cs Fs ∧ Below w.heap.size w w'

set_option maxHeartbeats 2000000 in
theorem copyP_any (p : Prg) (hp : Few 1000 1000 p) (w : World) (v : Value) (hr : PrgS w v p) : Calls Try.prog 96 #[v] w (RetCp w p) := by
  obtain ⟨i0, hi0, hz0, hz1, hz2⟩ := info_parts Try.infoIns
  obtain ⟨i1, hi1, hy0, hy1, hy2⟩ := info_parts Try.infoInsS
  obtain ⟨A, c, rfl, _⟩ := hr.slice
  have hpl := hp.1
  have hrow0 : PrgW (w.alloc (.cells #[] 36)) w.heap.size (.slice (some ⟨w.heap.size, 0, none⟩) 0 0) (p.take 0) [] (fun _ => []) := RowW.made 1 thr (Own.new _ _ _) (Nat.le_refl _)
  have Hrow0 := Lib.hid hrow0
  clear hrow0
  go_enter Try.func96, Try.ntmps96
  go_wp2_with fail
  go_loopg [3, 4] p.length (fun g s3 s4 wr => ∃ (i : Nat) (v : Value) (cs : List Value) (Fs : Nat → List Nat), i ≤ p.length ∧ g = p.length - i ∧ v = s3 ∧ s4 = .int .i64 i ∧ Hid (PrgW wr w.heap.size v (p.take i) cs Fs) ∧ Below w.heap.size w wr)
  case atStart => exact ⟨0, _, [], _, Nat.zero_le _, rfl, rfl, rfl, Hrow0.out, (Below.refl _ _).alloc (Nat.le_refl _) _⟩
  case round =>
    obtain ⟨wo, rfl⟩ : ∃ wo : World, wo = wr := ⟨_, rfl⟩
    obtain ⟨i, v, cs, Fs, hi, rfl, rfl, rfl, hrow, hb⟩ := hrel
    by_cases hlt : i < p.length
    · obtain ⟨bb, o, A1, c1, rfl, hbl, k0, hlm, hx⟩ := SlR.getSub (PrgS.le hr (Le.below hb)) hlt
      have h1000 := hp.2 _ (List.getElem_mem hlt)
      have Htk := Lib.hid (List.take_succ_eq_append_getElem hlt)
      have hlen : (p.take i).length ≤ i := by rw [List.length_take]; omega
      have hso := hb.size
      generalize p[i] = t at hx hlm k0 h1000 Htk
      have Hx1 : Hid (InsS (wo.alloc (.cells #[] 65)) (.slice A1 t.length c1) t) := InsS.le hx (Le.alloc _ _)
      have Ht0 : Hid (RowT (wo.alloc (.cells #[] 65)) wo.heap.size (.slice (some ⟨wo.heap.size, 0, none⟩) 0 0) []) := RowOf.made _ (Own.new _ _ _) (Nat.le_refl _)
      clear hr hx
      have Hold : Hid (∀ (w2 : World), (wo.alloc (.cells #[] 65)).grownBy w2 (Value.slice (some ⟨wo.heap.size, 0, none⟩) 0 0).ownBlock → ∀ b, b < wo.heap.size → w2.heap[b]? = wo.heap[b]?) := fun w2 hg b hb =>
        (World.grownBy.block hg b (by simp; omega) (fun e => by simp only [Value.ownBlock, Option.some.injEq] at e; omega)).trans (Go.Deep.blk_alloc_lt _ _ _ hb)
      go_wp2_with (at_builtin; first
        | (refine wpList_append_list (o := ⟨some 18, _, _, _, _, _⟩) (by rfl) _ _ _ (by rfl) qin_congr (R := RIns) wo.heap.size 65 i0 _ 32 Try.underlying36 hi0 hz0 hz1 hz2 rfl (by omega) _ [] (by rfl) Ht0.out A1 c1 t (by rfl) Hx1.out (fun cs y h => h) qin_one (by simp [maxLen]; omega) (by simp; omega) (by simp) (wo.heap.size + 1) (by simp) ?_; intro A2 c2 w2 hrt hgrow hat2; rw [List.nil_append] at hrt hat2; have hs2 := World.grownBy.size hgrow; simp only [World.size_alloc] at hs2)
        | (refine wpList_append_lies (o := ⟨some 20, _, _, _, _, _⟩) _ (by rfl) _ _ _ (by rfl) w.heap.size 36 i1 _ 1 24 Try.underlying26 hi1 hy0 hy1 hy2 rfl (by omega) v (p.take i).length cs (by rfl) (owns_alloc (owns_of_block hrow.out.own (w' := w2) fun g _ _ hl => Hold.out w2 hgrow g hl) _) ⟨w2.heap.size, 0, none⟩ 1 1 [.slice A2 t.length c2] (by rfl) (by rfl) (World.news_of_block (cs := #[.slice A2 t.length c2]) (t := 36) (fr := (0, 0)) (heap_alloc_new w2 _)) (by simp [Value.oneCell']) (by omega) (by simp [maxLen]; omega) (by omega) (by simp; omega) (w2.heap.size + 1) (by simp) ?_; intro gg cap w6 hown6 hgrow6 hat6 hlt6))
      have hp6 := hrow.out.push thr_loc (X := w2.alloc (.cells #[.slice A2 t.length c2] 36)) (by simp; omega) (fun b _ hl => (Go.Deep.blk_alloc_lt _ _ _ (by omega)).trans (Hold.out w2 hgrow b hl)) hgrow6 (news := [.slice A2 t.length c2]) rfl (RowT.thr (hrt.of_block (w' := w2.alloc (.cells #[.slice A2 t.length c2] 36)) fun g _ _ hl => Go.Deep.blk_alloc_lt _ _ _ hl)) (fun b hb => (hrt.blk (mem_own.1 hb)).1) (own_nodup _) hso hown6 hat6 (by simp)
      have hB6 : Below w.heap.size w w6 := below_grown (X := w2.alloc (.cells #[.slice A2 t.length c2] 36)) (hb.trans ⟨(World.grownBy.os hgrow).trans rfl, (World.grownBy.tape hgrow).trans rfl, (World.grownBy.output hgrow).trans rfl, (by simp; omega), fun b hbl => (Go.Deep.blk_alloc_lt _ _ _ (by omega)).trans (Hold.out w2 hgrow b (by omega))⟩) hgrow6 (Nat.le_refl _) (fun g hg => owns_base' hrow.out.own hg)
      rw [← Htk.out, show (p.take i).length = i by rw [List.length_take]; omega] at hp6
      go_roundg (p.length - (i + 1))
      case measure => omega
      case rel => exact ⟨i + 1, _, _, _, by omega, rfl, rfl, by go_num, hp6, hB6⟩
    · obtain rfl : i = p.length := by omega
      go_wp2_with fail
      go_ret
      rw [List.take_length] at hrow
      exact ⟨v, cs, Fs, rfl, hrow.out, hb⟩

end Go.Proofs.Ytpadkallejfdlaa
