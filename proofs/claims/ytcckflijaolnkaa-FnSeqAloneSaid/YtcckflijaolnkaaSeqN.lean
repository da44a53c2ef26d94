/-
  The walks of the machine with one memory: moves, key, outcome, newSeq.
-/
import Derived.Test.YtcckflijaolnkaaSeqM
import Derived.Test.YtcckflijaolnkaaRwS
import Derived.Maps.AppendAt
import Derived.Deep.Cut
namespace Go.Proofs.Ytcckflijaolnkaa
open Go.RowKit
set_option linter.unusedVariables false
set_option maxRecDepth 100000

/-- The moves of the first threads. -/
def mvI (p : Prg) (s : St) (i : Nat) : List Int := ((List.range i).filter (onS p s)).map fun k => ((k : Nat) : Int)
theorem mvI_off {p : Prg} {s : St} {i : Nat} (h : onS p s i = false) : mvI p s (i + 1) = mvI p s i := by
  unfold mvI
  rw [List.range_succ, List.filter_append]
  simp [h]
theorem mvI_on {p : Prg} {s : St} {i : Nat} (h : onS p s i = true) : mvI p s (i + 1) = mvI p s i ++ [(i : Int)] := by
  unfold mvI
  rw [List.range_succ, List.filter_append]
  simp [h]
theorem mvI_le (p : Prg) (s : St) (i : Nat) : (mvI p s i).length ≤ i := by
  unfold mvI
  rw [List.length_map]
  exact Nat.le_trans (List.length_filter_le _ _) (by simp)

set_option maxHeartbeats 1500000 in
theorem moves_any (p : Prg) (hp : PrgOk p) (s : St) (hs : StOk p s) (W : World) (b : Nat) (Ap : Option Addr) (cp : Nat) (ho : SeqL W b Ap cp p s) (hpr : PrgS W (.slice Ap p.length cp) p) :
    Calls Try.prog 149 #[.pointer (some ⟨b, 0, none⟩)] W (RetRowI W (mvI p s p.length)) := by
  obtain ⟨i0, hi0, hz0, hz1, hz2⟩ := info_parts Try.infoInt
  have q0 := ho.prg
  have h3 := hp.1.1
  go_enter Try.func149, Try.ntmps149
  go_wp2_with fail
  go_loopg [3, 13] p.length (fun g s3 s13 wr => ∃ (i : Nat) (v : Value), i ≤ p.length ∧ g = p.length - i ∧ v = s3 ∧ s13 = .int .i64 i ∧ Hid (RowI wr W.heap.size v (mvI p s i)) ∧ Below W.heap.size W wr)
  case atStart => exact ⟨0, _, Nat.zero_le _, rfl, rfl, rfl, RowOf.nil _ _ _ _ _, Below.refl _ _⟩
  case round =>
    obtain ⟨i, v, hi, rfl, rfl, rfl, hrow, hb⟩ := hrel
    have hsr := hb.size
    by_cases hlt : i < p.length
    · have hO := ho.under hb
      have hP := PrgS.le hpr (Le.below hb)
      cases hon : onS p s i
      · have hc := next_off hp hs hlt hO hP hon
        have Hm := Lib.hid (mvI_off hon)
        clear hon hO hP q0
        go_wp2_with fail
        refine hc.mono ?_
        rintro e5 w5 ⟨rfl, hb5⟩
        have hB5 := hb.trans (hb5.mono hb.size)
        have Hrow5 := Lib.hid (RowOf.below (RowOf.below hrow.out hb5) ((Below.refl _ _).alloc (Nat.le_refl _) (.cells #[.int .i64 0, .int .i64 0, .int .i64 0, .int .i64 0] 48)))
        clear hc hrow
        go_wp2_with fail
        go_roundg (p.length - (i + 1))
        case measure => omega
        case rel => exact ⟨i + 1, _, by omega, rfl, rfl, by go_num, by rw [Hm.out]; exact Hrow5.out, hB5.alloc hB5.size _⟩
      · have hc := next_on hp hs hlt hO hP hon
        have Hm := Lib.hid (mvI_on hon)
        have hml := mvI_le p s i
        clear hon hO hP q0
        generalize insS p s i = x at hc
        generalize mvI p s i = ms at hrow Hm hml
        go_wp2_with fail
        refine hc.mono ?_
        rintro e5 w5 ⟨rfl, hb5⟩
        have hB5 := hb.trans (hb5.mono hb.size)
        obtain ⟨V6, hV6⟩ : ∃ V6, V6 = w5.alloc (.cells #[.int .i64 x.op, .int .i64 x.loc, .int .i64 x.reg, .int .i64 x.val] 48) := ⟨_, rfl⟩
        have hB6 : Below W.heap.size W V6 := by rw [hV6]; exact hB5.alloc hB5.size _
        have hrow6 : RowI V6 W.heap.size v ms := by rw [hV6]; exact RowOf.below (RowOf.below hrow.out hb5) ((Below.refl _ _).alloc (Nat.le_refl _) _)
        obtain ⟨cs, hown, hqq⟩ := hrow6
        have hs6 := hB6.size
        have Hown := Lib.hid hown
        have Hqq := Lib.hid hqq
        clear hc hrow hown hqq
        go_upto_region 7 with (fail)
        rw [← hV6]
        clear hV6
        go_wp2_with (at_builtin; refine wpList_append_lies _ (by rfl) _ _ _ (by rfl) W.heap.size 3 i0 _ 1 8 Try.underlying35 hi0 hz0 hz1 hz2 rfl (by omega) v ms.length cs (by rfl) (owns_alloc Hown.out _) ⟨V6.heap.size, 0, none⟩ 1 1 [.int .i64 i] (by rfl) (by rfl) (World.news_of_block (cs := #[.int .i64 i]) (t := 3) (fr := (0, 0)) (heap_alloc_new V6 _)) (by simp [Value.oneCell']) (by omega) (by simp [maxLen]; omega) (by omega) (by simp; omega) (V6.heap.size + 1) (by simp) ?_; intro gg cap w8 hown8 hgrow8 hat8 hlt8)
        have hB8 : Below W.heap.size W w8 := below_of_grown (hB6.alloc hs6 _) hgrow8 (by simp; omega) (fun g hg => owns_base' Hown.out hg)
        have hr8 := Lib.hid (RowOf.snoc (news := [.int .i64 (i : Int)]) (x := (i : Int)) qint_congr Hown.out Hqq.out rfl rfl hown8)
        clear hown8 hgrow8 hat8
        go_wp2_with fail
        go_roundg (p.length - (i + 1))
        case measure => omega
        case rel => exact ⟨i + 1, _, by omega, rfl, rfl, by go_num, by rw [Hm.out]; exact hr8.out, hB8⟩
    · obtain rfl : i = p.length := by omega
      go_wp2_with fail
      go_ret
      exact RetRowI.mk hrow.out hb

theorem idx3 (y0 y1 y2 : Int) : (∀ w, (Instr.index 99 (.agg #[.int .u8 y0, .int .u8 y1, .int .u8 y2]) (.int .i64 0)).run Try.prog w = .ok (.int .u8 y0) w) ∧ (∀ w, (Instr.index 99 (.agg #[.int .u8 y0, .int .u8 y1, .int .u8 y2]) (.int .i64 1)).run Try.prog w = .ok (.int .u8 y1) w) ∧ (∀ w, (Instr.index 99 (.agg #[.int .u8 y0, .int .u8 y1, .int .u8 y2]) (.int .i64 2)).run Try.prog w = .ok (.int .u8 y2) w) :=
  ⟨fun w => by kernel_rfl, fun w => by kernel_rfl, fun w => by kernel_rfl⟩
theorem take_regs {s : St} {i : Nat} (h : i < s.regs.length) : s.regs.take (i + 1) = s.regs.take i ++ [rgF s i] := by
  rw [List.take_succ_eq_append_getElem h]
  unfold rgF
  rw [List.getD_eq_getElem?_getD, List.getElem?_eq_getElem h]
  rfl
theorem take_mem {s : St} {i : Nat} (h : i < s.mem.length) : s.mem.take (i + 1) = s.mem.take i ++ [meF s i] := by
  rw [List.take_succ_eq_append_getElem h]
  unfold meF
  rw [List.getD_eq_getElem?_getD, List.getElem?_eq_getElem h]
  rfl

set_option maxHeartbeats 1500000 in
theorem outcome_any (p : Prg) (hp : PrgOk p) (s : St) (hs : StOk p s) (W : World) (b : Nat) (Ap : Option Addr) (cp : Nat) (ho : SeqL W b Ap cp p s) :
    Calls Try.prog 150 #[.pointer (some ⟨b, 0, none⟩)] W (RetRowI W (outS s)) := by
  obtain ⟨i0, hi0, hz0, hz1, hz2⟩ := info_parts Try.infoInt
  have q0 := ho.prg
  have h3 := hp.1.1
  have hrl := hs.regl
  have Hrl := Lib.hid hs.regl
  have Hml := Lib.hid hs.meml
  clear hrl
  go_enter Try.func150, Try.ntmps150
  go_wp2_with fail
  go_loopg [3, 14] p.length (fun g s3 s14 wr => ∃ (i : Nat) (v : Value), i ≤ p.length ∧ g = p.length - i ∧ v = s3 ∧ s14 = .int .i64 i ∧ Hid (RowI wr W.heap.size v (s.regs.take (i * 3))) ∧ Below W.heap.size W wr)
  case atStart => exact ⟨0, _, Nat.zero_le _, rfl, rfl, rfl, (by rw [Nat.zero_mul, List.take_zero]; exact RowOf.nil _ _ _ _ _), Below.refl _ _⟩
  case round =>
    obtain ⟨wo, rfl⟩ : ∃ wo : World, wo = wr := ⟨_, rfl⟩
    obtain ⟨i, v, hi, rfl, rfl, rfl, hrow, hb⟩ := hrel
    by_cases hlt : i < p.length
    · have hO := ho.under hb
      have k0 := SeqL.reg hO (i := i * 3 + 0) (by omega)
      have k1 := SeqL.reg hO (i := i * 3 + 1) (by omega)
      have k2 := SeqL.reg hO (i := i * 3 + 2) (by omega)
      rw [show 4 + (i * 3 + 0) = 4 + i * 3 by omega] at k0
      rw [show 4 + (i * 3 + 1) = 4 + i * 3 + 1 by omega] at k1
      rw [show 4 + (i * 3 + 2) = 4 + i * 3 + 2 by omega] at k2
      have hi3 : (i : Int) < 3 := by omega
      have hil : i * 3 + 2 < s.regs.length := by rw [Hrl.out]; omega
      have HT : Hid (s.regs.take (i * 3 + 0 + 1) = s.regs.take (i * 3 + 0) ++ [rgF s (i * 3)] ∧ s.regs.take (i * 3 + 1 + 1) = s.regs.take (i * 3 + 1) ++ [rgF s (i * 3 + 1)] ∧ s.regs.take (i * 3 + 2 + 1) = s.regs.take (i * 3 + 2) ++ [rgF s (i * 3 + 2)]) := ⟨take_regs (by omega), take_regs (by omega), take_regs hil⟩
      have HZ : Hid (In03 (rgF s (i * 3)) ∧ In03 (rgF s (i * 3 + 1)) ∧ In03 (rgF s (i * 3 + 2))) := ⟨getD_03 hs.regb _, getD_03 hs.regb _, getD_03 hs.regb _⟩
      generalize rgF s (i * 3) = y0 at k0 HT HZ
      generalize rgF s (i * 3 + 1) = y1 at k1 HT HZ
      generalize rgF s (i * 3 + 2) = y2 at k2 HT HZ
      have hrl9 : s.regs.length ≤ 9 := by rw [Hrl.out]; omega
      clear hil hO
      go_wp2_with fail
      go_loopg [3, 23] 3 (fun g s3 s23 wr => ∃ (k : Nat) (v : Value), k ≤ 3 ∧ g = 3 - k ∧ v = s3 ∧ s23 = .int .i64 k ∧ Hid (RowI wr W.heap.size v (s.regs.take (i * 3 + k))) ∧ Below W.heap.size W wr)
      case atStart => exact ⟨0, _, Nat.zero_le _, rfl, rfl, rfl, hrow, hb⟩
      case round =>
        obtain ⟨k, v2, hk, rfl, rfl, rfl, hrow2, hb2⟩ := hrel
        have hs2 := hb2.size
        obtain ⟨x0, x1, x2⟩ := idx3 y0 y1 y2
        rcases (show k = 0 ∨ k = 1 ∨ k = 2 ∨ k = 3 by omega) with rfl | rfl | rfl | rfl
        · have Hn := Lib.hid (HT.out.1)
          obtain ⟨cs, hown, hqq⟩ := hrow2.out
          have Hown := Lib.hid hown
          have Hqq := Lib.hid hqq
          have hlen : (s.regs.take (i * 3 + 0)).length ≤ 20 := by rw [List.length_take]; omega
          have hz := HZ.out.1
          obtain ⟨hz0', hz1'⟩ := hz
          generalize (s.regs.take (i * 3 + 0)) = ms at Hown Hqq Hn hlen
          clear hown hqq hrow2
          go_wp2_with (at_builtin; refine wpList_append_lies _ (by rfl) _ _ _ (by rfl) W.heap.size 3 i0 _ 1 8 Try.underlying35 hi0 hz0 hz1 hz2 rfl (by omega) v2 ms.length cs (by rfl) (owns_alloc Hown.out _) ⟨wr.heap.size, 0, none⟩ 1 1 [.int .i64 y0] (by rfl) (by rfl) (World.news_of_block (cs := #[.int .i64 y0]) (t := 3) (fr := (0, 0)) (heap_alloc_new wr _)) (by simp [Value.oneCell']) (by omega) (by simp [maxLen]; omega) (by omega) (by simp; omega) (wr.heap.size + 1) (by simp) ?_; intro gg cap w8 hown8 hgrow8 hat8 hlt8)
          have hB8 : Below W.heap.size W w8 := below_of_grown (hb2.alloc hb2.size _) hgrow8 (by simp; omega) (fun g hg => owns_base' Hown.out hg)
          have hr8 := Lib.hid (RowOf.snoc (news := [.int .i64 y0]) (x := y0) qint_congr Hown.out Hqq.out rfl rfl hown8)
          clear hown8 hgrow8 hat8
          go_wp2_with fail
          go_roundg (3 - (0 + 1))
          case measure => omega
          case rel => exact ⟨0 + 1, _, by omega, rfl, rfl, by go_num, by rw [Hn.out]; exact hr8.out, hB8⟩
        · have Hn := Lib.hid (HT.out.2.1)
          obtain ⟨cs, hown, hqq⟩ := hrow2.out
          have Hown := Lib.hid hown
          have Hqq := Lib.hid hqq
          have hlen : (s.regs.take (i * 3 + 1)).length ≤ 20 := by rw [List.length_take]; omega
          have hz := HZ.out.2.1
          obtain ⟨hz0', hz1'⟩ := hz
          generalize (s.regs.take (i * 3 + 1)) = ms at Hown Hqq Hn hlen
          clear hown hqq hrow2
          go_wp2_with (at_builtin; refine wpList_append_lies _ (by rfl) _ _ _ (by rfl) W.heap.size 3 i0 _ 1 8 Try.underlying35 hi0 hz0 hz1 hz2 rfl (by omega) v2 ms.length cs (by rfl) (owns_alloc Hown.out _) ⟨wr.heap.size, 0, none⟩ 1 1 [.int .i64 y1] (by rfl) (by rfl) (World.news_of_block (cs := #[.int .i64 y1]) (t := 3) (fr := (0, 0)) (heap_alloc_new wr _)) (by simp [Value.oneCell']) (by omega) (by simp [maxLen]; omega) (by omega) (by simp; omega) (wr.heap.size + 1) (by simp) ?_; intro gg cap w8 hown8 hgrow8 hat8 hlt8)
          have hB8 : Below W.heap.size W w8 := below_of_grown (hb2.alloc hb2.size _) hgrow8 (by simp; omega) (fun g hg => owns_base' Hown.out hg)
          have hr8 := Lib.hid (RowOf.snoc (news := [.int .i64 y1]) (x := y1) qint_congr Hown.out Hqq.out rfl rfl hown8)
          clear hown8 hgrow8 hat8
          go_wp2_with fail
          go_roundg (3 - (1 + 1))
          case measure => omega
          case rel => exact ⟨1 + 1, _, by omega, rfl, rfl, by go_num, by rw [Hn.out]; exact hr8.out, hB8⟩
        · have Hn := Lib.hid (HT.out.2.2)
          obtain ⟨cs, hown, hqq⟩ := hrow2.out
          have Hown := Lib.hid hown
          have Hqq := Lib.hid hqq
          have hlen : (s.regs.take (i * 3 + 2)).length ≤ 20 := by rw [List.length_take]; omega
          have hz := HZ.out.2.2
          obtain ⟨hz0', hz1'⟩ := hz
          generalize (s.regs.take (i * 3 + 2)) = ms at Hown Hqq Hn hlen
          clear hown hqq hrow2
          go_wp2_with (at_builtin; refine wpList_append_lies _ (by rfl) _ _ _ (by rfl) W.heap.size 3 i0 _ 1 8 Try.underlying35 hi0 hz0 hz1 hz2 rfl (by omega) v2 ms.length cs (by rfl) (owns_alloc Hown.out _) ⟨wr.heap.size, 0, none⟩ 1 1 [.int .i64 y2] (by rfl) (by rfl) (World.news_of_block (cs := #[.int .i64 y2]) (t := 3) (fr := (0, 0)) (heap_alloc_new wr _)) (by simp [Value.oneCell']) (by omega) (by simp [maxLen]; omega) (by omega) (by simp; omega) (wr.heap.size + 1) (by simp) ?_; intro gg cap w8 hown8 hgrow8 hat8 hlt8)
          have hB8 : Below W.heap.size W w8 := below_of_grown (hb2.alloc hb2.size _) hgrow8 (by simp; omega) (fun g hg => owns_base' Hown.out hg)
          have hr8 := Lib.hid (RowOf.snoc (news := [.int .i64 y2]) (x := y2) qint_congr Hown.out Hqq.out rfl rfl hown8)
          clear hown8 hgrow8 hat8
          go_wp2_with fail
          go_roundg (3 - (2 + 1))
          case measure => omega
          case rel => exact ⟨2 + 1, _, by omega, rfl, rfl, by go_num, by rw [Hn.out]; exact hr8.out, hB8⟩
        · go_wp2_with fail
          go_roundg (p.length - (i + 1))
          case measure => omega
          case rel => exact ⟨i + 1, _, by omega, rfl, rfl, by go_num, by rw [show (i + 1) * 3 = i * 3 + 3 by omega]; exact hrow2.out, hb2⟩
    · obtain rfl : i = p.length := by omega
      have hrow' : Hid (RowI wo W.heap.size v (s.regs ++ s.mem.take 0)) := by
        have h := hrow.out
        rw [List.take_of_length_le (by rw [Hrl.out]; exact Nat.le_refl _)] at h
        rw [List.take_zero, List.append_nil]
        exact h
      have hO := ho.under hb
      have k0 := SeqL.mem hO (l := 0) (by omega)
      have k1 := SeqL.mem hO (l := 1) (by omega)
      have k2 := SeqL.mem hO (l := 2) (by omega)
      have HT : Hid (s.regs ++ s.mem.take (0 + 1) = (s.regs ++ s.mem.take 0) ++ [meF s 0] ∧ s.regs ++ s.mem.take (1 + 1) = (s.regs ++ s.mem.take 1) ++ [meF s 1] ∧ s.regs ++ s.mem.take (2 + 1) = (s.regs ++ s.mem.take 2) ++ [meF s 2]) := ⟨by rw [take_mem (by rw [Hml.out]; omega), List.append_assoc], by rw [take_mem (by rw [Hml.out]; omega), List.append_assoc], by rw [take_mem (by rw [Hml.out]; omega), List.append_assoc]⟩
      have HZ : Hid (In03 (meF s 0) ∧ In03 (meF s 1) ∧ In03 (meF s 2)) := ⟨getD_03 hs.memb _, getD_03 hs.memb _, getD_03 hs.memb _⟩
      generalize meF s 0 = y0 at k0 HT HZ
      generalize meF s 1 = y1 at k1 HT HZ
      generalize meF s 2 = y2 at k2 HT HZ
      have hrl9 : s.regs.length ≤ 9 := by rw [Hrl.out]; omega
      clear hO hrow
      go_wp2_with fail
      go_loopg [3, 37] 3 (fun g s3 s37 wr => ∃ (k : Nat) (v : Value), k ≤ 3 ∧ g = 3 - k ∧ v = s3 ∧ s37 = .int .i64 k ∧ Hid (RowI wr W.heap.size v (s.regs ++ s.mem.take k)) ∧ Below W.heap.size W wr)
      case atStart => exact ⟨0, _, Nat.zero_le _, rfl, rfl, rfl, hrow', hb⟩
      case round =>
        obtain ⟨k, v2, hk, rfl, rfl, rfl, hrow2, hb2⟩ := hrel
        have hs2 := hb2.size
        obtain ⟨x0, x1, x2⟩ := idx3 y0 y1 y2
        rcases (show k = 0 ∨ k = 1 ∨ k = 2 ∨ k = 3 by omega) with rfl | rfl | rfl | rfl
        · have Hn := Lib.hid (HT.out.1)
          obtain ⟨cs, hown, hqq⟩ := hrow2.out
          have Hown := Lib.hid hown
          have Hqq := Lib.hid hqq
          have hlen : (s.regs ++ s.mem.take 0).length ≤ 20 := by rw [List.length_append, List.length_take]; omega
          have hz := HZ.out.1
          obtain ⟨hz0', hz1'⟩ := hz
          generalize (s.regs ++ s.mem.take 0) = ms at Hown Hqq Hn hlen
          clear hown hqq hrow2
          go_wp2_with (at_builtin; refine wpList_append_lies _ (by rfl) _ _ _ (by rfl) W.heap.size 3 i0 _ 1 8 Try.underlying35 hi0 hz0 hz1 hz2 rfl (by omega) v2 ms.length cs (by rfl) (owns_alloc Hown.out _) ⟨wr.heap.size, 0, none⟩ 1 1 [.int .i64 y0] (by rfl) (by rfl) (World.news_of_block (cs := #[.int .i64 y0]) (t := 3) (fr := (0, 0)) (heap_alloc_new wr _)) (by simp [Value.oneCell']) (by omega) (by simp [maxLen]; omega) (by omega) (by simp; omega) (wr.heap.size + 1) (by simp) ?_; intro gg cap w8 hown8 hgrow8 hat8 hlt8)
          have hB8 : Below W.heap.size W w8 := below_of_grown (hb2.alloc hb2.size _) hgrow8 (by simp; omega) (fun g hg => owns_base' Hown.out hg)
          have hr8 := Lib.hid (RowOf.snoc (news := [.int .i64 y0]) (x := y0) qint_congr Hown.out Hqq.out rfl rfl hown8)
          clear hown8 hgrow8 hat8
          go_wp2_with fail
          go_roundg (3 - (0 + 1))
          case measure => omega
          case rel => exact ⟨0 + 1, _, by omega, rfl, rfl, by go_num, by rw [Hn.out]; exact hr8.out, hB8⟩
        · have Hn := Lib.hid (HT.out.2.1)
          obtain ⟨cs, hown, hqq⟩ := hrow2.out
          have Hown := Lib.hid hown
          have Hqq := Lib.hid hqq
          have hlen : (s.regs ++ s.mem.take 1).length ≤ 20 := by rw [List.length_append, List.length_take]; omega
          have hz := HZ.out.2.1
          obtain ⟨hz0', hz1'⟩ := hz
          generalize (s.regs ++ s.mem.take 1) = ms at Hown Hqq Hn hlen
          clear hown hqq hrow2
          go_wp2_with (at_builtin; refine wpList_append_lies _ (by rfl) _ _ _ (by rfl) W.heap.size 3 i0 _ 1 8 Try.underlying35 hi0 hz0 hz1 hz2 rfl (by omega) v2 ms.length cs (by rfl) (owns_alloc Hown.out _) ⟨wr.heap.size, 0, none⟩ 1 1 [.int .i64 y1] (by rfl) (by rfl) (World.news_of_block (cs := #[.int .i64 y1]) (t := 3) (fr := (0, 0)) (heap_alloc_new wr _)) (by simp [Value.oneCell']) (by omega) (by simp [maxLen]; omega) (by omega) (by simp; omega) (wr.heap.size + 1) (by simp) ?_; intro gg cap w8 hown8 hgrow8 hat8 hlt8)
          have hB8 : Below W.heap.size W w8 := below_of_grown (hb2.alloc hb2.size _) hgrow8 (by simp; omega) (fun g hg => owns_base' Hown.out hg)
          have hr8 := Lib.hid (RowOf.snoc (news := [.int .i64 y1]) (x := y1) qint_congr Hown.out Hqq.out rfl rfl hown8)
          clear hown8 hgrow8 hat8
          go_wp2_with fail
          go_roundg (3 - (1 + 1))
          case measure => omega
          case rel => exact ⟨1 + 1, _, by omega, rfl, rfl, by go_num, by rw [Hn.out]; exact hr8.out, hB8⟩
        · have Hn := Lib.hid (HT.out.2.2)
          obtain ⟨cs, hown, hqq⟩ := hrow2.out
          have Hown := Lib.hid hown
          have Hqq := Lib.hid hqq
          have hlen : (s.regs ++ s.mem.take 2).length ≤ 20 := by rw [List.length_append, List.length_take]; omega
          have hz := HZ.out.2.2
          obtain ⟨hz0', hz1'⟩ := hz
          generalize (s.regs ++ s.mem.take 2) = ms at Hown Hqq Hn hlen
          clear hown hqq hrow2
          go_wp2_with (at_builtin; refine wpList_append_lies _ (by rfl) _ _ _ (by rfl) W.heap.size 3 i0 _ 1 8 Try.underlying35 hi0 hz0 hz1 hz2 rfl (by omega) v2 ms.length cs (by rfl) (owns_alloc Hown.out _) ⟨wr.heap.size, 0, none⟩ 1 1 [.int .i64 y2] (by rfl) (by rfl) (World.news_of_block (cs := #[.int .i64 y2]) (t := 3) (fr := (0, 0)) (heap_alloc_new wr _)) (by simp [Value.oneCell']) (by omega) (by simp [maxLen]; omega) (by omega) (by simp; omega) (wr.heap.size + 1) (by simp) ?_; intro gg cap w8 hown8 hgrow8 hat8 hlt8)
          have hB8 : Below W.heap.size W w8 := below_of_grown (hb2.alloc hb2.size _) hgrow8 (by simp; omega) (fun g hg => owns_base' Hown.out hg)
          have hr8 := Lib.hid (RowOf.snoc (news := [.int .i64 y2]) (x := y2) qint_congr Hown.out Hqq.out rfl rfl hown8)
          clear hown8 hgrow8 hat8
          go_wp2_with fail
          go_roundg (3 - (2 + 1))
          case measure => omega
          case rel => exact ⟨2 + 1, _, by omega, rfl, rfl, by go_num, by rw [Hn.out]; exact hr8.out, hB8⟩
        · go_wp2_with fail
          go_ret
          have h := hrow2.out
          rw [List.take_of_length_le (by rw [Hml.out]; exact Nat.le_refl _)] at h
          exact RetRowI.mk h hb2

end Go.Proofs.Ytcckflijaolnkaa
