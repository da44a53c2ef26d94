/-
  The reference's states of a program: what they are in memory; the texts that tell them apart.
-/
import Derived.Test.YtcckflijaolnkaaSeqT
namespace Go.Proofs.Ytcckflijaolnkaa
open Go.RowKit
set_option linter.unusedVariables false
set_option maxRecDepth 100000

/-- How far, registers, locations, what is buffered. -/
structure S3 where
  at_ : List Int
  regs : List Int
  mem : List Int
  buf : List (List Int)
deriving DecidableEq
structure Rep4 (W : World) (A1 A2 A3 A4 : Option Addr) (c1 c2 c3 c4 : Nat) (s : S3) : Prop where
  at_ : Ints W A1 c1 s.at_
  regs : Ints W A2 c2 s.regs
  mem : Ints W A3 c3 s.mem
  buf : Intss W A4 c4 s.buf
theorem Rep4.le {W W' : World} {A1 A2 A3 A4 : Option Addr} {c1 c2 c3 c4 : Nat} {s : S3} (h : Rep4 W A1 A2 A3 A4 c1 c2 c3 c4 s) (hl : Le W W') : Rep4 W' A1 A2 A3 A4 c1 c2 c3 c4 s := ⟨h.at_.le hl, h.regs.le hl, h.mem.le hl, h.buf.le hl⟩
def bufL (b : List Int) : List Int := 255 :: b
/-- The numbers of a state's text. -/
def keyL (s : S3) : List Int := s.at_ ++ s.regs ++ s.mem ++ s.buf.flatMap bufL
def By (xs : List Int) : Prop := ∀ v ∈ xs, 0 ≤ v ∧ v < 256
theorem By.get {xs : List Int} (h : By xs) {i : Nat} (hi : i < xs.length) : xs[i] % 256 = xs[i] := by
  have := h _ (List.getElem_mem hi)
  omega
theorem flat_take {α β : Type} {f : α → List β} {xs : List α} {i : Nat} (h : i < xs.length) : (xs.take (i + 1)).flatMap f = (xs.take i).flatMap f ++ f xs[i] := by
  rw [List.take_succ_eq_append_getElem h, List.flatMap_append]
  simp
theorem flat_take_le {α β : Type} {f : α → List β} {xs : List α} (i : Nat) : ((xs.take i).flatMap f).length ≤ (xs.flatMap f).length := by
  rw [show xs.flatMap f = (xs.take i ++ xs.drop i).flatMap f by rw [List.take_append_drop], List.flatMap_append, List.length_append]
  omega
theorem bufs_le (bs : List (List Int)) : bs.length ≤ (bs.flatMap bufL).length := by
  induction bs with
  | nil => simp
  | cons b bs ih => simp only [List.flatMap_cons, List.length_append, List.length_cons, bufL]; omega

set_option maxHeartbeats 3000000 in
theorem l3Key_any (s : S3) (hk : By (keyL s)) (hp : 0 < (keyL s).length) (hl : (keyL s).length ≤ 1000000) (W : World) (A1 A2 A3 A4 : Option Addr) (c1 c2 c3 c4 : Nat) (hr : Rep4 W A1 A2 A3 A4 c1 c2 c3 c4 s) :
    Calls Try.prog 69 #[.agg #[.slice A1 s.at_.length c1, .slice A2 s.regs.length c2, .slice A3 s.mem.length c3, .slice A4 s.buf.length c4]] W (fun e W' => e = .returned (.string (strOfNums (keyL s))) ∧ Below W.heap.size W W') := by
  obtain ⟨i0, hi0, hz0, hz1, hz2⟩ := info_parts Try.infoByte
  obtain ⟨xs, ys, zs, bs⟩ := s
  obtain ⟨r1, r2, r3, r4⟩ := hr
  simp only at r1 r2 r3 r4 ⊢
  have K1 : Hid (By xs) := fun v hv => hk v (by simp [keyL, hv])
  have K2 : Hid (By ys) := fun v hv => hk v (by simp [keyL, hv])
  have K3 : Hid (By zs) := fun v hv => hk v (by simp [keyL, hv])
  have K4 : Hid (By (bs.flatMap bufL)) := fun v hv => hk v (by unfold keyL; exact List.mem_append_right _ hv)
  have hL : xs.length + ys.length + zs.length + (bs.flatMap bufL).length ≤ 1000000 := by simpa only [keyL, List.length_append] using hl
  have Hp := Lib.hid hp
  have hbl := bufs_le bs
  clear hk hp hl
  obtain ⟨W1, hW1⟩ : ∃ W1, W1 = W.alloc (.cells #[.slice A1 xs.length c1, .slice A2 ys.length c2, .slice A3 zs.length c3, .slice A4 bs.length c4] 71) := ⟨_, rfl⟩
  have hB1 : Below W.heap.size W W1 := by rw [hW1]; exact (Below.refl _ _).alloc (Nat.le_refl _) _
  have hz1' : W1.heap.size = W.heap.size + 1 := by rw [hW1]; simp
  have oB : Own W1 W.heap.size 71 #[.slice A1 xs.length c1, .slice A2 ys.length c2, .slice A3 zs.length c3, .slice A4 bs.length c4] := by rw [hW1]; exact Own.new _ _ _
  have q0 := oB.cell (i := 0) rfl
  have q1 := oB.cell (i := 1) rfl
  have q2 := oB.cell (i := 2) rfl
  have q3 := oB.cell (i := 3) rfl
  have R1 := Lib.hid (r1.le (Le.below hB1))
  have R2 := Lib.hid (r2.le (Le.below hB1))
  have R3 := Lib.hid (r3.le (Le.below hB1))
  have R4 := Lib.hid (r4.le (Le.below hB1))
  clear r1 r2 r3 r4 oB
  go_enter Try.func69, Try.ntmps69
  go_upto_region 1 with (fail)
  rw [← hW1]
  have hBe : Below W1.heap.size W1 (W1.alloc (.cells #[] 5)) := (Below.refl _ _).alloc (Nat.le_refl _) _
  have hrow0 : Hid (RowB (W1.alloc (.cells #[] 5)) (W.heap.size + 1) (.slice (some ⟨W.heap.size + 1, 0, none⟩) 0 0) []) := by
    have h : RowB (W1.alloc (.cells #[] 5)) W1.heap.size (.slice (some ⟨W1.heap.size, 0, none⟩) 0 0) [] := RowOf.made _ (Own.new W1 _ _) (Nat.le_refl _)
    rw [hz1'] at h
    exact h
  clear hW1
  go_wp2_with fail
  go_loopg [3, 4] xs.length (fun g s3 s4 wr => ∃ (i : Nat) (v : Value), i ≤ xs.length ∧ g = xs.length - i ∧ v = s3 ∧ s4 = .int .i64 i ∧ Hid (RowB wr (W.heap.size + 1) v (xs.take i)) ∧ Below W1.heap.size W1 wr)
  case atStart => exact ⟨0, _, Nat.zero_le _, rfl, rfl, rfl, (by rw [List.take_zero]; exact hrow0.out), hBe⟩
  case round =>
    obtain ⟨wo, rfl⟩ : ∃ wo : World, wo = wr := ⟨_, rfl⟩
    skip
    obtain ⟨i, v, hi, rfl, rfl, rfl, hrow, hb⟩ := hrel
    have hsz := hb.size
    have p0 := Le.below hb _ _ q0
    by_cases hlt : i < xs.length
    · obtain ⟨bb, oo, rfl, hbb, hc⟩ := R1.out.get hlt
      have hc := Le.below hb _ _ hc
      have hm := K1.out.get hlt
      have Hn := Lib.hid (List.take_succ_eq_append_getElem hlt)
      have htl : (xs.take i).length ≤ 1000000 := by simp only [List.length_take]; omega
      have Hs : Hid (∀ g, v.ownBlock = some g → W.heap.size + 1 ≤ g) := fun g hg => (hrow.out.blk hg).1
      generalize xs[i] = n at hc hm Hn
      generalize hms : xs.take i = ms at hrow htl
      have Hms := Lib.hid hms
      obtain ⟨cs, hown, hqq⟩ := hrow.out
      have Hown := Lib.hid hown
      have Hqq := Lib.hid hqq
      clear hrow hown hqq hms
      go_wp2_with (at_builtin; refine wpList_append_lies _ (by rfl) _ _ _ (by rfl) (W.heap.size + 1) 5 i0 _ 1 1 Try.underlying34 hi0 hz0 hz1 hz2 rfl (by omega) v ms.length cs (by rfl) (owns_alloc Hown.out _) ⟨wo.heap.size, 0, none⟩ 1 1 [.int .u8 n] (by rfl) (by rfl) (World.news_of_block (cs := #[.int .u8 n]) (t := 5) (fr := (0, 0)) (heap_alloc_new wo _)) (by simp [Value.oneCell']) (by omega) (by simp [maxLen]; omega) (by omega) (by simp; omega) (wo.heap.size + 1) (by simp) ?_; intro gg cap w8 hown8 hgrow8 hat8 hlt8)
      have hB8 : Below W1.heap.size W1 w8 := below_of_grown (hb.alloc hsz _) hgrow8 (by simp; omega) (fun g hg => by have := Hs.out g hg; omega)
      have hr8 := Lib.hid (RowOf.snoc (news := [.int .u8 n]) (x := n) qb_congr Hown.out Hqq.out rfl rfl hown8)
      clear hown8 hgrow8 hat8
      go_wp2_with fail
      go_roundg (xs.length - (i + 1))
      case measure => omega
      case rel => exact ⟨i + 1, _, by omega, rfl, rfl, by go_num, by rw [Hn.out, Hms.out]; exact hr8.out, hB8⟩
    · obtain rfl : i = xs.length := by omega
      rw [List.take_length] at hrow
      go_wp2_with fail
      clear p0
      go_loopg [3, 5] ys.length (fun g s3 s5 wr => ∃ (i : Nat) (v : Value), i ≤ ys.length ∧ g = ys.length - i ∧ v = s3 ∧ s5 = .int .i64 i ∧ Hid (RowB wr (W.heap.size + 1) v (xs ++ ys.take i)) ∧ Below W1.heap.size W1 wr)
      case atStart => exact ⟨0, _, Nat.zero_le _, rfl, rfl, rfl, (by rw [List.take_zero, List.append_nil]; exact hrow.out), hb⟩
      case round =>
        obtain ⟨wo, rfl⟩ : ∃ wo : World, wo = wr := ⟨_, rfl⟩
        clear hrow hb
        obtain ⟨i, v, hi, rfl, rfl, rfl, hrow, hb⟩ := hrel
        have hsz := hb.size
        have p1 := Le.below hb _ _ q1
        by_cases hlt : i < ys.length
        · obtain ⟨bb, oo, rfl, hbb, hc⟩ := R2.out.get hlt
          have hc := Le.below hb _ _ hc
          have hm := K2.out.get hlt
          have Hn := Lib.hid (List.take_succ_eq_append_getElem hlt)
          have htl : (xs ++ ys.take i).length ≤ 1000000 := by simp only [List.length_append, List.length_take]; omega
          have Hs : Hid (∀ g, v.ownBlock = some g → W.heap.size + 1 ≤ g) := fun g hg => (hrow.out.blk hg).1
          generalize ys[i] = n at hc hm Hn
          generalize hms : xs ++ ys.take i = ms at hrow htl
          have Hms := Lib.hid hms
          obtain ⟨cs, hown, hqq⟩ := hrow.out
          have Hown := Lib.hid hown
          have Hqq := Lib.hid hqq
          clear hrow hown hqq hms
          go_wp2_with (at_builtin; refine wpList_append_lies _ (by rfl) _ _ _ (by rfl) (W.heap.size + 1) 5 i0 _ 1 1 Try.underlying34 hi0 hz0 hz1 hz2 rfl (by omega) v ms.length cs (by rfl) (owns_alloc Hown.out _) ⟨wo.heap.size, 0, none⟩ 1 1 [.int .u8 n] (by rfl) (by rfl) (World.news_of_block (cs := #[.int .u8 n]) (t := 5) (fr := (0, 0)) (heap_alloc_new wo _)) (by simp [Value.oneCell']) (by omega) (by simp [maxLen]; omega) (by omega) (by simp; omega) (wo.heap.size + 1) (by simp) ?_; intro gg cap w8 hown8 hgrow8 hat8 hlt8)
          have hB8 : Below W1.heap.size W1 w8 := below_of_grown (hb.alloc hsz _) hgrow8 (by simp; omega) (fun g hg => by have := Hs.out g hg; omega)
          have hr8 := Lib.hid (RowOf.snoc (news := [.int .u8 n]) (x := n) qb_congr Hown.out Hqq.out rfl rfl hown8)
          clear hown8 hgrow8 hat8
          go_wp2_with fail
          go_roundg (ys.length - (i + 1))
          case measure => omega
          case rel => exact ⟨i + 1, _, by omega, rfl, rfl, by go_num, by rw [Hn.out, ← List.append_assoc, Hms.out]; exact hr8.out, hB8⟩
        · obtain rfl : i = ys.length := by omega
          rw [List.take_length] at hrow
          go_wp2_with fail
          clear p1
          go_loopg [3, 6] zs.length (fun g s3 s6 wr => ∃ (i : Nat) (v : Value), i ≤ zs.length ∧ g = zs.length - i ∧ v = s3 ∧ s6 = .int .i64 i ∧ Hid (RowB wr (W.heap.size + 1) v (xs ++ ys ++ zs.take i)) ∧ Below W1.heap.size W1 wr)
          case atStart => exact ⟨0, _, Nat.zero_le _, rfl, rfl, rfl, (by rw [List.take_zero, List.append_nil]; exact hrow.out), hb⟩
          case round =>
            obtain ⟨wo, rfl⟩ : ∃ wo : World, wo = wr := ⟨_, rfl⟩
            clear hrow hb
            obtain ⟨i, v, hi, rfl, rfl, rfl, hrow, hb⟩ := hrel
            have hsz := hb.size
            have p2 := Le.below hb _ _ q2
            by_cases hlt : i < zs.length
            · obtain ⟨bb, oo, rfl, hbb, hc⟩ := R3.out.get hlt
              have hc := Le.below hb _ _ hc
              have hm := K3.out.get hlt
              have Hn := Lib.hid (List.take_succ_eq_append_getElem hlt)
              have htl : (xs ++ ys ++ zs.take i).length ≤ 1000000 := by simp only [List.length_append, List.length_take]; omega
              have Hs : Hid (∀ g, v.ownBlock = some g → W.heap.size + 1 ≤ g) := fun g hg => (hrow.out.blk hg).1
              generalize zs[i] = n at hc hm Hn
              generalize hms : xs ++ ys ++ zs.take i = ms at hrow htl
              have Hms := Lib.hid hms
              obtain ⟨cs, hown, hqq⟩ := hrow.out
              have Hown := Lib.hid hown
              have Hqq := Lib.hid hqq
              clear hrow hown hqq hms
              go_wp2_with (at_builtin; refine wpList_append_lies _ (by rfl) _ _ _ (by rfl) (W.heap.size + 1) 5 i0 _ 1 1 Try.underlying34 hi0 hz0 hz1 hz2 rfl (by omega) v ms.length cs (by rfl) (owns_alloc Hown.out _) ⟨wo.heap.size, 0, none⟩ 1 1 [.int .u8 n] (by rfl) (by rfl) (World.news_of_block (cs := #[.int .u8 n]) (t := 5) (fr := (0, 0)) (heap_alloc_new wo _)) (by simp [Value.oneCell']) (by omega) (by simp [maxLen]; omega) (by omega) (by simp; omega) (wo.heap.size + 1) (by simp) ?_; intro gg cap w8 hown8 hgrow8 hat8 hlt8)
              have hB8 : Below W1.heap.size W1 w8 := below_of_grown (hb.alloc hsz _) hgrow8 (by simp; omega) (fun g hg => by have := Hs.out g hg; omega)
              have hr8 := Lib.hid (RowOf.snoc (news := [.int .u8 n]) (x := n) qb_congr Hown.out Hqq.out rfl rfl hown8)
              clear hown8 hgrow8 hat8
              go_wp2_with fail
              go_roundg (zs.length - (i + 1))
              case measure => omega
              case rel => exact ⟨i + 1, _, by omega, rfl, rfl, by go_num, by rw [Hn.out, ← List.append_assoc, Hms.out]; exact hr8.out, hB8⟩
            · obtain rfl : i = zs.length := by omega
              rw [List.take_length] at hrow
              go_wp2_with fail
              clear p2
              generalize hpp : xs ++ ys ++ zs = pp at hrow
              have hppl : pp.length = xs.length + ys.length + zs.length := by rw [← hpp]; simp only [List.length_append]
              have Hpp := Lib.hid hpp
              clear hpp
              go_loopg [3, 7] bs.length (fun g s3 s7 wr => ∃ (i : Nat) (v : Value), i ≤ bs.length ∧ g = bs.length - i ∧ v = s3 ∧ s7 = .int .i64 i ∧ Hid (RowB wr (W.heap.size + 1) v (pp ++ (bs.take i).flatMap bufL)) ∧ Below W1.heap.size W1 wr)
              case atStart => exact ⟨0, _, Nat.zero_le _, rfl, rfl, rfl, (by rw [List.take_zero, List.flatMap_nil, List.append_nil]; exact hrow.out), hb⟩
              case round =>
                obtain ⟨wo, rfl⟩ : ∃ wo : World, wo = wr := ⟨_, rfl⟩
                clear hrow hb
                obtain ⟨i, v, hi, rfl, rfl, rfl, hrow, hb⟩ := hrel
                have hsz := hb.size
                have p3 := Le.below hb _ _ q3
                by_cases hlt : i < bs.length
                · obtain ⟨bb, oo, Aj, cj, rfl, hbb, hc0, hrj⟩ := R4.out.get hlt
                  have hc := Le.below hb _ _ hc0
                  have Hn := Lib.hid (flat_take (f := bufL) hlt)
                  have htl : (pp ++ (bs.take i).flatMap bufL).length + bs[i].length + 1 ≤ 1000000 := by
                    have h := flat_take_le (f := bufL) (xs := bs) (i + 1)
                    rw [flat_take hlt, List.length_append] at h
                    simp only [List.length_append, bufL, List.length_cons] at h ⊢
                    omega
                  have Kj : Hid (By bs[i]) := fun u hu => K4.out u (List.mem_flatMap.2 ⟨_, List.getElem_mem hlt, List.mem_cons_of_mem _ hu⟩)
                  have Hs : Hid (∀ g, v.ownBlock = some g → W.heap.size + 1 ≤ g) := fun g hg => (hrow.out.blk hg).1
                  have Hj := Lib.hid hrj
                  have Hcj := Lib.hid hc0
                  generalize bs[i] = bj at hc htl Hn Kj Hj Hcj
                  generalize hms : pp ++ (bs.take i).flatMap bufL = ms at hrow htl
                  have Hms := Lib.hid hms
                  obtain ⟨cs, hown, hqq⟩ := hrow.out
                  have Hown := Lib.hid hown
                  have Hqq := Lib.hid hqq
                  clear hrow hown hqq hms hrj hc0
                  go_wp2_with (at_builtin; refine wpList_append_lies _ (by rfl) _ _ _ (by rfl) (W.heap.size + 1) 5 i0 _ 1 1 Try.underlying34 hi0 hz0 hz1 hz2 rfl (by omega) v ms.length cs (by rfl) (owns_alloc Hown.out _) ⟨wo.heap.size, 0, none⟩ 1 1 [.int .u8 255] (by rfl) (by rfl) (World.news_of_block (cs := #[.int .u8 255]) (t := 5) (fr := (0, 0)) (heap_alloc_new wo _)) (by simp [Value.oneCell']) (by omega) (by simp [maxLen]; omega) (by omega) (by simp; omega) (wo.heap.size + 1) (by simp) ?_; intro gg cap w8 hown8 hgrow8 hat8 hlt8)
                  have hB8 : Below W1.heap.size W1 w8 := below_of_grown (hb.alloc hsz _) hgrow8 (by simp; omega) (fun g hg => by have := Hs.out g hg; omega)
                  have hr8 := Lib.hid (RowOf.snoc (news := [.int .u8 255]) (x := 255) qb_congr Hown.out Hqq.out rfl rfl hown8)
                  clear hown8 hgrow8 hat8 hc p3 hb hsz Hown Hqq Hs
                  go_wp2_with fail
                  go_loopg [3, 8] bj.length (fun g s3 s8 wr => ∃ (k : Nat) (v : Value), k ≤ bj.length ∧ g = bj.length - k ∧ v = s3 ∧ s8 = .int .i64 k ∧ Hid (RowB wr (W.heap.size + 1) v (ms ++ [255] ++ bj.take k)) ∧ Below W1.heap.size W1 wr)
                  case atStart => exact ⟨0, _, Nat.zero_le _, rfl, rfl, rfl, (by rw [List.take_zero, List.append_nil]; exact hr8.out), hB8⟩
                  case round =>
                    obtain ⟨wo2, rfl⟩ : ∃ wo2 : World, wo2 = wr := ⟨_, rfl⟩
                    clear hr8 hB8
                    obtain ⟨k, v2, hk, rfl, rfl, rfl, hrow, hb⟩ := hrel
                    have hsz := hb.size
                    have p3 := Le.below hb _ _ q3
                    have hc := Le.below hb _ _ Hcj.out
                    by_cases hkl : k < bj.length
                    · obtain ⟨bk, ok, rfl, hbk, hck⟩ := Hj.out.get hkl
                      have hck := Le.below hb _ _ hck
                      have hm := Kj.out.get hkl
                      have Hn2 := Lib.hid (List.take_succ_eq_append_getElem hkl)
                      have htl2 : (ms ++ [255] ++ bj.take k).length ≤ 1000000 := by simp only [List.length_append, List.length_take, List.length_singleton]; omega
                      have Hs : Hid (∀ g, v2.ownBlock = some g → W.heap.size + 1 ≤ g) := fun g hg => (hrow.out.blk hg).1
                      generalize bj[k] = n at hck hm Hn2
                      generalize hms2 : ms ++ [255] ++ bj.take k = ms2 at hrow htl2
                      have Hms2 := Lib.hid hms2
                      obtain ⟨cs2, hown, hqq⟩ := hrow.out
                      have Hown := Lib.hid hown
                      have Hqq := Lib.hid hqq
                      clear hrow hown hqq hms2
                      go_wp2_with (at_builtin; refine wpList_append_lies _ (by rfl) _ _ _ (by rfl) (W.heap.size + 1) 5 i0 _ 1 1 Try.underlying34 hi0 hz0 hz1 hz2 rfl (by omega) v2 ms2.length cs2 (by rfl) (owns_alloc Hown.out _) ⟨wo2.heap.size, 0, none⟩ 1 1 [.int .u8 n] (by rfl) (by rfl) (World.news_of_block (cs := #[.int .u8 n]) (t := 5) (fr := (0, 0)) (heap_alloc_new wo2 _)) (by simp [Value.oneCell']) (by omega) (by simp [maxLen]; omega) (by omega) (by simp; omega) (wo2.heap.size + 1) (by simp) ?_; intro gg2 cap2 w9 hown9 hgrow9 hat9 hlt9)
                      have hB9 : Below W1.heap.size W1 w9 := below_of_grown (hb.alloc hsz _) hgrow9 (by simp; omega) (fun g hg => by have := Hs.out g hg; omega)
                      have hr9 := Lib.hid (RowOf.snoc (news := [.int .u8 n]) (x := n) qb_congr Hown.out Hqq.out rfl rfl hown9)
                      clear hown9 hgrow9 hat9
                      go_wp2_with fail
                      go_roundg (bj.length - (k + 1))
                      case measure => omega
                      case rel => exact ⟨k + 1, _, by omega, rfl, rfl, by go_num, by rw [Hn2.out, ← List.append_assoc, Hms2.out]; exact hr9.out, hB9⟩
                    · obtain rfl : k = bj.length := by omega
                      rw [List.take_length] at hrow
                      go_wp2_with fail
                      go_roundg (bs.length - (i + 1))
                      case measure => omega
                      case rel => exact ⟨i + 1, _, by omega, rfl, rfl, by go_num, by rw [Hn.out, ← List.append_assoc, Hms.out, bufL, ← List.singleton_append, ← List.append_assoc]; exact hrow.out, hb⟩
                · obtain rfl : i = bs.length := by omega
                  rw [List.take_length] at hrow
                  have hkey : Hid (pp ++ bs.flatMap bufL = keyL ⟨xs, ys, zs, bs⟩) := by show _ = _; rw [← Hpp.out]; rfl
                  have hcv := row_conv hrow.out (by rw [hkey.out]; exact Hp.out) wo rfl
                  rw [hkey.out] at hcv
                  have hlen : (pp ++ bs.flatMap bufL).length = (keyL ⟨xs, ys, zs, bs⟩).length := by rw [hkey.out]
                  obtain ⟨Av, cv, rfl, _, _⟩ := hrow.out.slice
                  rw [hlen] at hcv
                  generalize hgk : strOfNums (keyL ⟨xs, ys, zs, bs⟩) = kk at hcv
                  have Hgk := Lib.hid hgk
                  have Hlen := Lib.hid hlen
                  clear hgk
                  try rw [hlen]
                  clear hlen
                  go_wp2_with fail
                  go_ret
                  exact ⟨by rw [Hgk.out]; rfl, hB1.trans (hb.mono hB1.size)⟩

end Go.Proofs.Ytcckflijaolnkaa
