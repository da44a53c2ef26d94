/-
  The reference's states of a program: what they are in memory; the texts that tell them apart. The reference's states: hash, register, value, done, outcome, less.
-/
import Derived.Test.YtahegjofooahkaaGreatSeqC
import Derived.Test.YtahegjofooahkaaGreatPlM
import Derived.Deep.RegionWith
import Derived.Deep.RegionLaw

/-! The reference's states of a program: what they are in memory; the texts that tell them apart. -/
namespace Go.Proofs.YtahegjofooahkaaGreat
open Go.RowKit
set_option linter.unusedVariables false
set_option maxRecDepth 100000

/-- How far, registers, locations, what is buffered. -/
structure S3 where
  at_ : List Int
  regs : List Int
  mem : List Int
  buf : List (List Int)
deriving DecidableEq
/-- A row of numbers for which there is room. -/
def RIntc (w : World) (cs : Nat → Value) (x : List Int) : Prop := ∃ A c, cs 0 = .slice A x.length c ∧ x.length ≤ c ∧ Ints w A c x
theorem rintc_le : ∀ (a a' : World) (cs : Nat → Value) (x : List Int), Le a a' → RIntc a cs x → RIntc a' cs x := fun a a' cs x hl ⟨A, c, h1, h2, h3⟩ => ⟨A, c, h1, h2, h3.le hl⟩
theorem intss_nil {W : World} {A : Option Addr} {c : Nat} {xss : List (List Int)} (h : Intss W A c xss) (hn : ∀ x ∈ xss, x = []) : SlR 1 RIntc W (.slice A xss.length c) xss := by
  obtain ⟨A', c', e, hl, hx⟩ := h
  refine ⟨A', c', e, hl, fun i hi => ?_⟩
  obtain ⟨b, o, h1, cs, h2, A1, c1, h3, h4⟩ := hx i hi
  exact ⟨b, o, h1, cs, h2, A1, c1, h3, by rw [hn _ (List.getElem_mem hi)]; exact Nat.zero_le _, h4⟩
structure Rep4 (W : World) (A1 A2 A3 A4 : Option Addr) (c1 c2 c3 c4 : Nat) (s : S3) : Prop where
  at_ : Ints W A1 c1 s.at_
  regs : Ints W A2 c2 s.regs
  mem : Ints W A3 c3 s.mem
  buf : Intss W A4 c4 s.buf
  caps : SlR 1 RIntc W (.slice A4 s.buf.length c4) s.buf
theorem Rep4.le {W W' : World} {A1 A2 A3 A4 : Option Addr} {c1 c2 c3 c4 : Nat} {s : S3} (h : Rep4 W A1 A2 A3 A4 c1 c2 c3 c4 s) (hl : Le W W') : Rep4 W' A1 A2 A3 A4 c1 c2 c3 c4 s := ⟨h.at_.le hl, h.regs.le hl, h.mem.le hl, h.buf.le hl, SlR.le' rintc_le h.caps hl⟩
def bufL (b : List Int) : List Int := 255 :: b
/-- The numbers of a state's text. -/
def keyL (s : S3) : List Int := s.at_ ++ s.regs ++ s.mem ++ s.buf.flatMap bufL
def By (xs : List Int) : Prop := ∀ v ∈ xs, 0 ≤ v ∧ v < 256
theorem By.get {xs : List Int} (h : By xs) {i : Nat} (hi : i < xs.length) : xs[i] % 256 = xs[i] := by
  have := h _ (List.getElem_mem hi)
  omega
theorem flat_take {α β : Type} {f : α → List β} {xs : List α} {i : Nat} (h : i < xs.length) : (xs.take (i + 1)).flatMap f = (xs.take i).flatMap f ++ f xs[i] := by
  rw [List.take_succ_eq_append_getElem h, List.flatMap_append]
  simp
theorem flat_take_le {α β : Type} {f : α → List β} {xs : List α} (i : Nat) : ((xs.take i).flatMap f).length ≤ (xs.flatMap f).length := by
  rw [show xs.flatMap f = (xs.take i ++ xs.drop i).flatMap f by rw [List.take_append_drop], List.flatMap_append, List.length_append]
  omega
theorem bufs_le (bs : List (List Int)) : bs.length ≤ (bs.flatMap bufL).length := by
  induction bs with
  | nil => simp
  | cons b bs ih => simp only [List.flatMap_cons, List.length_append, List.length_cons, bufL]; omega

set_option maxHeartbeats 3000000 in
theorem l3Key_any (s : S3) (hk : By (keyL s)) (hp : 0 < (keyL s).length) (hl : (keyL s).length ≤ 1000000) (W : World) (A1 A2 A3 A4 : Option Addr) (c1 c2 c3 c4 : Nat) (hr : Rep4 W A1 A2 A3 A4 c1 c2 c3 c4 s) :
    Calls Tryz.prog 87 #[.agg #[.slice A1 s.at_.length c1, .slice A2 s.regs.length c2, .slice A3 s.mem.length c3, .slice A4 s.buf.length c4]] W (fun e W' => e = .returned (.string (strOfNums (keyL s))) ∧ Below W.heap.size W W') := by
  obtain ⟨i0, hi0, hz0, hz1, hz2⟩ := info_parts Tryz.infoByte
  obtain ⟨xs, ys, zs, bs⟩ := s
  obtain ⟨r1, r2, r3, r4, -⟩ := hr
  simp only at r1 r2 r3 r4 ⊢
  have K1 : Hid (By xs) := fun v hv => hk v (by simp [keyL, hv])
  have K2 : Hid (By ys) := fun v hv => hk v (by simp [keyL, hv])
  have K3 : Hid (By zs) := fun v hv => hk v (by simp [keyL, hv])
  have K4 : Hid (By (bs.flatMap bufL)) := fun v hv => hk v (by unfold keyL; exact List.mem_append_right _ hv)
  have hL : xs.length + ys.length + zs.length + (bs.flatMap bufL).length ≤ 1000000 := by simpa only [keyL, List.length_append] using hl
  have Hp := Lib.hid hp
  have hbl := bufs_le bs
  clear hk hp hl
  obtain ⟨W1, hW1⟩ : ∃ W1, W1 = W.alloc (.cells #[.slice A1 xs.length c1, .slice A2 ys.length c2, .slice A3 zs.length c3, .slice A4 bs.length c4] 70) := ⟨_, rfl⟩
  have hB1 : Below W.heap.size W W1 := by rw [hW1]; exact (Below.refl _ _).alloc (Nat.le_refl _) _
  have hz1' : W1.heap.size = W.heap.size + 1 := by rw [hW1]; simp
  have oB : Own W1 W.heap.size 70 #[.slice A1 xs.length c1, .slice A2 ys.length c2, .slice A3 zs.length c3, .slice A4 bs.length c4] := by rw [hW1]; exact Own.new _ _ _
  have q0 := oB.cell (i := 0) rfl
  have q1 := oB.cell (i := 1) rfl
  have q2 := oB.cell (i := 2) rfl
  have q3 := oB.cell (i := 3) rfl
  have R1 := Lib.hid (r1.le (Le.below hB1))
  have R2 := Lib.hid (r2.le (Le.below hB1))
  have R3 := Lib.hid (r3.le (Le.below hB1))
  have R4 := Lib.hid (r4.le (Le.below hB1))
  clear r1 r2 r3 r4 oB
  go_enter Tryz.func87, Tryz.ntmps87
  go_upto_region 1 with (fail)
  rw [← hW1]
  have hBe : Below W1.heap.size W1 (W1.alloc (.cells #[] 5)) := (Below.refl _ _).alloc (Nat.le_refl _) _
  have hrow0 : Hid (RowB (W1.alloc (.cells #[] 5)) (W.heap.size + 1) (.slice (some ⟨W.heap.size + 1, 0, none⟩) 0 0) []) := by
    have h : RowB (W1.alloc (.cells #[] 5)) W1.heap.size (.slice (some ⟨W1.heap.size, 0, none⟩) 0 0) [] := RowOf.made _ (Own.new W1 _ _) (Nat.le_refl _)
    rw [hz1'] at h
    exact h
  clear hW1
  go_wp2_with fail
  go_loopg [3, 4] xs.length (fun g s3 s4 wr => ∃ (i : Nat) (v : Value), i ≤ xs.length ∧ g = xs.length - i ∧ v = s3 ∧ s4 = .int .i64 i ∧ Hid (RowB wr (W.heap.size + 1) v (xs.take i)) ∧ Below W1.heap.size W1 wr)
  case atStart => exact ⟨0, _, Nat.zero_le _, rfl, rfl, rfl, (by rw [List.take_zero]; exact hrow0.out), hBe⟩
  case round =>
    obtain ⟨wo, rfl⟩ : ∃ wo : World, wo = wr := ⟨_, rfl⟩
    skip
    obtain ⟨i, v, hi, rfl, rfl, rfl, hrow, hb⟩ := hrel
    have hsz := hb.size
    have p0 := Le.below hb _ _ q0
    by_cases hlt : i < xs.length
    · obtain ⟨bb, oo, rfl, hbb, hc⟩ := R1.out.get hlt
      have hc := Le.below hb _ _ hc
      have hm := K1.out.get hlt
      have Hn := Lib.hid (List.take_succ_eq_append_getElem hlt)
      have htl : (xs.take i).length ≤ 1000000 := by simp only [List.length_take]; omega
      have Hs : Hid (∀ g, v.ownBlock = some g → W.heap.size + 1 ≤ g) := fun g hg => (hrow.out.blk hg).1
      generalize xs[i] = n at hc hm Hn
      generalize hms : xs.take i = ms at hrow htl
      have Hms := Lib.hid hms
      obtain ⟨cs, hown, hqq⟩ := hrow.out
      have Hown := Lib.hid hown
      have Hqq := Lib.hid hqq
      clear hrow hown hqq hms
      go_wp2_with (at_builtin; refine wpList_append_lies _ (by rfl) _ _ _ (by rfl) (W.heap.size + 1) 5 i0 _ 1 1 Tryz.underlying22 hi0 hz0 hz1 hz2 rfl (by omega) v ms.length cs (by rfl) (owns_alloc Hown.out _) ⟨wo.heap.size, 0, none⟩ 1 1 [.int .u8 n] (by rfl) (by rfl) (World.news_of_block (cs := #[.int .u8 n]) (t := 5) (fr := (0, 0)) (heap_alloc_new wo _)) (by simp [Value.oneCell']) (by omega) (by simp [maxLen]; omega) (by omega) (by simp; omega) (wo.heap.size + 1) (by simp) ?_; intro gg cap w8 hown8 hgrow8 hat8 hlt8)
      have hB8 : Below W1.heap.size W1 w8 := below_of_grown (hb.alloc hsz _) hgrow8 (by simp; omega) (fun g hg => by have := Hs.out g hg; omega)
      have hr8 := Lib.hid (RowOf.snoc (news := [.int .u8 n]) (x := n) qb_congr Hown.out Hqq.out rfl rfl hown8)
      clear hown8 hgrow8 hat8
      go_wp2_with fail
      go_roundg (xs.length - (i + 1))
      case measure => omega
      case rel => exact ⟨i + 1, _, by omega, rfl, rfl, by go_num, by rw [Hn.out, Hms.out]; exact hr8.out, hB8⟩
    · obtain rfl : i = xs.length := by omega
      rw [List.take_length] at hrow
      go_wp2_with fail
      clear p0
      go_loopg [3, 5] ys.length (fun g s3 s5 wr => ∃ (i : Nat) (v : Value), i ≤ ys.length ∧ g = ys.length - i ∧ v = s3 ∧ s5 = .int .i64 i ∧ Hid (RowB wr (W.heap.size + 1) v (xs ++ ys.take i)) ∧ Below W1.heap.size W1 wr)
      case atStart => exact ⟨0, _, Nat.zero_le _, rfl, rfl, rfl, (by rw [List.take_zero, List.append_nil]; exact hrow.out), hb⟩
      case round =>
        obtain ⟨wo, rfl⟩ : ∃ wo : World, wo = wr := ⟨_, rfl⟩
        clear hrow hb
        obtain ⟨i, v, hi, rfl, rfl, rfl, hrow, hb⟩ := hrel
        have hsz := hb.size
        have p1 := Le.below hb _ _ q1
        by_cases hlt : i < ys.length
        · obtain ⟨bb, oo, rfl, hbb, hc⟩ := R2.out.get hlt
          have hc := Le.below hb _ _ hc
          have hm := K2.out.get hlt
          have Hn := Lib.hid (List.take_succ_eq_append_getElem hlt)
          have htl : (xs ++ ys.take i).length ≤ 1000000 := by simp only [List.length_append, List.length_take]; omega
          have Hs : Hid (∀ g, v.ownBlock = some g → W.heap.size + 1 ≤ g) := fun g hg => (hrow.out.blk hg).1
          generalize ys[i] = n at hc hm Hn
          generalize hms : xs ++ ys.take i = ms at hrow htl
          have Hms := Lib.hid hms
          obtain ⟨cs, hown, hqq⟩ := hrow.out
          have Hown := Lib.hid hown
          have Hqq := Lib.hid hqq
          clear hrow hown hqq hms
          go_wp2_with (at_builtin; refine wpList_append_lies _ (by rfl) _ _ _ (by rfl) (W.heap.size + 1) 5 i0 _ 1 1 Tryz.underlying22 hi0 hz0 hz1 hz2 rfl (by omega) v ms.length cs (by rfl) (owns_alloc Hown.out _) ⟨wo.heap.size, 0, none⟩ 1 1 [.int .u8 n] (by rfl) (by rfl) (World.news_of_block (cs := #[.int .u8 n]) (t := 5) (fr := (0, 0)) (heap_alloc_new wo _)) (by simp [Value.oneCell']) (by omega) (by simp [maxLen]; omega) (by omega) (by simp; omega) (wo.heap.size + 1) (by simp) ?_; intro gg cap w8 hown8 hgrow8 hat8 hlt8)
          have hB8 : Below W1.heap.size W1 w8 := below_of_grown (hb.alloc hsz _) hgrow8 (by simp; omega) (fun g hg => by have := Hs.out g hg; omega)
          have hr8 := Lib.hid (RowOf.snoc (news := [.int .u8 n]) (x := n) qb_congr Hown.out Hqq.out rfl rfl hown8)
          clear hown8 hgrow8 hat8
          go_wp2_with fail
          go_roundg (ys.length - (i + 1))
          case measure => omega
          case rel => exact ⟨i + 1, _, by omega, rfl, rfl, by go_num, by rw [Hn.out, ← List.append_assoc, Hms.out]; exact hr8.out, hB8⟩
        · obtain rfl : i = ys.length := by omega
          rw [List.take_length] at hrow
          go_wp2_with fail
          clear p1
          go_loopg [3, 6] zs.length (fun g s3 s6 wr => ∃ (i : Nat) (v : Value), i ≤ zs.length ∧ g = zs.length - i ∧ v = s3 ∧ s6 = .int .i64 i ∧ Hid (RowB wr (W.heap.size + 1) v (xs ++ ys ++ zs.take i)) ∧ Below W1.heap.size W1 wr)
          case atStart => exact ⟨0, _, Nat.zero_le _, rfl, rfl, rfl, (by rw [List.take_zero, List.append_nil]; exact hrow.out), hb⟩
          case round =>
            obtain ⟨wo, rfl⟩ : ∃ wo : World, wo = wr := ⟨_, rfl⟩
            clear hrow hb
            obtain ⟨i, v, hi, rfl, rfl, rfl, hrow, hb⟩ := hrel
            have hsz := hb.size
            have p2 := Le.below hb _ _ q2
            by_cases hlt : i < zs.length
            · obtain ⟨bb, oo, rfl, hbb, hc⟩ := R3.out.get hlt
              have hc := Le.below hb _ _ hc
              have hm := K3.out.get hlt
              have Hn := Lib.hid (List.take_succ_eq_append_getElem hlt)
              have htl : (xs ++ ys ++ zs.take i).length ≤ 1000000 := by simp only [List.length_append, List.length_take]; omega
              have Hs : Hid (∀ g, v.ownBlock = some g → W.heap.size + 1 ≤ g) := fun g hg => (hrow.out.blk hg).1
              generalize zs[i] = n at hc hm Hn
              generalize hms : xs ++ ys ++ zs.take i = ms at hrow htl
              have Hms := Lib.hid hms
              obtain ⟨cs, hown, hqq⟩ := hrow.out
              have Hown := Lib.hid hown
              have Hqq := Lib.hid hqq
              clear hrow hown hqq hms
              go_wp2_with (at_builtin; refine wpList_append_lies _ (by rfl) _ _ _ (by rfl) (W.heap.size + 1) 5 i0 _ 1 1 Tryz.underlying22 hi0 hz0 hz1 hz2 rfl (by omega) v ms.length cs (by rfl) (owns_alloc Hown.out _) ⟨wo.heap.size, 0, none⟩ 1 1 [.int .u8 n] (by rfl) (by rfl) (World.news_of_block (cs := #[.int .u8 n]) (t := 5) (fr := (0, 0)) (heap_alloc_new wo _)) (by simp [Value.oneCell']) (by omega) (by simp [maxLen]; omega) (by omega) (by simp; omega) (wo.heap.size + 1) (by simp) ?_; intro gg cap w8 hown8 hgrow8 hat8 hlt8)
              have hB8 : Below W1.heap.size W1 w8 := below_of_grown (hb.alloc hsz _) hgrow8 (by simp; omega) (fun g hg => by have := Hs.out g hg; omega)
              have hr8 := Lib.hid (RowOf.snoc (news := [.int .u8 n]) (x := n) qb_congr Hown.out Hqq.out rfl rfl hown8)
              clear hown8 hgrow8 hat8
              go_wp2_with fail
              go_roundg (zs.length - (i + 1))
              case measure => omega
              case rel => exact ⟨i + 1, _, by omega, rfl, rfl, by go_num, by rw [Hn.out, ← List.append_assoc, Hms.out]; exact hr8.out, hB8⟩
            · obtain rfl : i = zs.length := by omega
              rw [List.take_length] at hrow
              go_wp2_with fail
              clear p2
              generalize hpp : xs ++ ys ++ zs = pp at hrow
              have hppl : pp.length = xs.length + ys.length + zs.length := by rw [← hpp]; simp only [List.length_append]
              have Hpp := Lib.hid hpp
              clear hpp
              go_loopg [3, 7] bs.length (fun g s3 s7 wr => ∃ (i : Nat) (v : Value), i ≤ bs.length ∧ g = bs.length - i ∧ v = s3 ∧ s7 = .int .i64 i ∧ Hid (RowB wr (W.heap.size + 1) v (pp ++ (bs.take i).flatMap bufL)) ∧ Below W1.heap.size W1 wr)
              case atStart => exact ⟨0, _, Nat.zero_le _, rfl, rfl, rfl, (by rw [List.take_zero, List.flatMap_nil, List.append_nil]; exact hrow.out), hb⟩
              case round =>
                obtain ⟨wo, rfl⟩ : ∃ wo : World, wo = wr := ⟨_, rfl⟩
                clear hrow hb
                obtain ⟨i, v, hi, rfl, rfl, rfl, hrow, hb⟩ := hrel
                have hsz := hb.size
                have p3 := Le.below hb _ _ q3
                by_cases hlt : i < bs.length
                · obtain ⟨bb, oo, Aj, cj, rfl, hbb, hc0, hrj⟩ := R4.out.get hlt
                  have hc := Le.below hb _ _ hc0
                  have Hn := Lib.hid (flat_take (f := bufL) hlt)
                  have htl : (pp ++ (bs.take i).flatMap bufL).length + bs[i].length + 1 ≤ 1000000 := by
                    have h := flat_take_le (f := bufL) (xs := bs) (i + 1)
                    rw [flat_take hlt, List.length_append] at h
                    simp only [List.length_append, bufL, List.length_cons] at h ⊢
                    omega
                  have Kj : Hid (By bs[i]) := fun u hu => K4.out u (List.mem_flatMap.2 ⟨_, List.getElem_mem hlt, List.mem_cons_of_mem _ hu⟩)
                  have Hs : Hid (∀ g, v.ownBlock = some g → W.heap.size + 1 ≤ g) := fun g hg => (hrow.out.blk hg).1
                  have Hj := Lib.hid hrj
                  have Hcj := Lib.hid hc0
                  generalize bs[i] = bj at hc htl Hn Kj Hj Hcj
                  generalize hms : pp ++ (bs.take i).flatMap bufL = ms at hrow htl
                  have Hms := Lib.hid hms
                  obtain ⟨cs, hown, hqq⟩ := hrow.out
                  have Hown := Lib.hid hown
                  have Hqq := Lib.hid hqq
                  clear hrow hown hqq hms hrj hc0
                  go_wp2_with (at_builtin; refine wpList_append_lies _ (by rfl) _ _ _ (by rfl) (W.heap.size + 1) 5 i0 _ 1 1 Tryz.underlying22 hi0 hz0 hz1 hz2 rfl (by omega) v ms.length cs (by rfl) (owns_alloc Hown.out _) ⟨wo.heap.size, 0, none⟩ 1 1 [.int .u8 255] (by rfl) (by rfl) (World.news_of_block (cs := #[.int .u8 255]) (t := 5) (fr := (0, 0)) (heap_alloc_new wo _)) (by simp [Value.oneCell']) (by omega) (by simp [maxLen]; omega) (by omega) (by simp; omega) (wo.heap.size + 1) (by simp) ?_; intro gg cap w8 hown8 hgrow8 hat8 hlt8)
                  have hB8 : Below W1.heap.size W1 w8 := below_of_grown (hb.alloc hsz _) hgrow8 (by simp; omega) (fun g hg => by have := Hs.out g hg; omega)
                  have hr8 := Lib.hid (RowOf.snoc (news := [.int .u8 255]) (x := 255) qb_congr Hown.out Hqq.out rfl rfl hown8)
                  clear hown8 hgrow8 hat8 hc p3 hb hsz Hown Hqq Hs
                  go_wp2_with fail
                  go_loopg [3, 8] bj.length (fun g s3 s8 wr => ∃ (k : Nat) (v : Value), k ≤ bj.length ∧ g = bj.length - k ∧ v = s3 ∧ s8 = .int .i64 k ∧ Hid (RowB wr (W.heap.size + 1) v (ms ++ [255] ++ bj.take k)) ∧ Below W1.heap.size W1 wr)
                  case atStart => exact ⟨0, _, Nat.zero_le _, rfl, rfl, rfl, (by rw [List.take_zero, List.append_nil]; exact hr8.out), hB8⟩
                  case round =>
                    obtain ⟨wo2, rfl⟩ : ∃ wo2 : World, wo2 = wr := ⟨_, rfl⟩
                    clear hr8 hB8
                    obtain ⟨k, v2, hk, rfl, rfl, rfl, hrow, hb⟩ := hrel
                    have hsz := hb.size
                    have p3 := Le.below hb _ _ q3
                    have hc := Le.below hb _ _ Hcj.out
                    by_cases hkl : k < bj.length
                    · obtain ⟨bk, ok, rfl, hbk, hck⟩ := Hj.out.get hkl
                      have hck := Le.below hb _ _ hck
                      have hm := Kj.out.get hkl
                      have Hn2 := Lib.hid (List.take_succ_eq_append_getElem hkl)
                      have htl2 : (ms ++ [255] ++ bj.take k).length ≤ 1000000 := by simp only [List.length_append, List.length_take, List.length_singleton]; omega
                      have Hs : Hid (∀ g, v2.ownBlock = some g → W.heap.size + 1 ≤ g) := fun g hg => (hrow.out.blk hg).1
                      generalize bj[k] = n at hck hm Hn2
                      generalize hms2 : ms ++ [255] ++ bj.take k = ms2 at hrow htl2
                      have Hms2 := Lib.hid hms2
                      obtain ⟨cs2, hown, hqq⟩ := hrow.out
                      have Hown := Lib.hid hown
                      have Hqq := Lib.hid hqq
                      clear hrow hown hqq hms2
                      go_wp2_with (at_builtin; refine wpList_append_lies _ (by rfl) _ _ _ (by rfl) (W.heap.size + 1) 5 i0 _ 1 1 Tryz.underlying22 hi0 hz0 hz1 hz2 rfl (by omega) v2 ms2.length cs2 (by rfl) (owns_alloc Hown.out _) ⟨wo2.heap.size, 0, none⟩ 1 1 [.int .u8 n] (by rfl) (by rfl) (World.news_of_block (cs := #[.int .u8 n]) (t := 5) (fr := (0, 0)) (heap_alloc_new wo2 _)) (by simp [Value.oneCell']) (by omega) (by simp [maxLen]; omega) (by omega) (by simp; omega) (wo2.heap.size + 1) (by simp) ?_; intro gg2 cap2 w9 hown9 hgrow9 hat9 hlt9)
                      have hB9 : Below W1.heap.size W1 w9 := below_of_grown (hb.alloc hsz _) hgrow9 (by simp; omega) (fun g hg => by have := Hs.out g hg; omega)
                      have hr9 := Lib.hid (RowOf.snoc (news := [.int .u8 n]) (x := n) qb_congr Hown.out Hqq.out rfl rfl hown9)
                      clear hown9 hgrow9 hat9
                      go_wp2_with fail
                      go_roundg (bj.length - (k + 1))
                      case measure => omega
                      case rel => exact ⟨k + 1, _, by omega, rfl, rfl, by go_num, by rw [Hn2.out, ← List.append_assoc, Hms2.out]; exact hr9.out, hB9⟩
                    · obtain rfl : k = bj.length := by omega
                      rw [List.take_length] at hrow
                      go_wp2_with fail
                      go_roundg (bs.length - (i + 1))
                      case measure => omega
                      case rel => exact ⟨i + 1, _, by omega, rfl, rfl, by go_num, by rw [Hn.out, ← List.append_assoc, Hms.out, bufL, ← List.singleton_append, ← List.append_assoc]; exact hrow.out, hb⟩
                · obtain rfl : i = bs.length := by omega
                  rw [List.take_length] at hrow
                  have hkey : Hid (pp ++ bs.flatMap bufL = keyL ⟨xs, ys, zs, bs⟩) := by show _ = _; rw [← Hpp.out]; rfl
                  have hcv := row_conv hrow.out (by rw [hkey.out]; exact Hp.out) wo rfl
                  rw [hkey.out] at hcv
                  have hlen : (pp ++ bs.flatMap bufL).length = (keyL ⟨xs, ys, zs, bs⟩).length := by rw [hkey.out]
                  obtain ⟨Av, cv, rfl, _, _⟩ := hrow.out.slice
                  rw [hlen] at hcv
                  generalize hgk : strOfNums (keyL ⟨xs, ys, zs, bs⟩) = kk at hcv
                  have Hgk := Lib.hid hgk
                  have Hlen := Lib.hid hlen
                  clear hgk
                  try rw [hlen]
                  clear hlen
                  go_wp2_with fail
                  go_ret
                  exact ⟨by rw [Hgk.out]; rfl, hB1.trans (hb.mono hB1.size)⟩

end Go.Proofs.YtahegjofooahkaaGreat

/-! The reference's states: hash, register, value, done, outcome, less. -/
namespace Go.Proofs.YtahegjofooahkaaGreat
open Go.RowKit
set_option linter.unusedVariables false
set_option maxRecDepth 100000

def hashN (s : ByteArray) : Nat → Nat
  | 0 => 0
  | k + 1 => (hashN s k * 31 + (if h : k < s.size then s[k].toNat else 0)) % 4096
def hashS (s : ByteArray) : Nat := hashN s s.size
theorem hashN_lt (s : ByteArray) : ∀ k, hashN s k < 4096
  | 0 => by rw [hashN]; omega
  | k + 1 => Nat.mod_lt _ (by decide)
theorem hashN_next (s : ByteArray) (k : Nat) (h : k < s.size) : hashN s (k + 1) = (hashN s k * 31 + s[k].toNat) % 4096 := by
  rw [hashN, dif_pos h]

set_option maxHeartbeats 1000000 in
theorem l3Hash_any (s : ByteArray) (hs : s.size ≤ 1000000) (W : World) :
    Calls Tryz.prog 116 #[.string s] W (RetI W (hashS s)) := by
  go_enter Tryz.func116, Tryz.ntmps116
  go_wp2_with fail
  go_loopg [3, 4] s.size (fun g s3 s4 wr => ∃ k : Nat, k ≤ s.size ∧ g = s.size - k ∧ s3 = .int .i64 (hashN s k) ∧ s4 = .int .i64 k ∧ wr = W)
  case atStart => exact ⟨0, Nat.zero_le _, rfl, rfl, rfl, rfl⟩
  case round =>
    obtain ⟨k, hk, rfl, rfl, rfl, rfl⟩ := hrel
    by_cases hlt : k < s.size
    · have hn := hashN_lt s k
      have Hn := Lib.hid (hashN_next s k hlt)
      have hu : s[k].toNat < 256 := s[k].toNat_lt
      generalize hashN s k = n at hn Hn
      have hmod : Int.tmod ((n : Int) * 31 + (s[k].toNat : Int)) 4096 = (((n * 31 + s[k].toNat) % 4096 : Nat) : Int) := by
        rw [Int.tmod_eq_emod_of_nonneg (by omega)]
        omega
      go_wp2_with fail
      go_roundg (s.size - (k + 1))
      case measure => omega
      case rel => exact ⟨k + 1, by omega, rfl, by rw [Hn.out]; exact congrArg _ (by omega), by go_num, rfl⟩
    · obtain rfl : k = s.size := by omega
      go_wp2_with fail
      go_ret
      exact ⟨rfl, Below.refl _ _⟩

theorem l3Reg_any (t r : Nat) (ht : t ≤ 100) (hr : r ≤ 100) (W : World) :
    Calls Tryz.prog 121 #[.int .i64 t, .int .i64 r] W (RetI W (t * 3 + r : Nat)) := by
  go_enter Tryz.func121, Tryz.ntmps121
  go_wp2_with fail
  go_ret
  exact ⟨by go_num, Below.refl _ _⟩

/-- Whether thread t has run so far. -/
def on3 (p : Prg) (s : S3) (t : Nat) : Bool := decide (s.at_.getD t 0 < ((thrP p t).length : Int))
def done3 (p : Prg) (s : S3) : Bool := (List.range p.length).all fun t => !on3 p s t
theorem done3_false {p : Prg} {s : S3} {t : Nat} (ht : t < p.length) (h : on3 p s t = true) : done3 p s = false := by
  unfold done3
  rw [List.all_eq_false]
  exact ⟨t, List.mem_range.2 ht, by simp [h]⟩

set_option maxHeartbeats 1500000 in
theorem l3Done_any (p : Prg) (s : S3) (hl : s.at_.length = p.length) (W : World) (vp : Value) (hpr : PrgS W vp p) (A1 A2 A3 A4 : Option Addr) (c1 c2 c3 c4 : Nat) (hr : Rep4 W A1 A2 A3 A4 c1 c2 c3 c4 s) :
    Calls Tryz.prog 105 #[vp, .agg #[.slice A1 s.at_.length c1, .slice A2 s.regs.length c2, .slice A3 s.mem.length c3, .slice A4 s.buf.length c4]] W (RetB W (done3 p s)) := by
  obtain ⟨Ap, cp, rfl, hpl⟩ := SlR.slice hpr
  obtain ⟨V, hV⟩ : ∃ V, V = W.alloc (.cells #[.slice A1 s.at_.length c1, .slice A2 s.regs.length c2, .slice A3 s.mem.length c3, .slice A4 s.buf.length c4] 70) := ⟨_, rfl⟩
  have hB : Below W.heap.size W V := by rw [hV]; exact (Below.refl _ _).alloc (Nat.le_refl _) _
  have oV : Own V W.heap.size 70 #[.slice A1 s.at_.length c1, .slice A2 s.regs.length c2, .slice A3 s.mem.length c3, .slice A4 s.buf.length c4] := by rw [hV]; exact Own.new _ _ _
  have q0 := oV.cell (i := 0) rfl
  have R1 := Lib.hid (hr.at_.le (Le.below hB))
  have RP := Lib.hid (PrgS.le hpr (Le.below hB))
  have HL := Lib.hid hl
  clear hr hpr hl
  go_enter Tryz.func105, Tryz.ntmps105
  go_upto_region 1 with (fail)
  rw [← hV]
  clear hV
  go_wp2_with fail
  go_loopg [5] p.length (fun g s5 wr => ∃ t : Nat, t ≤ p.length ∧ g = p.length - t ∧ s5 = .int .i64 t ∧ Hid (∀ u, u < t → on3 p s u = false) ∧ Below V.heap.size V wr)
  case atStart => exact ⟨0, Nat.zero_le _, rfl, rfl, fun u hu => absurd hu (Nat.not_lt_zero _), Below.refl _ _⟩
  case round =>
    obtain ⟨wo, rfl⟩ : ∃ wo : World, wo = wr := ⟨_, rfl⟩
    obtain ⟨t, hi, rfl, rfl, hall, hb⟩ := hrel
    by_cases hlt : t < p.length
    · have p0 := Le.below hb _ _ q0
      obtain ⟨b1, o1, e1, hb1, k1⟩ := R1.out.get (i := t) (by rw [HL.out]; exact hlt)
      subst e1
      obtain ⟨b2, o2, A5, c5, e2, hb2, k2, hm2, _⟩ := SlR.getSub RP.out hlt
      subst e2
      have k1 := Le.below hb _ _ k1
      have k2 := Le.below hb _ _ k2
      have f0 := fun n : Ext wo => n.le _ _ p0
      have f1 := fun n : Ext wo => n.le _ _ k1
      have f2 := fun n : Ext wo => n.le _ _ k2
      have hlt1 : t < s.at_.length := by rw [HL.out]; exact hlt
      have Hon : Hid (on3 p s t = decide (s.at_[t] < (p[t].length : Int))) := by
        show on3 p s t = _
        unfold on3
        rw [thrP_get hlt, List.getD_eq_getElem?_getD, List.getElem?_eq_getElem hlt1]
        rfl
      have htl : (t : Int) < (p.length : Int) := by omega
      have htl2 : (t : Int) < (s.at_.length : Int) := by omega
      generalize p[t] = th at k2 f2 Hon hm2
      generalize s.at_[t] = at1 at k1 f1 Hon
      clear k1 k2 p0
      go_wp2_with fail
      refine wp_region_ext _ (by kernel_rfl) (by kernel_rfl) (Below.refl _ _) ?_
      repeat (go_big_quiet_step (fail))
      refine wpQuiet_nil ?_
      rintro wn ⟨⟨_, hbn⟩, rfl⟩
      have hBn := hb.trans (hbn.mono hb.size)
      clear f0 f1 f2 hbn
      by_cases hon : at1 < (th.length : Int)
      · have hd : decide (at1 < (th.length : Int)) = true := by rw [decide_eq_true_iff]; exact hon
        have Hr : Hid (done3 p s = false) := done3_false hlt (by rw [Hon.out, hd])
        go_wp2_with fail
        go_ret
        exact ⟨by rw [Hr.out]; rfl, hB.trans (hBn.mono hB.size)⟩
      · have hd : decide (at1 < (th.length : Int)) = false := by rw [decide_eq_false_iff_not]; exact hon
        have Hof : Hid (on3 p s t = false) := by show _ = _; rw [Hon.out, hd]
        go_wp2_with fail
        go_roundg (p.length - (t + 1))
        case measure => omega
        case rel => exact ⟨t + 1, by omega, rfl, by go_num, fun u hu => by
          by_cases e : u = t
          · rw [e]; exact Hof.out
          · exact hall.out u (by omega), hBn⟩
    · obtain rfl : t = p.length := by omega
      have Hr : Hid (done3 p s = true) := by
        show _ = _
        unfold done3
        rw [List.all_eq_true]
        intro u hu
        rw [hall.out u (List.mem_range.1 hu)]
        rfl
      go_wp2_with fail
      go_ret
      exact ⟨by rw [Hr.out]; rfl, hB.trans (hb.mono hB.size)⟩

/-- What an instruction of thread t writes. -/
def val3 (s : S3) (t : Nat) (x : Ins) : Int := if x.op = 3 then s.regs.getD (t * 3 + x.reg.toNat) 0 else x.val

set_option maxHeartbeats 1500000 in
theorem l3Value_any (s : S3) (t : Nat) (x : Ins) (hx : InsOk x) (ht : t * 3 + 3 ≤ s.regs.length) (hl : s.regs.length ≤ 100) (W : World) (A1 A2 A3 A4 : Option Addr) (c1 c2 c3 c4 : Nat) (hr : Rep4 W A1 A2 A3 A4 c1 c2 c3 c4 s) :
    Calls Tryz.prog 123 #[.agg #[.slice A1 s.at_.length c1, .slice A2 s.regs.length c2, .slice A3 s.mem.length c3, .slice A4 s.buf.length c4], .int .i64 t, .agg #[.int .i64 x.op, .int .i64 x.loc, .int .i64 x.reg, .int .i64 x.val]] W (RetI W (val3 s t x)) := by
  obtain ⟨V, hV⟩ : ∃ V, V = (W.alloc (.cells #[.slice A1 s.at_.length c1, .slice A2 s.regs.length c2, .slice A3 s.mem.length c3, .slice A4 s.buf.length c4] 70)).alloc (.cells #[.int .i64 x.op, .int .i64 x.loc, .int .i64 x.reg, .int .i64 x.val] 52) := ⟨_, rfl⟩
  have hB : Below W.heap.size W V := by rw [hV]; exact ((Below.refl _ _).alloc (Nat.le_refl _) _).alloc (by simp) _
  have oS : Own V W.heap.size 70 #[.slice A1 s.at_.length c1, .slice A2 s.regs.length c2, .slice A3 s.mem.length c3, .slice A4 s.buf.length c4] := by rw [hV]; exact (Own.new _ _ _).alloc _
  have oI : Own V (W.heap.size + 1) 52 #[.int .i64 x.op, .int .i64 x.loc, .int .i64 x.reg, .int .i64 x.val] := by rw [hV]; simpa using Own.new (W.alloc (.cells #[.slice A1 s.at_.length c1, .slice A2 s.regs.length c2, .slice A3 s.mem.length c3, .slice A4 s.buf.length c4] 70)) 52 #[.int .i64 x.op, .int .i64 x.loc, .int .i64 x.reg, .int .i64 x.val]
  have q1 := oS.cell (i := 1) rfl
  have i0 := oI.cell (i := 0) rfl
  have i2 := oI.cell (i := 2) rfl
  have i3 := oI.cell (i := 3) rfl
  have R2 := Lib.hid (hr.regs.le (Le.below hB))
  clear hr
  go_enter Tryz.func123, Tryz.ntmps123
  go_upto_region 1 with (fail)
  rw [← hV]
  clear hV
  by_cases h : x.op = 3
  · have hrg : 0 ≤ x.reg ∧ x.reg ≤ 2 := by
      rcases hx with h' | h' | h' | h' <;> omega
    obtain ⟨r, hr2⟩ : ∃ r : Nat, x.reg = (r : Int) := ⟨x.reg.toNat, by omega⟩
    have hlt : t * 3 + r < s.regs.length := by omega
    have Hval : Hid (val3 s t x = s.regs[t * 3 + r]) := by
      show _ = _
      unfold val3
      rw [if_pos h, hr2, Int.toNat_natCast, List.getD_eq_getElem?_getD, List.getElem?_eq_getElem hlt]
      rfl
    obtain ⟨b2, o2, rfl, hb2, k2⟩ := R2.out.get hlt
    have i2 : V.cell? ⟨W.heap.size + 1, 2, none⟩ = some (.int .i64 (r : Int)) := by rw [← hr2]; exact oI.cell (i := 2) rfl
    have hop : (x.op == 3) = true := by rw [beq_iff_eq]; exact h
    have hreg : ((t * 3 + r : Nat) : Int) < (s.regs.length : Int) := by omega
    have Hc : Hid (∀ U, Below V.heap.size V U → Calls Tryz.prog 121 #[.int .i64 t, .int .i64 r] U (fun e U' => e = .returned (.int .i64 ((t * 3 + r : Nat) : Int)) ∧ Below U.heap.size U U')) := fun U _ => l3Reg_any t r (by omega) (by omega) U
    generalize s.regs[t * 3 + r] = vv at k2 Hval
    have f0 := fun n : Ext V => n.le _ _ q1
    have f1 := fun n : Ext V => n.le _ _ i2
    have f2 := fun n : Ext V => n.le _ _ k2
    clear hx hrg hr2 h q1 i2 i3 k2
    go_wp2_with fail
    refine wp_region_ext _ (by kernel_rfl) (by kernel_rfl) (Below.refl _ _) ?_
    repeat (go_big_quiet_step ((go_at_call 121; with_reducible exact Ext.call _ Hc.out)))
    refine wpQuiet_nil ?_
    rintro wn ⟨⟨_, hbn⟩, rfl⟩
    clear f0 f1 f2
    go_wp2_with fail
    go_ret
    exact ⟨by rw [Hval.out]; rfl, hB.trans (hbn.mono hB.size)⟩
  · have hop : (x.op == 3) = false := by rw [beq_eq_false_iff_ne]; exact h
    have Hval : Hid (val3 s t x = x.val) := by show _ = _; unfold val3; rw [if_neg h]
    clear hx h
    go_wp2_with fail
    go_ret
    exact ⟨by rw [Hval.out]; rfl, hB⟩

theorem hold_ne {wr w6 : World} {o : Obj} {n c : Nat} (hg : (wr.drew.alloc o).grownBy w6 (Value.slice (some ⟨wr.heap.size, 0, none⟩) n c).ownBlock) : Below wr.heap.size wr w6 :=
  below_of_grown ((Below.refl wr.heap.size wr).drew.alloc (Nat.le_refl _) _) hg (by simp) (fun g hg => by simp only [Value.ownBlock, Option.some.injEq] at hg; omega)

set_option maxHeartbeats 2000000 in
theorem l3Outcome_any (s : S3) (h1 : s.regs.length ≤ 1000) (h2 : s.mem.length ≤ 1000) (W : World) (A1 A2 A3 A4 : Option Addr) (c1 c2 c3 c4 : Nat) (hr : Rep4 W A1 A2 A3 A4 c1 c2 c3 c4 s) :
    Calls Tryz.prog 74 #[.agg #[.slice A1 s.at_.length c1, .slice A2 s.regs.length c2, .slice A3 s.mem.length c3, .slice A4 s.buf.length c4]] W (RetRowI W (s.regs ++ s.mem)) := by
  obtain ⟨i0, hi0, hz0, hz1, hz2⟩ := info_parts Tryz.infoInt
  obtain ⟨V, hV⟩ : ∃ V, V = W.alloc (.cells #[.slice A1 s.at_.length c1, .slice A2 s.regs.length c2, .slice A3 s.mem.length c3, .slice A4 s.buf.length c4] 70) := ⟨_, rfl⟩
  have hB : Below W.heap.size W V := by rw [hV]; exact (Below.refl _ _).alloc (Nat.le_refl _) _
  have oV : Own V W.heap.size 70 #[.slice A1 s.at_.length c1, .slice A2 s.regs.length c2, .slice A3 s.mem.length c3, .slice A4 s.buf.length c4] := by rw [hV]; exact Own.new _ _ _
  have hWV : W.heap.size < V.heap.size := oV.lt
  have HF : Hid (∀ U, Below V.heap.size V U → (U.cell? ⟨W.heap.size, 1, none⟩ = some (.slice A2 s.regs.length c2) ∧ U.cell? ⟨W.heap.size, 2, none⟩ = some (.slice A3 s.mem.length c3)) ∧ Ints U A2 c2 s.regs ∧ Ints U A3 c3 s.mem) :=
    fun U hb => ⟨⟨Le.below hb _ _ (oV.cell (i := 1) rfl), Le.below hb _ _ (oV.cell (i := 2) rfl)⟩, hr.regs.le ((Le.below hB).trans (Le.below hb)), hr.mem.le ((Le.below hB).trans (Le.below hb))⟩
  have HBr := Lib.hid (Below.refl V.heap.size V)
  clear hr oV
  go_enter Tryz.func74, Tryz.ntmps74
  go_upto_region 1 with (fail)
  rw [← hV]
  clear hV
  go_region_held3 (fun U => U.cell? ⟨W.heap.size, 1, none⟩ = some (.slice A2 s.regs.length c2) ∧ U.cell? ⟨W.heap.size, 2, none⟩ = some (.slice A3 s.mem.length c3))
    (first
      | exact (HF.out _ HBr.out.drew).1
      | exact (HF.out _ (HBr.out.drew.alloc (Nat.le_refl _) _)).1
      | exact (HF.out _ hB6).1
      | exact (HF.out _ hB9).1)
    (first
      | (refine step_append_list (o := ⟨some 6, _, _, _, _, _⟩) (by rfl) _ _ _ (by rfl) qint_congr (R := RInt) V.heap.size 3 i0 _ 8 Tryz.underlying24 hi0 hz0 hz1 hz2 rfl (by omega) (.slice (some ⟨V.heap.size, 0, none⟩) 0 0) [] (by rfl) (RowOf.made _ (Own.new V.drew _ _) (Nat.le_refl _)) A2 c2 s.regs (by rfl) (HF.out _ (HBr.out.drew.alloc (Nat.le_refl _) _)).2.1 (fun cs y h => h) qint_one (by simp [maxLen]; omega) (by simp; omega) (by simp) (V.heap.size + 1) (by simp) ?_; intro A6 c6 w6 hrow6 hgrow6 hat6; rw [List.nil_append] at hrow6 hat6; have hB6 := hold_ne hgrow6)
      | (refine step_append_list (o := ⟨some 9, _, _, _, _, _⟩) (by rfl) _ _ _ (by rfl) qint_congr (R := RInt) V.heap.size 3 i0 _ 8 Tryz.underlying24 hi0 hz0 hz1 hz2 rfl (by omega) (.slice A6 s.regs.length c6) s.regs (by rfl) hrow6 A3 c3 s.mem (by rfl) (HF.out _ hB6).2.2 (fun cs y h => h) qint_one (by simp [maxLen]; omega) (by omega) hB6.size w6.heap.size rfl ?_; intro A9 c9 w9 hrow9 hgrow9 hat9; have hB9 := below_of_grown hB6 hgrow9 hB6.size (fun g hg => (hrow6.blk hg).1)))
  have hBn : Below W.heap.size W w9 := hB.trans (hB9.mono hB.size)
  have Hrow : Hid (RowI w9 W.heap.size (.slice A9 (s.regs ++ s.mem).length c9) (s.regs ++ s.mem)) := RowOf.rebase hrow9 (fun g hg => by have := (hrow9.blk hg).1; omega)
  clear hrow6 hrow9 hgrow6 hgrow9 hat6 hat9 hB6 hB9
  go_wp2_with fail
  go_ret
  exact ⟨A9, c9, by simp only [List.length_append]; rfl, Hrow.out, hBn⟩

set_option maxHeartbeats 1500000 in
theorem l3Less_any (xs ys : List Int) (hl : xs.length = ys.length) (W : World) (A B : Option Addr) (c d : Nat) (hx : Ints W A c xs) (hy : Ints W B d ys) :
    Calls Tryz.prog 97 #[.slice A xs.length c, .slice B ys.length d] W (RetI W (lexC xs ys)) := by
  have hm := hx.len
  have hm' := hy.len
  have HL := Lib.hid hl
  clear hl
  go_enter Tryz.func97, Tryz.ntmps97
  go_wp2_with fail
  go_loopg [5] xs.length (fun g s5 wr => ∃ k : Nat, k ≤ xs.length ∧ g = xs.length - k ∧ s5 = .int .i64 k ∧ Hid (lexC xs ys = lexC (xs.drop k) (ys.drop k)) ∧ Below W.heap.size W wr)
  case atStart => exact ⟨0, Nat.zero_le _, rfl, rfl, rfl, Below.refl _ _⟩
  case round =>
    obtain ⟨wo, rfl⟩ : ∃ wo : World, wo = wr := ⟨_, rfl⟩
    obtain ⟨k, hk, rfl, rfl, hpre, hb⟩ := hrel
    by_cases hlt : k < xs.length
    · have hlt' : k < ys.length := by rw [← HL.out]; exact hlt
      obtain ⟨b, o, rfl, hbl, k0⟩ := hx.get hlt
      obtain ⟨b', o', rfl, hbl', d0⟩ := hy.get hlt'
      have k0 := Le.below hb _ _ k0
      have d0 := Le.below hb _ _ d0
      have Hd := Lib.hid (lexC_drop hlt hlt')
      have hki : (k : Int) < (xs.length : Int) := by omega
      have hki' : (k : Int) < (ys.length : Int) := by omega
      generalize xs[k] = x at k0 Hd
      generalize ys[k] = y at d0 Hd
      have f0 := fun n : Ext wo => n.le _ _ k0
      have f1 := fun n : Ext wo => n.le _ _ d0
      go_upto_region 4 with (fail)
      refine wp_region_ext _ (by kernel_rfl) (by kernel_rfl) (Below.refl _ _) ?_
      repeat (go_big_quiet_step (fail))
      refine wpQuiet_nil ?_
      rintro wn ⟨⟨_, hbn⟩, rfl⟩
      have hBn := hb.trans (hbn.mono hb.size)
      clear f0 f1
      by_cases h1 : x < y
      · have hd : decide (x < y) = true := by rw [decide_eq_true_iff]; exact h1
        have Hp : Hid (lexC xs ys = -1) := by show _ = _; rw [hpre.out, Hd.out, if_pos h1]
        clear hpre Hd hd
        go_wp2_with fail
        go_ret
        exact ⟨by rw [Hp.out]; rfl, hBn⟩
      · have hd : decide (x < y) = false := by rw [decide_eq_false_iff_not]; exact h1
        have k0 := Le.below hbn _ _ k0
        have d0 := Le.below hbn _ _ d0
        have f0 := fun n : Ext wn => n.le _ _ k0
        have f1 := fun n : Ext wn => n.le _ _ d0
        go_upto_region 6 with (fail)
        refine wp_region_ext _ (by kernel_rfl) (by kernel_rfl) (Below.refl _ _) ?_
        repeat (go_big_quiet_step (fail))
        refine wpQuiet_nil ?_
        rintro wm ⟨⟨_, hbm⟩, rfl⟩
        have hBm := hBn.trans (hbm.mono hBn.size)
        clear f0 f1
        by_cases h2 : y < x
        · have hd2 : decide (y < x) = true := by rw [decide_eq_true_iff]; exact h2
          have hd3 : decide (x > y) = true := hd2
          have Hp : Hid (lexC xs ys = 1) := by show _ = _; rw [hpre.out, Hd.out, if_neg h1, if_pos h2]
          clear hpre Hd hd hd2 hd3
          go_wp2_with fail
          go_ret
          exact ⟨by rw [Hp.out]; rfl, hBm⟩
        · have hd2 : decide (y < x) = false := by rw [decide_eq_false_iff_not]; exact h2
          have hd3 : decide (x > y) = false := hd2
          have Hp : Hid (lexC xs ys = lexC (xs.drop (k + 1)) (ys.drop (k + 1))) := by show _ = _; rw [hpre.out, Hd.out, if_neg h1, if_neg h2]
          clear hpre Hd hd hd2 hd3
          go_wp2_with fail
          go_roundg (xs.length - (k + 1))
          case measure => omega
          case rel => exact ⟨k + 1, by omega, rfl, by go_num, Hp.out, hBm⟩
    · obtain rfl : k = xs.length := by omega
      have hge : ¬ xs.length < ys.length := by rw [← HL.out]; omega
      have Hp : Hid (lexC xs ys = 0) := by show _ = _; rw [hpre.out, lexC_both hlt hge]
      clear hpre
      go_wp2_with fail
      go_ret
      exact ⟨by rw [Hp.out]; rfl, hb⟩

end Go.Proofs.YtahegjofooahkaaGreat
