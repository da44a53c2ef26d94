/-
  The walk of spec.ParseProgram, as far as draws want it: some program of few threads and instructions.
-/
import Derived.Test.YtpadkallejfdlaaDp4
namespace Go.Proofs.Ytpadkallejfdlaa
open Go.RowKit
set_option linter.unusedVariables false
set_option maxRecDepth 100000

/-- A program of at most n threads, of at most m instructions each. -/
def Few (n m : Nat) (p : Prg) : Prop := p.length ≤ n ∧ ∀ t ∈ p, t.length ≤ m
theorem Few.nil (n m : Nat) : Few n m [] := ⟨Nat.zero_le _, fun t ht => by cases ht⟩
theorem Few.push {n m : Nat} {p : Prg} {t : List Ins} (h : Few n m p) (ht : t.length ≤ m) : Few (n + 1) m (p ++ [t]) :=
  ⟨by rw [List.length_append, List.length_singleton]; have := h.1; omega, fun s hs => by
    rcases List.mem_append.1 hs with hs | hs
    · exact h.2 s hs
    · rw [List.mem_singleton.1 hs]; exact ht⟩
theorem Few.mono {n m n' m' : Nat} {p : Prg} (h : Few n m p) (hn : n ≤ n') (hm : m ≤ m') : Few n' m' p := ⟨Nat.le_trans h.1 hn, fun t ht => Nat.le_trans (h.2 t ht) hm⟩
theorem Few.mil {n m : Nat} {p : Prg} (h : Few n m p) (hm : m ≤ 1048576) : ∀ t ∈ p, t.length ≤ 1048576 := fun t ht => by have := h.2 t ht; omega

def RetPP (w : World) (e : Ending) (w' : World) : Prop := ∃ (p : Prg) (v : Value) (b : Bool), e = .returned (.tuple #[v, .bool b]) ∧ PrgS (above w.heap.size w') v p ∧ Few 4 8 p ∧ Below w.heap.size w w'

theorem MvO.above {F : List Nat} {B : Nat} {a b : World} (h : MvO F a b) (hF : ∀ x ∈ F, x < B) : Le (Go.Proofs.Ytpadkallejfdlaa.above B a) (Go.Proofs.Ytpadkallejfdlaa.above B b) := fun x v hc => by
  obtain ⟨h1, h2⟩ := cell_above_lt hc
  exact cell_above_of h1 (h.cell h2 fun hm => by have := hF _ hm; omega)
theorem MvO.grown {F : List Nat} {a X w1 : World} {row : Option Nat} (h : MvO F a X) (hg : X.grownBy w1 row) (hr : ∀ g, row = some g → g ∈ F ∨ a.heap.size ≤ g) : MvO F a w1 :=
  ⟨(World.grownBy.os hg).trans h.os, (World.grownBy.tape hg).trans h.tape, (World.grownBy.output hg).trans h.output, Nat.le_trans h.size (World.grownBy.size hg), fun i hi hn =>
    (World.grownBy.block hg i (Nat.lt_of_lt_of_le hi h.size) (fun e => by
      rcases hr i e.symm with h | h
      · exact hn h
      · omega)).trans (h.block i hi hn)⟩
/-- The row lies in block b, or behind what world a has. -/
def RowAt (b : Nat) (a : World) (v : Value) : Prop := ∀ g, v.ownBlock = some g → g ∈ [b] ∨ a.heap.size ≤ g
theorem RowAt.next {b : Nat} {a : World} {v : Value} {gg H n c : Nat} (h : RowAt b a v) (hat : v.ownBlock = some gg ∨ gg = H) (hH : a.heap.size ≤ H) : RowAt b a (.slice (some ⟨gg, 0, none⟩) n c) := fun g hg => by
  simp only [Value.ownBlock, Option.some.injEq] at hg
  subst hg
  rcases hat with e | e
  · exact h _ e
  · exact .inr (by omega)
theorem RowAt.here (b n c : Nat) (a : World) : RowAt b a (.slice (some ⟨b, 0, none⟩) n c) := fun g hg => by
  simp only [Value.ownBlock, Option.some.injEq] at hg
  subst hg
  exact .inl (by simp)

set_option maxHeartbeats 4000000 in
theorem parseP_any (s : ByteArray) (w : World) (hs : s.size ≤ 1000000) : Calls Try.prog 101 #[.string s] w (RetPP w) := by
  obtain ⟨i0, hi0, hz0, hz1, hz2⟩ := info_parts Try.infoIns
  obtain ⟨i1, hi1, hy0, hy1, hy2⟩ := info_parts Try.infoInsS
  have hrow0 : PrgW (w.alloc (.cells #[] 36)) w.heap.size (.slice (some ⟨w.heap.size, 0, none⟩) 0 0) [] [] (fun _ => []) := RowW.made 1 thr (Own.new _ _ _) (Nat.le_refl _)
  have Hrow0 := Lib.hid hrow0
  have hB0 : Below w.heap.size w (w.alloc (.cells #[] 36)) := (Below.refl _ _).alloc (Nat.le_refl _) _
  clear hrow0
  go_enter Try.func101, Try.ntmps101
  go_wp2_with fail
  refine (cutx_any s 124 _ (by omega)).mono ?_
  rintro e1 w1 ⟨ss, A, c, rfl, hsl, hssz, hss, hb1⟩
  have hrow1 := Lib.hid (Hrow0.out.below thr_loc hb1)
  have hB1 := hB0.trans (hb1.mono hB0.size)
  have hsz1 := hB1.size
  clear hb1 Hrow0 hB0
  have Hsz := Lib.hid hssz
  clear hssz
  go_wp2_with fail
  go_loopg [4, 6] ss.length (fun g s4 s6 wr => ∃ (i : Nat) (v : Value) (p : Prg) (cs : List Value) (Fs : Nat → List Nat), i ≤ ss.length ∧ i ≤ 4 ∧ g = ss.length - i ∧ v = s4 ∧ s6 = .int .i64 i ∧ Hid (PrgW wr w.heap.size v p cs Fs) ∧ Hid (Few i 8 p) ∧ p.length ≤ i ∧ Hid (RowAt w.heap.size w1 v) ∧ Hid (MvO [w.heap.size] w1 wr))
  case atStart => exact ⟨0, _, [], [], _, Nat.zero_le _, Nat.zero_le _, rfl, rfl, rfl, hrow1, Few.nil _ _, Nat.le_refl _, RowAt.here _ _ _ _, MvO.refl _ _⟩
  case round =>
    obtain ⟨wo, rfl⟩ : ∃ wo : World, wo = wr := ⟨_, rfl⟩
    obtain ⟨i, v, p, cs, Fs, hi, hi4, rfl, rfl, rfl, hrow, hfew, hpl, hat, hmv⟩ := hrel
    by_cases hgo0 : i < ss.length ∧ i ≤ 3
    · obtain ⟨hlt, hi3⟩ := hgo0
      · obtain ⟨bb, o, rfl, hbl, k0⟩ := (Strs.le (hss.le (hmv.out.above (by simp))) (Le.above _ _)).get hlt
        have hys := Hsz.out _ (List.getElem_mem hlt)
        generalize ss[i] = y at k0 hys
        have bi : decide ((i : Int) < (ss.length : Int)) = true := by rw [decide_eq_true_iff]; omega
        have bi3 : decide ((i : Int) ≤ 3) = true := by rw [decide_eq_true_iff]; omega
        have hth : RowT (wo.alloc (.cells #[] 65)) wo.heap.size (.slice (some ⟨wo.heap.size, 0, none⟩) 0 0) [] := RowOf.made _ (Own.new _ _ _) (Nat.le_refl _)
        have Hth := Lib.hid hth
        have hBo : Below wo.heap.size wo (wo.alloc (.cells #[] 65)) := (Below.refl _ _).alloc (Nat.le_refl _) _
        clear hth
        go_wp2_with fail
        refine (cutx_any y 59 _ (by omega)).mono ?_
        rintro e2 w2 ⟨ws, A2, c2, rfl, hwl, hwsz, hws, hb2⟩
        have Hws2 := Lib.hid hwsz
        have Hth2 : Hid (RowT w2 wo.heap.size (.slice (some ⟨wo.heap.size, 0, none⟩) 0 0) []) := Hth.out.below hb2
        have hB2 := hBo.trans (hb2.mono hBo.size)
        have hsz2 : wo.heap.size + 1 ≤ w2.heap.size := by have := hb2.size; simpa using this
        clear hb2 hwsz Hth hBo
        go_wp2_with fail
        go_loopg [7, 9] ws.length (fun g s7 s9 wr => ∃ (k : Nat) (tv : Value) (t : List Ins), k ≤ ws.length ∧ k ≤ 8 ∧ g = ws.length - k ∧ tv = s7 ∧ s9 = .int .i64 k ∧ Hid (RowT wr wo.heap.size tv t) ∧ t.length ≤ k ∧ Hid (RowAt wo.heap.size w2 tv) ∧ Hid (MvO [wo.heap.size] w2 wr))
        case atStart => exact ⟨0, _, [], Nat.zero_le _, Nat.zero_le _, rfl, rfl, rfl, Hth2, Nat.le_refl _, RowAt.here _ _ _ _, MvO.refl _ _⟩
        case round =>
          obtain ⟨k, tv, t, hk, hk8, rfl, rfl, rfl, hrt, htl, hatk, hmvk⟩ := hrel
          have k1 : wr.cell? ⟨bb, o + i, none⟩ = some (.string y) := hmvk.out.cell (Le.below hB2 _ _ k0) (by simp; omega)
          have hwr := hmvk.out.size
          have HBw : Hid (Below wo.heap.size wo wr) := hB2.trans (hmvk.out.below (fun x hx => by simp at hx; omega) hB2.size)
          by_cases hgo : (k < ws.length ∧ k ≤ 7) ∧ y.toList.isEmpty = false
          · obtain ⟨⟨hkt, hk7⟩, hy⟩ := hgo
            obtain ⟨b2, o2, rfl, hbl2, k2⟩ := (Strs.le (hws.le (hmvk.out.above (by simp))) (Le.above _ _)).get hkt
            have hzs := Hws2.out _ (List.getElem_mem hkt)
            generalize ws[k] = z at k2 hzs
            obtain ⟨ct, hot, hqt⟩ := hrt.out
            have Hot := Lib.hid hot
            have Hqt := Lib.hid hqt
            clear hot hqt
            go_wp2_with fail
            refine (parseI_any z _ (by omega)).mono ?_
            rintro e5 w5 ⟨x, rfl, hb5⟩
            have hs5 := hb5.size
            clear k0 k1 k2
            go_wp2_with (at_builtin; refine wpList_append_lies _ (by rfl) _ _ _ (by rfl) wo.heap.size 65 i0 _ 4 32 Try.underlying36 hi0 hz0 hz1 hz2 rfl (by omega) tv t.length ct (by rfl) (owns_alloc (owns_upB Hot.out hb5) _) ⟨w5.heap.size, 0, none⟩ 1 1 [.int .i64 x.op, .int .i64 x.loc, .int .i64 x.reg, .int .i64 x.val] (by rfl) (by rfl) (World.news_of_block (cs := #[.int .i64 x.op, .int .i64 x.loc, .int .i64 x.reg, .int .i64 x.val]) (t := 65) (fr := (0, 0)) (heap_alloc_new w5 _)) (by simp [Value.oneCell']) (by omega) (by simp [maxLen]; omega) (by omega) (by simp; omega) (w5.heap.size + 1) (by simp) ?_; intro gg cap w6 hown6 hgrow hat6 hlt6)
            go_roundg (ws.length - (k + 1))
            case measure => omega
            case rel => exact ⟨k + 1, _, t ++ [x], by omega, by omega, rfl, rfl, by go_num, RowOf.snoc (news := [.int .i64 x.op, .int .i64 x.loc, .int .i64 x.reg, .int .i64 x.val]) qin_congr Hot.out Hqt.out rfl ⟨rfl, rfl, rfl, rfl⟩ hown6, by simp; omega, hatk.out.next hat6 (by omega), ((hmvk.out.trans (MvO.of_below hb5)).trans (MvO.of_below ((Below.refl _ _).alloc (Nat.le_refl _) _))).grown hgrow hatk.out⟩
          · have hway : (ws.length ≤ k) ∨ (k < ws.length ∧ 7 < k) ∨ (k < ws.length ∧ k ≤ 7 ∧ y.toList.isEmpty = true) := by
              by_cases h1 : k < ws.length
              · by_cases h2 : k ≤ 7
                · right; right
                  refine ⟨h1, h2, ?_⟩
                  cases h3 : y.toList.isEmpty
                  · exact absurd ⟨⟨h1, h2⟩, h3⟩ hgo
                  · rfl
                · right; left; omega
              · left; omega
            obtain ⟨At, cT, rfl⟩ : ∃ At cT, tv = .slice At t.length cT := by
              obtain ⟨ct, hot, _⟩ := hrt.out
              rcases hot.2 with ⟨rfl, h0⟩ | ⟨g, cap, cur, rfl, _⟩
              · exact ⟨none, 0, by rw [h0]⟩
              · exact ⟨_, _, rfl⟩
            have hsw := hB1.size
            have hso := hmv.out.size
            have HBV : Hid (Below wo.heap.size wo (wr.alloc (.cells #[.slice At t.length cT] 36))) := HBw.out.alloc HBw.out.size _
            have Hpush : Hid (∀ (gg cap : Nat) (w6 : World), w6.ownsRow w.heap.size 36 1 (.slice (some ⟨gg, 0, none⟩) (p.length + 1) cap) (p.length + 1) (cs ++ [.slice At t.length cT]) → (wr.alloc (.cells #[.slice At t.length cT] 36)).grownBy w6 v.ownBlock → (v.ownBlock = some gg ∨ gg = wr.heap.size + 1) →
                ∃ Fs', PrgW w6 w.heap.size (.slice (some ⟨gg, 0, none⟩) (p.length + 1) cap) (p ++ [t]) (cs ++ [.slice At t.length cT]) Fs' ∧ RowAt w.heap.size w1 (.slice (some ⟨gg, 0, none⟩) (p.length + 1) cap) ∧ MvO [w.heap.size] w1 w6) := fun gg cap w6 hown hg hat' =>
              ⟨_, hrow.out.push thr_loc (by have := HBV.out.size; exact this) (fun b _ hb => HBV.out.block b hb) hg rfl (RowT.thr (hrt.out.of_block (w' := wr.alloc (.cells #[.slice At t.length cT] 36)) fun g _ _ hl => Go.Deep.blk_alloc_lt _ _ _ hl)) (fun b hb => (hrt.out.blk (mem_own.1 hb)).1) (own_nodup _) (by omega) hown hat' (by simp),
                hat.out.next hat' (by omega), (hmv.out.trans (MvO.of_below HBV.out)).grown hg hat.out⟩
            clear hgo
            rcases hway with h1 | ⟨h1, h2⟩ | ⟨h1, h2, h3⟩
            all_goals
              go_wp2_with (at_builtin; refine wpList_append_lies _ (by rfl) _ _ _ (by rfl) w.heap.size 36 i1 _ 1 24 Try.underlying26 hi1 hy0 hy1 hy2 rfl (by omega) v p.length cs (by rfl) (owns_alloc (owns_upB hrow.out.own HBw.out) _) ⟨wr.heap.size, 0, none⟩ 1 1 [.slice At t.length cT] (by rfl) (by rfl) (World.news_of_block (cs := #[.slice At t.length cT]) (t := 36) (fr := (0, 0)) (heap_alloc_new wr _)) (by simp [Value.oneCell']) (by omega) (by simp [maxLen]; omega) (by omega) (by simp; omega) (wr.heap.size + 1) (by simp) ?_; intro gg cap w6 hown6 hgrow hat6 hlt6)
              obtain ⟨Fs', hp1, hp2, hp3⟩ := Hpush.out gg cap w6 hown6 hgrow hat6
              go_roundg (ss.length - (i + 1))
              case measure => omega
              case rel => exact ⟨i + 1, _, p ++ [t], _, Fs', by omega, by omega, rfl, rfl, by go_num, hp1, hfew.out.push (by omega), by simp; omega, hp2, hp3⟩
    · have hway : ss.length ≤ i ∨ (i < ss.length ∧ 3 < i) := by omega
      have hpS : PrgS (above w.heap.size wo) v p := hrow.out.prgS
      have Hps := Lib.hid hpS
      have hBw : Below w.heap.size w wo := hB1.trans (hmv.out.below (fun x hx => by simp at hx; omega) hB1.size)
      obtain ⟨A9, c9, rfl, _⟩ := hpS.slice
      have hvalid := fun W => specPrg_any p (by omega) W (.slice A9 p.length c9)
      have Hfew : Hid (Few 4 8 p) := hfew.out.mono hi4 (Nat.le_refl _)
      clear hgo0 hpS hrow hat
      cases hv : prgB p
      · rw [hv] at hvalid
        have Hv := Lib.hid hvalid
        clear hvalid
        rcases hway with h1 | ⟨h1, h2⟩
        all_goals
          go_wp2_with fail
          refine (Hv.out _ (PrgS.le Hps.out (Le.above _ _))).mono ?_
          rintro e3 w3 ⟨rfl, hb3⟩
          go_wp2_with fail
          go_ret2
          exact ⟨[], _, _, rfl, ⟨_, _, rfl, by simp, fun i hi => absurd hi (Nat.not_lt_zero _)⟩, Few.nil _ _, (hBw.trans (hb3.mono hBw.size)).alloc (by have := hb3.size; have := hBw.size; omega) _⟩
      · rw [hv] at hvalid
        have hok := (prgB_iff.1 hv).1
        have Hok := Lib.hid hok
        have Hv := Lib.hid hvalid
        clear hvalid hok
        rcases hway with h1 | ⟨h1, h2⟩
        all_goals
          go_wp2_with fail
          refine (Hv.out _ (PrgS.le Hps.out (Le.above _ _))).mono ?_
          rintro e3 w3 ⟨rfl, hb3⟩
          have hB3 := hBw.trans (hb3.mono hBw.size)
          have Hp3 : Hid (PrgS (above w.heap.size w3) (.slice A9 p.length c9) p) := PrgS.le Hps.out (Le.above_le _ (Le.below hb3))
          go_wp2_with fail
          refine (text_any p Hok.out _ _ (PrgS.le Hp3.out (Le.above _ _))).mono ?_
          rintro e4 w4 ⟨tx, rfl, htx, hb4⟩
          have hB4 := hB3.trans (hb4.mono hB3.size)
          have Hp4 : Hid (PrgS (above w.heap.size w4) (.slice A9 p.length c9) p) := PrgS.le Hp3.out (Le.above_le _ (Le.below hb4))
          cases hq : (tx.toList == s.toList)
          · go_wp2_with fail
            go_ret2
            exact ⟨[], _, _, rfl, ⟨_, _, rfl, by simp, fun i hi => absurd hi (Nat.not_lt_zero _)⟩, Few.nil _ _, hB4.alloc hB4.size _⟩
          · go_wp2_with fail
            go_ret2
            exact ⟨p, _, _, rfl, Hp4.out, Hfew.out, hB4⟩

end Go.Proofs.Ytpadkallejfdlaa
