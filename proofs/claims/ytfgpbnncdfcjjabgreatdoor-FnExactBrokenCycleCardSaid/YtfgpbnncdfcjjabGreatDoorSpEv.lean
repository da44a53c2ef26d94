/-
  The reference's l6Events and EventsOf.
-/
import Derived.Test.YtfgpbnncdfcjjabGreatDoorSpPa
import Derived.Test.YtfgpbnncdfcjjabGreatDoorWInsA
import Derived.Test.YtfgpbnncdfcjjabGreatDoorOwA
namespace Go.Proofs.YtfgpbnncdfcjjabGreatDoor
open Go.RowKit
set_option linter.unusedVariables false
set_option maxRecDepth 100000

theorem Tryz.infoEv : (Tryz.prog.info? 95).map (fun i => (i.zero, i.size, i.bytes)) = some (some (.agg #[.int .i64 0, .int .i64 0, .int .i64 0, .bool false, .bool false]), 5, 32) := by kernel_rfl

theorem all4 {V W : World} {B : Nat} {t : TypeId} {v0 v1 v2 v3 : Value} (h : Own V B t #[v0, v1, v2, v3]) (hl : Le V W) : W.cell? ⟨B, 0, none⟩ = some v0 ∧ W.cell? ⟨B, 1, none⟩ = some v1 ∧ W.cell? ⟨B, 2, none⟩ = some v2 ∧ W.cell? ⟨B, 3, none⟩ = some v3 :=
  ⟨hl _ _ (h.cell rfl), hl _ _ (h.cell rfl), hl _ _ (h.cell rfl), hl _ _ (h.cell rfl)⟩

theorem Own.all4 {W : World} {B : Nat} {t : TypeId} {v0 v1 v2 v3 : Value} (h : Own W B t #[v0, v1, v2, v3]) : W.cell? ⟨B, 0, none⟩ = some v0 ∧ W.cell? ⟨B, 1, none⟩ = some v1 ∧ W.cell? ⟨B, 2, none⟩ = some v2 ∧ W.cell? ⟨B, 3, none⟩ = some v3 :=
  ⟨h.cell rfl, h.cell rfl, h.cell rfl, h.cell rfl⟩
theorem owns_upB {w W : World} {base : Nat} {e : TypeId} {k n : Nat} {v : Value} {cs : List Value} (h : w.ownsRow base e k v n cs) (hb : Below w.heap.size w W) : W.ownsRow base e k v n cs :=
  owns_of_block h fun g _ _ hlt => hb.block g hlt
/-- The events' row so far. -/
abbrev RowEv (w : World) (base : Nat) (v : Value) (xs : List Ev) : Prop := RowOf 5 QEv w base 95 v xs
theorem RowEv.evS {w : World} {base : Nat} {v : Value} {xs : List Ev} (h : RowEv w base v xs) : EvS (above base w) v xs := RowOf.slR (R := REv) (by omega) h (fun cs x hx => hx) (Le.refl _)
def RetEv (w : World) (xs : List Ev) (e : Ending) (w' : World) : Prop := ∃ v, e = .returned v ∧ RowEv w' w.heap.size v xs ∧ Below w.heap.size w w'
theorem ini_take {l : Nat} (h : l < 3) : ini.take (l + 1) = ini.take l ++ [⟨-1, l, l, false, true⟩] := by
  rcases (show l = 0 ∨ l = 1 ∨ l = 2 by omega) with rfl | rfl | rfl <;> rfl

set_option maxHeartbeats 4000000 in
theorem l6Events_any (p : Prg) (hp : ShapeOk p) (w : World) (v : Value) (hr : PrgS w v p) : Calls Tryz.prog 98 #[v] w (RetEv w (evs p)) := by
  obtain ⟨i0, hi0, hz0, hz1, hz2⟩ := info_parts Tryz.infoEv
  obtain ⟨A, c, rfl, _⟩ := hr.slice
  have h3 := hp.1
  have h7 : ∀ t ∈ p, t.length ≤ 7 := fun t ht => (hp.2.1 t ht).1
  have H7 := Lib.hid h7
  clear h7 hp
  have own0 := Own.new w 95 #[]
  have hrow0 : RowEv (w.alloc (.cells #[] 95)) w.heap.size (.slice (some ⟨w.heap.size, 0, none⟩) 0 0) (ini.take 0) := RowOf.made _ own0 (Nat.le_refl _)
  have hb0 : Below w.heap.size w (w.alloc (.cells #[] 95)) := (Below.refl _ _).alloc (Nat.le_refl _) _
  clear own0
  go_enter Tryz.func98, Tryz.ntmps98
  go_wp2_with fail
  go_loopg [3, 4] 3 (fun g s3 s4 wr => ∃ (l : Nat) (v : Value), l ≤ 3 ∧ g = 3 - l ∧ v = s3 ∧ s4 = .int .i64 l ∧ Hid (RowEv wr w.heap.size v (ini.take l)) ∧ Below w.heap.size w wr)
  case atStart => exact ⟨0, _, by omega, rfl, rfl, rfl, hrow0, hb0⟩
  case round =>
    obtain ⟨wo, rfl⟩ : ∃ wo : World, wo = wr := ⟨_, rfl⟩
    clear hrow0 hb0
    obtain ⟨l, v, hl, rfl, rfl, rfl, hrow, hb⟩ := hrel
    by_cases hl3 : l < 3
    · have hlen : (ini.take l).length = l := by rw [List.length_take]; show min l 3 = l; omega
      have hrow' : RowOf 5 QEv wo w.heap.size 95 v (ini.take l) := hrow.out
      obtain ⟨cs, hown, hq⟩ := hrow'
      rw [hlen] at hown
      have Hown := Lib.hid hown
      have Hq := Lib.hid hq
      have Hlen := Lib.hid hlen
      have hli : (l : Int) ≤ 2 := by omega
      have hbs := hb.size
      clear hown hq hlen
      go_wp2_with (at_builtin; refine wpList_append_lies _ (by rfl) _ _ _ (by rfl) w.heap.size 95 i0 _ 5 32 Tryz.underlying92 hi0 hz0 hz1 hz2 rfl (by omega) v l cs (by rfl) (owns_alloc Hown.out _) ⟨wo.heap.size, 0, none⟩ 1 1 [.int .i64 (-1), .int .i64 l, .int .i64 l, .bool false, .bool true] (by rfl) (by rfl) (World.news_of_block (cs := #[.int .i64 (-1), .int .i64 l, .int .i64 l, .bool false, .bool true]) (t := 95) (fr := (0, 0)) (heap_alloc_new wo _)) (by simp [Value.oneCell']) (by omega) (by simp [maxLen]; omega) (by omega) (by simp; omega) (wo.heap.size + 1) (by simp) ?_; intro gg cap w1 hown1 hgrow hat1 hlt1)
      go_roundg (3 - (l + 1))
      case measure => omega
      case rel =>
        have hn : RowEv w1 w.heap.size (.slice (some ⟨gg, 0, none⟩) (l + 1) cap) (ini.take (l + 1)) := by
          rw [ini_take hl3]
          exact RowOf.snoc (news := [.int .i64 (-1), .int .i64 l, .int .i64 l, .bool false, .bool true]) qev_congr (by rw [Hlen.out]; exact Hown.out) Hq.out rfl ⟨rfl, rfl, rfl, rfl, rfl⟩ (by rw [Hlen.out]; exact hown1)
        exact ⟨l + 1, _, by omega, rfl, rfl, by go_num, hn, below_grown (hb.alloc hbs _) hgrow (Nat.le_refl _) (fun g hg => owns_base' Hown.out hg)⟩
    · obtain rfl : l = 3 := by omega
      have hli : ¬ ((3 : Nat) : Int) ≤ 2 := by omega
      have hrow3 : RowEv wo w.heap.size v (ini ++ evP 0 (p.take 0)) := hrow.out
      clear hrow
      go_wp2_with fail
      go_loopg [3, 5] p.length (fun g s3 s5 wr => ∃ (i : Nat) (v : Value) (xs : List Ev), i ≤ p.length ∧ g = p.length - i ∧ v = s3 ∧ s5 = .int .i64 i ∧ Hid (xs = ini ++ evP 0 (p.take i)) ∧ xs.length ≤ 3 + 7 * i ∧ Hid (RowEv wr w.heap.size v xs) ∧ Below w.heap.size w wr)
      case atStart => exact ⟨0, _, _, by omega, rfl, rfl, rfl, rfl, by simp [ini, evP], hrow3, hb⟩
      case round =>
        obtain ⟨wi, rfl⟩ : ∃ wi : World, wi = wr := ⟨_, rfl⟩
        clear hrow3 hb
        obtain ⟨i, v, xs, hi, rfl, rfl, rfl, hxs, hxl, hrow, hb⟩ := hrel
        by_cases hlt : i < p.length
        · obtain ⟨bb, o, A1, c1, rfl, hbl, k00, hlm, hx⟩ := SlR.getSub hr hlt
          have k0 := Le.below hb _ _ k00
          have Htk := Lib.hid (evP_take p i hlt)
          have ht7 := H7.out _ (List.getElem_mem hlt)
          generalize htt : p[i] = t at hx hlm k0 k00 Htk ht7
          clear hr htt
          go_wp2_with fail
          go_loopg [3, 6] t.length (fun g s3 s6 wr => ∃ (k : Nat) (v : Value) (ys : List Ev), k ≤ t.length ∧ g = t.length - k ∧ v = s3 ∧ s6 = .int .i64 k ∧ Hid (ys = xs ++ evT i 0 (t.take k)) ∧ ys.length ≤ 3 + 7 * i + k ∧ Hid (RowEv wr w.heap.size v ys) ∧ Below w.heap.size w wr)
          case atStart => exact ⟨0, _, _, Nat.zero_le _, rfl, rfl, rfl, by show _ = _; rw [List.take_zero, evT, List.append_nil], by omega, hrow.out, hb⟩
          case round =>
            obtain ⟨wk, rfl⟩ : ∃ wk : World, wk = wr := ⟨_, rfl⟩
            clear hrow hb k0
            obtain ⟨k, v, ys, hk, rfl, rfl, rfl, hys, hyl, hrow, hb⟩ := hrel
            have k1 := Le.below hb _ _ k00
            by_cases hkt : k < t.length
            · obtain ⟨b2, o2, rfl, hbl2, d0, d1, d2, d3⟩ := (InsS.le hx (Le.below hb)).get hkt
              have Htx := Lib.hid (evT_take i t k hkt)
              generalize hxx : t[k] = x at d0 d1 d2 d3 Htx
              have hbs := hb.size
              clear hxx
              by_cases h4 : x.op = 4
              · have e4 : ((x.op : Int) != 4) = false := by simp [h4]
                have Hev : Hid (evI i k x = []) := by show _ = _; unfold evI; rw [if_pos h4]
                have hrown := RowOf.of_block (w' := wk.alloc (.cells #[.int .i64 x.op, .int .i64 x.loc, .int .i64 x.reg, .int .i64 x.val] 109)) hrow.out (fun g _ _ hlt => Go.Deep.blk_alloc_lt _ _ _ hlt)
                have Hrn := Lib.hid hrown
                clear h4 hrown
                go_wp2_with fail
                go_roundg (t.length - (k + 1))
                case measure => omega
                case rel => exact ⟨k + 1, _, ys, by omega, rfl, rfl, by go_num, by show _ = _; rw [Htx.out, Hev.out, List.append_nil]; exact hys.out, by omega, Hrn.out, hb.alloc hbs _⟩
              · have e4 : ((x.op : Int) != 4) = true := by simpa using h4
                have Hev : Hid (evI i k x = [⟨i, k, x.loc, rdB x, wrB x⟩]) := by show _ = _; unfold evI; rw [if_neg h4]
                obtain ⟨V, hV⟩ : ∃ V, V = wk.alloc (.cells #[.int .i64 x.op, .int .i64 x.loc, .int .i64 x.reg, .int .i64 x.val] 109) := ⟨_, rfl⟩
                have bx : Own V wk.heap.size 109 #[.int .i64 x.op, .int .i64 x.loc, .int .i64 x.reg, .int .i64 x.val] := by rw [hV]; exact Own.new _ _ _
                have hbV : Below wk.heap.size wk V := by rw [hV]; exact (Below.refl _ _).alloc (Nat.le_refl _) _
                clear h4
                go_wp2_with fail
                rw [← hV]
                have Bx := Lib.hid bx
                have hrow' : RowOf 5 QEv wk w.heap.size 95 v ys := hrow.out
                obtain ⟨cs, hown, hq⟩ := hrow'
                have Hown := Lib.hid hown
                have Hq := Lib.hid hq
                clear hV bx hown hq d0 d1 d2 d3 hrow
                go_region_held3 (fun W => W.cell? ⟨wk.heap.size, 0, none⟩ = some (.int .i64 x.op) ∧ W.cell? ⟨wk.heap.size, 1, none⟩ = some (.int .i64 x.loc) ∧ W.cell? ⟨wk.heap.size, 2, none⟩ = some (.int .i64 x.reg) ∧ W.cell? ⟨wk.heap.size, 3, none⟩ = some (.int .i64 x.val))
                  (first
                    | exact all4 Bx.out (Le.drew _)
                    | exact all4 Bx.out ((Le.drew _).to_below hb5)
                    | exact all4 Bx.out ((Le.drew _).to_below hb6)
                    | exact all4 Bx.out (((Le.drew _).to_below hb5).to_below hb6)
                    | exact all4 Bx.out (((Le.drew _).to_below hb6).to_below hb5)
                    | exact all4 Bx.out ((((Le.drew _).to_below hb5).to_below hb6).to_alloc _)
                    | exact all4 Bx.out ((((Le.drew _).to_below hb6).to_below hb5).to_alloc _)
                    | exact Own.all4 ((((Bx.out.drew.under hb5).under hb6).alloc _).of_block (World.grownBy.block hgrow _ (((Bx.out.drew.under hb5).under hb6).alloc _).lt (fun e => by have := owns_base Hown.out e.symm; omega)))
                    | exact Own.all4 ((((Bx.out.drew.under hb6).under hb5).alloc _).of_block (World.grownBy.block hgrow _ (((Bx.out.drew.under hb6).under hb5).alloc _).lt (fun e => by have := owns_base Hown.out e.symm; omega))))
                  (first
                    | (go_at_call 144; ((with_reducible refine (l1Reads_any x _).mono ?_); rintro e5 w5 ⟨rfl, hb5⟩))
                    | (go_at_call 145; ((with_reducible refine (l1Writes_any x _).mono ?_); rintro e6 w6 ⟨rfl, hb6⟩))
                    | (refine step_append_lies _ (by rfl) _ _ _ (by rfl) w.heap.size 95 i0 _ 5 32 Tryz.underlying92 hi0 hz0 hz1 hz2 rfl (by omega) v ys.length cs (by rfl) (owns_upB Hown.out (((hbV.drew.trans (hb5.mono hbV.size)).trans (hb6.mono (hbV.drew.trans (hb5.mono hbV.size)).size)).alloc ((hbV.drew.trans (hb5.mono hbV.size)).trans (hb6.mono (hbV.drew.trans (hb5.mono hbV.size)).size)).size _)) ⟨w6.heap.size, 0, none⟩ 1 1 [.int .i64 i, .int .i64 k, .int .i64 x.loc, .bool (rdB x), .bool (wrB x)] (by rfl) (by rfl) (World.news_of_block (cs := #[.int .i64 i, .int .i64 k, .int .i64 x.loc, .bool (rdB x), .bool (wrB x)]) (t := 95) (fr := (0, 0)) (heap_alloc_new w6 _)) (by simp [Value.oneCell']) (by omega) (by simp [maxLen]; omega) (by omega) (by simp; have := (hbV.drew.trans (hb5.mono hbV.size)).size; have := hb6.size; omega) (w6.heap.size + 1) (by simp) ?_; intro gg cap w7 hown7 hgrow hat7 hlt7; have HX : Hid (Below wk.heap.size wk _) := (((hbV.drew.trans (hb5.mono hbV.size)).trans (hb6.mono (hbV.drew.trans (hb5.mono hbV.size)).size)).alloc ((hbV.drew.trans (hb5.mono hbV.size)).trans (hb6.mono (hbV.drew.trans (hb5.mono hbV.size)).size)).size (.cells #[.int .i64 i, .int .i64 k, .int .i64 x.loc, .bool (rdB x), .bool (wrB x)] 95)))
                    | (refine step_append_lies _ (by rfl) _ _ _ (by rfl) w.heap.size 95 i0 _ 5 32 Tryz.underlying92 hi0 hz0 hz1 hz2 rfl (by omega) v ys.length cs (by rfl) (owns_upB Hown.out (((hbV.drew.trans (hb6.mono hbV.size)).trans (hb5.mono (hbV.drew.trans (hb6.mono hbV.size)).size)).alloc ((hbV.drew.trans (hb6.mono hbV.size)).trans (hb5.mono (hbV.drew.trans (hb6.mono hbV.size)).size)).size _)) ⟨w5.heap.size, 0, none⟩ 1 1 [.int .i64 i, .int .i64 k, .int .i64 x.loc, .bool (rdB x), .bool (wrB x)] (by rfl) (by rfl) (World.news_of_block (cs := #[.int .i64 i, .int .i64 k, .int .i64 x.loc, .bool (rdB x), .bool (wrB x)]) (t := 95) (fr := (0, 0)) (heap_alloc_new w5 _)) (by simp [Value.oneCell']) (by omega) (by simp [maxLen]; omega) (by omega) (by simp; have := (hbV.drew.trans (hb6.mono hbV.size)).size; have := hb5.size; omega) (w5.heap.size + 1) (by simp) ?_; intro gg cap w7 hown7 hgrow hat7 hlt7; have HX : Hid (Below wk.heap.size wk _) := (((hbV.drew.trans (hb6.mono hbV.size)).trans (hb5.mono (hbV.drew.trans (hb6.mono hbV.size)).size)).alloc ((hbV.drew.trans (hb6.mono hbV.size)).trans (hb5.mono (hbV.drew.trans (hb6.mono hbV.size)).size)).size (.cells #[.int .i64 i, .int .i64 k, .int .i64 x.loc, .bool (rdB x), .bool (wrB x)] 95))))
                all_goals
                  go_wp2_with fail
                  go_roundg (t.length - (k + 1))
                  case measure => omega
                  case rel => exact ⟨k + 1, _, ys ++ [Ev.mk i k x.loc (rdB x) (wrB x)], by omega, rfl, rfl, by go_num, by show _ = _; rw [Htx.out, Hev.out, ← List.append_assoc, ← hys.out], by simp; omega, RowOf.snoc (news := [.int .i64 i, .int .i64 k, .int .i64 x.loc, .bool (rdB x), .bool (wrB x)]) qev_congr Hown.out Hq.out rfl ⟨rfl, rfl, rfl, rfl, rfl⟩ hown7, below_grown (hb.trans (HX.out.mono hbs)) hgrow (Nat.le_refl _) (fun g hg => owns_base' Hown.out hg)⟩
            · obtain rfl : k = t.length := by omega
              go_wp2_with fail
              go_roundg (p.length - (i + 1))
              case measure => omega
              case rel => exact ⟨i + 1, _, ys, by omega, rfl, rfl, by go_num, by show _ = _; rw [Htk.out, ← List.append_assoc, ← hxs.out, hys.out, List.take_length], by omega, hrow.out, hb⟩
        · obtain rfl : i = p.length := by omega
          go_wp2_with fail
          go_ret
          refine ⟨v, rfl, ?_, hb⟩
          have h := hrow.out
          rw [hxs.out, List.take_length] at h
          exact h

/-- What EventsOf hands back. -/
noncomputable def evO (p : Prg) : List Ev := if prgB p = true then evs p else []
end Go.Proofs.YtfgpbnncdfcjjabGreatDoor
