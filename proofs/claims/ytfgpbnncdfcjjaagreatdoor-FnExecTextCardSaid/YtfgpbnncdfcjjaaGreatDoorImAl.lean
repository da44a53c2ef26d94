/-
  The walk of impl.allExecs.
-/
import Derived.Test.YtfgpbnncdfcjjaaGreatDoorDel
import Derived.Test.YtfgpbnncdfcjjaaGreatDoorImCl
import Derived.Test.YtfgpbnncdfcjjaaGreatDoorImPs
import Derived.Test.YtfgpbnncdfcjjaaGreatDoorWrCV
namespace Go.Proofs.YtfgpbnncdfcjjaaGreatDoor
open Go.RowKit
set_option linter.unusedVariables false
set_option maxRecDepth 100000

abbrev RowKI (w : World) (base : Nat) (v : Value) (xs : List (List Int)) : Prop := RowK 1 (RSub 1 RInt) w base 24 v xs
abbrev RowKS (w : World) (base : Nat) (v : Value) (xs : List (List (List Int))) : Prop := RowK 1 (RSub 1 (RSub 1 RInt)) w base 25 v xs
theorem rsubI_congr (a : World) : ∀ (f g : Nat → Value) (x : List Int), (∀ j, j < 1 → f j = g j) → RSub 1 RInt a f x → RSub 1 RInt a g x := fun f g x h ⟨A, c, h1, h2⟩ => ⟨A, c, (h 0 (by omega)).symm.trans h1, h2⟩
theorem rsubS_congr (a : World) : ∀ (f g : Nat → Value) (x : List (List Int)), (∀ j, j < 1 → f j = g j) → RSub 1 (RSub 1 RInt) a f x → RSub 1 (RSub 1 RInt) a g x := fun f g x h ⟨A, c, h1, h2⟩ => ⟨A, c, (h 0 (by omega)).symm.trans h1, h2⟩
/-- A row of ints more. -/
theorem RowKI.push {wr w7 w8 : World} {base gg cap H n : Nat} {v : Value} {xs : List (List Int)} {cs : List Value} {A : Option Addr} {c : Nat} {t : List Int} (hn : n = t.length)
    (hown : wr.ownsRow base 24 1 v xs.length cs) (hq : ∀ i (h : i < xs.length), RSub 1 RInt (keepW (Kr base v) wr) (fun j => cs.getD (i * 1 + j) undef) xs[i]) (h7 : Below wr.heap.size wr w7) (hbw : base ≤ wr.heap.size) (ht : RowI w7 wr.heap.size (.slice A n c) t)
    (hg : (w7.alloc (.cells #[.slice A n c] 24)).grownBy w8 v.ownBlock) (hown8 : w8.ownsRow base 24 1 (.slice (some ⟨gg, 0, none⟩) (xs.length + 1) cap) (xs.length + 1) (cs ++ [.slice A n c])) (hat : v.ownBlock = some gg ∨ gg = H) (hH : w7.heap.size + 1 = H) :
    RowKI w8 base (.slice (some ⟨gg, 0, none⟩) (xs.length + 1) cap) (xs ++ [t]) := by
  subst hn
  obtain ⟨A', c', e, hI⟩ := ht.ints
  refine RowK.push rints_le rsubI_congr hown hq (h7.alloc h7.size _) hg rfl ⟨A, c, rfl, ?_⟩ hbw hown8 hat (by simpa using hH)
  rw [e]
  exact SlR.le' rint_le hI (Le.above_le _ (Le.alloc _ _))
/-- A row of such rows more. -/
theorem RowKS.push {wr w7 w8 : World} {base gg cap H n : Nat} {v : Value} {xs : List (List (List Int))} {cs : List Value} {A : Option Addr} {c : Nat} {t : List (List Int)} (hn : n = t.length)
    (hown : wr.ownsRow base 25 1 v xs.length cs) (hq : ∀ i (h : i < xs.length), RSub 1 (RSub 1 RInt) (keepW (Kr base v) wr) (fun j => cs.getD (i * 1 + j) undef) xs[i]) (h7 : Below wr.heap.size wr w7) (hbw : base ≤ wr.heap.size) (ht : SlR 1 (RSub 1 RInt) (above wr.heap.size w7) (.slice A n c) t)
    (hg : (w7.alloc (.cells #[.slice A n c] 25)).grownBy w8 v.ownBlock) (hown8 : w8.ownsRow base 25 1 (.slice (some ⟨gg, 0, none⟩) (xs.length + 1) cap) (xs.length + 1) (cs ++ [.slice A n c])) (hat : v.ownBlock = some gg ∨ gg = H) (hH : w7.heap.size + 1 = H) :
    RowKS w8 base (.slice (some ⟨gg, 0, none⟩) (xs.length + 1) cap) (xs ++ [t]) := by
  subst hn
  exact RowK.push rintss_le rsubS_congr hown hq (h7.alloc h7.size _) hg rfl ⟨A, c, rfl, SlR.le' rints_le ht (Le.above_le _ (Le.alloc _ _))⟩ hbw hown8 hat (by simpa using hH)
def RetOwXs (w : World) (xs : List Ex) (e : Ending) (w' : World) : Prop := ∃ v F, e = .returned v ∧ OwXs w' v xs F ∧ F.Nodup ∧ (∀ b ∈ F, w.heap.size ≤ b) ∧ Below w.heap.size w w'

set_option maxHeartbeats 16000000 in
theorem imAll_any (p : Prg) (hp : PrgOk p) (w : World) (v : Value) (hr : PrgS w v p) : Calls Tryz.prog 106 #[v] w (RetOwXs w (cands (evs p))) := by
  obtain ⟨i0, hi0, hz0, hz1, hz2⟩ := info_parts Tryz.infoInt
  obtain ⟨i1, hi1, hy0, hy1, hy2⟩ := info_parts Tryz.infoInts
  obtain ⟨i2, hi2, hx0, hx1, hx2⟩ := info_parts Tryz.infoIntss
  obtain ⟨i3, hi3, hv0, hv1, hv2⟩ := info_parts Tryz.infoEx
  have HF := Lib.hid (few3 hp)
  have H4 := Lib.hid (few4 hp)
  obtain ⟨A, c, rfl, _⟩ := hr.slice
  obtain ⟨L, hL⟩ : ∃ L, L = evs p := ⟨_, rfl⟩
  have HL := Lib.hid hL
  rw [← hL] at HF H4 ⊢
  clear hL
  go_enter Tryz.func106, Tryz.ntmps106
  go_wp2_with fail
  refine (events_any p hp.1 _ _ hr).mono ?_
  rintro e1 w1 ⟨v1, rfl, hrow1, hb1⟩
  rw [← HL.out] at hrow1
  have hev1 : EvS w1 v1 L := EvS.le (RowEv.evS hrow1) (Le.above _ _)
  obtain ⟨A1, c1, rfl, _⟩ := SlR.slice hev1
  have hs1 := hb1.size
  have Hev1 := Lib.hid hev1
  have hL15 := HF.out.len
  clear hev1 hrow1 hr HL
  have hrow0 : Hid (RowKI w1 w1.heap.size (.slice none 0 0) []) := RowOf.nil _ _ _ _ _
  go_wp2_with fail
  go_loopg [4, 22] L.length (fun g s4 s22 wr => ∃ (i : Nat) (v : Value) (xs : List (List Int)), i ≤ L.length ∧ g = L.length - i ∧ v = s4 ∧ s22 = .int .i64 i ∧ Hid (RowKI wr w1.heap.size v xs) ∧ Hid (xs = (chF L 0 L).take i) ∧ Below w1.heap.size w1 wr)
  case atStart => exact ⟨0, _, [], Nat.zero_le _, rfl, rfl, rfl, hrow0.out, by simp [Hid], Below.refl _ _⟩
  case round =>
    clear hrow0
    obtain ⟨i, v, xs, hi, rfl, rfl, rfl, hrow, hxs, hb⟩ := hrel
    have hsr := hb.size
    by_cases hlt : i < L.length
    · obtain ⟨b, o, rfl, hbl, k0, k1, k2, k3, k4⟩ := (EvS.le Hev1.out (Le.below hb)).get hlt
      have hlx : xs.length ≤ 15 := by rw [hxs.out, List.length_take]; omega
      have Htk := Lib.hid (chF_take L i hlt)
      obtain ⟨cs, hown, hq⟩ := hrow.out
      have Hown := Lib.hid hown
      have Hq := Lib.hid hq
      clear hown hq hrow
      cases hrd : L[i].rd
      · rw [hrd] at k3
        rw [frC_not hrd] at Htk
        clear hrd
        go_upto_region 9 with (fail)
        have hrow7 := RowI.single (n := -1) (Own.new ((wr.alloc (.cells #[.int .i64 i] 3)).alloc (.cells #[.int .i64 L[i].thr, .int .i64 L[i].idx, .int .i64 L[i].loc, .bool false, .bool L[i].wr] 94)) 3 #[.int .i64 (-1)]) (base := wr.heap.size) (by simp <;> omega)
        have hB7 : Below wr.heap.size wr (((wr.alloc (.cells #[.int .i64 i] 3)).alloc (.cells #[.int .i64 L[i].thr, .int .i64 L[i].idx, .int .i64 L[i].loc, .bool false, .bool L[i].wr] 94)).alloc (.cells #[.int .i64 (-1)] 3)) := (((Below.refl _ _).alloc (Nat.le_refl _) _).alloc (by simp) _).alloc (by simp <;> omega) _
        rw [World.size_alloc, World.size_alloc] at hrow7
        generalize (((wr.alloc (.cells #[.int .i64 i] 3)).alloc (.cells #[.int .i64 L[i].thr, .int .i64 L[i].idx, .int .i64 L[i].loc, .bool false, .bool L[i].wr] 94)).alloc (.cells #[.int .i64 (-1)] 3)) = w7 at hrow7 hB7 ⊢
        have Hrow7 := Lib.hid hrow7
        clear hrow7
        have Hown7 : Hid (w7.ownsRow w1.heap.size 24 1 v xs.length cs) := owns_of_block Hown.out fun g _ _ hl => hB7.block g hl
        have hs7 := hB7.size
        go_wp2_with (at_builtin; refine wpList_append_lies (o := ⟨some 39, _, _, _, _, _⟩) _ (by rfl) _ _ _ (by rfl) w1.heap.size 24 i1 _ 1 24 Tryz.underlying25 hi1 hy0 hy1 hy2 rfl (by omega) v xs.length cs (by rfl) (owns_alloc Hown7.out _) ⟨w7.heap.size, 0, none⟩ 1 1 [.slice (some ⟨wr.heap.size + 1 + 1, 0, none⟩) 1 1] (by rfl) (by rfl) (World.news_of_block (cs := #[.slice (some ⟨wr.heap.size + 1 + 1, 0, none⟩) 1 1]) (t := 24) (fr := (0, 0)) (heap_alloc_new w7 _)) (by simp [Value.oneCell']) (by omega) (by simp [maxLen]; omega) (by omega) (by simp; omega) (w7.heap.size + 1) (by simp) ?_; intro gg cap w8 hown8 hgrow8 hat8 hlt8)
        have hp8 := RowKI.push rfl Hown.out Hq.out hB7 hsr Hrow7.out hgrow8 hown8 hat8 rfl
        have hB8 : Below w1.heap.size w1 w8 := below_of_grown ((hb.trans (hB7.mono hsr)).alloc (by omega) (.cells #[.slice (some ⟨wr.heap.size + 1 + 1, 0, none⟩) 1 1] 24)) hgrow8 (by simp; omega) (fun g hg => owns_base' Hown.out hg)
        have Hp8 := Lib.hid hp8
        clear hgrow8 hown8 hp8 hB7
        go_roundg (L.length - (i + 1))
        case measure => omega
        case rel => exact ⟨i + 1, _, _, by omega, rfl, rfl, by go_num, Hp8.out, (by show _ = _; rw [Htk.out, ← hxs.out]), hB8⟩
      · rw [hrd] at k3
        have hpos := H4.out.loc _ (List.getElem_mem hlt) hrd
        rw [frC_read hrd] at Htk
        clear hrd
        go_wp2_with fail
        have hB4 : Below wr.heap.size wr (((wr.alloc (.cells #[.int .i64 i] 3)).alloc (.cells #[.int .i64 L[i].thr, .int .i64 L[i].idx, .int .i64 L[i].loc, .bool true, .bool L[i].wr] 94)).alloc (.cells #[.int .i64 (-1)] 3)) := (((Below.refl _ _).alloc (Nat.le_refl _) _).alloc (by simp) _).alloc (by simp <;> omega) _
        have hc4 := (((Own.new wr 3 #[.int .i64 i]).alloc (.cells #[.int .i64 L[i].thr, .int .i64 L[i].idx, .int .i64 L[i].loc, .bool true, .bool L[i].wr] 94)).alloc (.cells #[.int .i64 (-1)] 3))
        generalize (((wr.alloc (.cells #[.int .i64 i] 3)).alloc (.cells #[.int .i64 L[i].thr, .int .i64 L[i].idx, .int .i64 L[i].loc, .bool true, .bool L[i].wr] 94)).alloc (.cells #[.int .i64 (-1)] 3)) = w4 at hB4 hc4 ⊢
        have hs4 := hB4.size
        have hl4 := hc4.lt
        refine (imWr_any L L[i].loc (by omega) _ _ (EvS.le Hev1.out ((Le.below hb).trans (Le.below hB4)))).mono ?_
        rintro e5 w5 ⟨A5, c5, rfl, hrow5, hb5⟩
        have hs5 := hb5.size
        have hc5 := (hc4.under hb5).cell (i := 0) rfl
        have Hc5 := Lib.hid hc5
        have Hc4 := Lib.hid hc4
        clear hc5 hc4
        go_wp2_with fail
        refine (delF_any (wrs L L[i].loc) i hpos w5 wr.heap.size w4.heap.size (by omega) (by omega) Hc5.out A5 c5 hrow5).mono ?_
        rintro e7 w7 ⟨rfl, hrow7, hgrow7⟩
        have hB7 : Below wr.heap.size wr w7 := below_of_grown (hB4.trans (hb5.mono hs4)) hgrow7 (by omega) (fun g hg => by have := (hrow5.blk hg).1; omega)
        have hrow7' : RowI w7 wr.heap.size (.slice A5 ((wrs L L[i].loc).filter fun n => decide (n ≠ (i : Int))).length c5) ((wrs L L[i].loc).filter fun n => decide (n ≠ (i : Int))) := hrow7.rebase fun g hg => by have := (hrow7.blk hg).1; omega
        generalize (wrs L L[i].loc).filter (fun n => decide (n ≠ (i : Int))) = fl at hrow7' Htk ⊢
        have Hrow7 := Lib.hid hrow7'
        clear hrow7 hrow7' hrow5 hgrow7 hb5 hB4
        have Hown7 : Hid (w7.ownsRow w1.heap.size 24 1 v xs.length cs) := owns_of_block Hown.out fun g _ _ hl => hB7.block g hl
        have hs7 := hB7.size
        go_wp2_with (at_builtin; refine wpList_append_lies (o := ⟨some 39, _, _, _, _, _⟩) _ (by rfl) _ _ _ (by rfl) w1.heap.size 24 i1 _ 1 24 Tryz.underlying25 hi1 hy0 hy1 hy2 rfl (by omega) v xs.length cs (by rfl) (owns_alloc Hown7.out _) ⟨w7.heap.size, 0, none⟩ 1 1 [.slice A5 fl.length c5] (by rfl) (by rfl) (World.news_of_block (cs := #[.slice A5 fl.length c5]) (t := 24) (fr := (0, 0)) (heap_alloc_new w7 _)) (by simp [Value.oneCell']) (by omega) (by simp [maxLen]; omega) (by omega) (by simp; omega) (w7.heap.size + 1) (by simp) ?_; intro gg cap w8 hown8 hgrow8 hat8 hlt8)
        have hp8 := RowKI.push rfl Hown.out Hq.out hB7 hsr Hrow7.out hgrow8 hown8 hat8 rfl
        have hB8 : Below w1.heap.size w1 w8 := below_of_grown ((hb.trans (hB7.mono hsr)).alloc (by omega) (.cells #[.slice A5 fl.length c5] 24)) hgrow8 (by simp; omega) (fun g hg => owns_base' Hown.out hg)
        have Hp8 := Lib.hid hp8
        clear hgrow8 hown8 hp8 hB7
        go_roundg (L.length - (i + 1))
        case measure => omega
        case rel => exact ⟨i + 1, _, _, by omega, rfl, rfl, by go_num, Hp8.out, (by show _ = _; rw [Htk.out, ← hxs.out]), hB8⟩
    · obtain rfl : i = L.length := by omega
      have hcss : xs = chF L 0 L := by rw [hxs.out, List.take_of_length_le (by rw [chF_length]; exact Nat.le_refl _)]
      have hI := RowK.slR (by omega) rints_le hrow.out
      obtain ⟨A4, c4, rfl, hlf⟩ := SlR.slice hI
      have Hcss := Lib.hid hcss
      obtain ⟨w2, rfl⟩ : ∃ w2 : World, w2 = wr := ⟨_, rfl⟩
      have HI4 : Hid (Intss w2 A4 c4 xs) := SlR.le' rints_le hI (Le.above _ _)
      clear hcss hI hrow hxs
      obtain ⟨fcs, hfcs⟩ : ∃ fcs, fcs = xs := ⟨_, rfl⟩
      have hb12 : Below w.heap.size w w2 := hb1.trans (hb.mono hs1)
      have Hev2 : Hid (EvS w2 (.slice A1 L.length c1) L) := EvS.le Hev1.out (Le.below hb)
      have hrow0 : Hid (RowKS w2 w2.heap.size (.slice none 0 0) []) := RowOf.nil _ _ _ _ _
      subst hfcs
      clear Hev1 hb hb1
      go_wp2_with fail
      go_loopg [8, 41] 3 (fun g s8 s41 wr => ∃ (l : Nat) (v : Value) (ys : List (List (List Int))), l ≤ 3 ∧ g = 3 - l ∧ v = s8 ∧ s41 = .int .i64 l ∧ Hid (RowKS wr w2.heap.size v ys) ∧ Hid (ys = ((List.range 3).map (ordC L)).take l) ∧ Below w2.heap.size w2 wr)
      case atStart => exact ⟨0, _, [], Nat.zero_le _, rfl, rfl, rfl, hrow0.out, by simp [Hid], Below.refl _ _⟩
      case round =>
        clear hrow0
        obtain ⟨wo, rfl⟩ : ∃ wo : World, wo = wr := ⟨_, rfl⟩
        obtain ⟨l, v, ys, hl, rfl, rfl, rfl, hrow, hys, hb⟩ := hrel
        have hso := hb.size
        by_cases hl3 : l < 3
        · have hdl : decide ((l : Int) < 3) = true := by rw [decide_eq_true_iff]; omega
          have hly : ys.length ≤ 3 := by rw [hys.out, List.length_take]; omega
          have Htk : Hid (((List.range 3).map (ordC L)).take (l + 1) = ((List.range 3).map (ordC L)).take l ++ [ordC L l]) := by
            show _ = _
            rw [List.take_succ_eq_append_getElem (by simp; omega)]
            congr 2
            simp
          obtain ⟨cs, hown, hq⟩ := hrow.out
          have Hown := Lib.hid hown
          have Hq := Lib.hid hq
          have Hevo : Hid (EvS wo (.slice A1 L.length c1) L) := EvS.le Hev2.out (Le.below hb)
          have hpm := HF.out.pm l (by omega)
          have Hx : Hid ((∃ r, wrs L l = (l : Int) :: r) ∧ ordC L l = (perms (wrs L l).tail).map ((l : Int) :: ·)) := by
            obtain ⟨r, h1⟩ := HF.out.hd l (by omega)
            refine ⟨⟨r, h1⟩, ?_⟩
            unfold ordC
            rw [h1]
            rfl
          clear hown hq hrow
          go_wp2_with fail
          refine (imWr_any L l (by omega) _ _ Hevo.out).mono ?_
          rintro e2 w5 ⟨A2, c2, rfl, hrow2, hb2⟩
          have hs5 := hb2.size
          generalize wrs L l = wl at hrow2 hpm Hx
          have hpos : 0 < wl.length := by
            obtain ⟨r, h1⟩ := Hx.out.1
            rw [h1]; simp
          have hI2 : Ints w5 A2 c2 wl := row_ints hrow2
          have hcap : wl.length ≤ c2 ∧ c2 ≤ 9223372036854775807 := by
            obtain ⟨A, c, e, h1, h2⟩ := hrow2.slice
            injection e with _ _ e
            rw [e]; exact ⟨h1, h2⟩
          obtain ⟨g, og, rfl, hg2, g0⟩ := hI2.get hpos
          have h1 : (1 : Int) ≤ (wl.length : Int) := by omega
          have h2 : (1 : Int) ≤ (c2 : Int) := by omega
          have h3 : (wl.length : Int) ≤ (c2 : Int) := by omega
          have hsl := (hI2.drop 1 (c2 - 1) (by omega))
          rw [List.drop_one] at hsl
          have Hsl := Lib.hid hsl
          clear hrow2 hsl hI2 g0
          by_cases hc1 : c2 = 1
          case' pos =>
            have e0 : wl.length = 1 := by omega
            have et : wl.tail = [] := List.eq_nil_of_length_eq_zero (by rw [List.length_tail]; omega)
            have Hpm : Hid (Calls Tryz.prog 160 #[.slice (some ⟨g, og, none⟩) 0 0] w5 (RetIntss w5 (perms wl.tail))) := by
              show Calls _ _ _ _ _
              rw [et]
              exact imOr_any 0 [] rfl (by omega) w5 _ 0 (Ints.mk (by simp) fun i hi => absurd hi (Nat.not_lt_zero _))
            subst hc1
            clear et
            go_wp2_with fail
          case' neg =>
            have hgt : 1 < c2 := by omega
            have hc1' : ¬ ((c2 : Int) = 1) := by omega
            have Hpm : Hid (Calls Tryz.prog 160 #[.slice (some ⟨g, og + 1, none⟩) (wl.length - 1) (c2 - 1)] w5 (RetIntss w5 (perms wl.tail))) := by
              have h := imOr_any wl.tail.length wl.tail rfl (by rw [List.length_tail]; omega) w5 _ _ Hsl.out
              rw [List.length_tail] at h
              exact h
            go_wp2_with fail
          all_goals
            refine Hpm.out.mono ?_
            rintro e3 w6 ⟨A6, c6, rfl, hpms, hb3⟩
            have hB6 : Below wo.heap.size wo w6 := hb2.trans (hb3.mono hs5)
            have hs6 := hB6.size
            have hpms6 : Intss w6 A6 c6 (perms wl.tail) := hpms.le (Le.above _ _)
            have Hpl : Hid (∀ q ∈ perms wl.tail, q.length ≤ 7) := fun q hq => by
              have := (mem_perms.1 hq).length_eq
              rw [List.length_tail] at this
              omega
            have hpn : (perms wl.tail).length ≤ 5040 := by
              rw [perms_length, List.length_tail]
              have : wl.length - 1 = 0 ∨ wl.length - 1 = 1 ∨ wl.length - 1 = 2 ∨ wl.length - 1 = 3 ∨ wl.length - 1 = 4 ∨ wl.length - 1 = 5 ∨ wl.length - 1 = 6 := by omega
              rcases this with e | e | e | e | e | e | e <;> rw [e] <;> decide
            have Hor : Hid (ordC L l = (perms wl.tail).map ((l : Int) :: ·)) := Hx.out.2
            have hrowi : Hid (RowKI w6 w6.heap.size (.slice none 0 0) []) := RowOf.nil _ _ _ _ _
            clear Hpm hb3 hpms Hsl hb2 Hx
            generalize perms wl.tail = pm at hpms6 Hpl hpn Hor
            have hpl := hpms6.len
            go_wp2_with fail
            go_loopg [10, 50] pm.length (fun g s10 s50 wr => ∃ (j : Nat) (v' : Value) (xss : List (List Int)), j ≤ pm.length ∧ g = pm.length - j ∧ v' = s10 ∧ s50 = .int .i64 j ∧ Hid (RowKI wr w6.heap.size v' xss) ∧ Hid (xss = (pm.take j).map ((l : Int) :: ·)) ∧ Below w6.heap.size w6 wr)
            case atStart => exact ⟨0, _, [], Nat.zero_le _, rfl, rfl, rfl, hrowi.out, by simp [Hid], Below.refl _ _⟩
            case round =>
              clear hrowi
              obtain ⟨j, v2, xss, hj, rfl, rfl, rfl, hrow2, hxss, hb6⟩ := hrel
              have hsr := hb6.size
              by_cases hjlt : j < pm.length
              · obtain ⟨bj, oj, Aj, cj, rfl, hbj, j0, hrj⟩ := hpms6.get hjlt
                have j1 := Le.below hb6 _ _ j0
                have h7' := Hpl.out _ (List.getElem_mem hjlt)
                have Htj := Lib.hid (List.take_succ_eq_append_getElem hjlt)
                have Hrj : Hid (Ints (wr.alloc (.cells #[.int .i64 l] 3)) Aj cj pm[j]) := (hrj.le (Le.below hb6)).le (Le.alloc _ _)
                have hlx : xss.length ≤ 5040 := by rw [hxss.out, List.length_map, List.length_take]; omega
                generalize pm[j] = rj at j0 j1 hrj Hrj h7' Htj
                obtain ⟨cs2, hown2, hq2⟩ := hrow2.out
                have Hown2 := Lib.hid hown2
                have Hq2 := Lib.hid hq2
                have HB7 : Hid (∀ w7 : World, (wr.alloc (.cells #[.int .i64 l] 3)).grownBy w7 (Value.slice (some ⟨wr.heap.size, 0, none⟩) 1 1).ownBlock → Below wr.heap.size wr w7) := fun w7 hg =>
                  below_of_grown ((Below.refl _ _).alloc (Nat.le_refl _) _) hg (by simp) (fun g e => by simp only [Value.ownBlock, Option.some.injEq] at e; omega)
                clear hrj j0 hown2 hq2 hrow2
                go_wp2_with (at_builtin; first
                  | (refine wpList_append_list (o := ⟨some 58, _, _, _, _, _⟩) (by rfl) _ _ _ (by rfl) qint_congr (R := RInt) wr.heap.size 3 i0 _ 8 Tryz.underlying24 hi0 hz0 hz1 hz2 rfl (by omega) (.slice (some ⟨wr.heap.size, 0, none⟩) 1 1) [(l : Int)] (by rfl) (RowI.single (Own.new wr _ _) (Nat.le_refl _)) Aj cj rj (by rfl) Hrj.out (fun cs y h => h) qint_one (by simp [maxLen]; omega) (by simp; omega) (by simp) (wr.heap.size + 1) (by simp) ?_; intro A7 c7 w7 hrow7 hgrow7 hat7; simp only [List.singleton_append, List.length_cons] at hrow7 hat7; have hB7 := HB7.out w7 hgrow7; have hs7 := hB7.size)
                  | (refine wpList_append_lies (o := ⟨some 60, _, _, _, _, _⟩) _ (by rfl) _ _ _ (by rfl) w6.heap.size 24 i1 _ 1 24 Tryz.underlying25 hi1 hy0 hy1 hy2 rfl (by omega) v2 xss.length cs2 (by rfl) (owns_alloc (owns_of_block Hown2.out (w' := w7) fun g _ _ hl => hB7.block g hl) _) ⟨w7.heap.size, 0, none⟩ 1 1 [.slice A7 (rj.length + 1) c7] (by rfl) (by rfl) (World.news_of_block (cs := #[.slice A7 (rj.length + 1) c7]) (t := 24) (fr := (0, 0)) (heap_alloc_new w7 _)) (by simp [Value.oneCell']) (by omega) (by simp [maxLen]; omega) (by omega) (by simp; omega) (w7.heap.size + 1) (by simp) ?_; intro gg cap w8 hown8 hgrow8 hat8 hlt8))
                have hp8 := RowKI.push (t := (l : Int) :: rj) rfl Hown2.out Hq2.out hB7 hsr hrow7 hgrow8 hown8 hat8 rfl
                have hB8 : Below w6.heap.size w6 w8 := below_of_grown ((hb6.trans (hB7.mono hsr)).alloc (by omega) (.cells #[.slice A7 (rj.length + 1) c7] 24)) hgrow8 (by simp; omega) (fun g hg => owns_base' Hown2.out hg)
                have Hp8 := Lib.hid hp8
                clear hgrow7 hgrow8 hown8 hp8 hrow7 hB7
                go_roundg (pm.length - (j + 1))
                case measure => omega
                case rel => exact ⟨j + 1, _, xss ++ [(l : Int) :: rj], by omega, rfl, rfl, by go_num, Hp8.out, (by show _ = _; rw [Htj.out, List.map_append, ← hxss.out]; rfl), hB8⟩
              · obtain rfl : j = pm.length := by omega
                have hxs9 : xss = ordC L l := by rw [hxss.out, List.take_length, Hor.out]
                have hI := RowK.slR (by omega) rints_le hrow2.out
                obtain ⟨A9, c9, rfl, hl9⟩ := SlR.slice hI
                have HI9 : Hid (SlR 1 (RSub 1 RInt) (above wo.heap.size wr) (.slice A9 xss.length c9) xss) := SlR.le' rints_le hI (Le.above_mono hs6 _)
                have hB9 : Below wo.heap.size wo wr := hB6.trans (hb6.mono hs6)
                have hs9 := hB9.size
                have Hxs9 := Lib.hid hxs9
                have Hown9 : Hid (wr.ownsRow w2.heap.size 25 1 v ys.length cs) := owns_of_block Hown.out fun g _ _ hl => hB9.block g hl
                clear hxs9 hI hrow2 hxss
                go_wp2_with (at_builtin; refine wpList_append_lies (o := ⟨some 65, _, _, _, _, _⟩) _ (by rfl) _ _ _ (by rfl) w2.heap.size 25 i2 _ 1 24 Tryz.underlying160 hi2 hx0 hx1 hx2 rfl (by omega) v ys.length cs (by rfl) (owns_alloc Hown9.out _) ⟨wr.heap.size, 0, none⟩ 1 1 [.slice A9 xss.length c9] (by rfl) (by rfl) (World.news_of_block (cs := #[.slice A9 xss.length c9]) (t := 25) (fr := (0, 0)) (heap_alloc_new wr _)) (by simp [Value.oneCell']) (by omega) (by simp [maxLen]; omega) (by omega) (by simp; omega) (wr.heap.size + 1) (by simp) ?_; intro gg cap w8 hown8 hgrow8 hat8 hlt8)
                have hp8 := RowKS.push rfl Hown.out Hq.out hB9 hso HI9.out hgrow8 hown8 hat8 rfl
                have hB8 : Below w2.heap.size w2 w8 := below_of_grown ((hb.trans (hB9.mono hso)).alloc (by omega) (.cells #[.slice A9 xss.length c9] 25)) hgrow8 (by simp; omega) (fun g hg => owns_base' Hown.out hg)
                have Hp8 := Lib.hid hp8
                clear hgrow8 hown8 hp8 hB9
                go_roundg (3 - (l + 1))
                case measure => omega
                case rel => exact ⟨l + 1, _, _, by omega, rfl, rfl, by go_num, Hp8.out, (by show _ = _; rw [Htk.out, ← hys.out, Hxs9.out]), hB8⟩
        · obtain rfl : l = 3 := by omega
          have hdl : decide ((((3 : Nat) : Int)) < 3) = false := by decide
          obtain ⟨w3, rfl⟩ : ∃ w3 : World, w3 = wo := ⟨_, rfl⟩
          have hos : ys = (List.range 3).map (ordC L) := by rw [hys.out, List.take_of_length_le (by simp)]
          have hI := RowK.slR (by omega) rintss_le hrow.out
          obtain ⟨A8, c8, rfl, hl8⟩ := SlR.slice hI
          have hor3 : I3 w3 A8 c8 ys := SlR.le' rintss_le hI (Le.above _ _)
          have Hor3 := Lib.hid hor3
          have hI4 : Intss w3 A4 c4 fcs := HI4.out.le (Le.below hb)
          have HB3 : Below w.heap.size w w3 := hb12.trans (hb.mono hb12.size)
          have hs3 := HB3.size
          have Hfl : Hid (fcs.length ≤ 100 ∧ (∀ i, i ≤ fcs.length → (prodL (fcs.take i)).length ≤ 3000) ∧ ∀ c ∈ fcs, c.length ≤ 3000) := by
            show _ ∧ _
            rw [Hcss.out]
            exact ⟨by rw [chF_length]; omega, H4.out.fr, H4.out.frl⟩
          have Hol : Hid (ys.length ≤ 100 ∧ (∀ i, i ≤ ys.length → (prodL (ys.take i)).length ≤ 3000) ∧ ∀ c ∈ ys, c.length ≤ 3000) := by
            show _ ∧ _
            rw [hos]
            exact ⟨by simp, H4.out.od, H4.out.odl⟩
          have Hres : Hid (cands L = (prodL fcs).flatMap fun f => (prodL ys).map fun o => (⟨f, o⟩ : Ex)) := by
            show _ = _
            rw [Hcss.out, hos]
            rfl
          have Htot : Hid ((cands L).length ≤ 3000) := by
            show _ ≤ _
            unfold cands
            rw [flatMap_len _ (orders L).length (fun f => by rw [List.length_map])]
            exact HF.out.all
          have Hf15 : Hid (∀ f ∈ prodL fcs, f.length ≤ 15) := fun f hf => by
            rw [Hcss.out] at hf
            have := prodL_each hf
            rw [chF_length] at this
            omega
          have Ho3 : Hid (∀ o ∈ prodL ys, o.length ≤ 3 ∧ ∀ q ∈ o, q.length ≤ 7) := fun o ho => by
            rw [hos] at ho
            have ho' : o ∈ orders L := ho
            have h1 := prodL_each ho
            rw [List.length_map, List.length_range] at h1
            refine ⟨by omega, fun q hq => ?_⟩
            obtain ⟨h0, h2⟩ := (mem_orders HF.out.hd).1 ho'
            obtain ⟨l, hl, rfl⟩ := List.getElem_of_mem hq
            have h3 := (h2 l (by omega)).1.length_eq
            rw [show o.getD l [] = o[l] by simp [hl]] at h3
            have := HF.out.pm l (by omega)
            omega
          obtain ⟨os, ho'⟩ : ∃ os, os = prodL ys := ⟨_, rfl⟩
          rw [← ho'] at Hres Ho3
          have HO := Lib.hid ho'
          clear hI hor3 hrow hys hos hb hb12 HI4 Hev2 Hcss H4 HF ho'
          go_wp2_with fail
          refine (prodI_any fcs Hfl.out.1 Hfl.out.2.1 Hfl.out.2.2 _ A4 c4 hI4).mono ?_
          rintro e9 w9 ⟨A9, c9, rfl, hfs, hb9⟩
          have hs9 := hb9.size
          have hfs9 : Intss w9 A9 c9 (prodL fcs) := hfs.le (Le.above _ _)
          have HB9 : Below w.heap.size w w9 := HB3.trans (hb9.mono hs3)
          have Hb9 := Lib.hid hb9
          clear hfs hI4 Hfl hb9
          generalize prodL fcs = fs at hfs9 Hres Hf15
          have hfl := hfs9.len
          have hrow0 : Hid (RowW 2 27 PX w9 w9.heap.size (.slice none 0 0) [] [] (fun _ => [])) := RowW.nil _ _ _ _ _
          go_wp2_with fail
          go_loopg [13, 70] fs.length (fun g s13 s70 wr => ∃ (i : Nat) (v : Value) (xs : List Ex) (cs : List Value) (Fs : Nat → List Nat), i ≤ fs.length ∧ g = fs.length - i ∧ v = s13 ∧ s70 = .int .i64 i ∧ Hid (RowW 2 27 PX wr w9.heap.size v xs cs Fs) ∧ Hid (xs = (fs.take i).flatMap fun f => os.map fun o => (⟨f, o⟩ : Ex)) ∧ Below w9.heap.size w9 wr)
          case atStart => exact ⟨0, _, [], [], _, Nat.zero_le _, rfl, rfl, rfl, hrow0.out, by simp [Hid], Below.refl _ _⟩
          case round =>
            clear hrow0
            obtain ⟨wo, rfl⟩ : ∃ wo : World, wo = wr := ⟨_, rfl⟩
            obtain ⟨i, v, xs, cs, Fs, hi, rfl, rfl, rfl, hrow, hxs, hb⟩ := hrel
            have hso := hb.size
            by_cases hlt : i < fs.length
            · obtain ⟨bi, oi, Ai, ci, rfl, hbi, k0, hq⟩ := hfs9.get hlt
              have k1 := Le.below hb _ _ k0
              have h15 := Hf15.out _ (List.getElem_mem hlt)
              have Htk := Lib.hid (flatMap_take_succ (fun f => os.map fun o => (⟨f, o⟩ : Ex)) fs i hlt)
              have hPl : xs.length + os.length ≤ 3000 := by
                have h1 := flatMap_take_le (fun f => os.map fun o => (⟨f, o⟩ : Ex)) fs (i + 1)
                rw [Htk.out, ← hxs.out, List.length_append, List.length_map, ← Hres.out] at h1
                have := Htot.out
                omega
              have Hq := Lib.hid hq
              generalize fs[i] = f at k0 k1 hq Hq h15 Htk
              have hps := prodS_any ys Hol.out.1 Hol.out.2.1 Hol.out.2.2 w3 wo ((Le.below Hb9.out).trans (Le.below hb)) A8 c8 Hor3.out
              rw [← HO.out] at hps
              have Hps := Lib.hid hps
              have hv9 : ∀ g, v.ownBlock = some g → w9.heap.size ≤ g ∧ g < wo.heap.size := fun g hg => owns_base hrow.out.own hg
              clear hq k0 hps
              go_wp2_with fail
              refine Hps.out.mono ?_
              rintro e10 w10 ⟨A10, c10, rfl, hos, hb10⟩
              have hs10 := hb10.size
              have Hrow10 := Lib.hid (hrow.out.below px_loc hb10)
              have Hos := Lib.hid hos
              have hB10 : Below w9.heap.size w9 w10 := hb.trans (hb10.mono hso)
              clear hos hrow hb10 Hps k1
              have hol := SlR.slice Hos.out
              have hol2 : os.length ≤ 9223372036854775807 := by omega
              clear hol
              go_wp2_with fail
              go_loopg [13, 77] os.length (fun g s13 s77 wr => ∃ (j : Nat) (v' : Value) (zs : List Ex) (cs : List Value) (Fs : Nat → List Nat), j ≤ os.length ∧ g = os.length - j ∧ v' = s13 ∧ s77 = .int .i64 j ∧ Hid (RowW 2 27 PX wr w9.heap.size v' zs cs Fs) ∧ Hid (zs = xs ++ (os.take j).map fun o => (⟨f, o⟩ : Ex)) ∧ w10.grownBy wr v.ownBlock ∧ RowFrom v w10 v')
              case atStart => exact ⟨0, v, xs, cs, Fs, Nat.zero_le _, rfl, rfl, rfl, Hrow10.out, by simp [Hid], grown_refl _ _, RowFrom.refl _ _⟩
              case round =>
                obtain ⟨j, v2, zs, cs2, Fs2, hj, rfl, rfl, rfl, hrow, hzs, hgw, hfrom⟩ := hrel
                have hsr := World.grownBy.size hgw
                have hbr : Below w9.heap.size w9 wr := below_of_grown hB10 hgw (by omega) (fun g hg => (hv9 g hg).1)
                by_cases hjlt : j < os.length
                · have hosr : I3s w3 (above wo.heap.size wr) A10 c10 os := Hos.out.le (Le.above_grown hgw fun g hg => (hv9 g hg).2)
                  obtain ⟨bj, oj, Aj, cj, rfl, _, j0, hrj, _⟩ := I3s.get hosr hjlt
                  have j1 := (cell_above_lt j0).2
                  have hbjl : bj < wr.heap.size := World.block_lt_of_cell? _ _ j1
                  have hlz : zs.length + 1 ≤ 3000 := by rw [hzs.out, List.length_append, List.length_map, List.length_take]; omega
                  have h3' := Ho3.out _ (List.getElem_mem hjlt)
                  have Htj := Lib.hid (List.take_succ_eq_append_getElem hjlt)
                  have hrep : RepX wr Ai ci Aj cj ⟨f, os[j]⟩ := ⟨Hq.out.le (Le.below hbr), i2s_intss hrj ((Le.below Hb9.out).trans (Le.below hbr)) (Le.above _ _)⟩
                  have Hcl := Lib.hid (imCl_any ⟨f, os[j]⟩ (by show f.length ≤ 1000; omega) (by show os[j].length ≤ 1000; omega) (fun q hq => by have := h3'.2 q hq; omega) wr Ai Aj ci cj hrep)
                  clear hosr j0 hrep hrj
                  generalize os[j] = oj' at j1 h3' Htj Hcl
                  go_wp2_with fail
                  refine Hcl.out.mono ?_
                  rintro e5 w5 ⟨A5, c5, B5, d5, F5, rfl, hpx5, hn5, hf5, hb5⟩
                  have hs5 := hb5.size
                  have Hown5 : Hid (w5.ownsRow w9.heap.size 27 2 v2 zs.length cs2) := owns_of_block hrow.out.own fun g _ _ hl => hb5.block g hl
                  have Hpx5 := Lib.hid hpx5
                  clear hpx5 Hcl
                  go_wp2_with (at_builtin; refine wpList_append_lies (o := ⟨some 87, _, _, _, _, _⟩) _ (by rfl) _ _ _ (by rfl) w9.heap.size 27 i3 _ 2 48 Tryz.underlying67 hi3 hv0 hv1 hv2 rfl (by omega) v2 zs.length cs2 (by rfl) (owns_alloc Hown5.out _) ⟨w5.heap.size, 0, none⟩ 1 1 [.slice A5 f.length c5, .slice B5 oj'.length d5] (by rfl) (by rfl) (World.news_of_block (cs := #[.slice A5 f.length c5, .slice B5 oj'.length d5]) (t := 27) (fr := (0, 0)) (heap_alloc_new w5 _)) (by simp [Value.oneCell']) (by omega) (by simp [maxLen]; omega) (by omega) (by simp; omega) (w5.heap.size + 1) (by simp) ?_; intro gg cap w8 hown8 hgrow8 hat8 hlt8)
                  have hG8 : w10.grownBy w8 v.ownBlock := grown_next (grown_below (grown_below hgw hb5) ((Below.refl _ _).alloc (Nat.le_refl _) _)) hgrow8 (fun g hg => hfrom g hg)
                  have hp8 := RowW.push px_loc hrow.out (X := w5.alloc (.cells #[.slice A5 f.length c5, .slice B5 oj'.length d5] 27)) (by simp; omega) (fun b _ hl => (Go.Deep.blk_alloc_lt _ _ _ (by omega)).trans (hb5.block b hl)) hgrow8 (news := [.slice A5 f.length c5, .slice B5 oj'.length d5]) (x := (⟨f, oj'⟩ : Ex)) (F := F5) rfl
                    (px_loc.congr (fun j hj => by
                      have : j = 0 ∨ j = 1 := by omega
                      rcases this with rfl | rfl <;> rfl) (px_loc.move Hpx5.out fun b hb => Go.Deep.blk_alloc_lt _ _ _ (px_loc.lt Hpx5.out b hb))) hf5 hn5 (by omega) hown8 hat8 (by simp)
                  have hfrom8 := hfrom.next hat8 (n := zs.length + 1) (c := cap) (by omega)
                  have Hp8 := Lib.hid hp8
                  clear hgrow8 hown8 hp8
                  go_roundg (os.length - (j + 1))
                  case measure => omega
                  case rel => exact ⟨j + 1, _, zs ++ [(⟨f, oj'⟩ : Ex)], _, _, by omega, rfl, rfl, by go_num, Hp8.out, (by show _ = _; rw [Htj.out, List.map_append, ← List.append_assoc, ← hzs.out]; rfl), hG8, hfrom8⟩
                · obtain rfl : j = os.length := by omega
                  rw [List.take_length] at hzs
                  go_wp2_with fail
                  go_roundg (fs.length - (i + 1))
                  case measure => omega
                  case rel => exact ⟨i + 1, v2, zs, cs2, Fs2, by omega, rfl, rfl, by go_num, hrow.out, (by show _ = _; rw [Htk.out, ← hxs.out]; exact hzs.out), hbr⟩
            · obtain rfl : i = fs.length := by omega
              rw [List.take_length] at hxs
              have hx9 : xs = cands L := by rw [hxs.out, Hres.out]
              obtain ⟨F9, ho9, hn9, hf9⟩ := RowW.ow px_loc hrow.out
              have Ho9 := Lib.hid ho9
              have Hx9 := Lib.hid hx9
              clear ho9 hrow hx9 hxs
              go_wp2_with fail
              go_ret
              rw [← Hx9.out]
              exact ⟨_, F9, rfl, Ho9.out, hn9, fun b hb' => by have := hf9 b hb'; have := HB9.size; omega, HB9.trans (hb.mono HB9.size)⟩

end Go.Proofs.YtfgpbnncdfcjjaaGreatDoor
