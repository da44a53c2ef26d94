/-
  The walks of l7Shape, l7Count, spec.RelExprValid.
-/
import Derived.Test.YtapelogbceoojaaDoorWVal
namespace Go.Proofs.YtapelogbceoojaaDoor
open Go.RowKit
set_option linter.unusedVariables false
set_option maxRecDepth 100000

set_option maxHeartbeats 1000000 in
theorem l7Shape_any (m : Nat) : ∀ (x : RE) (w : World) (A : Option Addr) (c : Nat), m ≤ 12 → RepK w A c x →
    Calls Tryd.prog 44 #[.agg #[.int .i64 x.op, .string x.name, .slice A x.kids.length c], .int .i64 m] w (RetB w (shpB m x)) := by
  induction m with
  | zero =>
    intro x w A c hm hx
    obtain ⟨op, name, kids⟩ := x
    have bx := Box3.new w (.int .i64 op) (.string name) (.slice A kids.length c) 29
    simp only [RE.op, RE.name, RE.kids]
    go_enter Tryd.func44, Tryd.ntmps44
    go_wp2_with fail
    go_quiet (fail)
    go_wp2_with fail
    go_ret
    exact ⟨ret_bool (shpB_false.2 (fun h : Shp 0 _ => h)).symm, below_drewN ((Below.refl _ _).alloc (Nat.le_refl _) _) _⟩
  | succ m ih =>
    intro x w A c hm hx
    obtain ⟨op, name, kids⟩ := x
    have hks := hx.2
    have hkl := hx.kids_le
    clear hx
    have bx := Box3.new w (.int .i64 op) (.string name) (.slice A kids.length c) 29
    simp only [RE.op, RE.name, RE.kids] at hks hkl ⊢
    have hmc : ((m + 1 : Nat) : Int) = (m : Int) + 1 := by omega
    rw [hmc]
    clear hmc
    have hd : decide ((m : Int) + 1 < 1) = false := by rw [decide_eq_false_iff_not]; omega
    have hb1 : Below w.heap.size w (w.alloc (.cells #[.int .i64 op, .string name, .slice A kids.length c] 29)) := (Below.refl _ _).alloc (Nat.le_refl _) _
    have Hb1 := Lib.hid hb1
    clear hb1
    have f0 := fun n : Ext (w.alloc (.cells #[.int .i64 op, .string name, .slice A kids.length c] 29)) => n.le _ _ bx.c0
    have f1 := fun n : Ext (w.alloc (.cells #[.int .i64 op, .string name, .slice A kids.length c] 29)) => n.le _ _ bx.c1
    have f2 := fun n : Ext (w.alloc (.cells #[.int .i64 op, .string name, .slice A kids.length c] 29)) => n.le _ _ bx.c2
    by_cases hkn : (kids.length : Int) = kidsI op
    case neg =>
      have bk : ((kids.length : Int) != kidsI op) = true := by simpa using hkn
      go_enter Tryd.func44, Tryd.ntmps44
      go_wp2_with fail
      refine wp_region_ext _ (by kernel_rfl) (by kernel_rfl) (Below.refl _ _) ?_
      repeat (go_big_quiet_step ((first | (go_at_call 78; exact Ext.callQ _ fun W _ => l7Kids_any _ W) | (go_at_call 79; exact Ext.call _ fun W _ => l6Named_any _ W))))
      refine wpQuiet_nil ?_
      rintro wn ⟨⟨_, hbn⟩, rfl⟩
      go_wp2_with fail
      go_ret
      exact ⟨ret_bool (shpB_false.2 (fun h : Shp (m + 1) (.mk op name kids) => hkn h.1.1)).symm, Hb1.out.trans (hbn.mono (by simp))⟩
    have bk : ((kids.length : Int) != kidsI op) = false := by simpa using hkn
    have Hkn := Lib.hid hkn
    clear hkn
    by_cases h1 : op = 1
    · subst h1
      cases hmem : memB nm name
      · have Hmem := Lib.hid hmem
        go_enter Tryd.func44, Tryd.ntmps44
        go_wp2_with fail
        refine wp_region_ext _ (by kernel_rfl) (by kernel_rfl) (Below.refl _ _) ?_
        repeat (go_big_quiet_step ((first | (go_at_call 78; exact Ext.callQ _ fun W _ => l7Kids_any _ W) | (go_at_call 79; exact Ext.call _ fun W _ => l6Named_any _ W))))
        refine wpQuiet_nil ?_
        rintro wn ⟨⟨_, hbn⟩, rfl⟩
        go_wp2_with fail
        go_ret
        refine ⟨ret_bool (shpB_false.2 (fun h : Shp (m + 1) (.mk 1 name kids) => ?_)).symm, Hb1.out.trans (hbn.mono (by simp))⟩
        have := memB_iff.2 (h.1.2.1.1 rfl)
        exact Bool.noConfusion (Hmem.out.symm.trans this)
      · have Hmem := Lib.hid hmem
        go_enter Tryd.func44, Tryd.ntmps44
        go_wp2_with fail
        refine wp_region_ext _ (by kernel_rfl) (by kernel_rfl) (Below.refl _ _) ?_
        repeat (go_big_quiet_step ((first | (go_at_call 78; exact Ext.callQ _ fun W _ => l7Kids_any _ W) | (go_at_call 79; exact Ext.call _ fun W _ => l6Named_any _ W))))
        refine wpQuiet_nil ?_
        rintro wn ⟨⟨_, hbn⟩, rfl⟩
        go_wp2_with fail
        have hbw : Below w.heap.size w wn := Hb1.out.trans (hbn.mono (by simp))
        have bxn := bx.le (Le.below hbn)
        clear hbn bx hmem f0 f1 f2
        go_loopg [5] kids.length (fun g s5 wr => ∃ k : Nat, k ≤ kids.length ∧ g = kids.length - k ∧ s5 = .int .i64 k ∧ Hid (∀ j (_ : j < k) (h : j < kids.length), Shp m kids[j]) ∧ Below wn.heap.size wn wr)
        case atStart => exact ⟨0, Nat.zero_le _, rfl, rfl, fun j hj => absurd hj (Nat.not_lt_zero _), Below.refl _ _⟩
        case round =>
          obtain ⟨k, hk, rfl, rfl, hat, hb⟩ := hrel
          have hbr := hbw.trans (hb.mono hbw.size)
          obtain ⟨x0, x1, x2, xs⟩ := (bxn.le (Le.below hb)).all
          by_cases hlt : k < kids.length
          · obtain ⟨b, o, A0, c0, rfl, hbl, k0, k1, k2, hre⟩ := RepEs.get (RepEs.le hks (Le.below hbr)) hlt
            clear hks
            go_wp2_with fail
            refine (ih kids[k] _ A0 c0 (by omega) hre).mono ?_
            rintro e2 w2 ⟨rfl, hb2⟩
            have hb3 := hb.trans (hb2.mono hb.size)
            have hb4 := hbr.trans (hb2.mono hbr.size)
            clear hb2 k0 k1 k2 hre x0 x1 x2 xs
            cases hs : shpB m kids[k]
            · have Hs := Lib.hid hs
              go_wp2_with fail
              go_ret
              refine ⟨ret_bool ?_, hb4⟩
              rw [eq_comm, shpB_false]
              exact fun h => shpB_false.1 Hs.out (h.2 _ (List.getElem_mem hlt))
            · have Hs := Lib.hid hs
              go_wp2_with fail
              go_roundg (kids.length - (k + 1))
              case measure => omega
              case rel =>
                refine ⟨k + 1, by omega, rfl, by go_num, fun j hj hj' => ?_, hb3⟩
                by_cases e : j = k
                · subst e
                  exact shpB_iff.1 Hs.out
                · exact hat.out j (by omega) hj'
          · go_wp2_with fail
            go_ret
            obtain rfl : k = kids.length := by omega
            refine ⟨ret_bool ?_, hbr⟩
            rw [eq_comm, shpB_iff]
            refine ⟨⟨Hkn.out, ⟨fun _ => memB_iff.1 Hmem.out, fun _ => rfl⟩, fun h => absurd rfl h⟩, fun kk hkk => ?_⟩
            obtain ⟨i, hi, e⟩ := List.getElem_of_mem hkk
            rw [← e]
            exact hat.out i hi hi
    · have b1 : (op == 1) = false := by simpa using h1
      have b1' : (op != 1) = true := by simpa using h1
      have H1 := Lib.hid h1
      clear h1
      cases hmem : memB nm name
      · have Hmem := Lib.hid hmem
        by_cases hem : name = ⟨#[]⟩
        · subst hem
          go_enter Tryd.func44, Tryd.ntmps44
          go_wp2_with fail
          refine wp_region_ext _ (by kernel_rfl) (by kernel_rfl) (Below.refl _ _) ?_
          repeat (go_big_quiet_step ((first | (go_at_call 78; exact Ext.callQ _ fun W _ => l7Kids_any _ W) | (go_at_call 79; exact Ext.call _ fun W _ => l6Named_any _ W))))
          refine wpQuiet_nil ?_
          rintro wn ⟨⟨_, hbn⟩, rfl⟩
          go_wp2_with fail
          have hbw : Below w.heap.size w wn := Hb1.out.trans (hbn.mono (by simp))
          have bxn := bx.le (Le.below hbn)
          clear hbn bx hmem f0 f1 f2
          go_loopg [5] kids.length (fun g s5 wr => ∃ k : Nat, k ≤ kids.length ∧ g = kids.length - k ∧ s5 = .int .i64 k ∧ Hid (∀ j (_ : j < k) (h : j < kids.length), Shp m kids[j]) ∧ Below wn.heap.size wn wr)
          case atStart => exact ⟨0, Nat.zero_le _, rfl, rfl, fun j hj => absurd hj (Nat.not_lt_zero _), Below.refl _ _⟩
          case round =>
            obtain ⟨k, hk, rfl, rfl, hat, hb⟩ := hrel
            have hbr := hbw.trans (hb.mono hbw.size)
            obtain ⟨x0, x1, x2, xs⟩ := (bxn.le (Le.below hb)).all
            by_cases hlt : k < kids.length
            · obtain ⟨b, o, A0, c0, rfl, hbl, k0, k1, k2, hre⟩ := RepEs.get (RepEs.le hks (Le.below hbr)) hlt
              clear hks
              go_wp2_with fail
              refine (ih kids[k] _ A0 c0 (by omega) hre).mono ?_
              rintro e2 w2 ⟨rfl, hb2⟩
              have hb3 := hb.trans (hb2.mono hb.size)
              have hb4 := hbr.trans (hb2.mono hbr.size)
              clear hb2 k0 k1 k2 hre x0 x1 x2 xs
              cases hs : shpB m kids[k]
              · have Hs := Lib.hid hs
                go_wp2_with fail
                go_ret
                refine ⟨ret_bool ?_, hb4⟩
                rw [eq_comm, shpB_false]
                exact fun h => shpB_false.1 Hs.out (h.2 _ (List.getElem_mem hlt))
              · have Hs := Lib.hid hs
                go_wp2_with fail
                go_roundg (kids.length - (k + 1))
                case measure => omega
                case rel =>
                  refine ⟨k + 1, by omega, rfl, by go_num, fun j hj hj' => ?_, hb3⟩
                  by_cases e : j = k
                  · subst e
                    exact shpB_iff.1 Hs.out
                  · exact hat.out j (by omega) hj'
            · go_wp2_with fail
              go_ret
              obtain rfl : k = kids.length := by omega
              refine ⟨ret_bool ?_, hbr⟩
              rw [eq_comm, shpB_iff]
              refine ⟨⟨Hkn.out, ⟨fun h => absurd h H1.out, fun h => Bool.noConfusion (Hmem.out.symm.trans (memB_iff.2 h))⟩, fun _ => rfl⟩, fun kk hkk => ?_⟩
              obtain ⟨i, hi, e⟩ := List.getElem_of_mem hkk
              rw [← e]
              exact hat.out i hi hi
        · have be := str_eq_false hem
          have hemp := str_ne_nil hem
          have Hem := Lib.hid hem
          clear hem
          go_enter Tryd.func44, Tryd.ntmps44
          go_wp2_with fail
          refine wp_region_ext _ (by kernel_rfl) (by kernel_rfl) (Below.refl _ _) ?_
          repeat (go_big_quiet_step ((first | (go_at_call 78; exact Ext.callQ _ fun W _ => l7Kids_any _ W) | (go_at_call 79; exact Ext.call _ fun W _ => l6Named_any _ W))))
          refine wpQuiet_nil ?_
          rintro wn ⟨⟨_, hbn⟩, rfl⟩
          go_wp2_with fail
          go_ret
          exact ⟨ret_bool (shpB_false.2 (fun h : Shp (m + 1) (.mk op name kids) => Hem.out (h.1.2.2 H1.out))).symm, Hb1.out.trans (hbn.mono (by simp))⟩
      · have Hmem := Lib.hid hmem
        go_enter Tryd.func44, Tryd.ntmps44
        go_wp2_with fail
        refine wp_region_ext _ (by kernel_rfl) (by kernel_rfl) (Below.refl _ _) ?_
        repeat (go_big_quiet_step ((first | (go_at_call 78; exact Ext.callQ _ fun W _ => l7Kids_any _ W) | (go_at_call 79; exact Ext.call _ fun W _ => l6Named_any _ W))))
        refine wpQuiet_nil ?_
        rintro wn ⟨⟨_, hbn⟩, rfl⟩
        go_wp2_with fail
        go_ret
        exact ⟨ret_bool (shpB_false.2 (fun h : Shp (m + 1) (.mk op name kids) => H1.out (h.1.2.1.2 (memB_iff.1 Hmem.out)))).symm, Hb1.out.trans (hbn.mono (by simp))⟩

def RetCount (w : World) (x : RE) (most : Int) (e : Ending) (w' : World) : Prop := ∃ r, e = .returned (.int .i64 r) ∧ CountOk x most r ∧ Below w.heap.size w w'

set_option maxHeartbeats 400000 in
theorem l7Count_any (x : RE) : ∀ (w : World) (A : Option Addr) (c : Nat) (most : Int), 0 ≤ most → most ≤ 40 → cntE x ≤ 1048577 → RepK w A c x →
    Calls Tryd.prog 45 #[.agg #[.int .i64 x.op, .string x.name, .slice A x.kids.length c], .int .i64 most] w (RetCount w x most) := by
  induction x using RE.ind with | h op name kids ih => ?_
  intro w A c most hm0 hm1 hcnt hx
  have hks := hx.2
  have hkl := hx.kids_le
  clear hx
  rw [cntE] at hcnt
  simp only [RE.op, RE.name, RE.kids] at hks hkl ⊢
  have bx := Box3.new w (.int .i64 op) (.string name) (.slice A kids.length c) 29
  have hb1 : Below w.heap.size w (w.alloc (.cells #[.int .i64 op, .string name, .slice A kids.length c] 29)) := (Below.refl _ _).alloc (Nat.le_refl _) _
  have Hb1 := Lib.hid hb1
  clear hb1
  go_enter Tryd.func45, Tryd.ntmps45
  go_wp2_with fail
  go_loopg [5, 6] kids.length (fun g s5 s6 wr => ∃ (k : Nat) (n : Int), k ≤ kids.length ∧ g = kids.length - k ∧ s6 = .int .i64 k ∧ s5 = .int .i64 n ∧ 1 ≤ n ∧ n ≤ 1048577 ∧ Hid (CountAt kids most k n) ∧
    Below (w.alloc (.cells #[.int .i64 op, .string name, .slice A kids.length c] 29)).heap.size (w.alloc (.cells #[.int .i64 op, .string name, .slice A kids.length c] 29)) wr)
  case atStart => exact ⟨0, 1, Nat.zero_le _, rfl, rfl, rfl, by omega, by omega, CountAt.start _ _, Below.refl _ _⟩
  case round =>
    obtain ⟨k, n, hk, rfl, rfl, rfl, hn1, hn2, hat, hb⟩ := hrel
    have hbr := Hb1.out.trans (hb.mono (by simp))
    obtain ⟨x0, x1, x2, xs⟩ := (bx.le (Le.below hb)).all
    clear bx
    by_cases hlt : k < kids.length
    · by_cases hmo : n ≤ most
      · obtain ⟨b, o, A0, c0, rfl, hbl, k0, k1, k2, hre⟩ := RepEs.get (RepEs.le hks (Le.below hbr)) hlt
        have hct := cntL_take_succ kids k hlt
        have hcl := cntL_take_le kids (k + 1)
        have hk1 : cntE kids[k] ≤ 1048577 := by omega
        have ht : 1 + cntL (kids.take (k + 1)) ≤ 1048577 := by omega
        clear hks hct hcl
        go_wp2_with fail
        refine (ih kids[k] (List.getElem_mem hlt) _ A0 c0 (most - n) (by omega) (by omega) hk1 hre).mono ?_
        rintro e2 w2 ⟨r, rfl, hr, hb2⟩
        have hat' := hat.out.step hlt hmo hr
        have hr1 := hat'.1
        have hr2 := hat'.2.1
        have hr3 := hr.1
        have hb3 := hb.trans (hb2.mono hb.size)
        have Hat := Lib.hid hat'
        clear hb2 k0 k1 k2 hre x0 x1 x2 xs hr hat'
        go_wp2_with fail
        go_roundg (kids.length - (k + 1))
        case measure => omega
        case rel => exact ⟨k + 1, _, by omega, rfl, by go_num, rfl, by omega, by omega, Hat.out, hb3⟩
      · go_wp2_with fail
        go_ret
        exact ⟨_, rfl, hat.out.over (by omega), hbr⟩
    · go_wp2_with fail
      go_ret
      obtain rfl : k = kids.length := by omega
      exact ⟨_, rfl, hat.out.done, hbr⟩

set_option maxHeartbeats 400000 in
theorem specValid_any (x : RE) (w : World) (A : Option Addr) (c : Nat) (hcnt : cntE x ≤ 1048577) (hx : RepK w A c x) :
    Calls Tryd.prog 14 #[.agg #[.int .i64 x.op, .string x.name, .slice A x.kids.length c]] w (RetB w (valB x)) := by
  go_enter Tryd.func14, Tryd.ntmps14
  go_wp2_with fail
  refine (l7Shape_any 12 x _ A c (by omega) (hx.le (Le.alloc _ _))).mono ?_
  rintro e1 w1 ⟨rfl, hb⟩
  have hb' : Below w.heap.size w w1 := ((Below.refl _ _).alloc (Nat.le_refl _) _).trans (hb.mono (by simp))
  have bx := ((Box3.new w (.int .i64 x.op) (.string x.name) (.slice A x.kids.length c) 29).le (Le.below hb)).all
  obtain ⟨x0, x1, x2, xs⟩ := bx
  clear hb
  cases hs : shpB 12 x
  · go_wp2_with fail
    go_ret
    refine ⟨ret_bool ?_, hb'⟩
    rw [eq_comm, ← Bool.not_eq_true, valB_iff]
    exact fun h => shpB_false.1 hs h.1
  · have Hs := Lib.hid hs
    clear hs
    go_wp2_with fail
    refine (l7Count_any x _ A c 40 (by omega) (by omega) hcnt (hx.le (Le.below hb'))).mono ?_
    rintro e2 w2 ⟨r, rfl, hr, hb2⟩
    have hb'' := hb'.trans (hb2.mono hb'.size)
    have hv : decide (r ≤ 40) = valB x := by
      rw [countOk_val hr, Bool.eq_iff_iff, decide_eq_true_iff, valB_iff]
      exact ⟨fun h => ⟨shpB_iff.1 Hs.out, h⟩, fun h => h.2⟩
    have Hv := Lib.hid hv
    clear hv hr hb2 x0 x1 x2 xs
    go_wp2_with fail
    go_ret
    exact ⟨ret_bool Hv.out, hb''⟩

end Go.Proofs.YtapelogbceoojaaDoor
