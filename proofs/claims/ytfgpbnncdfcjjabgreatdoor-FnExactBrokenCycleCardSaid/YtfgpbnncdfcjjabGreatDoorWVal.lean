/-
  The walks of relLevel, relSize, impl.RelExprValid; l7Kids, l7Shape, l7Count, spec.RelExprValid. The walks of l7Shape, l7Count, spec.RelExprValid. The walks of impl.within, impl.ModelValid (with its function, slices.ContainsFunc and slices.IndexFunc), spec.ModelValid. The text of a model, plainly; the table of the words of rules.
-/
import Derived.Test.YtfgpbnncdfcjjabGreatDoorVal
import Derived.Test.YtfgpbnncdfcjjabGreatDoorRE
import Derived.StillTailTactics
import Derived.Lib.Join

/-! The walks of relLevel, relSize, impl.RelExprValid; l7Kids, l7Shape, l7Count, spec.RelExprValid. -/
namespace Go.Proofs.YtfgpbnncdfcjjabGreatDoor
open Go.RowKit
set_option linter.unusedVariables false
set_option maxRecDepth 100000

def RetLevel (w : World) (op : Int) (e : Ending) (w' : World) : Prop := e = .returned (.tuple #[.int .i64 (lvl op), .string (sgn op), .int .i64 (kidsI op)]) ∧ w = w'

/-- The operations that a switch tells apart. -/
theorem op_cases (op : Int) : op = 1 ∨ op = 2 ∨ op = 3 ∨ op = 4 ∨ op = 5 ∨ op = 6 ∨ op = 7 ∨ (¬ op = 1 ∧ ¬ op = 2 ∧ ¬ op = 3 ∧ ¬ op = 4 ∧ ¬ op = 5 ∧ ¬ op = 6 ∧ ¬ op = 7) := by omega

set_option maxHeartbeats 400000 in
theorem relLevel_any (op : Int) (w : World) : Calls Tryz.prog 163 #[.int .i64 op] w (RetLevel w op) := by
  rcases op_cases op with rfl | rfl | rfl | rfl | rfl | rfl | rfl | ⟨h1, h2, h3, h4, h5, h6, h7⟩
  case inr.inr.inr.inr.inr.inr.inr =>
    have b1 : (op == 1) = false := by simpa using h1
    have b2 : (op == 2) = false := by simpa using h2
    have b3 : (op == 3) = false := by simpa using h3
    have b4 : (op == 4) = false := by simpa using h4
    have b5 : (op == 5) = false := by simpa using h5
    have b6 : (op == 6) = false := by simpa using h6
    have b7 : (op == 7) = false := by simpa using h7
    go_enter Tryz.func163, Tryz.ntmps163
    go_wp2_with fail
    go_ret3
    refine ⟨?_, rfl⟩
    have e1 : lvl op = 0 := by unfold lvl; rw [if_neg h2, if_neg (by omega), if_neg h5]
    have e2 : sgn op = ⟨#[]⟩ := by unfold sgn; rw [if_neg h2, if_neg h3, if_neg h4, if_neg h5, if_neg h6, if_neg h7]
    have e3 : kidsI op = -1 := by unfold kidsI; rw [if_neg h1, if_neg (by omega), if_neg (by omega)]
    rw [e1, e2, e3]
    rfl
  all_goals
    go_enter Tryz.func163, Tryz.ntmps163
    go_wp2_with fail
    go_ret3
    exact ⟨rfl, rfl⟩

set_option maxHeartbeats 400000 in
theorem l7Kids_any (op : Int) (w : World) : Calls Tryz.prog 186 #[.int .i64 op] w fun e w' => e = .returned (.int .i64 (kidsI op)) ∧ w = w' := by
  rcases op_cases op with rfl | rfl | rfl | rfl | rfl | rfl | rfl | ⟨h1, h2, h3, h4, h5, h6, h7⟩
  case inr.inr.inr.inr.inr.inr.inr =>
    have b1 : (op == 1) = false := by simpa using h1
    have b2 : (op == 2) = false := by simpa using h2
    have b3 : (op == 3) = false := by simpa using h3
    have b4 : (op == 4) = false := by simpa using h4
    have b5 : (op == 5) = false := by simpa using h5
    have b6 : (op == 6) = false := by simpa using h6
    have b7 : (op == 7) = false := by simpa using h7
    go_enter Tryz.func186, Tryz.ntmps186
    go_wp2_with fail
    go_ret
    refine ⟨?_, rfl⟩
    have e3 : kidsI op = -1 := by unfold kidsI; rw [if_neg h1, if_neg (by omega), if_neg (by omega)]
    rw [e3]
    rfl
  all_goals
    go_enter Tryz.func186, Tryz.ntmps186
    go_wp2_with fail
    go_ret
    exact ⟨rfl, rfl⟩

def RetSize (w : World) (m : Nat) (x : RE) (e : Ending) (w' : World) : Prop := ∃ r, e = .returned (.int .i64 r) ∧ SizeOk m x r ∧ Below w.heap.size w w'

theorem sizeOk_bad {m : Nat} {e : RE} (h : ¬ Shp m e) : SizeOk m e 41 := ⟨by omega, by omega, fun hh => absurd hh.1 h, fun _ => by omega⟩

set_option maxHeartbeats 1000000 in
theorem relSize_any (m : Nat) : ∀ (x : RE) (w : World) (A : Option Addr) (c : Nat), m ≤ 12 → GN w → RepK w A c x →
    Calls Tryz.prog 112 #[.agg #[.int .i64 x.op, .string x.name, .slice A x.kids.length c], .int .i64 m] w (RetSize w m x) := by
  induction m with
  | zero =>
    intro x w A c hm hg hx
    obtain ⟨op, name, kids⟩ := x
    simp only [RE.op, RE.name, RE.kids]
    go_enter Tryz.func112, Tryz.ntmps112
    go_wp2_with fail
    refine (relLevel_any op _).mono ?_
    rintro e1 w1 ⟨rfl, rfl⟩
    go_wp2_with fail
    go_quiet (fail)
    go_wp2_with fail
    go_ret
    exact ⟨41, rfl, sizeOk_bad (fun h => h), below_drewN ((Below.refl _ _).alloc (Nat.le_refl _) _) _⟩
  | succ m ih =>
    intro x w A c hm hg hx
    obtain ⟨op, name, kids⟩ := x
    have hks := hx.2
    have hkl := hx.kids_le
    clear hx
    simp only [RE.op, RE.name, RE.kids] at hks hkl ⊢
    have hm0 : (((m : Int) + 1) == 0) = false := by rw [beq_eq_false_iff_ne]; omega
    have hmc : ((m + 1 : Nat) : Int) = (m : Int) + 1 := by omega
    rw [hmc]
    clear hmc
    have hb1 : ∀ n, Below w.heap.size w ((w.alloc (.cells #[.int .i64 op, .string name, .slice A kids.length c] 57)).drewN n) := fun n => below_drewN ((Below.refl _ _).alloc (Nat.le_refl _) _) n
    have Hb1 := Lib.hid hb1
    clear hb1
    have hq : ∀ n, Calls Tryz.prog 164 #[.string name] ((w.alloc (.cells #[.int .i64 op, .string name, .slice A kids.length c] 57)).drewN n) fun e w'' => e = .returned (.bool (memB nm name)) ∧ ∃ k, w'' = (w.alloc (.cells #[.int .i64 op, .string name, .slice A kids.length c] 57)).drewN k := fun n =>
      RetQ.quiet (isRelName_any name _ ((hg.le (Le.alloc _ _)).le (Le.drewN _ _)))
    by_cases hkn : (kids.length : Int) = kidsI op
    case neg =>
      have bk : ((kids.length : Int) != kidsI op) = true := by simpa using hkn
      go_enter Tryz.func112, Tryz.ntmps112
      go_wp2_with fail
      refine (relLevel_any op _).mono ?_
      rintro e1 w1 ⟨rfl, rfl⟩
      go_wp2_with fail
      go_quiet (fail)
      go_wp2_with fail
      go_ret
      exact ⟨41, rfl, sizeOk_bad (fun h => hkn h.1.1), Hb1.out _⟩
    have bk : ((kids.length : Int) != kidsI op) = false := by simpa using hkn
    have Hkn := Lib.hid hkn
    clear hkn
    have bad : ∀ r, r = (41 : Int) → ¬ ((op = 1) ↔ name ∈ nm) → SizeOk (m + 1) (.mk op name kids) r := fun r hr hn => by
      subst hr
      exact sizeOk_bad (fun h => hn h.1.2.1)
    have Bad := Lib.hid bad
    clear bad
    by_cases h1 : op = 1
    · subst h1
      cases hmem : memB nm name
      · -- a name that is none
        have hq' := hq
        rw [hmem] at hq'
        clear hq
        go_enter Tryz.func112, Tryz.ntmps112
        go_wp2_with fail
        refine (relLevel_any 1 _).mono ?_
        rintro e1 w1 ⟨rfl, rfl⟩
        go_wp2_with fail
        go_quiet ((go_at_call 164; exact hq' _))
        go_wp2_with fail
        go_ret
        exact ⟨41, rfl, Bad.out 41 rfl (fun h => by have := memB_iff.2 (h.1 (by first | rfl | trivial)); rw [hmem] at this; cases this), Hb1.out _⟩
      · -- a name
        have hq' := hq
        rw [hmem] at hq'
        clear hq
        have Hmem := Lib.hid hmem
        clear hmem
        go_enter Tryz.func112, Tryz.ntmps112
        go_wp2_with fail
        refine (relLevel_any 1 _).mono ?_
        rintro e1 w1 ⟨rfl, rfl⟩
        go_wp2_with fail
        go_quiet ((go_at_call 164; exact hq' _))
        go_wp2_with fail
        go_loopg [8, 49] kids.length (fun g s8 s49 wr => ∃ (k : Nat) (cnt : Int), k ≤ kids.length ∧ g = kids.length - k ∧ s49 = .int .i64 k ∧ s8 = .int .i64 cnt ∧ 1 ≤ cnt ∧ cnt ≤ 40 ∧ Hid (SizeAt m kids k cnt) ∧ Below w.heap.size w wr)
        case atStart => exact ⟨0, 1, Nat.zero_le _, rfl, rfl, rfl, by omega, by omega, SizeAt.start _ _, Hb1.out _⟩
        case round =>
          obtain ⟨k, cnt, hk, rfl, rfl, rfl, hc1, hc2, hat, hb⟩ := hrel
          by_cases hlt : k < kids.length
          · obtain ⟨b, o, A0, c0, rfl, hbl, k0, k1, k2, hre⟩ := RepEs.get (RepEs.le hks (Le.below hb)) hlt
            have hgw := hg.le (Le.below hb)
            clear hks hq'
            go_wp2_with fail
            refine (ih kids[k] _ A0 c0 (by omega) (hgw.le (Le.alloc _ _)) (hre.le (Le.alloc _ _))).mono ?_
            rintro e2 w2 ⟨r, rfl, hr, hb2⟩
            have hbw : Below w.heap.size w w2 := (hb.alloc hb.size _).trans (hb2.mono (by have := hb.size; simp; omega))
            have hr1 := hr.1
            have hr2 := hr.2.1
            have Hr := Lib.hid hr
            clear hr hb2 k0 k1 k2 hre hgw
            by_cases hgt : 40 < cnt + r
            · go_wp2_with fail
              go_ret
              exact ⟨_, rfl, hat.out.break_ hlt Hr.out hgt, hbw⟩
            · go_wp2_with fail
              go_roundg (kids.length - (k + 1))
              case measure => omega
              case rel => exact ⟨k + 1, _, by omega, rfl, by go_num, rfl, by omega, by omega, hat.out.step hlt Hr.out (by omega), hbw⟩
          · clear hq'
            go_wp2_with fail
            go_ret
            obtain rfl : k = kids.length := by omega
            exact ⟨_, rfl, hat.out.done ⟨Hkn.out, ⟨fun _ => memB_iff.1 Hmem.out, fun _ => rfl⟩, fun h => absurd rfl h⟩, hb⟩
    · have b1 : (op == 1) = false := by simpa using h1
      have b1' : (op != 1) = true := by simpa using h1
      have H1 := Lib.hid h1
      clear h1
      cases hmem : memB nm name
      · have hq' := hq
        rw [hmem] at hq'
        clear hq
        have Hmem := Lib.hid hmem
        clear hmem
        by_cases hem : name = ⟨#[]⟩
        · subst hem
          go_enter Tryz.func112, Tryz.ntmps112
          go_wp2_with fail
          refine (relLevel_any op _).mono ?_
          rintro e1 w1 ⟨rfl, rfl⟩
          go_wp2_with fail
          go_quiet ((go_at_call 164; exact hq' _))
          go_wp2_with fail
          go_loopg [8, 49] kids.length (fun g s8 s49 wr => ∃ (k : Nat) (cnt : Int), k ≤ kids.length ∧ g = kids.length - k ∧ s49 = .int .i64 k ∧ s8 = .int .i64 cnt ∧ 1 ≤ cnt ∧ cnt ≤ 40 ∧ Hid (SizeAt m kids k cnt) ∧ Below w.heap.size w wr)
          case atStart => exact ⟨0, 1, Nat.zero_le _, rfl, rfl, rfl, by omega, by omega, SizeAt.start _ _, Hb1.out _⟩
          case round =>
            obtain ⟨k, cnt, hk, rfl, rfl, rfl, hc1, hc2, hat, hb⟩ := hrel
            by_cases hlt : k < kids.length
            · obtain ⟨b, o, A0, c0, rfl, hbl, k0, k1, k2, hre⟩ := RepEs.get (RepEs.le hks (Le.below hb)) hlt
              have hgw := hg.le (Le.below hb)
              clear hks hq'
              go_wp2_with fail
              refine (ih kids[k] _ A0 c0 (by omega) (hgw.le (Le.alloc _ _)) (hre.le (Le.alloc _ _))).mono ?_
              rintro e2 w2 ⟨r, rfl, hr, hb2⟩
              have hbw : Below w.heap.size w w2 := (hb.alloc hb.size _).trans (hb2.mono (by have := hb.size; simp; omega))
              have hr1 := hr.1
              have hr2 := hr.2.1
              have Hr := Lib.hid hr
              clear hr hb2 k0 k1 k2 hre hgw
              by_cases hgt : 40 < cnt + r
              · go_wp2_with fail
                go_ret
                exact ⟨_, rfl, hat.out.break_ hlt Hr.out hgt, hbw⟩
              · go_wp2_with fail
                go_roundg (kids.length - (k + 1))
                case measure => omega
                case rel => exact ⟨k + 1, _, by omega, rfl, by go_num, rfl, by omega, by omega, hat.out.step hlt Hr.out (by omega), hbw⟩
            · clear hq'
              go_wp2_with fail
              go_ret
              obtain rfl : k = kids.length := by omega
              exact ⟨_, rfl, hat.out.done ⟨Hkn.out, ⟨fun h => absurd h H1.out, fun h => Bool.noConfusion (Hmem.out.symm.trans (memB_iff.2 h))⟩, fun _ => rfl⟩, hb⟩

        · have be := str_eq_false hem
          have hemp : name.toList.isEmpty = false := by
            rw [List.isEmpty_eq_false_iff]
            intro h0
            rw [h0] at be
            simp at be
          have Hem := Lib.hid hem
          clear hem
          go_enter Tryz.func112, Tryz.ntmps112
          go_wp2_with fail
          refine (relLevel_any op _).mono ?_
          rintro e1 w1 ⟨rfl, rfl⟩
          go_wp2_with fail
          go_quiet ((go_at_call 164; exact hq' _))
          go_wp2_with fail
          go_ret
          exact ⟨41, rfl, sizeOk_bad (fun h => Hem.out (h.1.2.2 H1.out)), Hb1.out _⟩
      · -- a name where none may stand
        have hq' := hq
        rw [hmem] at hq'
        clear hq
        go_enter Tryz.func112, Tryz.ntmps112
        go_wp2_with fail
        refine (relLevel_any op _).mono ?_
        rintro e1 w1 ⟨rfl, rfl⟩
        go_wp2_with fail
        go_quiet ((go_at_call 164; exact hq' _))
        go_wp2_with fail
        go_ret
        exact ⟨41, rfl, Bad.out 41 rfl (fun h => H1.out (h.2 (memB_iff.1 hmem))), Hb1.out _⟩

set_option maxHeartbeats 400000 in
theorem valid_any (x : RE) (w : World) (A : Option Addr) (c : Nat) (hg : GN w) (hx : RepK w A c x) :
    Calls Tryz.prog 70 #[.agg #[.int .i64 x.op, .string x.name, .slice A x.kids.length c]] w (RetB w (valB x)) := by
  go_enter Tryz.func70, Tryz.ntmps70
  go_wp2_with fail
  refine (relSize_any 12 x _ A c (by omega) (hg.le (Le.alloc _ _)) (hx.le (Le.alloc _ _))).mono ?_
  rintro e1 w1 ⟨r, rfl, hr, hb⟩
  have Hv := Lib.hid (sizeOk_val hr)
  have hb' : Below w.heap.size w w1 := ((Below.refl _ _).alloc (Nat.le_refl _) _).trans (hb.mono (by simp))
  clear hr hb
  go_wp2_with fail
  go_ret
  exact ⟨ret_bool Hv.out, hb'⟩
end Go.Proofs.YtfgpbnncdfcjjabGreatDoor

/-! The walks of l7Shape, l7Count, spec.RelExprValid. -/
namespace Go.Proofs.YtfgpbnncdfcjjabGreatDoor
open Go.RowKit
set_option linter.unusedVariables false
set_option maxRecDepth 100000

set_option maxHeartbeats 1000000 in
theorem l7Shape_any (m : Nat) : ∀ (x : RE) (w : World) (A : Option Addr) (c : Nat), m ≤ 12 → RepK w A c x →
    Calls Tryz.prog 146 #[.agg #[.int .i64 x.op, .string x.name, .slice A x.kids.length c], .int .i64 m] w (RetB w (shpB m x)) := by
  induction m with
  | zero =>
    intro x w A c hm hx
    obtain ⟨op, name, kids⟩ := x
    have bx := Box3.new w (.int .i64 op) (.string name) (.slice A kids.length c) 57
    simp only [RE.op, RE.name, RE.kids]
    go_enter Tryz.func146, Tryz.ntmps146
    go_wp2_with fail
    go_quiet (fail)
    go_wp2_with fail
    go_ret
    exact ⟨ret_bool (shpB_false.2 (fun h : Shp 0 _ => h)).symm, below_drewN ((Below.refl _ _).alloc (Nat.le_refl _) _) _⟩
  | succ m ih =>
    intro x w A c hm hx
    obtain ⟨op, name, kids⟩ := x
    have hks := hx.2
    have hkl := hx.kids_le
    clear hx
    have bx := Box3.new w (.int .i64 op) (.string name) (.slice A kids.length c) 57
    simp only [RE.op, RE.name, RE.kids] at hks hkl ⊢
    have hmc : ((m + 1 : Nat) : Int) = (m : Int) + 1 := by omega
    rw [hmc]
    clear hmc
    have hd : decide ((m : Int) + 1 < 1) = false := by rw [decide_eq_false_iff_not]; omega
    have hb1 : Below w.heap.size w (w.alloc (.cells #[.int .i64 op, .string name, .slice A kids.length c] 57)) := (Below.refl _ _).alloc (Nat.le_refl _) _
    have Hb1 := Lib.hid hb1
    clear hb1
    have f0 := fun n : Ext (w.alloc (.cells #[.int .i64 op, .string name, .slice A kids.length c] 57)) => n.le _ _ bx.c0
    have f1 := fun n : Ext (w.alloc (.cells #[.int .i64 op, .string name, .slice A kids.length c] 57)) => n.le _ _ bx.c1
    have f2 := fun n : Ext (w.alloc (.cells #[.int .i64 op, .string name, .slice A kids.length c] 57)) => n.le _ _ bx.c2
    by_cases hkn : (kids.length : Int) = kidsI op
    case neg =>
      have bk : ((kids.length : Int) != kidsI op) = true := by simpa using hkn
      go_enter Tryz.func146, Tryz.ntmps146
      go_wp2_with fail
      refine wp_region_ext _ (by kernel_rfl) (by kernel_rfl) (Below.refl _ _) ?_
      repeat (go_big_quiet_step ((first | (go_at_call 186; exact Ext.callQ _ fun W _ => l7Kids_any _ W) | (go_at_call 187; exact Ext.call _ fun W _ => l6Named_any _ W))))
      refine wpQuiet_nil ?_
      rintro wn ⟨⟨_, hbn⟩, rfl⟩
      go_wp2_with fail
      go_ret
      exact ⟨ret_bool (shpB_false.2 (fun h : Shp (m + 1) (.mk op name kids) => hkn h.1.1)).symm, Hb1.out.trans (hbn.mono (by simp))⟩
    have bk : ((kids.length : Int) != kidsI op) = false := by simpa using hkn
    have Hkn := Lib.hid hkn
    clear hkn
    by_cases h1 : op = 1
    · subst h1
      cases hmem : memB nm name
      · have Hmem := Lib.hid hmem
        go_enter Tryz.func146, Tryz.ntmps146
        go_wp2_with fail
        refine wp_region_ext _ (by kernel_rfl) (by kernel_rfl) (Below.refl _ _) ?_
        repeat (go_big_quiet_step ((first | (go_at_call 186; exact Ext.callQ _ fun W _ => l7Kids_any _ W) | (go_at_call 187; exact Ext.call _ fun W _ => l6Named_any _ W))))
        refine wpQuiet_nil ?_
        rintro wn ⟨⟨_, hbn⟩, rfl⟩
        go_wp2_with fail
        go_ret
        refine ⟨ret_bool (shpB_false.2 (fun h : Shp (m + 1) (.mk 1 name kids) => ?_)).symm, Hb1.out.trans (hbn.mono (by simp))⟩
        have := memB_iff.2 (h.1.2.1.1 rfl)
        exact Bool.noConfusion (Hmem.out.symm.trans this)
      · have Hmem := Lib.hid hmem
        go_enter Tryz.func146, Tryz.ntmps146
        go_wp2_with fail
        refine wp_region_ext _ (by kernel_rfl) (by kernel_rfl) (Below.refl _ _) ?_
        repeat (go_big_quiet_step ((first | (go_at_call 186; exact Ext.callQ _ fun W _ => l7Kids_any _ W) | (go_at_call 187; exact Ext.call _ fun W _ => l6Named_any _ W))))
        refine wpQuiet_nil ?_
        rintro wn ⟨⟨_, hbn⟩, rfl⟩
        go_wp2_with fail
        have hbw : Below w.heap.size w wn := Hb1.out.trans (hbn.mono (by simp))
        have bxn := bx.le (Le.below hbn)
        clear hbn bx hmem f0 f1 f2
        go_loopg [5] kids.length (fun g s5 wr => ∃ k : Nat, k ≤ kids.length ∧ g = kids.length - k ∧ s5 = .int .i64 k ∧ Hid (∀ j (_ : j < k) (h : j < kids.length), Shp m kids[j]) ∧ Below wn.heap.size wn wr)
        case atStart => exact ⟨0, Nat.zero_le _, rfl, rfl, fun j hj => absurd hj (Nat.not_lt_zero _), Below.refl _ _⟩
        case round =>
          obtain ⟨k, hk, rfl, rfl, hat, hb⟩ := hrel
          have hbr := hbw.trans (hb.mono hbw.size)
          obtain ⟨x0, x1, x2, xs⟩ := (bxn.le (Le.below hb)).all
          by_cases hlt : k < kids.length
          · obtain ⟨b, o, A0, c0, rfl, hbl, k0, k1, k2, hre⟩ := RepEs.get (RepEs.le hks (Le.below hbr)) hlt
            clear hks
            go_wp2_with fail
            refine (ih kids[k] _ A0 c0 (by omega) hre).mono ?_
            rintro e2 w2 ⟨rfl, hb2⟩
            have hb3 := hb.trans (hb2.mono hb.size)
            have hb4 := hbr.trans (hb2.mono hbr.size)
            clear hb2 k0 k1 k2 hre x0 x1 x2 xs
            cases hs : shpB m kids[k]
            · have Hs := Lib.hid hs
              go_wp2_with fail
              go_ret
              refine ⟨ret_bool ?_, hb4⟩
              rw [eq_comm, shpB_false]
              exact fun h => shpB_false.1 Hs.out (h.2 _ (List.getElem_mem hlt))
            · have Hs := Lib.hid hs
              go_wp2_with fail
              go_roundg (kids.length - (k + 1))
              case measure => omega
              case rel =>
                refine ⟨k + 1, by omega, rfl, by go_num, fun j hj hj' => ?_, hb3⟩
                by_cases e : j = k
                · subst e
                  exact shpB_iff.1 Hs.out
                · exact hat.out j (by omega) hj'
          · go_wp2_with fail
            go_ret
            obtain rfl : k = kids.length := by omega
            refine ⟨ret_bool ?_, hbr⟩
            rw [eq_comm, shpB_iff]
            refine ⟨⟨Hkn.out, ⟨fun _ => memB_iff.1 Hmem.out, fun _ => rfl⟩, fun h => absurd rfl h⟩, fun kk hkk => ?_⟩
            obtain ⟨i, hi, e⟩ := List.getElem_of_mem hkk
            rw [← e]
            exact hat.out i hi hi
    · have b1 : (op == 1) = false := by simpa using h1
      have b1' : (op != 1) = true := by simpa using h1
      have H1 := Lib.hid h1
      clear h1
      cases hmem : memB nm name
      · have Hmem := Lib.hid hmem
        by_cases hem : name = ⟨#[]⟩
        · subst hem
          go_enter Tryz.func146, Tryz.ntmps146
          go_wp2_with fail
          refine wp_region_ext _ (by kernel_rfl) (by kernel_rfl) (Below.refl _ _) ?_
          repeat (go_big_quiet_step ((first | (go_at_call 186; exact Ext.callQ _ fun W _ => l7Kids_any _ W) | (go_at_call 187; exact Ext.call _ fun W _ => l6Named_any _ W))))
          refine wpQuiet_nil ?_
          rintro wn ⟨⟨_, hbn⟩, rfl⟩
          go_wp2_with fail
          have hbw : Below w.heap.size w wn := Hb1.out.trans (hbn.mono (by simp))
          have bxn := bx.le (Le.below hbn)
          clear hbn bx hmem f0 f1 f2
          go_loopg [5] kids.length (fun g s5 wr => ∃ k : Nat, k ≤ kids.length ∧ g = kids.length - k ∧ s5 = .int .i64 k ∧ Hid (∀ j (_ : j < k) (h : j < kids.length), Shp m kids[j]) ∧ Below wn.heap.size wn wr)
          case atStart => exact ⟨0, Nat.zero_le _, rfl, rfl, fun j hj => absurd hj (Nat.not_lt_zero _), Below.refl _ _⟩
          case round =>
            obtain ⟨k, hk, rfl, rfl, hat, hb⟩ := hrel
            have hbr := hbw.trans (hb.mono hbw.size)
            obtain ⟨x0, x1, x2, xs⟩ := (bxn.le (Le.below hb)).all
            by_cases hlt : k < kids.length
            · obtain ⟨b, o, A0, c0, rfl, hbl, k0, k1, k2, hre⟩ := RepEs.get (RepEs.le hks (Le.below hbr)) hlt
              clear hks
              go_wp2_with fail
              refine (ih kids[k] _ A0 c0 (by omega) hre).mono ?_
              rintro e2 w2 ⟨rfl, hb2⟩
              have hb3 := hb.trans (hb2.mono hb.size)
              have hb4 := hbr.trans (hb2.mono hbr.size)
              clear hb2 k0 k1 k2 hre x0 x1 x2 xs
              cases hs : shpB m kids[k]
              · have Hs := Lib.hid hs
                go_wp2_with fail
                go_ret
                refine ⟨ret_bool ?_, hb4⟩
                rw [eq_comm, shpB_false]
                exact fun h => shpB_false.1 Hs.out (h.2 _ (List.getElem_mem hlt))
              · have Hs := Lib.hid hs
                go_wp2_with fail
                go_roundg (kids.length - (k + 1))
                case measure => omega
                case rel =>
                  refine ⟨k + 1, by omega, rfl, by go_num, fun j hj hj' => ?_, hb3⟩
                  by_cases e : j = k
                  · subst e
                    exact shpB_iff.1 Hs.out
                  · exact hat.out j (by omega) hj'
            · go_wp2_with fail
              go_ret
              obtain rfl : k = kids.length := by omega
              refine ⟨ret_bool ?_, hbr⟩
              rw [eq_comm, shpB_iff]
              refine ⟨⟨Hkn.out, ⟨fun h => absurd h H1.out, fun h => Bool.noConfusion (Hmem.out.symm.trans (memB_iff.2 h))⟩, fun _ => rfl⟩, fun kk hkk => ?_⟩
              obtain ⟨i, hi, e⟩ := List.getElem_of_mem hkk
              rw [← e]
              exact hat.out i hi hi
        · have be := str_eq_false hem
          have hemp := str_ne_nil hem
          have Hem := Lib.hid hem
          clear hem
          go_enter Tryz.func146, Tryz.ntmps146
          go_wp2_with fail
          refine wp_region_ext _ (by kernel_rfl) (by kernel_rfl) (Below.refl _ _) ?_
          repeat (go_big_quiet_step ((first | (go_at_call 186; exact Ext.callQ _ fun W _ => l7Kids_any _ W) | (go_at_call 187; exact Ext.call _ fun W _ => l6Named_any _ W))))
          refine wpQuiet_nil ?_
          rintro wn ⟨⟨_, hbn⟩, rfl⟩
          go_wp2_with fail
          go_ret
          exact ⟨ret_bool (shpB_false.2 (fun h : Shp (m + 1) (.mk op name kids) => Hem.out (h.1.2.2 H1.out))).symm, Hb1.out.trans (hbn.mono (by simp))⟩
      · have Hmem := Lib.hid hmem
        go_enter Tryz.func146, Tryz.ntmps146
        go_wp2_with fail
        refine wp_region_ext _ (by kernel_rfl) (by kernel_rfl) (Below.refl _ _) ?_
        repeat (go_big_quiet_step ((first | (go_at_call 186; exact Ext.callQ _ fun W _ => l7Kids_any _ W) | (go_at_call 187; exact Ext.call _ fun W _ => l6Named_any _ W))))
        refine wpQuiet_nil ?_
        rintro wn ⟨⟨_, hbn⟩, rfl⟩
        go_wp2_with fail
        go_ret
        exact ⟨ret_bool (shpB_false.2 (fun h : Shp (m + 1) (.mk op name kids) => H1.out (h.1.2.1.2 (memB_iff.1 Hmem.out)))).symm, Hb1.out.trans (hbn.mono (by simp))⟩

def RetCount (w : World) (x : RE) (most : Int) (e : Ending) (w' : World) : Prop := ∃ r, e = .returned (.int .i64 r) ∧ CountOk x most r ∧ Below w.heap.size w w'

set_option maxHeartbeats 400000 in
theorem l7Count_any (x : RE) : ∀ (w : World) (A : Option Addr) (c : Nat) (most : Int), 0 ≤ most → most ≤ 40 → cntE x ≤ 1048577 → RepK w A c x →
    Calls Tryz.prog 147 #[.agg #[.int .i64 x.op, .string x.name, .slice A x.kids.length c], .int .i64 most] w (RetCount w x most) := by
  induction x using RE.ind with | h op name kids ih => ?_
  intro w A c most hm0 hm1 hcnt hx
  have hks := hx.2
  have hkl := hx.kids_le
  clear hx
  rw [cntE] at hcnt
  simp only [RE.op, RE.name, RE.kids] at hks hkl ⊢
  have bx := Box3.new w (.int .i64 op) (.string name) (.slice A kids.length c) 57
  have hb1 : Below w.heap.size w (w.alloc (.cells #[.int .i64 op, .string name, .slice A kids.length c] 57)) := (Below.refl _ _).alloc (Nat.le_refl _) _
  have Hb1 := Lib.hid hb1
  clear hb1
  go_enter Tryz.func147, Tryz.ntmps147
  go_wp2_with fail
  go_loopg [5, 6] kids.length (fun g s5 s6 wr => ∃ (k : Nat) (n : Int), k ≤ kids.length ∧ g = kids.length - k ∧ s6 = .int .i64 k ∧ s5 = .int .i64 n ∧ 1 ≤ n ∧ n ≤ 1048577 ∧ Hid (CountAt kids most k n) ∧
    Below (w.alloc (.cells #[.int .i64 op, .string name, .slice A kids.length c] 57)).heap.size (w.alloc (.cells #[.int .i64 op, .string name, .slice A kids.length c] 57)) wr)
  case atStart => exact ⟨0, 1, Nat.zero_le _, rfl, rfl, rfl, by omega, by omega, CountAt.start _ _, Below.refl _ _⟩
  case round =>
    obtain ⟨k, n, hk, rfl, rfl, rfl, hn1, hn2, hat, hb⟩ := hrel
    have hbr := Hb1.out.trans (hb.mono (by simp))
    obtain ⟨x0, x1, x2, xs⟩ := (bx.le (Le.below hb)).all
    clear bx
    by_cases hlt : k < kids.length
    · by_cases hmo : n ≤ most
      · obtain ⟨b, o, A0, c0, rfl, hbl, k0, k1, k2, hre⟩ := RepEs.get (RepEs.le hks (Le.below hbr)) hlt
        have hct := cntL_take_succ kids k hlt
        have hcl := cntL_take_le kids (k + 1)
        have hk1 : cntE kids[k] ≤ 1048577 := by omega
        have ht : 1 + cntL (kids.take (k + 1)) ≤ 1048577 := by omega
        clear hks hct hcl
        go_wp2_with fail
        refine (ih kids[k] (List.getElem_mem hlt) _ A0 c0 (most - n) (by omega) (by omega) hk1 hre).mono ?_
        rintro e2 w2 ⟨r, rfl, hr, hb2⟩
        have hat' := hat.out.step hlt hmo hr
        have hr1 := hat'.1
        have hr2 := hat'.2.1
        have hr3 := hr.1
        have hb3 := hb.trans (hb2.mono hb.size)
        have Hat := Lib.hid hat'
        clear hb2 k0 k1 k2 hre x0 x1 x2 xs hr hat'
        go_wp2_with fail
        go_roundg (kids.length - (k + 1))
        case measure => omega
        case rel => exact ⟨k + 1, _, by omega, rfl, by go_num, rfl, by omega, by omega, Hat.out, hb3⟩
      · go_wp2_with fail
        go_ret
        exact ⟨_, rfl, hat.out.over (by omega), hbr⟩
    · go_wp2_with fail
      go_ret
      obtain rfl : k = kids.length := by omega
      exact ⟨_, rfl, hat.out.done, hbr⟩

set_option maxHeartbeats 400000 in
theorem specValid_any (x : RE) (w : World) (A : Option Addr) (c : Nat) (hcnt : cntE x ≤ 1048577) (hx : RepK w A c x) :
    Calls Tryz.prog 102 #[.agg #[.int .i64 x.op, .string x.name, .slice A x.kids.length c]] w (RetB w (valB x)) := by
  go_enter Tryz.func102, Tryz.ntmps102
  go_wp2_with fail
  refine (l7Shape_any 12 x _ A c (by omega) (hx.le (Le.alloc _ _))).mono ?_
  rintro e1 w1 ⟨rfl, hb⟩
  have hb' : Below w.heap.size w w1 := ((Below.refl _ _).alloc (Nat.le_refl _) _).trans (hb.mono (by simp))
  have bx := ((Box3.new w (.int .i64 x.op) (.string x.name) (.slice A x.kids.length c) 57).le (Le.below hb)).all
  obtain ⟨x0, x1, x2, xs⟩ := bx
  clear hb
  cases hs : shpB 12 x
  · go_wp2_with fail
    go_ret
    refine ⟨ret_bool ?_, hb'⟩
    rw [eq_comm, ← Bool.not_eq_true, valB_iff]
    exact fun h => shpB_false.1 hs h.1
  · have Hs := Lib.hid hs
    clear hs
    go_wp2_with fail
    refine (l7Count_any x _ A c 40 (by omega) (by omega) hcnt (hx.le (Le.below hb'))).mono ?_
    rintro e2 w2 ⟨r, rfl, hr, hb2⟩
    have hb'' := hb'.trans (hb2.mono hb'.size)
    have hv : decide (r ≤ 40) = valB x := by
      rw [countOk_val hr, Bool.eq_iff_iff, decide_eq_true_iff, valB_iff]
      exact ⟨fun h => ⟨shpB_iff.1 Hs.out, h⟩, fun h => h.2⟩
    have Hv := Lib.hid hv
    clear hv hr hb2 x0 x1 x2 xs
    go_wp2_with fail
    go_ret
    exact ⟨ret_bool Hv.out, hb''⟩

end Go.Proofs.YtfgpbnncdfcjjabGreatDoor

/-! The walks of impl.within, impl.ModelValid (with its function, slices.ContainsFunc and slices.IndexFunc), spec.ModelValid. -/
namespace Go.Proofs.YtfgpbnncdfcjjabGreatDoor
open Go.RowKit
set_option linter.unusedVariables false
set_option maxRecDepth 100000

/-- A well formed rule, a well formed model. -/
def UOk (r : RU) : Prop := 1 ≤ r.kind ∧ r.kind ≤ 3 ∧ Val r.e
open Classical in
noncomputable def uB (r : RU) : Bool := decide (UOk r)
theorem uB_iff {r : RU} : uB r = true ↔ UOk r := by simp [uB]
theorem uB_false {r : RU} : uB r = false ↔ ¬ UOk r := by simp [uB]
def MOk (rs : List RU) : Prop := 1 ≤ rs.length ∧ rs.length ≤ 5 ∧ ∀ r ∈ rs, UOk r
open Classical in
noncomputable def mB (rs : List RU) : Bool := decide (MOk rs)
theorem mB_iff {rs : List RU} : mB rs = true ↔ MOk rs := by simp [mB]
theorem mB_false {rs : List RU} : mB rs = false ↔ ¬ MOk rs := by simp [mB]

set_option maxHeartbeats 400000 in
theorem within_any (n a b : Int) (w : World) : Calls Tryz.prog 67 #[.int .i64 n, .int .i64 a, .int .i64 b] w (RetQ w (decide (a ≤ n) && decide (n ≤ b))) := by
  by_cases h1 : a ≤ n
  · by_cases h2 : n ≤ b
    · go_enter Tryz.func67, Tryz.ntmps67
      go_wp2_with fail
      go_ret
      exact ⟨ret_bool (by simp [h1, h2]), rfl⟩
    · go_enter Tryz.func67, Tryz.ntmps67
      go_wp2_with fail
      go_ret
      exact ⟨ret_bool (by simp [h2]), rfl⟩
  · go_enter Tryz.func67, Tryz.ntmps67
    go_wp2_with fail
    go_ret
    exact ⟨ret_bool (by rw [decide_eq_false (show ¬ a ≤ n by omega)]; rfl), rfl⟩

set_option maxHeartbeats 1000000 in
theorem modFun_any (r : RU) (w : World) (A : Option Addr) (c : Nat) (hg : GN w) (hr : RepK w A c r.e) :
    Calls Tryz.prog 69 #[.agg #[.int .i64 r.kind, .int .i64 r.e.op, .string r.e.name, .slice A r.e.kids.length c]] w (RetB w (!uB r)) := by
  have hb1 : Below w.heap.size w (w.alloc (.cells #[.int .i64 r.kind, .int .i64 r.e.op, .string r.e.name, .slice A r.e.kids.length c] 59)) := (Below.refl _ _).alloc (Nat.le_refl _) _
  have Hb1 := Lib.hid hb1
  clear hb1
  have hv := fun W (hW : Below (w.alloc (.cells #[.int .i64 r.kind, .int .i64 r.e.op, .string r.e.name, .slice A r.e.kids.length c] 59)).heap.size (w.alloc (.cells #[.int .i64 r.kind, .int .i64 r.e.op, .string r.e.name, .slice A r.e.kids.length c] 59)) W) =>
    valid_any r.e W A c ((hg.le (Le.alloc _ _)).le (Le.below hW)) ((hr.le (Le.alloc _ _)).le (Le.below hW))
  have hw := fun W => within_any r.kind 1 3 W
  clear hg hr
  cases hk : (decide (1 ≤ r.kind) && decide (r.kind ≤ 3))
  · rw [hk] at hw
    have Hk := Lib.hid hk
    clear hk
    go_enter Tryz.func69, Tryz.ntmps69
    go_wp2_with fail
    refine (hw _).mono ?_
    rintro e1 w1 ⟨rfl, rfl⟩
    go_wp2_with fail
    go_ret
    refine ⟨ret_bool ?_, Hb1.out⟩
    have h : ¬ UOk r := fun h => by
      have := Hk.out
      simp [h.1, h.2.1] at this
    rw [uB_false.2 h]
    rfl
  · rw [hk] at hw
    have Hk := Lib.hid hk
    clear hk
    go_enter Tryz.func69, Tryz.ntmps69
    go_wp2_with fail
    refine (hw _).mono ?_
    rintro e1 w1 ⟨rfl, rfl⟩
    go_wp2_with fail
    refine (hv _ (Below.refl _ _)).mono ?_
    rintro e2 wn ⟨rfl, hbn⟩
    go_wp2_with fail
    go_ret
    refine ⟨ret_bool ?_, Hb1.out.trans (hbn.mono (by simp))⟩
    have h := Hk.out
    simp only [Bool.and_eq_true, decide_eq_true_iff] at h
    congr 1
    rw [Bool.eq_iff_iff, valB_iff, uB_iff]
    exact ⟨fun hv => ⟨h.1, h.2, hv⟩, fun hu => hu.2.2⟩

/-- Where the first rule lies that is not well formed. -/
def IdxU (rs : List RU) (i : Int) : Prop := (i = -1 ∧ ∀ r ∈ rs, UOk r) ∨ ∃ k : Nat, i = k ∧ ∃ h : k < rs.length, ¬ UOk rs[k]
def RetIdxU (w : World) (rs : List RU) (e : Ending) (w' : World) : Prop := ∃ i, e = .returned (.int .i64 i) ∧ IdxU rs i ∧ Below w.heap.size w w'

set_option maxHeartbeats 1000000 in
theorem idxFun_any (rs : List RU) (w : World) (v : Value) (hg : GN w) (hr : SlR 4 RepU w v rs) :
    Calls Tryz.prog 111 #[v, .func (.func 69) #[] #[]] w (RetIdxU w rs) := by
  obtain ⟨A, c, rfl, hm⟩ := hr.slice
  go_enter Tryz.func111, Tryz.ntmps111
  go_wp2_with fail
  go_loopg [8] rs.length (fun g s8 wr => ∃ k : Nat, k ≤ rs.length ∧ g = rs.length - k ∧ s8 = .int .i64 k ∧ Hid (∀ j (hj : j < k) (hj' : j < rs.length), UOk rs[j]) ∧ Below w.heap.size w wr)
  case atStart => exact ⟨0, Nat.zero_le _, rfl, rfl, fun j hj => absurd hj (Nat.not_lt_zero _), Below.refl _ _⟩
  case round =>
    obtain ⟨k, hk, rfl, rfl, hpre, hb⟩ := hrel
    by_cases hlt : k < rs.length
    · obtain ⟨b, o, A0, c0, rfl, hbl, k0, k1, k2, k3, hre⟩ := RepUs.get (RepUs.le hr (Le.below hb)) hlt
      clear hr
      go_wp2_with fail
      refine (modFun_any rs[k] _ _ _ ((hg.le (Le.below hb)).le ?_) (hre.le ?_)).mono ?_
      · first | exact Le.refl _ | exact (Le.alloc _ _)
      · first | exact Le.refl _ | exact (Le.alloc _ _)
      rintro e' w' ⟨rfl, hb'⟩
      have hb'' : Below w.heap.size w w' := by first | exact hb.trans (hb'.mono hb.size) | exact (hb.alloc hb.size _).trans (hb'.mono (by have := hb.size; simp; omega))
      clear k0 k1 k2 k3 hre hb'
      cases hu : uB rs[k]
      · have Hu := Lib.hid hu
        clear hu
        go_wp2_with fail
        go_ret
        exact ⟨_, rfl, Or.inr ⟨k, rfl, hlt, uB_false.1 Hu.out⟩, hb''⟩
      · have Hu := Lib.hid hu
        clear hu
        go_wp2_with fail
        go_roundg (rs.length - (k + 1))
        case measure => omega
        case rel =>
          refine ⟨k + 1, by omega, rfl, by go_num, fun j hj hj' => ?_, hb''⟩
          by_cases e : j = k
          · subst e
            exact uB_iff.1 Hu.out
          · exact hpre.out j (by omega) hj'
    · go_wp2_with fail
      go_ret
      refine ⟨_, rfl, Or.inl ⟨rfl, fun r hr => ?_⟩, hb⟩
      obtain ⟨i, hi, h⟩ := List.getElem_of_mem hr
      rw [← h]
      exact hpre.out i (by omega) hi

open Classical in
noncomputable def allU (rs : List RU) : Bool := decide (∀ r ∈ rs, UOk r)

set_option maxHeartbeats 1000000 in
theorem conFun_any (rs : List RU) (w : World) (v : Value) (hg : GN w) (hr : SlR 4 RepU w v rs) :
    Calls Tryz.prog 68 #[v, .func (.func 69) #[] #[]] w (RetB w (!allU rs)) := by
  go_enter Tryz.func68, Tryz.ntmps68
  go_wp2_with fail
  refine (idxFun_any rs _ v hg hr).mono ?_
  rintro e' w' ⟨i, rfl, hi, hb⟩
  have hm : decide (0 ≤ i) = !allU rs := by
    classical
    unfold allU
    rcases hi with ⟨rfl, h⟩ | ⟨k, rfl, hk, h⟩
    · simpa using h
    · have : ¬ ∀ r ∈ rs, UOk r := fun hh => h (hh _ (List.getElem_mem hk))
      rw [decide_eq_false this]
      simp
  have Hm := Lib.hid hm
  clear hm hi
  go_wp2_with fail
  go_ret
  exact ⟨ret_bool (by rw [← Hm.out]), hb⟩

set_option maxHeartbeats 1000000 in
theorem modValid_any (rs : List RU) (w : World) (v : Value) (hg : GN w) (hr : SlR 4 RepU w v rs) :
    Calls Tryz.prog 28 #[v] w (RetB w (mB rs)) := by
  obtain ⟨A, c, rfl, hm⟩ := hr.slice
  have hw := fun W => within_any (rs.length : Int) 1 5 W
  have hc := fun W (hW : Below w.heap.size w W) => conFun_any rs W _ (hg.le (Le.below hW)) (RepUs.le hr (Le.below hW))
  clear hg hr
  cases hk : (decide (1 ≤ (rs.length : Int)) && decide ((rs.length : Int) ≤ 5))
  · rw [hk] at hw
    have Hk := Lib.hid hk
    clear hk
    go_enter Tryz.func28, Tryz.ntmps28
    go_wp2_with fail
    refine (hw _).mono ?_
    rintro e1 w1 ⟨rfl, rfl⟩
    go_wp2_with fail
    go_ret
    refine ⟨ret_bool ?_, Below.refl _ _⟩
    have h : ¬ MOk rs := fun h => by
      have := Hk.out
      rw [decide_eq_true (show 1 ≤ (rs.length : Int) by have := h.1; omega), decide_eq_true (show (rs.length : Int) ≤ 5 by have := h.2.1; omega)] at this
      cases this
    rw [mB_false.2 h]
  · rw [hk] at hw
    have Hk := Lib.hid hk
    clear hk
    go_enter Tryz.func28, Tryz.ntmps28
    go_wp2_with fail
    refine (hw _).mono ?_
    rintro e1 w1 ⟨rfl, rfl⟩
    go_wp2_with fail
    refine (hc _ (Below.refl _ _)).mono ?_
    rintro e2 wn ⟨rfl, hbn⟩
    go_wp2_with fail
    go_ret
    refine ⟨ret_bool ?_, hbn⟩
    have h := Hk.out
    simp only [Bool.and_eq_true, decide_eq_true_iff] at h
    rw [Bool.eq_iff_iff, mB_iff]
    unfold allU MOk
    simp only [decide_eq_true_iff]
    exact ⟨fun hv => ⟨by omega, by omega, hv⟩, fun hu => hu.2.2⟩

set_option maxHeartbeats 2000000 in
theorem specModValid_any (rs : List RU) (hcnt : ∀ r ∈ rs, cntE r.e ≤ 1048577) (w : World) (v : Value) (hr : SlR 4 RepU w v rs) :
    Calls Tryz.prog 58 #[v] w (RetB w (mB rs)) := by
  obtain ⟨A, c, rfl, hm⟩ := hr.slice
  go_enter Tryz.func58, Tryz.ntmps58
  go_wp2_with fail
  go_loopg [3] rs.length (fun g s3 wr => ∃ k : Nat, k ≤ rs.length ∧ k ≤ 6 ∧ g = rs.length - k ∧ s3 = .int .i64 k ∧ Hid (∀ j (hj : j < k) (hj' : j < rs.length), UOk rs[j]) ∧ Below w.heap.size w wr)
  case atStart => exact ⟨0, Nat.zero_le _, by omega, rfl, rfl, fun j hj => absurd hj (Nat.not_lt_zero _), Below.refl _ _⟩
  case round =>
    obtain ⟨k, hk, hk6, rfl, rfl, hpre, hb⟩ := hrel
    by_cases hlt : k < rs.length
    · by_cases h5 : k ≤ 5
      · have hl5 : decide ((k : Int) ≤ 5) = true := by rw [decide_eq_true_iff]; omega
        obtain ⟨b, o, A0, c0, rfl, hbl, k0, k1, k2, k3, hre⟩ := RepUs.get (RepUs.le hr (Le.below hb)) hlt
        clear hr
        have hcr := hcnt _ (List.getElem_mem hlt)
        by_cases hk1 : rs[k].kind < 1
        · have bk1 : decide (rs[k].kind < 1) = true := by simpa using hk1
          have Hk := Lib.hid hk1
          clear hk1
          go_wp2_with fail
          go_ret
          refine ⟨ret_bool (mB_false.2 fun h => ?_).symm, hb⟩
          have h1 := h.2.2 _ (List.getElem_mem hlt)
          have h2 := Hk.out
          have h3 := h1.1
          omega
        have bk1 : decide (rs[k].kind < 1) = false := by simpa using hk1
        by_cases hk3 : 3 < rs[k].kind
        · have bk3 : decide (3 < rs[k].kind) = true := by simpa using hk3
          have bk3' : decide (rs[k].kind > 3) = true := by simpa using hk3
          have Hk := Lib.hid hk3
          clear hk1 hk3
          go_wp2_with fail
          go_ret
          refine ⟨ret_bool (mB_false.2 fun h => ?_).symm, hb⟩
          have h1 := h.2.2 _ (List.getElem_mem hlt)
          have h2 := Hk.out
          have h3 := h1.2.1
          omega
        have bk3 : decide (3 < rs[k].kind) = false := by simpa using hk3
        have bk3' : decide (rs[k].kind > 3) = false := by simpa using hk3
        have Hk := Lib.hid (And.intro hk1 hk3)
        clear hk1 hk3
        go_wp2_with fail
        refine (specValid_any rs[k].e _ A0 c0 hcr hre).mono ?_
        rintro e' w' ⟨rfl, hb'⟩
        have hb'' := hb.trans (hb'.mono hb.size)
        clear k0 k1 k2 k3 hre hb'
        cases hu : valB rs[k].e
        · have Hu := Lib.hid hu
          clear hu
          go_wp2_with fail
          go_ret
          refine ⟨ret_bool (mB_false.2 fun h => ?_).symm, hb''⟩
          have h1 := valB_iff.2 (h.2.2 _ (List.getElem_mem hlt)).2.2
          exact Bool.noConfusion (Hu.out.symm.trans h1)
        · have Hu := Lib.hid hu
          clear hu
          go_wp2_with fail
          go_roundg (rs.length - (k + 1))
          case measure => omega
          case rel =>
            refine ⟨k + 1, by omega, by omega, rfl, by go_num, fun j hj hj' => ?_, hb''⟩
            by_cases e : j = k
            · subst e
              have h1 := Hk.out
              exact ⟨by omega, by omega, valB_iff.1 Hu.out⟩
            · exact hpre.out j (by omega) hj'
      · have hl5 : decide ((k : Int) ≤ 5) = false := by rw [decide_eq_false_iff_not]; omega
        have hz1 : decide ((rs.length : Int) > 0) = true := by rw [decide_eq_true_iff]; omega
        have hz2 : decide ((rs.length : Int) ≤ 5) = false := by rw [decide_eq_false_iff_not]; omega
        go_wp2_with fail
        go_ret
        refine ⟨ret_bool (mB_false.2 fun h => ?_).symm, hb⟩
        have h1 := h.2.1
        omega
    · obtain rfl : k = rs.length := by omega
      by_cases h0 : 0 < rs.length
      · go_wp2_with fail
        go_ret
        refine ⟨ret_bool ?_, hb⟩
        rw [Bool.eq_iff_iff, mB_iff, decide_eq_true_iff]
        refine ⟨fun h5 => ⟨by omega, by omega, fun r hr => ?_⟩, fun h => by have := h.2.1; omega⟩
        obtain ⟨i, hi, h⟩ := List.getElem_of_mem hr
        rw [← h]
        exact hpre.out i (by omega) hi
      · go_wp2_with fail
        go_ret
        refine ⟨ret_bool (mB_false.2 fun h => ?_).symm, hb⟩
        have h1 := h.1
        omega

end Go.Proofs.YtfgpbnncdfcjjabGreatDoor

/-! The text of a model, plainly; the table of the words of rules. -/
namespace Go.Proofs.YtfgpbnncdfcjjabGreatDoor
open Go.RowKit
set_option linter.unusedVariables false
set_option maxRecDepth 100000

def wd (k : Int) : ByteArray := if k = 1 then ⟨#[97, 99, 121, 99, 108, 105, 99]⟩ else if k = 2 then ⟨#[105, 114, 114, 101, 102]⟩ else if k = 3 then ⟨#[101, 109, 112, 116, 121]⟩ else ⟨#[]⟩
/-- The words of rules. -/
def rwds : List ByteArray := [⟨#[]⟩, ⟨#[97, 99, 121, 99, 108, 105, 99]⟩, ⟨#[105, 114, 114, 101, 102]⟩, ⟨#[101, 109, 112, 116, 121]⟩]
theorem size_wd (k : Int) : (wd k).size ≤ 7 := by
  unfold wd
  repeat (split; · decide)
  decide
theorem kind_cases {k : Int} (h1 : 1 ≤ k) (h3 : k ≤ 3) : k = 1 ∨ k = 2 ∨ k = 3 := by omega
/-- The text of one rule. -/
def part (r : RU) : ByteArray := wd r.kind ++ ⟨#[32]⟩ ++ ct r.e
theorem size_part {r : RU} (h : UOk r) : (part r).size ≤ 400 := by
  have h1 := size_wd r.kind
  have h2 := size_ct 12 r.e h.2.2.1
  have h3 := h.2.2.2
  unfold part
  simp only [ByteArray.size_append, ByteArray.size_mk']
  simp
  omega
/-- The texts of rules, a sign between each and the next. -/
def mt (rs : List RU) : ByteArray := ⟨(Lib.join ((rs.map part).map (·.data.toList)) [47]).toArray⟩
theorem mt_nil : mt [] = ⟨#[]⟩ := rfl
theorem app_toArray (a b : List UInt8) : (⟨(a ++ b).toArray⟩ : ByteArray) = ⟨a.toArray⟩ ++ ⟨b.toArray⟩ := by
  apply ByteArray.ext
  simp
theorem toArray_data (a : ByteArray) : (⟨a.data.toList.toArray⟩ : ByteArray) = a := by
  apply ByteArray.ext
  simp
theorem mt_snoc (rs : List RU) (r : RU) (h : rs ≠ []) : mt (rs ++ [r]) = mt rs ++ ⟨#[47]⟩ ++ part r := by
  match rs, h with
  | a :: rs, _ =>
    unfold mt
    simp only [List.cons_append, List.map_cons, Lib.join_cons]
    rw [show Lib.joinTail [47] (((rs ++ [r]).map part).map (·.data.toList)) = Lib.joinTail [47] ((rs.map part).map (·.data.toList)) ++ ([47] ++ (part r).data.toList) by simp [Lib.joinTail]]
    rw [← List.append_assoc, app_toArray, app_toArray [47], ByteArray.append_assoc, toArray_data]
theorem mt_one (r : RU) : mt [r] = part r := by
  unfold mt
  simp only [List.map_cons, List.map_nil, Lib.join_one]
theorem lens_le (xs : List (List UInt8)) (n : Nat) (h : ∀ x ∈ xs, x.length ≤ n) : Lib.lens xs ≤ n * xs.length := by
  induction xs with
  | nil => simp [Lib.lens]
  | cons a xs ih =>
    have h1 := h a (by simp)
    have h2 := ih fun x hx => h x (by simp [hx])
    simp only [Lib.lens, List.map_cons, List.sum_cons, List.length_cons] at h2 ⊢
    rw [Nat.mul_succ]
    omega
theorem join_len (rs : List RU) (hm : ∀ r ∈ rs, UOk r) (h5 : rs.length ≤ 5) : (Lib.join ((rs.map part).map (·.data.toList)) [47]).length ≤ 3000 := by
  match rs with
  | [] => simp [Lib.join_nil]
  | a :: rs =>
    simp only [List.map_cons]
    rw [Lib.join_length]
    have h := lens_le ((part a).data.toList :: (rs.map part).map (·.data.toList)) 400 (by
      intro x hx
      have hx' : x ∈ ((a :: rs).map part).map (·.data.toList) := hx
      obtain ⟨y, hy, rfl⟩ := List.mem_map.1 hx'
      obtain ⟨r, hr, rfl⟩ := List.mem_map.1 hy
      have := size_part (hm r hr)
      simpa using this)
    simp only [List.length_cons, List.length_map, List.length_nil] at h h5 ⊢
    omega
/-- What FormatModel answers. -/
noncomputable def fmtM (rs : List RU) : ByteArray := if mB rs then mt rs else ⟨#[]⟩
theorem fmtM_true {rs : List RU} (h : mB rs = true) : fmtM rs = mt rs := by unfold fmtM; rw [if_pos h]
theorem fmtM_false {rs : List RU} (h : mB rs = false) : fmtM rs = ⟨#[]⟩ := by unfold fmtM; rw [if_neg (by rw [h]; decide)]

end Go.Proofs.YtfgpbnncdfcjjabGreatDoor
