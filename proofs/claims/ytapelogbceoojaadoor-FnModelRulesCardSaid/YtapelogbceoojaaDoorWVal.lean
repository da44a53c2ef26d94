/-
  The walks of relLevel, relSize, impl.RelExprValid; l7Kids, l7Shape, l7Count, spec.RelExprValid.
-/
import Derived.Test.YtapelogbceoojaaDoorVal
import Derived.StillTailTactics
namespace Go.Proofs.YtapelogbceoojaaDoor
open Go.RowKit
set_option linter.unusedVariables false
set_option maxRecDepth 100000

def RetLevel (w : World) (op : Int) (e : Ending) (w' : World) : Prop := e = .returned (.tuple #[.int .i64 (lvl op), .string (sgn op), .int .i64 (kidsI op)]) ∧ w = w'

/-- The operations that a switch tells apart. -/
theorem op_cases (op : Int) : op = 1 ∨ op = 2 ∨ op = 3 ∨ op = 4 ∨ op = 5 ∨ op = 6 ∨ op = 7 ∨ (¬ op = 1 ∧ ¬ op = 2 ∧ ¬ op = 3 ∧ ¬ op = 4 ∧ ¬ op = 5 ∧ ¬ op = 6 ∧ ¬ op = 7) := by omega

set_option maxHeartbeats 400000 in
theorem relLevel_any (op : Int) (w : World) : Calls Tryd.prog 80 #[.int .i64 op] w (RetLevel w op) := by
  rcases op_cases op with rfl | rfl | rfl | rfl | rfl | rfl | rfl | ⟨h1, h2, h3, h4, h5, h6, h7⟩
  case inr.inr.inr.inr.inr.inr.inr =>
    have b1 : (op == 1) = false := by simpa using h1
    have b2 : (op == 2) = false := by simpa using h2
    have b3 : (op == 3) = false := by simpa using h3
    have b4 : (op == 4) = false := by simpa using h4
    have b5 : (op == 5) = false := by simpa using h5
    have b6 : (op == 6) = false := by simpa using h6
    have b7 : (op == 7) = false := by simpa using h7
    go_enter Tryd.func80, Tryd.ntmps80
    go_wp2_with fail
    go_ret3
    refine ⟨?_, rfl⟩
    have e1 : lvl op = 0 := by unfold lvl; rw [if_neg h2, if_neg (by omega), if_neg h5]
    have e2 : sgn op = ⟨#[]⟩ := by unfold sgn; rw [if_neg h2, if_neg h3, if_neg h4, if_neg h5, if_neg h6, if_neg h7]
    have e3 : kidsI op = -1 := by unfold kidsI; rw [if_neg h1, if_neg (by omega), if_neg (by omega)]
    rw [e1, e2, e3]
    rfl
  all_goals
    go_enter Tryd.func80, Tryd.ntmps80
    go_wp2_with fail
    go_ret3
    exact ⟨rfl, rfl⟩

set_option maxHeartbeats 400000 in
theorem l7Kids_any (op : Int) (w : World) : Calls Tryd.prog 78 #[.int .i64 op] w fun e w' => e = .returned (.int .i64 (kidsI op)) ∧ w = w' := by
  rcases op_cases op with rfl | rfl | rfl | rfl | rfl | rfl | rfl | ⟨h1, h2, h3, h4, h5, h6, h7⟩
  case inr.inr.inr.inr.inr.inr.inr =>
    have b1 : (op == 1) = false := by simpa using h1
    have b2 : (op == 2) = false := by simpa using h2
    have b3 : (op == 3) = false := by simpa using h3
    have b4 : (op == 4) = false := by simpa using h4
    have b5 : (op == 5) = false := by simpa using h5
    have b6 : (op == 6) = false := by simpa using h6
    have b7 : (op == 7) = false := by simpa using h7
    go_enter Tryd.func78, Tryd.ntmps78
    go_wp2_with fail
    go_ret
    refine ⟨?_, rfl⟩
    have e3 : kidsI op = -1 := by unfold kidsI; rw [if_neg h1, if_neg (by omega), if_neg (by omega)]
    rw [e3]
    rfl
  all_goals
    go_enter Tryd.func78, Tryd.ntmps78
    go_wp2_with fail
    go_ret
    exact ⟨rfl, rfl⟩

def RetSize (w : World) (m : Nat) (x : RE) (e : Ending) (w' : World) : Prop := ∃ r, e = .returned (.int .i64 r) ∧ SizeOk m x r ∧ Below w.heap.size w w'

theorem sizeOk_bad {m : Nat} {e : RE} (h : ¬ Shp m e) : SizeOk m e 41 := ⟨by omega, by omega, fun hh => absurd hh.1 h, fun _ => by omega⟩

set_option maxHeartbeats 1000000 in
theorem relSize_any (m : Nat) : ∀ (x : RE) (w : World) (A : Option Addr) (c : Nat), m ≤ 12 → GN w → RepK w A c x →
    Calls Tryd.prog 47 #[.agg #[.int .i64 x.op, .string x.name, .slice A x.kids.length c], .int .i64 m] w (RetSize w m x) := by
  induction m with
  | zero =>
    intro x w A c hm hg hx
    obtain ⟨op, name, kids⟩ := x
    simp only [RE.op, RE.name, RE.kids]
    go_enter Tryd.func47, Tryd.ntmps47
    go_wp2_with fail
    refine (relLevel_any op _).mono ?_
    rintro e1 w1 ⟨rfl, rfl⟩
    go_wp2_with fail
    go_quiet (fail)
    go_wp2_with fail
    go_ret
    exact ⟨41, rfl, sizeOk_bad (fun h => h), below_drewN ((Below.refl _ _).alloc (Nat.le_refl _) _) _⟩
  | succ m ih =>
    intro x w A c hm hg hx
    obtain ⟨op, name, kids⟩ := x
    have hks := hx.2
    have hkl := hx.kids_le
    clear hx
    simp only [RE.op, RE.name, RE.kids] at hks hkl ⊢
    have hm0 : (((m : Int) + 1) == 0) = false := by rw [beq_eq_false_iff_ne]; omega
    have hmc : ((m + 1 : Nat) : Int) = (m : Int) + 1 := by omega
    rw [hmc]
    clear hmc
    have hb1 : ∀ n, Below w.heap.size w ((w.alloc (.cells #[.int .i64 op, .string name, .slice A kids.length c] 29)).drewN n) := fun n => below_drewN ((Below.refl _ _).alloc (Nat.le_refl _) _) n
    have Hb1 := Lib.hid hb1
    clear hb1
    have hq : ∀ n, Calls Tryd.prog 81 #[.string name] ((w.alloc (.cells #[.int .i64 op, .string name, .slice A kids.length c] 29)).drewN n) fun e w'' => e = .returned (.bool (memB nm name)) ∧ ∃ k, w'' = (w.alloc (.cells #[.int .i64 op, .string name, .slice A kids.length c] 29)).drewN k := fun n =>
      RetQ.quiet (isRelName_any name _ ((hg.le (Le.alloc _ _)).le (Le.drewN _ _)))
    by_cases hkn : (kids.length : Int) = kidsI op
    case neg =>
      have bk : ((kids.length : Int) != kidsI op) = true := by simpa using hkn
      go_enter Tryd.func47, Tryd.ntmps47
      go_wp2_with fail
      refine (relLevel_any op _).mono ?_
      rintro e1 w1 ⟨rfl, rfl⟩
      go_wp2_with fail
      go_quiet (fail)
      go_wp2_with fail
      go_ret
      exact ⟨41, rfl, sizeOk_bad (fun h => hkn h.1.1), Hb1.out _⟩
    have bk : ((kids.length : Int) != kidsI op) = false := by simpa using hkn
    have Hkn := Lib.hid hkn
    clear hkn
    have bad : ∀ r, r = (41 : Int) → ¬ ((op = 1) ↔ name ∈ nm) → SizeOk (m + 1) (.mk op name kids) r := fun r hr hn => by
      subst hr
      exact sizeOk_bad (fun h => hn h.1.2.1)
    have Bad := Lib.hid bad
    clear bad
    by_cases h1 : op = 1
    · subst h1
      cases hmem : memB nm name
      · -- a name that is none
        have hq' := hq
        rw [hmem] at hq'
        clear hq
        go_enter Tryd.func47, Tryd.ntmps47
        go_wp2_with fail
        refine (relLevel_any 1 _).mono ?_
        rintro e1 w1 ⟨rfl, rfl⟩
        go_wp2_with fail
        go_quiet ((go_at_call 81; exact hq' _))
        go_wp2_with fail
        go_ret
        exact ⟨41, rfl, Bad.out 41 rfl (fun h => by have := memB_iff.2 (h.1 (by first | rfl | trivial)); rw [hmem] at this; cases this), Hb1.out _⟩
      · -- a name
        have hq' := hq
        rw [hmem] at hq'
        clear hq
        have Hmem := Lib.hid hmem
        clear hmem
        go_enter Tryd.func47, Tryd.ntmps47
        go_wp2_with fail
        refine (relLevel_any 1 _).mono ?_
        rintro e1 w1 ⟨rfl, rfl⟩
        go_wp2_with fail
        go_quiet ((go_at_call 81; exact hq' _))
        go_wp2_with fail
        go_loopg [8, 49] kids.length (fun g s8 s49 wr => ∃ (k : Nat) (cnt : Int), k ≤ kids.length ∧ g = kids.length - k ∧ s49 = .int .i64 k ∧ s8 = .int .i64 cnt ∧ 1 ≤ cnt ∧ cnt ≤ 40 ∧ Hid (SizeAt m kids k cnt) ∧ Below w.heap.size w wr)
        case atStart => exact ⟨0, 1, Nat.zero_le _, rfl, rfl, rfl, by omega, by omega, SizeAt.start _ _, Hb1.out _⟩
        case round =>
          obtain ⟨k, cnt, hk, rfl, rfl, rfl, hc1, hc2, hat, hb⟩ := hrel
          by_cases hlt : k < kids.length
          · obtain ⟨b, o, A0, c0, rfl, hbl, k0, k1, k2, hre⟩ := RepEs.get (RepEs.le hks (Le.below hb)) hlt
            have hgw := hg.le (Le.below hb)
            clear hks hq'
            go_wp2_with fail
            refine (ih kids[k] _ A0 c0 (by omega) (hgw.le (Le.alloc _ _)) (hre.le (Le.alloc _ _))).mono ?_
            rintro e2 w2 ⟨r, rfl, hr, hb2⟩
            have hbw : Below w.heap.size w w2 := (hb.alloc hb.size _).trans (hb2.mono (by have := hb.size; simp; omega))
            have hr1 := hr.1
            have hr2 := hr.2.1
            have Hr := Lib.hid hr
            clear hr hb2 k0 k1 k2 hre hgw
            by_cases hgt : 40 < cnt + r
            · go_wp2_with fail
              go_ret
              exact ⟨_, rfl, hat.out.break_ hlt Hr.out hgt, hbw⟩
            · go_wp2_with fail
              go_roundg (kids.length - (k + 1))
              case measure => omega
              case rel => exact ⟨k + 1, _, by omega, rfl, by go_num, rfl, by omega, by omega, hat.out.step hlt Hr.out (by omega), hbw⟩
          · clear hq'
            go_wp2_with fail
            go_ret
            obtain rfl : k = kids.length := by omega
            exact ⟨_, rfl, hat.out.done ⟨Hkn.out, ⟨fun _ => memB_iff.1 Hmem.out, fun _ => rfl⟩, fun h => absurd rfl h⟩, hb⟩
    · have b1 : (op == 1) = false := by simpa using h1
      have b1' : (op != 1) = true := by simpa using h1
      have H1 := Lib.hid h1
      clear h1
      cases hmem : memB nm name
      · have hq' := hq
        rw [hmem] at hq'
        clear hq
        have Hmem := Lib.hid hmem
        clear hmem
        by_cases hem : name = ⟨#[]⟩
        · subst hem
          go_enter Tryd.func47, Tryd.ntmps47
          go_wp2_with fail
          refine (relLevel_any op _).mono ?_
          rintro e1 w1 ⟨rfl, rfl⟩
          go_wp2_with fail
          go_quiet ((go_at_call 81; exact hq' _))
          go_wp2_with fail
          go_loopg [8, 49] kids.length (fun g s8 s49 wr => ∃ (k : Nat) (cnt : Int), k ≤ kids.length ∧ g = kids.length - k ∧ s49 = .int .i64 k ∧ s8 = .int .i64 cnt ∧ 1 ≤ cnt ∧ cnt ≤ 40 ∧ Hid (SizeAt m kids k cnt) ∧ Below w.heap.size w wr)
          case atStart => exact ⟨0, 1, Nat.zero_le _, rfl, rfl, rfl, by omega, by omega, SizeAt.start _ _, Hb1.out _⟩
          case round =>
            obtain ⟨k, cnt, hk, rfl, rfl, rfl, hc1, hc2, hat, hb⟩ := hrel
            by_cases hlt : k < kids.length
            · obtain ⟨b, o, A0, c0, rfl, hbl, k0, k1, k2, hre⟩ := RepEs.get (RepEs.le hks (Le.below hb)) hlt
              have hgw := hg.le (Le.below hb)
              clear hks hq'
              go_wp2_with fail
              refine (ih kids[k] _ A0 c0 (by omega) (hgw.le (Le.alloc _ _)) (hre.le (Le.alloc _ _))).mono ?_
              rintro e2 w2 ⟨r, rfl, hr, hb2⟩
              have hbw : Below w.heap.size w w2 := (hb.alloc hb.size _).trans (hb2.mono (by have := hb.size; simp; omega))
              have hr1 := hr.1
              have hr2 := hr.2.1
              have Hr := Lib.hid hr
              clear hr hb2 k0 k1 k2 hre hgw
              by_cases hgt : 40 < cnt + r
              · go_wp2_with fail
                go_ret
                exact ⟨_, rfl, hat.out.break_ hlt Hr.out hgt, hbw⟩
              · go_wp2_with fail
                go_roundg (kids.length - (k + 1))
                case measure => omega
                case rel => exact ⟨k + 1, _, by omega, rfl, by go_num, rfl, by omega, by omega, hat.out.step hlt Hr.out (by omega), hbw⟩
            · clear hq'
              go_wp2_with fail
              go_ret
              obtain rfl : k = kids.length := by omega
              exact ⟨_, rfl, hat.out.done ⟨Hkn.out, ⟨fun h => absurd h H1.out, fun h => Bool.noConfusion (Hmem.out.symm.trans (memB_iff.2 h))⟩, fun _ => rfl⟩, hb⟩

        · have be := str_eq_false hem
          have hemp : name.toList.isEmpty = false := by
            rw [List.isEmpty_eq_false_iff]
            intro h0
            rw [h0] at be
            simp at be
          have Hem := Lib.hid hem
          clear hem
          go_enter Tryd.func47, Tryd.ntmps47
          go_wp2_with fail
          refine (relLevel_any op _).mono ?_
          rintro e1 w1 ⟨rfl, rfl⟩
          go_wp2_with fail
          go_quiet ((go_at_call 81; exact hq' _))
          go_wp2_with fail
          go_ret
          exact ⟨41, rfl, sizeOk_bad (fun h => Hem.out (h.1.2.2 H1.out)), Hb1.out _⟩
      · -- a name where none may stand
        have hq' := hq
        rw [hmem] at hq'
        clear hq
        go_enter Tryd.func47, Tryd.ntmps47
        go_wp2_with fail
        refine (relLevel_any op _).mono ?_
        rintro e1 w1 ⟨rfl, rfl⟩
        go_wp2_with fail
        go_quiet ((go_at_call 81; exact hq' _))
        go_wp2_with fail
        go_ret
        exact ⟨41, rfl, Bad.out 41 rfl (fun h => H1.out (h.2 (memB_iff.1 hmem))), Hb1.out _⟩

set_option maxHeartbeats 400000 in
theorem valid_any (x : RE) (w : World) (A : Option Addr) (c : Nat) (hg : GN w) (hx : RepK w A c x) :
    Calls Tryd.prog 16 #[.agg #[.int .i64 x.op, .string x.name, .slice A x.kids.length c]] w (RetB w (valB x)) := by
  go_enter Tryd.func16, Tryd.ntmps16
  go_wp2_with fail
  refine (relSize_any 12 x _ A c (by omega) (hg.le (Le.alloc _ _)) (hx.le (Le.alloc _ _))).mono ?_
  rintro e1 w1 ⟨r, rfl, hr, hb⟩
  have Hv := Lib.hid (sizeOk_val hr)
  have hb' : Below w.heap.size w w1 := ((Below.refl _ _).alloc (Nat.le_refl _) _).trans (hb.mono (by simp))
  clear hr hb
  go_wp2_with fail
  go_ret
  exact ⟨ret_bool Hv.out, hb'⟩
end Go.Proofs.YtapelogbceoojaaDoor
