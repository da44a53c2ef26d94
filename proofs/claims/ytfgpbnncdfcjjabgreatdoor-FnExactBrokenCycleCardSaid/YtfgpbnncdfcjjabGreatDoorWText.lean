/-
  The walks of relText, impl.FormatRelExpr; l7Sign, l7Level, l7Text, l7Part, spec.FormatRelExpr. The walks of l7Text, spec.FormatRelExpr.
-/
import Derived.Test.YtfgpbnncdfcjjabGreatDoorVal
import Derived.Test.YtfgpbnncdfcjjabGreatDoorWVal

/-! The walks of relText, impl.FormatRelExpr; l7Sign, l7Level, l7Text, l7Part, spec.FormatRelExpr. -/
namespace Go.Proofs.YtfgpbnncdfcjjabGreatDoor
open Go.RowKit
set_option linter.unusedVariables false
set_option maxRecDepth 100000

def RetStr (w : World) (s : ByteArray) (e : Ending) (w' : World) : Prop := e = .returned (.string s) ∧ Below w.heap.size w w'

theorem RetStr.open {P : Program} {f : FuncId} {args : Array Value} {w : World} {s : ByteArray} (h : Calls P f args w (RetStr w s)) : Calls P f args w fun e w' => e = .returned (.string s) ∧ Below w.heap.size w w' := h

theorem fmt_true {x : RE} (h : valB x = true) : fmt x = ct x := by unfold fmt; rw [if_pos h]
theorem fmt_false {x : RE} (h : valB x = false) : fmt x = ⟨#[]⟩ := by unfold fmt; rw [if_neg (by rw [h]; decide)]

set_option maxHeartbeats 400000 in
theorem l7Sign_any (op : Int) (w : World) (h0 : 1 ≤ op) (h1 : op ≤ 7) : Calls Tryz.prog 203 #[.int .i64 op] w (RetStr w (sgn op)) := by
  have hop : op = 1 ∨ op = 2 ∨ op = 3 ∨ op = 4 ∨ op = 5 ∨ op = 6 ∨ op = 7 := by omega
  clear h0 h1
  rcases hop with rfl | rfl | rfl | rfl | rfl | rfl | rfl
  all_goals
    go_enter Tryz.func203, Tryz.ntmps203
    go_wp2_with fail
    go_ret
    exact ⟨rfl, (Below.refl _ _).alloc (Nat.le_refl _) _⟩

def RetIQ (w : World) (n : Int) (e : Ending) (w' : World) : Prop := e = .returned (.int .i64 n) ∧ w = w'
theorem RetIQ.open {P : Program} {f : FuncId} {args : Array Value} {w : World} {n : Int} (h : Calls P f args w (RetIQ w n)) : Calls P f args w fun e w' => e = .returned (.int .i64 n) ∧ w = w' := h

set_option maxHeartbeats 400000 in
theorem l7Level_any (op : Int) (w : World) : Calls Tryz.prog 205 #[.int .i64 op] w (RetIQ w (lvl op)) := by
  rcases op_cases op with rfl | rfl | rfl | rfl | rfl | rfl | rfl | ⟨h1, h2, h3, h4, h5, h6, h7⟩
  case inr.inr.inr.inr.inr.inr.inr =>
    have b2 : (op == 2) = false := by simpa using h2
    have b3 : (op == 3) = false := by simpa using h3
    have b4 : (op == 4) = false := by simpa using h4
    have b5 : (op == 5) = false := by simpa using h5
    go_enter Tryz.func205, Tryz.ntmps205
    go_wp2_with fail
    go_ret
    refine ⟨?_, rfl⟩
    have e1 : lvl op = 0 := by unfold lvl; rw [if_neg h2, if_neg (by omega), if_neg h5]
    rw [e1]
    rfl
  all_goals
    go_enter Tryz.func205, Tryz.ntmps205
    go_wp2_with fail
    go_ret
    exact ⟨rfl, rfl⟩

set_option maxHeartbeats 400000 in
theorem l7Part_of (m : Nat) (x : RE) (hv : Shp m x) (hcnt : cntE x ≤ 40)
    (ih : ∀ (w : World) (A : Option Addr) (c : Nat), RepK w A c x → Calls Tryz.prog 182 #[.agg #[.int .i64 x.op, .string x.name, .slice A x.kids.length c]] w (RetStr w (ct x)))
    (w : World) (A : Option Addr) (c : Nat) (most : Int) (hx : RepK w A c x) :
    Calls Tryz.prog 204 #[.agg #[.int .i64 x.op, .string x.name, .slice A x.kids.length c], .int .i64 most] w (RetStr w (tx x most)) := by
  have hsz := size_ct m x hv
  have hsz' : (ct x).size ≤ 320 := by omega
  have bx := Box3.new w (.int .i64 x.op) (.string x.name) (.slice A x.kids.length c) 57
  have hb1 : Below w.heap.size w (w.alloc (.cells #[.int .i64 x.op, .string x.name, .slice A x.kids.length c] 57)) := (Below.refl _ _).alloc (Nat.le_refl _) _
  have Hb1 := Lib.hid hb1
  have hx1 := hx.le (Le.below hb1)
  clear hb1 hsz hx
  go_enter Tryz.func204, Tryz.ntmps204
  go_wp2_with fail
  refine (l7Level_any x.op _).mono ?_
  rintro e1 w1 ⟨rfl, rfl⟩
  by_cases hmo : most < lvl x.op
  · have Hmo := Lib.hid hmo
    go_wp2_with fail
    refine (ih _ A c hx1).mono ?_
    rintro e2 w2 ⟨rfl, hb2⟩
    have hb3 := Hb1.out.trans (hb2.mono (by simp))
    go_wp2_with fail
    go_ret
    exact ⟨ret_strE (by rw [tx_pos (e := x) (most := most) (by have := Hmo.out; omega)]), hb3⟩
  · have Hmo := Lib.hid hmo
    go_wp2_with fail
    refine (ih _ A c hx1).mono ?_
    rintro e2 w2 ⟨rfl, hb2⟩
    have hb3 := Hb1.out.trans (hb2.mono (by simp))
    go_wp2_with fail
    go_ret
    exact ⟨ret_strE (by rw [tx_neg (e := x) (most := most) (by have := Hmo.out; omega)]), hb3⟩

end Go.Proofs.YtfgpbnncdfcjjabGreatDoor

/-! The walks of l7Text, spec.FormatRelExpr. -/
namespace Go.Proofs.YtfgpbnncdfcjjabGreatDoor
open Go.RowKit
set_option linter.unusedVariables false
set_option maxRecDepth 100000

set_option maxHeartbeats 1000000 in
theorem l7Text_any (m : Nat) : ∀ (x : RE) (w : World) (A : Option Addr) (c : Nat), Shp m x → cntE x ≤ 40 → RepK w A c x →
    Calls Tryz.prog 182 #[.agg #[.int .i64 x.op, .string x.name, .slice A x.kids.length c]] w (RetStr w (ct x)) := by
  induction m with
  | zero => intro x w A c h; exact h.elim
  | succ m ih =>
    intro x w A c hv hcnt hx
    have hsz := size_ct (m + 1) x hv
    obtain ⟨op, name, kids⟩ := x
    have hks := hx.2
    have hn := hx.1
    clear hx
    obtain ⟨⟨h1, h2, h3⟩, h4⟩ := hv
    simp only [RE.op, RE.name, RE.kids] at h1 h2 h3 h4 hks hn ⊢
    have hlv := lvl_bounds op
    have bx := Box3.new w (.int .i64 op) (.string name) (.slice A kids.length c) 57
    have hb1 : Below w.heap.size w (w.alloc (.cells #[.int .i64 op, .string name, .slice A kids.length c] 57)) := (Below.refl _ _).alloc (Nat.le_refl _) _
    have Hb1 := Lib.hid hb1
    clear hb1
    match kids, h1, h4 with
    | [], h1, _ =>
      obtain ⟨rfl, _⟩ | ⟨_, h⟩ | ⟨_, h⟩ := kidsI_cases h1
      case inr.inl => simp at h
      case inr.inr => simp at h
      have hkd : kidsI 1 = 0 := rfl
      have Hct : Hid (ct (.mk 1 name []) = name) := by show _ = _; rw [ct]
      clear hks h2 h3 h4
      go_enter Tryz.func182, Tryz.ntmps182
      go_wp2_with fail
      refine (l7Kids_any 1 _).mono ?_
      rintro e1 w1 ⟨rfl, rfl⟩
      go_wp2_with fail
      go_ret
      exact ⟨ret_strE Hct.out.symm, Hb1.out⟩
    | [a], h1, h4 =>
      have hva : Shp m a := h4 a (by simp)
      have hcc : cntE (.mk op name [a]) = 1 + (cntE a + 0) := by rw [cntE, cntL, cntL]
      have hca : cntE a ≤ 40 := by omega
      have hta := size_tx hva 0
      have hta' : (tx a 0).size ≤ 320 := by omega
      have hsg := size_sgn op
      have Hct : Hid (ct (.mk op name [a]) = sgn op ++ tx a 0) := by show _ = _; rw [ct]; rfl
      have hop : op = 6 ∨ op = 7 := by
        rcases kidsI_cases h1 with ⟨_, h⟩ | ⟨h, _⟩ | ⟨_, h⟩
        · simp at h
        · exact h
        · simp at h
      have hkd : kidsI op = 1 := by rcases hop with rfl | rfl <;> rfl
      have ho1 : 1 ≤ op := by omega
      have ho7 : op ≤ 7 := by omega
      obtain ⟨b, o, A0, c0, rfl, hbl, k0, k1, k2, hre⟩ := RepEs.get hks (i := 0) (by simp)
      simp only [Nat.zero_mul, Nat.add_zero, List.getElem_cons_zero] at k0 k1 k2 hre
      have f0 := fun n : Ext (w.alloc (.cells #[.int .i64 op, .string name, .slice (some ⟨b, o, none⟩) [a].length c] 57)) => n.le _ _ bx.c0
      have f1 := fun n : Ext (w.alloc (.cells #[.int .i64 op, .string name, .slice (some ⟨b, o, none⟩) [a].length c] 57)) => n.le _ _ bx.c1
      have f2 := fun n : Ext (w.alloc (.cells #[.int .i64 op, .string name, .slice (some ⟨b, o, none⟩) [a].length c] 57)) => n.le _ _ bx.c2
      have f3 := fun n : Ext (w.alloc (.cells #[.int .i64 op, .string name, .slice (some ⟨b, o, none⟩) [a].length c] 57)) => n.le _ _ (Le.alloc w _ _ _ k0)
      have f4 := fun n : Ext (w.alloc (.cells #[.int .i64 op, .string name, .slice (some ⟨b, o, none⟩) [a].length c] 57)) => n.le _ _ (Le.alloc w _ _ _ k1)
      have f5 := fun n : Ext (w.alloc (.cells #[.int .i64 op, .string name, .slice (some ⟨b, o, none⟩) [a].length c] 57)) => n.le _ _ (Le.alloc w _ _ _ k2)
      have r1 := fun (W : World) (h : Below (w.alloc (.cells #[.int .i64 op, .string name, .slice (some ⟨b, o, none⟩) [a].length c] 57)).heap.size (w.alloc (.cells #[.int .i64 op, .string name, .slice (some ⟨b, o, none⟩) [a].length c] 57)) W) => RetStr.open (l7Part_of m a hva hca (fun w A c hr => ih a w A c hva hca hr) W A0 c0 0 ((hre.le (Le.alloc _ _)).le (Le.below h)))
      have r2 := fun (W : World) (h : Below (w.alloc (.cells #[.int .i64 op, .string name, .slice (some ⟨b, o, none⟩) [a].length c] 57)).heap.size (w.alloc (.cells #[.int .i64 op, .string name, .slice (some ⟨b, o, none⟩) [a].length c] 57)) W) => RetStr.open (l7Sign_any op W ho1 ho7)
      have R1 := Lib.hid r1
      have R2 := Lib.hid r2
      clear r1 r2 ih
      clear hks h2 h3 h4 hop hcc hsz hta h1 bx k0 k1 k2 hre
      go_enter Tryz.func182, Tryz.ntmps182
      go_wp2_with fail
      refine (l7Kids_any op _).mono ?_
      rintro e1 w1 ⟨rfl, rfl⟩
      go_wp2_with fail
      refine wp_region_ext _ (by kernel_rfl) (by kernel_rfl) (Below.refl _ _) ?_
      repeat (go_big_quiet_step ((first | (go_at_call 204; with_reducible exact Ext.call _ R1.out) | (go_at_call 203; with_reducible exact Ext.call _ R2.out))))
      refine wpQuiet_nil ?_
      rintro wn ⟨⟨_, hbn⟩, rfl⟩
      have hb3 := Hb1.out.trans (hbn.mono (by simp))
      clear hbn f0 f1 f2 f3 f4 f5
      go_wp2_with fail
      go_ret
      exact ⟨ret_strE Hct.out.symm, hb3⟩
    | [a, d], h1, h4 =>
      have hva : Shp m a := h4 a (by simp)
      have hvd : Shp m d := h4 d (by simp)
      have hcc : cntE (.mk op name [a, d]) = 1 + (cntE a + (cntE d + 0)) := by rw [cntE, cntL, cntL, cntL]
      have hca : cntE a ≤ 40 := by omega
      have hcd : cntE d ≤ 40 := by omega
      have hta := size_tx hva (lvl op)
      have htd := size_tx hvd (lvl op - 1)
      have hta' : (tx a (lvl op)).size ≤ 320 := by omega
      have htd' : (tx d (lvl op - 1)).size ≤ 320 := by omega
      have hsg := size_sgn op
      have Hct : Hid (ct (.mk op name [a, d]) = tx a (lvl op) ++ sgn op ++ tx d (lvl op - 1)) := by show _ = _; rw [ct]; rfl
      have hop : op = 2 ∨ op = 3 ∨ op = 4 ∨ op = 5 := by
        rcases kidsI_cases h1 with ⟨_, h⟩ | ⟨_, h⟩ | ⟨h, _⟩
        · simp at h
        · simp at h
        · exact h
      have hkd : kidsI op = 2 := by rcases hop with rfl | rfl | rfl | rfl <;> rfl
      have ho1 : 1 ≤ op := by omega
      have ho7 : op ≤ 7 := by omega
      obtain ⟨b, o, A0, c0, rfl, hbl, k0, k1, k2, hre⟩ := RepEs.get hks (i := 0) (by simp)
      obtain ⟨b', o', A1, c1, e0, hbl', d0, d1, d2, hre'⟩ := RepEs.get hks (i := 1) (by simp)
      simp only [Option.some.injEq, Addr.mk.injEq, and_true] at e0
      obtain ⟨rfl, rfl⟩ := e0
      simp only [Nat.zero_mul, Nat.add_zero, List.getElem_cons_zero] at k0 k1 k2 hre
      simp only [Nat.one_mul, List.getElem_cons_succ, List.getElem_cons_zero] at d0 d1 d2 hre'
      have f0 := fun n : Ext (w.alloc (.cells #[.int .i64 op, .string name, .slice (some ⟨b, o, none⟩) [a, d].length c] 57)) => n.le _ _ bx.c0
      have f1 := fun n : Ext (w.alloc (.cells #[.int .i64 op, .string name, .slice (some ⟨b, o, none⟩) [a, d].length c] 57)) => n.le _ _ bx.c1
      have f2 := fun n : Ext (w.alloc (.cells #[.int .i64 op, .string name, .slice (some ⟨b, o, none⟩) [a, d].length c] 57)) => n.le _ _ bx.c2
      have f3 := fun n : Ext (w.alloc (.cells #[.int .i64 op, .string name, .slice (some ⟨b, o, none⟩) [a, d].length c] 57)) => n.le _ _ (Le.alloc w _ _ _ k0)
      have f4 := fun n : Ext (w.alloc (.cells #[.int .i64 op, .string name, .slice (some ⟨b, o, none⟩) [a, d].length c] 57)) => n.le _ _ (Le.alloc w _ _ _ k1)
      have f5 := fun n : Ext (w.alloc (.cells #[.int .i64 op, .string name, .slice (some ⟨b, o, none⟩) [a, d].length c] 57)) => n.le _ _ (Le.alloc w _ _ _ k2)
      have f6 := fun n : Ext (w.alloc (.cells #[.int .i64 op, .string name, .slice (some ⟨b, o, none⟩) [a, d].length c] 57)) => n.le _ _ (Le.alloc w _ _ _ d0)
      have f7 := fun n : Ext (w.alloc (.cells #[.int .i64 op, .string name, .slice (some ⟨b, o, none⟩) [a, d].length c] 57)) => n.le _ _ (Le.alloc w _ _ _ d1)
      have f8 := fun n : Ext (w.alloc (.cells #[.int .i64 op, .string name, .slice (some ⟨b, o, none⟩) [a, d].length c] 57)) => n.le _ _ (Le.alloc w _ _ _ d2)
      have r1 := fun (W : World) (h : Below (w.alloc (.cells #[.int .i64 op, .string name, .slice (some ⟨b, o, none⟩) [a, d].length c] 57)).heap.size (w.alloc (.cells #[.int .i64 op, .string name, .slice (some ⟨b, o, none⟩) [a, d].length c] 57)) W) => RetStr.open (l7Part_of m a hva hca (fun w A c hr => ih a w A c hva hca hr) W A0 c0 (lvl op) ((hre.le (Le.alloc _ _)).le (Le.below h)))
      have r2 := fun (W : World) (h : Below (w.alloc (.cells #[.int .i64 op, .string name, .slice (some ⟨b, o, none⟩) [a, d].length c] 57)).heap.size (w.alloc (.cells #[.int .i64 op, .string name, .slice (some ⟨b, o, none⟩) [a, d].length c] 57)) W) => RetStr.open (l7Part_of m d hvd hcd (fun w A c hr => ih d w A c hvd hcd hr) W A1 c1 (lvl op - 1) ((hre'.le (Le.alloc _ _)).le (Le.below h)))
      have r3 := fun (W : World) (h : Below (w.alloc (.cells #[.int .i64 op, .string name, .slice (some ⟨b, o, none⟩) [a, d].length c] 57)).heap.size (w.alloc (.cells #[.int .i64 op, .string name, .slice (some ⟨b, o, none⟩) [a, d].length c] 57)) W) => RetStr.open (l7Sign_any op W ho1 ho7)
      have R1 := Lib.hid r1
      have R2 := Lib.hid r2
      have R3 := Lib.hid r3
      clear r1 r2 r3 ih
      clear hks h2 h3 h4 hop hcc hsz hta htd h1 bx k0 k1 k2 d0 d1 d2 hre hre'
      go_enter Tryz.func182, Tryz.ntmps182
      go_wp2_with fail
      refine (l7Kids_any op _).mono ?_
      rintro e1 w1 ⟨rfl, rfl⟩
      go_wp2_with fail
      refine (l7Level_any op _).mono ?_
      rintro e2 w2 ⟨rfl, rfl⟩
      go_wp2_with fail
      refine wp_region_ext _ (by kernel_rfl) (by kernel_rfl) (Below.refl _ _) ?_
      repeat (go_big_quiet_step ((first | (go_at_call 204; first | (with_reducible exact Ext.call _ R1.out) | (with_reducible exact Ext.call _ R2.out)) | (go_at_call 203; with_reducible exact Ext.call _ R3.out))))
      refine wpQuiet_nil ?_
      rintro wn ⟨⟨_, hbn⟩, rfl⟩
      have hb3 := Hb1.out.trans (hbn.mono (by simp))
      clear hbn f0 f1 f2 f3 f4 f5 f6 f7 f8
      go_wp2_with fail
      go_ret
      exact ⟨ret_strE Hct.out.symm, hb3⟩
    | _ :: _ :: _ :: _, h1, _ =>
      simp only [List.length_cons] at h1
      rcases kidsI_cases h1 with ⟨_, h⟩ | ⟨_, h⟩ | ⟨_, h⟩ <;> omega

set_option maxHeartbeats 400000 in
theorem specFormat_any (x : RE) (w : World) (A : Option Addr) (c : Nat) (hcnt : cntE x ≤ 1048577) (hx : RepK w A c x) :
    Calls Tryz.prog 181 #[.agg #[.int .i64 x.op, .string x.name, .slice A x.kids.length c]] w (RetStr w (fmt x)) := by
  have bx := Box3.new w (.int .i64 x.op) (.string x.name) (.slice A x.kids.length c) 57
  go_enter Tryz.func181, Tryz.ntmps181
  go_wp2_with fail
  refine (specValid_any x _ A c hcnt (hx.le (Le.alloc _ _))).mono ?_
  rintro e1 w1 ⟨rfl, hb⟩
  have hb' : Below w.heap.size w w1 := ((Below.refl _ _).alloc (Nat.le_refl _) _).trans (hb.mono (by simp))
  obtain ⟨x0, x1, x2, xs⟩ := (bx.le (Le.below hb)).all
  have hx1 := hx.le (Le.below hb')
  clear hb bx
  cases hv : valB x
  · have Hv := Lib.hid hv
    go_wp2_with fail
    go_ret
    exact ⟨ret_strE (fmt_false Hv.out).symm, hb'⟩
  · have Hv := Lib.hid hv
    go_wp2_with fail
    refine (l7Text_any 12 x _ A c (valB_iff.1 hv).1 (valB_iff.1 hv).2 hx1).mono ?_
    rintro e2 w2 ⟨rfl, hb2⟩
    have hb3 := hb'.trans (hb2.mono hb'.size)
    go_wp2_with fail
    go_ret
    exact ⟨ret_strE (by rw [fmt_true Hv.out]), hb3⟩

end Go.Proofs.YtfgpbnncdfcjjabGreatDoor
