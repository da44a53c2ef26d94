/-
  The walk of spec.ParseRelExpr.
-/
import Derived.Test.YtapelogbceoojaaDoorWSp3
import Derived.Test.YtapelogbceoojaaDoorWPars5
import Derived.Test.YtapelogbceoojaaDoorWText2
namespace Go.Proofs.YtapelogbceoojaaDoor
open Go.RowKit
set_option linter.unusedVariables false
set_option maxRecDepth 100000

theorem rest_zero (s : ByteArray) : rest s 0 = s.data.toList := by unfold rest; rw [List.drop_zero]
theorem rest_nil {s : ByteArray} {k : Nat} (h : rest s k = []) : s.size ≤ k := by
  unfold rest at h
  rw [List.drop_eq_nil_iff] at h
  simpa using h

def RetReadS (w : World) (t : ByteArray) (e : Ending) (w' : World) : Prop :=
  ∃ (x : RE) (b : Bool) (A : Option Addr) (k : Nat) (F : List Nat), e = .returned (.tuple #[.agg #[.int .i64 x.op, .string x.name, .slice A x.kids.length k], .bool b]) ∧ Read t x b ∧ OwE w' (.slice A x.kids.length k) x.kids F ∧ (∀ b ∈ F, w.heap.size ≤ b) ∧ x.name.size ≤ 300 ∧ Below w.heap.size w w'
theorem RetReadS.fail {w W : World} {t : ByteArray} (hb : Below w.heap.size w W) (hn : ∀ y, Val y → ct y ≠ t) : RetReadS w t (.returned (.tuple #[.agg #[.int .i64 0, .string ⟨#[]⟩, .slice none 0 0], .bool false])) W :=
  ⟨.mk 0 ⟨#[]⟩ [], false, none, 0, [], rfl, Or.inr ⟨rfl, rfl, hn⟩, .nil, (fun b hb => by cases hb), (by show ByteArray.size ⟨#[]⟩ ≤ 300; decide), hb⟩

set_option maxHeartbeats 2000000 in
theorem specParse_any (t : ByteArray) (w : World) : Calls Tryd.prog 28 #[.string t] w (RetReadS w t) := by
  have rb := Own.new w 29 #[.int .i64 0, .string ByteArray.empty, .slice none 0 0]
  go_enter Tryd.func28, Tryd.ntmps28
  by_cases hsz : (300 : Int) < (t.size : Int)
  · have hd : decide ((t.size : Int) > 300) = true := by simpa using hsz
    go_wp2_with fail
    refine bodyPost_ret (v := .tuple #[.agg #[.int .i64 0, .string ⟨#[]⟩, .slice none 0 0], .bool false]) (by simp [results, Tryd.results28, go_sem]) rfl ?_
    refine ⟨.mk 0 ⟨#[]⟩ [], false, none, 0, [], rfl, Or.inr ⟨rfl, rfl, fun y hy e => ?_⟩, .nil, (fun b hb => by cases hb), (by show ByteArray.size ⟨#[]⟩ ≤ 300; decide), (Below.refl _ _).alloc (Nat.le_refl _) _⟩
    have := ct_size hy
    rw [e] at this
    omega
  · have hd : decide ((t.size : Int) > 300) = false := by simpa using hsz
    have hp := ((sp_all t (by omega) 301 0 rfl (by omega) 12 (by omega)).2 3 (by omega))
    go_wp2_with fail
    refine (hp _).mono ?_
    rintro e1 w1 ⟨x, A, c, F, nx, rfl, ho, hF, hnm, hb1', hn1, hn2, hn3, hn4, hps⟩
    have hb1 : Below w.heap.size w w1 := ((Below.refl _ _).alloc (Nat.le_refl _) _).trans (hb1'.mono (by simp))
    have rb1 := rb.under hb1'
    have hkey : ∀ y, Val y → ct y = t → y = x ∧ nx = t.size := fun y hy e => by
      have h2 := read_back hy
      rw [e, ← rest_zero] at h2
      obtain ⟨h3, h4, h5⟩ := hps _ _ h2 hy.1
      have := rest_nil h5
      exact ⟨h3, by omega⟩
    have hcnt : cntE x ≤ 1048577 := by
      by_cases h : nx < 0
      · have := hn4 h; omega
      · have := (hn3 (by omega)).2; omega
    have Hkey := Lib.hid hkey
    clear hkey hps hp rb hn3 hn4 hb1'
    obtain ⟨r0, r1, r2, g0, g1, g2, rl⟩ := rb1.res'
    by_cases hnx : nx = t.size
    · subst hnx
      have hrep : RepK w1 A c x := ⟨by omega, RepEs.le (ho.rep (B := 0) (fun b hb => Nat.zero_le _)) (Le.above _ _)⟩
      go_wp2_with fail
      refine (specFormat_any x _ A c hcnt (hrep.le (Le.alloc _ _))).mono ?_
      rintro e2 w2 ⟨rfl, hb2⟩
      have B2 : Below w.heap.size w w2 := (hb1.alloc hb1.size _).trans (hb2.mono (by have := hb1.size; simp; omega))
      have eb2 := ((Own.new w1 29 #[.int .i64 x.op, .string x.name, .slice A x.kids.length c]).under hb2).res'
      obtain ⟨x0, x1, x2, _, _, _, xl⟩ := eb2
      obtain ⟨q0, q1, q2, f0, f1, f2, ql⟩ := ((rb1.alloc (.cells #[.int .i64 x.op, .string x.name, .slice A x.kids.length c] 29)).under hb2).res'
      have ho2 := own_below (own_allocN ho (.cells #[.int .i64 x.op, .string x.name, .slice A x.kids.length c] 29)) hb2
      have hFlt : ∀ b ∈ F, w.heap.size < b := fun b hb => by have := hF b hb; simp at this; omega
      have hFne : ∀ b ∈ F, b ≠ w.heap.size := fun b hb => by have := hFlt b hb; omega
      clear hrep hb2 r0 r1 r2 g0 g1 g2 rl
      by_cases hfm : fmt x = t
      · have hsb := str_eq_true hfm
        by_cases ht : t = ⟨#[]⟩
        · subst ht
          go_wp2_with fail
          refine bodyPost_ret (v := .tuple #[.agg #[.int .i64 0, .string ⟨#[]⟩, .slice none 0 0], .bool false]) (by simp [results, Tryd.results28, go_sem, q0, q1, q2]) rfl ?_
          refine RetReadS.fail ?_ (fun y hy e => ct_ne hy e)
          repeat (first | exact B2 | refine Below.setCell ?_ (by simp <;> omega) _)
        · have hne := str_ne_nil ht
          have hv : Val x := by
            cases hvb : valB x
            · rw [fmt_false hvb] at hfm
              exact absurd hfm.symm ht
            · exact valB_iff.1 hvb
          have hct : ct x = t := by rw [← fmt_true (valB_iff.2 hv)]; exact hfm
          have Hfm := Lib.hid hct
          clear hfm hct
          go_wp2_with fail
          refine bodyPost_ret (v := .tuple #[.agg #[.int .i64 x.op, .string x.name, .slice A x.kids.length c], .bool true]) (by simp [results, Tryd.results28, go_sem, q0, q1, q2]) rfl ?_
          refine ⟨x, true, A, c, F, rfl, Or.inl ⟨rfl, hv, Hfm.out⟩, own_setN (own_setN (own_setN ho2 hFne _ _) hFne _ _) hFne _ _, (fun b hb => Nat.le_of_lt (hFlt b hb)), hnm, ?_⟩
          repeat (first | exact B2 | refine Below.setCell ?_ (by simp <;> omega) _)
      · have hsb := str_eq_false hfm
        have Hn : Hid (∀ y, Val y → ct y ≠ t) := fun y hy e => by
          have h5 := (Hkey.out y hy e).1
          subst h5
          exact hfm (by rw [fmt_true (valB_iff.2 hy), e])
        go_wp2_with fail
        refine bodyPost_ret (v := .tuple #[.agg #[.int .i64 0, .string ⟨#[]⟩, .slice none 0 0], .bool false]) (by simp [results, Tryd.results28, go_sem, q0, q1, q2]) rfl ?_
        refine RetReadS.fail ?_ Hn.out
        repeat (first | exact B2 | refine Below.setCell ?_ (by simp <;> omega) _)
    · have bnx : (nx != (t.size : Int)) = true := by rw [bne_iff_ne]; exact hnx
      have Hn : Hid (∀ y, Val y → ct y ≠ t) := fun y hy e => hnx (Hkey.out y hy e).2
      go_wp2_with fail
      refine bodyPost_ret (v := .tuple #[.agg #[.int .i64 0, .string ⟨#[]⟩, .slice none 0 0], .bool false]) (by simp [results, Tryd.results28, go_sem, r0, r1, r2, World.cell?_alloc_lt, rl]) rfl ?_
      refine RetReadS.fail ?_ Hn.out
      repeat (first | exact hb1 | refine Below.alloc ?_ (by simp <;> omega) _ | refine Below.setCell ?_ (by simp <;> omega) _)

end Go.Proofs.YtapelogbceoojaaDoor
