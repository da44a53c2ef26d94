/-
  The walk of FnExactParseModel: it answers true.
-/
import Derived.Test.YtapelogbceoojaaDoorMark
import Derived.Test.YtapelogbceoojaaDoorImM
import Derived.Test.YtapelogbceoojaaDoorEq
namespace Go.Proofs.YtapelogbceoojaaDoor
open Go.RowKit
set_option linter.unusedVariables false
set_option maxRecDepth 100000

theorem ReadM.small {t : ByteArray} {rs : List RU} {b : Bool} (h : ReadM t rs b) : 1 + wSum wtU rs < 10 ^ 18 := by
  rcases h with ⟨_, ⟨h1, h2, h3⟩, _⟩ | ⟨_, rfl, _⟩
  · have key : ∀ (l : List RU), (∀ r ∈ l, UOk r) → wSum wtU l ≤ l.length * 100 := by
      intro l
      induction l with
      | nil => intro _; exact Nat.le_refl _
      | cons r l ih =>
        intro h
        have g1 := ih fun x hx => h x (by simp [hx])
        have g2 := (h r (by simp)).2.2.2
        have g3 := cntE_kids r.e
        simp only [wSum, List.length_cons, wtU]
        omega
    have := key rs h3
    omega
  · show 1 + wSum wtU [] < _
    rw [wSum]
    omega

set_option maxHeartbeats 2000000 in
theorem lawParseM_walk (t : ByteArray) (w : World) (hg : GN w) (hgr : GR w) (hgm : GM w) :
    Calls Tryd.prog 11 #[.string t] w (RetB w true) := by
  go_enter Tryd.func11, Tryd.ntmps11
  by_cases hsz : (1048576 : Int) < (t.size : Int)
  · have hd : decide ((t.size : Int) > 1048576) = true := by simpa using hsz
    go_wp2_with fail
    go_ret
    exact ⟨rfl, Below.refl _ _⟩
  have hd : decide ((t.size : Int) > 1048576) = false := by simpa using hsz
  go_wp2_with fail
  refine (specParseM_any t _ (by omega)).mono ?_
  rintro e1 w1 ⟨rs, v1, b, rfl, hrd, hr1, hb1⟩
  have hr1' := RepUs.le hr1 (Le.above _ _)
  obtain ⟨A1, c1, rfl, _⟩ := hr1.slice
  have Small := Lib.hid hrd.small
  have Rd := Lib.hid hrd
  clear hrd hr1
  go_wp2_with fail
  refine (parseM_any t _ (by omega) (hg.le (Le.below hb1)) (hgr.le (Le.below hb1)) (hgm.le (Le.below hb1))).mono ?_
  rintro e2 w2 ⟨rs2, v2, b2, F, rfl, hrd2, ho, hnd, hF, hb2⟩
  obtain ⟨rfl, rfl⟩ := Rd.out.uniq hrd2
  have hB2 := hb1.trans (hb2.mono hb1.size)
  have sx : sameUs rs rs = true := by unfold sameUs; simp
  obtain ⟨A2, c2, rfl, _⟩ := ho.slice
  have Ho := Lib.hid ho
  clear hrd2 ho
  go_wp2_with fail
  refine (eqUs_any rs rs _ _ _ Ho.out.slR (RepUs.le hr1' (Le.below hb2))).mono ?_
  rintro e3 w3 ⟨rfl, hb3⟩
  have hB3 := hB2.trans (hb3.mono hB2.size)
  have ho3 := Ho.out.below hb3
  have hl3 := ho3.lt
  have Mk := Lib.hid (markU_any rs w3 _ F 1 ho3 hnd (by omega) Small.out)
  go_wp2_with fail
  refine Mk.out.mono ?_
  rintro e4 w4 ⟨rfl, ho4, m4⟩
  have hB4 : Below w.heap.size w w4 := hB3.trans (m4.below (fun b hb => by have := hF b hb; have := hb1.size; omega) hB3.size)
  have hr4 := ho4.slR
  have hL3 : Le w1 w3 := (Le.below hb2).trans (Le.below hb3)
  obtain ⟨N, hN⟩ : ∃ N : Nat, N = 1 + wSum wtU rs := ⟨_, rfl⟩
  rw [← hN]
  have bN : decide ((N : Int) < 0) = false := by rw [decide_eq_false_iff_not]; omega
  have Held : Hid (∀ (w : World), SlR 4 RepU w (.slice A2 rs.length c2) (mkG mkU wtU 1 rs) → Calls Tryd.prog 40 #[.slice A2 rs.length c2, .int .i64 1] w (RetHeld w N)) := fun w h => by
    rw [hN]; exact heldU_any rs w _ 1 h (by omega) Small.out
  clear Mk hN
  go_wp2_with fail
  refine (Held.out w4 hr4).mono ?_
  rintro e5 w5 ⟨rfl, hb5⟩
  have hB5 := hB4.trans (hb5.mono hB4.size)
  go_wp2_with fail
  refine (parseM_any t _ (by omega) (hg.le (Le.below hB5)) (hgr.le (Le.below hB5)) (hgm.le (Le.below hB5))).mono ?_
  rintro e6 w6 ⟨rs3, v3, b3, F3, rfl, hrd3, ho6, _, _, hb6⟩
  obtain ⟨rfl, rfl⟩ := Rd.out.uniq hrd3
  have hB6 := hB5.trans (hb6.mono hB5.size)
  obtain ⟨A3, c3, rfl, _⟩ := ho6.slice
  have hr1'' : SlR 4 RepU w6 (.slice A1 rs.length c1) rs := by
    have h1 : SlR 4 RepU w4 (.slice A1 rs.length c1) rs := RepUs.le hr1' fun a u hc => m4.cell (hL3 a u hc) fun hm => by
      have := hF _ hm
      have := World.block_lt_of_cell? _ _ hc
      omega
    exact RepUs.le h1 ((Le.below hb5).trans (Le.below hb6))
  have Ho6 := Lib.hid ho6.slR
  have Hr1 := Lib.hid hr1''
  clear hrd3 ho6 hr1''
  go_wp2_with fail
  refine (eqUs_any rs rs _ _ _ Ho6.out Hr1.out).mono ?_
  rintro e7 w7 ⟨rfl, hb7⟩
  have hB7 := hB6.trans (hb7.mono hB6.size)
  go_wp2_with fail
  refine (Held.out w7 (RepUs.le hr4 ((Le.below hb5).trans ((Le.below hb6).trans (Le.below hb7))))).mono ?_
  rintro e8 w8 ⟨rfl, hb8⟩
  have hB8 := hB7.trans (hb8.mono hB7.size)
  go_wp2_with fail
  go_ret
  exact ⟨rfl, hB8⟩

end Go.Proofs.YtapelogbceoojaaDoor
