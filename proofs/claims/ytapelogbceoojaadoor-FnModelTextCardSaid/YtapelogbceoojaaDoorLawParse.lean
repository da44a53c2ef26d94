/-
  The walk of FnExactParseRelExpr: it answers true.
-/
import Derived.Test.YtapelogbceoojaaDoorWSp
import Derived.Test.YtapelogbceoojaaDoorMark
import Derived.Test.YtapelogbceoojaaDoorEq
namespace Go.Proofs.YtapelogbceoojaaDoor
open Go.RowKit
set_option linter.unusedVariables false
set_option maxRecDepth 100000

theorem Read.small {t : ByteArray} {x : RE} {b : Bool} (h : Read t x b) : 1 + 2 * cntL x.kids < 10 ^ 18 := by
  rcases h with ⟨_, h, _⟩ | ⟨_, rfl, _⟩
  · have h1 := h.2
    have h2 := cntE_kids x
    omega
  · show 1 + 2 * cntL [] < _
    rw [cntL]
    omega
theorem OwE.repK {w : World} {A : Option Addr} {c : Nat} {x : RE} {F : List Nat} (h : OwE w (.slice A x.kids.length c) x.kids F) (hn : x.name.size ≤ 300) : RepK w A c x :=
  ⟨by omega, RepEs.le (h.rep (B := 0) (fun b hb => Nat.zero_le _)) (Le.above _ _)⟩

set_option maxHeartbeats 2000000 in
theorem lawParse_walk (t : ByteArray) (w : World) (hg : GN w) :
    Calls Tryd.prog 7 #[.string t] w (RetB w true) := by
  go_enter Tryd.func7, Tryd.ntmps7
  by_cases hsz : (1048576 : Int) < (t.size : Int)
  · have hd : decide ((t.size : Int) > 1048576) = true := by simpa using hsz
    go_wp2_with fail
    go_ret
    exact ⟨rfl, Below.refl _ _⟩
  have hd : decide ((t.size : Int) > 1048576) = false := by simpa using hsz
  go_wp2_with fail
  refine (specParse_any t _).mono ?_
  rintro e1 w1 ⟨x, b, A1, c1, F1, rfl, hrd, ho1, hF1, hn1, hb1⟩
  have bx1 := Own.new w1 29 #[.int .i64 x.op, .string x.name, .slice A1 x.kids.length c1]
  have ho1a := own_allocN ho1 (.cells #[.int .i64 x.op, .string x.name, .slice A1 x.kids.length c1] 29)
  have hl1 := ho1.lt
  have hB1 : Below w.heap.size w (w1.alloc (.cells #[.int .i64 x.op, .string x.name, .slice A1 x.kids.length c1] 29)) := hb1.alloc hb1.size _
  have hz1 := hb1.size
  have Small := Lib.hid hrd.small
  have Rd := Lib.hid hrd
  clear hb1 ho1 hrd
  go_wp2_with fail
  refine (parse_any t _ (hg.le (Le.below hB1))).mono ?_
  rintro e2 w2 ⟨x2, b2, A2, c2, F2, rfl, hrd2, ho2, hnd, hF2, hn2, hb2⟩
  obtain ⟨rfl, rfl⟩ := Rd.out.uniq hrd2
  have hF2' : ∀ b ∈ F2, w1.heap.size < b := fun b hb => by have := hF2 b hb; simp at this; omega
  have bx1a := bx1.under hb2
  have bx1b := bx1a.alloc (.cells #[.int .i64 x.op, .string x.name, .slice A2 x.kids.length c2] 29)
  have bx2 := Own.new w2 29 #[.int .i64 x.op, .string x.name, .slice A2 x.kids.length c2]
  have ho1b := own_allocN (own_below ho1a hb2) (.cells #[.int .i64 x.op, .string x.name, .slice A2 x.kids.length c2] 29)
  have ho2b := own_allocN ho2 (.cells #[.int .i64 x.op, .string x.name, .slice A2 x.kids.length c2] 29)
  have hl2 := ho2.lt
  have hB2 : Below w.heap.size w (w2.alloc (.cells #[.int .i64 x.op, .string x.name, .slice A2 x.kids.length c2] 29)) := (hB1.trans (hb2.mono hB1.size)).alloc (hB1.trans (hb2.mono hB1.size)).size _
  have hz2 : w1.heap.size < w2.heap.size := by have := hb2.size; simp at this; omega
  have sx : sameB x x = true := sameB_iff.2 rfl
  obtain ⟨r0, r1, r2, _, _, _, rl⟩ := bx1a.res'
  clear hrd2 bx1 ho1a ho2 hb2 hB1 hF2
  go_wp2_with fail
  refine (eqE_any x _ A2 A1 c2 c1 x (ho2b.repK hn2) (ho1b.repK hn1)).mono ?_
  rintro e3 w3 ⟨rfl, hb3⟩
  have hB3 := hB2.trans (hb3.mono hB2.size)
  have bx1c := bx1b.under hb3
  have bx2c := bx2.under hb3
  have ho1c := own_below ho1b hb3
  have ho2c := own_below ho2b hb3
  have hz3 : w2.heap.size < w3.heap.size := by have := hb3.size; simp at this; omega
  obtain ⟨q0, q1, q2, _, _, _, ql⟩ := bx2c.res'
  clear r0 r1 r2 rl bx1b bx2 ho1b ho2b hB2 hb3 bx1a
  have hmark : Calls Tryd.prog 30 #[.agg #[.int .i64 x.op, .string x.name, .slice A2 x.kids.length c2], .int .i64 1] w3 (RetMark w3 (.slice A2 x.kids.length c2) x.kids F2 1) := markE_any x w3 A2 c2 F2 1 ho2c hnd (by omega) Small.out
  have hcnt := Small.out
  obtain ⟨N, hN⟩ : ∃ N : Nat, N = 1 + 2 * cntL x.kids := ⟨_, rfl⟩
  have hN63 : N < 10 ^ 18 := by omega
  have bN : decide ((N : Int) < 0) = false := by rw [decide_eq_false_iff_not]; omega
  have hheld : ∀ (w : World), SlR 3 RepE w (.slice A2 x.kids.length c2) (mkL 1 x.kids) → Calls Tryd.prog 31 #[.agg #[.int .i64 x.op, .string x.name, .slice A2 x.kids.length c2], .int .i64 1] w (RetHeld w N) := fun w h => by
    rw [hN]; exact heldE_any x w A2 c2 1 h (by omega) Small.out
  unfold RetMark at hmark
  rw [← hN] at hmark
  have Mark := Lib.hid hmark
  have Held := Lib.hid hheld
  clear hmark hheld hcnt hN Small
  go_wp2_with fail
  refine Mark.out.mono ?_
  rintro e4 w4 ⟨rfl, hom, m4⟩
  have hX1 : w1.heap.size ∉ F2 := fun h => by have := hF2' _ h; omega
  have hX2 : w2.heap.size ∉ F2 := fun h => by have := hl2 _ h; omega
  have hB4 : Below w.heap.size w w4 := hB3.trans (m4.below (fun b hb => by have := hF2' b hb; omega) hB3.size)
  have bx1d : Own w4 w1.heap.size 29 #[.int .i64 x.op, .string x.name, .slice A1 x.kids.length c1] := bx1c.of_block (m4.block _ bx1c.lt hX1)
  have bx2d : Own w4 w2.heap.size 29 #[.int .i64 x.op, .string x.name, .slice A2 x.kids.length c2] := bx2c.of_block (m4.block _ bx2c.lt hX2)
  have ho1d : OwE w4 (.slice A1 x.kids.length c1) x.kids F1 := ho1c.mvF m4 (fun b hb h => by have h1 := hl1 b hb; have h2 := hF2' b h; omega)
  obtain ⟨q0, q1, q2, _, _, _, ql⟩ := bx2d.res'
  clear bx1c bx2c ho1c ho2c m4 hB3 Mark
  go_wp2_with fail
  have hmk4 : SlR 3 RepE w4 (.slice A2 x.kids.length c2) (mkL 1 x.kids) := by
    have h := hom.rep (B := 0) (fun b hb => Nat.zero_le _)
    exact RepEs.le h (Le.above _ _)
  refine (Held.out w4 hmk4).mono ?_
  rintro e5 w5 ⟨rfl, hb5⟩
  have hB5 := hB4.trans (hb5.mono hB4.size)
  have hmk5 := RepEs.le hmk4 (Le.below hb5)
  have bx1e := bx1d.under hb5
  have bx2e := bx2d.under hb5
  have ho1e := own_below ho1d hb5
  clear bx1d bx2d ho1d hom hb5 hB4 q0 q1 q2 ql hmk4
  have hz5 := bx2e.lt
  go_wp2_with fail
  refine (parse_any t _ (hg.le (Le.below hB5))).mono ?_
  rintro e6 w6 ⟨x3, b3, A3, c3, F3, rfl, hrd3, ho3, _, hF3, hn3, hb6⟩
  obtain ⟨rfl, rfl⟩ := Rd.out.uniq hrd3
  have hB6 := hB5.trans (hb6.mono hB5.size)
  have bx1f := bx1e.under hb6
  have bx2f := bx2e.under hb6
  have bx3 := Own.new w6 29 #[.int .i64 x.op, .string x.name, .slice A3 x.kids.length c3]
  have ho1f := own_allocN (own_below ho1e hb6) (.cells #[.int .i64 x.op, .string x.name, .slice A3 x.kids.length c3] 29)
  have ho3f := own_allocN ho3 (.cells #[.int .i64 x.op, .string x.name, .slice A3 x.kids.length c3] 29)
  have hmk6 := RepEs.le hmk5 ((Le.below hb6).trans (Le.alloc _ (.cells #[.int .i64 x.op, .string x.name, .slice A3 x.kids.length c3] 29)))
  have hB6a := hB6.alloc hB6.size (.cells #[.int .i64 x.op, .string x.name, .slice A3 x.kids.length c3] 29)
  have bx2g := bx2f.alloc (.cells #[.int .i64 x.op, .string x.name, .slice A3 x.kids.length c3] 29)
  obtain ⟨r0, r1, r2, _, _, _, rl⟩ := bx1f.res'
  clear hrd3 bx1e bx2e ho1e ho3 hF3 hmk5 hB5 hb6 hB6
  go_wp2_with fail
  refine (eqE_any x _ A3 A1 c3 c1 x (ho3f.repK hn3) (ho1f.repK hn1)).mono ?_
  rintro e7 w7 ⟨rfl, hb7⟩
  have hB7 := hB6a.trans (hb7.mono hB6a.size)
  obtain ⟨q0, q1, q2, _, _, _, ql⟩ := (bx2g.under hb7).res'
  have hmk7 := RepEs.le hmk6 (Le.below hb7)
  clear hb7 hB6a bx2f bx2g bx3 ho1f ho3f hmk6 r0 r1 r2 rl bx1f
  go_wp2_with fail
  refine (Held.out w7 hmk7).mono ?_
  rintro e8 w8 ⟨rfl, hb8⟩
  have hB8 := hB7.trans (hb8.mono hB7.size)
  clear hmk7 hb8 hB7 q0 q1 q2 ql
  go_wp2_with fail
  go_ret
  exact ⟨rfl, hB8⟩

end Go.Proofs.YtapelogbceoojaaDoor
