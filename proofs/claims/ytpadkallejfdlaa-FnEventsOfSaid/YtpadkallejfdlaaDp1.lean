/-
  The walks of l1Place, l1Parse, l1Letter, l17Dec (one digit), l1Text, l1Program: the reference's own reading and writing of programs; of the texts only their sizes are told.
-/
import Derived.Test.YtpadkallejfdlaaSpP2
import Derived.Test.YtpadkallejfdlaaStr
namespace Go.Proofs.Ytpadkallejfdlaa
open Go.RowKit
set_option linter.unusedVariables false
set_option maxRecDepth 100000

def RetSomeInt (w : World) (e : Ending) (w' : World) : Prop := ∃ v : Int, e = .returned (.int .i64 v) ∧ -1 ≤ v ∧ v ≤ 255 ∧ w = w'

set_option maxHeartbeats 400000 in
theorem place_any (s : ByteArray) (at' : Nat) (frm most : Int) (w : World) (hs : s.size ≤ 2000000) (ha : at' ≤ 100) (h0 : 0 ≤ frm) (h1 : frm ≤ 255) (hm : 0 ≤ most) (hm' : most ≤ 255) :
    Calls Try.prog 128 #[.string s, .int .i64 at', .int .u8 frm, .int .i64 most] w (RetSomeInt w) := by
  go_enter Try.func128, Try.ntmps128
  by_cases hlt : at' < s.size
  · have hu : (s[at'].toNat : Int) ≤ 255 := by have := s[at'].toNat_lt; omega
    by_cases hf : (s[at'].toNat : Int) < frm
    · go_wp2_with fail
      go_ret
      exact ⟨-1, rfl, by omega, by omega, rfl⟩
    · by_cases hm2 : (s[at'].toNat : Int) - frm > most
      · go_wp2_with fail
        go_ret
        exact ⟨-1, rfl, by omega, by omega, rfl⟩
      · go_wp2_with fail
        go_ret
        exact ⟨_, rfl, by omega, by omega, rfl⟩
  · go_wp2_with fail
    go_ret
    exact ⟨-1, rfl, by omega, by omega, rfl⟩

def RetSomeIns (w : World) (e : Ending) (w' : World) : Prop := ∃ x : Ins, e = .returned (.agg #[.int .i64 x.op, .int .i64 x.loc, .int .i64 x.reg, .int .i64 x.val]) ∧ Below w.heap.size w w'

set_option maxHeartbeats 1000000 in
theorem parseI_any (s : ByteArray) (w : World) (hs : s.size ≤ 2000000) : Calls Try.prog 120 #[.string s] w (RetSomeIns w) := by
  go_enter Try.func120, Try.ntmps120
  cases hf : (s.toList == [102, 101, 110, 99, 101])
  · go_wp2_with fail
    refine (place_any s 0 97 2 _ hs (by omega) (by omega) (by omega) (by omega) (by omega)).mono ?_
    rintro e1 w1 ⟨reg, rfl, hreg0, hreg1, rfl⟩
    go_wp2_with fail
    refine (place_any s 0 120 2 _ hs (by omega) (by omega) (by omega) (by omega) (by omega)).mono ?_
    rintro e1 w1 ⟨loc, rfl, hloc0, hloc1, rfl⟩
    by_cases hreg : 0 ≤ reg
    · by_cases h3 : s.size = 3
      · go_wp2_with fail
        refine (place_any s 2 120 2 _ hs (by omega) (by omega) (by omega) (by omega) (by omega)).mono ?_
        rintro e1 w1 ⟨a, rfl, ha0, ha1, rfl⟩
        go_wp2_with fail
        refine bodyPost_ret (v := .agg #[.int .i64 1, .int .i64 a, .int .i64 reg, .int .i64 0]) (by simp [results, Try.results120, go_sem]) rfl ?_
        exact ⟨⟨1, a, reg, 0⟩, rfl, (Below.refl _ _).alloc (Nat.le_refl _) _⟩
      · by_cases h5 : s.size = 5
        · go_wp2_with fail
          refine (place_any s 2 120 2 _ hs (by omega) (by omega) (by omega) (by omega) (by omega)).mono ?_
          rintro e1 w1 ⟨a, rfl, ha0, ha1, rfl⟩
          go_wp2_with fail
          refine (place_any s 4 48 3 _ hs (by omega) (by omega) (by omega) (by omega) (by omega)).mono ?_
          rintro e1 w1 ⟨b, rfl, hb0, hb1, rfl⟩
          go_wp2_with fail
          refine bodyPost_ret (v := .agg #[.int .i64 5, .int .i64 a, .int .i64 reg, .int .i64 b]) (by simp [results, Try.results120, go_sem]) rfl ?_
          exact ⟨⟨5, a, reg, b⟩, rfl, (Below.refl _ _).alloc (Nat.le_refl _) _⟩
        · by_cases hloc : 0 ≤ loc
          · go_wp2_with fail
            refine (place_any s 2 97 2 _ hs (by omega) (by omega) (by omega) (by omega) (by omega)).mono ?_
            rintro e1 w1 ⟨a, rfl, ha0, ha1, rfl⟩
            by_cases ha : 0 ≤ a
            · go_wp2_with fail
              refine (place_any s 2 97 2 _ hs (by omega) (by omega) (by omega) (by omega) (by omega)).mono ?_
              rintro e1 w1 ⟨b, rfl, hb0, hb1, rfl⟩
              go_wp2_with fail
              refine bodyPost_ret (v := .agg #[.int .i64 3, .int .i64 loc, .int .i64 b, .int .i64 0]) (by simp [results, Try.results120, go_sem]) rfl ?_
              exact ⟨⟨3, loc, b, 0⟩, rfl, (Below.refl _ _).alloc (Nat.le_refl _) _⟩
            · go_wp2_with fail
              refine (place_any s 2 48 3 _ hs (by omega) (by omega) (by omega) (by omega) (by omega)).mono ?_
              rintro e1 w1 ⟨b, rfl, hb0, hb1, rfl⟩
              go_wp2_with fail
              refine bodyPost_ret (v := .agg #[.int .i64 2, .int .i64 loc, .int .i64 0, .int .i64 b]) (by simp [results, Try.results120, go_sem]) rfl ?_
              exact ⟨⟨2, loc, 0, b⟩, rfl, (Below.refl _ _).alloc (Nat.le_refl _) _⟩
          · go_wp2_with fail
            refine (place_any s 2 48 3 _ hs (by omega) (by omega) (by omega) (by omega) (by omega)).mono ?_
            rintro e1 w1 ⟨b, rfl, hb0, hb1, rfl⟩
            go_wp2_with fail
            refine bodyPost_ret (v := .agg #[.int .i64 2, .int .i64 loc, .int .i64 0, .int .i64 b]) (by simp [results, Try.results120, go_sem]) rfl ?_
            exact ⟨⟨2, loc, 0, b⟩, rfl, (Below.refl _ _).alloc (Nat.le_refl _) _⟩
    · by_cases hloc : 0 ≤ loc
      · go_wp2_with fail
        refine (place_any s 2 97 2 _ hs (by omega) (by omega) (by omega) (by omega) (by omega)).mono ?_
        rintro e1 w1 ⟨a, rfl, ha0, ha1, rfl⟩
        by_cases ha : 0 ≤ a
        · go_wp2_with fail
          refine (place_any s 2 97 2 _ hs (by omega) (by omega) (by omega) (by omega) (by omega)).mono ?_
          rintro e1 w1 ⟨b, rfl, hb0, hb1, rfl⟩
          go_wp2_with fail
          refine bodyPost_ret (v := .agg #[.int .i64 3, .int .i64 loc, .int .i64 b, .int .i64 0]) (by simp [results, Try.results120, go_sem]) rfl ?_
          exact ⟨⟨3, loc, b, 0⟩, rfl, (Below.refl _ _).alloc (Nat.le_refl _) _⟩
        · go_wp2_with fail
          refine (place_any s 2 48 3 _ hs (by omega) (by omega) (by omega) (by omega) (by omega)).mono ?_
          rintro e1 w1 ⟨b, rfl, hb0, hb1, rfl⟩
          go_wp2_with fail
          refine bodyPost_ret (v := .agg #[.int .i64 2, .int .i64 loc, .int .i64 0, .int .i64 b]) (by simp [results, Try.results120, go_sem]) rfl ?_
          exact ⟨⟨2, loc, 0, b⟩, rfl, (Below.refl _ _).alloc (Nat.le_refl _) _⟩
      · go_wp2_with fail
        refine (place_any s 2 48 3 _ hs (by omega) (by omega) (by omega) (by omega) (by omega)).mono ?_
        rintro e1 w1 ⟨b, rfl, hb0, hb1, rfl⟩
        go_wp2_with fail
        refine bodyPost_ret (v := .agg #[.int .i64 2, .int .i64 loc, .int .i64 0, .int .i64 b]) (by simp [results, Try.results120, go_sem]) rfl ?_
        exact ⟨⟨2, loc, 0, b⟩, rfl, (Below.refl _ _).alloc (Nat.le_refl _) _⟩
  · go_wp2_with fail
    refine bodyPost_ret (v := .agg #[.int .i64 4, .int .i64 0, .int .i64 0, .int .i64 0]) (by simp [results, Try.results120, go_sem]) rfl ?_
    exact ⟨⟨4, 0, 0, 0⟩, rfl, (Below.refl _ _).alloc (Nat.le_refl _) _⟩

end Go.Proofs.Ytpadkallejfdlaa
