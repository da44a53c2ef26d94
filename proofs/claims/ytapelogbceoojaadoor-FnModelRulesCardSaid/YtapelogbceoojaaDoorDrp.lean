/-
  The walks of l1Bend and DrawParseRelExpr.
-/
import Derived.Test.YtapelogbceoojaaDoorDr
import Derived.Test.YtapelogbceoojaaDoorLawParse
import Derived.Test.YtapelogbceoojaaDoorWText2
import Derived.Test.YtapelogbceoojaaDoorWPars5
import Derived.Deep.RegionWith
namespace Go.Proofs.YtapelogbceoojaaDoor
open Go.RowKit
set_option linter.unusedVariables false
set_option maxRecDepth 100000

def RetBend (w : World) (R p : Nat) (e : Ending) (w' : World) : Prop := ∃ (t : ByteArray) (p' : Nat), e = .returned (.string t) ∧ t.size ≤ 2000000 ∧ Mv R w w' ∧ Rd w' R p' ∧ p' ≤ p + 10

set_option maxHeartbeats 1000000 in
theorem bend_any (w : World) (R p : Nat) (s : ByteArray) (A : Option Addr) (c : Nat) (ss : List ByteArray) (hp : p ≤ 1000000000) (hr : Rd w R p) (hs : s.size ≤ 1000000) (hx : Strs (above (R + 1) w) A c ss) (hne : 0 < ss.length) (hsm : ∀ t ∈ ss, t.size ≤ 1000) :
    Calls Tryd.prog 67 #[.pointer (some ⟨R, 0, none⟩), .string s, .slice A ss.length c] w (RetBend w R p) := by
  have hm := hx.len
  go_enter Tryd.func67, Tryd.ntmps67
  by_cases h0 : s.size = 0
  · have h0b : ((s.size : Int) == 0) = true := by rw [h0]; rfl
    go_wp2_with fail
    go_ret
    exact ⟨s, p, rfl, by omega, Mv.refl _ _, hr, by omega⟩
  · have h0b : ((s.size : Int) == 0) = false := by rw [beq_eq_false_iff_ne]; omega
    have hpk := pick_any w R p 2 (by omega) hr
    have hs0 : 0 < s.size := by omega
    clear h0
    go_wp2_with fail
    refine hpk.mono ?_
    rintro e1 w1 ⟨v, rfl, _, _, m1, rd1⟩
    have hx1 := hx.le m1.above
    clear hpk hx hr
    by_cases hv : v = 0
    · subst hv
      go_wp2_with fail
      go_ret
      exact ⟨s, p + 1, rfl, by omega, m1, rd1, by omega⟩
    · have bv : (v == 0) = false := by rw [beq_eq_false_iff_ne]; exact hv
      have hpk := pick_any w1 R (p + 1) s.size (by omega) rd1
      clear hv
      go_wp2_with fail
      refine hpk.mono ?_
      rintro e2 w2 ⟨k, rfl, hk0, hk1, m2, rd2⟩
      obtain ⟨kn, rfl⟩ : ∃ kn : Nat, k = kn := ⟨k.toNat, by omega⟩
      have hk2 : (kn : Int) < (s.size : Int) := hk1 (by omega)
      have hk3 : (kn : Int) ≤ (s.size : Int) := by omega
      have hk4 : kn < s.size := by omega
      have m12 := m1.trans m2
      have hof := fun (V : World) (hV : V = w2.drew) => of_any V R (p + 1 + 1) A c ss (by omega) (by rw [hV]; exact rd2.drew) (by rw [hV]; exact (hx1.le m2.above).le (Le.above_le _ (Le.drew _))) hne
      have Hof := Lib.hid hof
      have Hsm := Lib.hid hsm
      have M12 := Lib.hid m12
      clear hof hsm m12 m1 m2 hpk hx1 rd1 hk1
      go_wp2_with fail
      go_region_with
        (first
          | (go_at_call 84; ((with_reducible refine (Hof.out _ rfl).mono ?_); rintro e3 w3 ⟨x, rfl, hxm, m3, rd3⟩; have hxs : x.size ≤ 1000 := (Hsm.out x hxm)))
          | (go_at_call 51; ((with_reducible refine (pick_any w3 R (p + 1 + 1 + 1) 2 (by omega) rd3).mono ?_); rintro e4 w4 ⟨j, rfl, hj0, hj1, m4, rd4⟩; have hj2 : j < 2 := (hj1 (by omega)); obtain ⟨jn, rfl⟩ : ∃ jn : Nat, j = jn := ⟨j.toNat, (by omega)⟩; have hj3 : (0 : Int) ≤ (kn : Int) + (jn : Int) := (by omega); have hj4 : (kn : Int) + (jn : Int) ≤ (s.size : Int) := (by omega); have hj5 : kn + jn ≤ s.size := (by omega); have hj6 : IntKind.i64.wrap ((kn : Int) + (jn : Int)) = (kn : Int) + (jn : Int) := (by rw [IntKind.wrap_i64]; omega); clear hj0 hj1)))
      all_goals
        have hm4 : Mv R w w4 := (show Mv R w w2.drew from M12.out.drew).trans (m3.trans m4)
        have hsz : (s.extract 0 kn ++ x ++ s.extract (kn + jn) s.size).size ≤ 2000000 := by
          rw [ByteArray.size_append, ByteArray.size_append, ByteArray.size_extract, ByteArray.size_extract]
          omega
        have Hsz := Lib.hid hsz
        clear hsz
        go_wp2_with fail
        go_ret
        exact ⟨_, _, rfl, Hsz.out, hm4, rd4, by omega⟩

/-- A text that was drawn. -/
def RetDrT (w : World) (e : Ending) (w' : World) : Prop := ∃ t : ByteArray, e = .returned (.string t) ∧ t.size ≤ 2000000 ∧ Below w.heap.size w w'
def bendL : List ByteArray := [⟨#[]⟩, ⟨#[40]⟩, ⟨#[41]⟩, ⟨#[124]⟩, ⟨#[38]⟩, ⟨#[45]⟩, ⟨#[59]⟩, ⟨#[126]⟩, ⟨#[43]⟩, ⟨#[112, 111]⟩, ⟨#[120]⟩]

set_option maxHeartbeats 1000000 in
theorem drawParse_any (w : World) (A : Option Addr) (n c : Nat) (h : Bys w A n) (hnc : n ≤ c) (hA : A = none → n = 0) : Calls Tryd.prog 33 #[.slice A n c] w (RetDrT w) := by
  have hop := open_any w A n c h hnc hA
  clear h
  go_enter Tryd.func33, Tryd.ntmps33
  go_wp2_with fail
  refine hop.mono ?_
  rintro e1 w1 ⟨R, rfl, hR, rd1, hb1⟩
  have hR1 := rd1.lt
  clear hop
  go_wp2_with fail
  refine (some_any w1 R 0 (by omega) rd1).mono ?_
  rintro e2 w2 ⟨x, A2, c2, F, p2, rfl, ho, hF, hsh, hcn, m2, rd2, hp2⟩
  have hx := ho.repK hsh.name_le
  have hB2 : Below w.heap.size w w2 := hb1.trans (m2.below hR hb1.size)
  have hct := (size_tx4 4 x hsh 0 (by omega)).2
  have hcs : (ct x).size ≤ 1000 := by omega
  have hR2 := rd2.lt
  clear ho hF m2 rd1 hct
  go_wp2_with fail
  refine (l7Text_any 4 x w2 A2 c2 hsh (by omega) hx).mono ?_
  rintro e3 w3 ⟨rfl, hb3⟩
  have rd3 := (rd2.below hb3).alloc (.cells #[.string ⟨#[]⟩, .string ⟨#[40]⟩, .string ⟨#[41]⟩, .string ⟨#[124]⟩, .string ⟨#[38]⟩, .string ⟨#[45]⟩, .string ⟨#[59]⟩, .string ⟨#[126]⟩, .string ⟨#[43]⟩, .string ⟨#[112, 111]⟩, .string ⟨#[120]⟩] 9)
  have hB3 : Below w.heap.size w w3 := hB2.trans (hb3.mono hB2.size)
  have il := Own.new w3 9 #[.string ⟨#[]⟩, .string ⟨#[40]⟩, .string ⟨#[41]⟩, .string ⟨#[124]⟩, .string ⟨#[38]⟩, .string ⟨#[45]⟩, .string ⟨#[59]⟩, .string ⟨#[126]⟩, .string ⟨#[43]⟩, .string ⟨#[112, 111]⟩, .string ⟨#[120]⟩]
  have hs3 := hb3.size
  have hil : Strs (above (R + 1) (w3.alloc (.cells #[.string ⟨#[]⟩, .string ⟨#[40]⟩, .string ⟨#[41]⟩, .string ⟨#[124]⟩, .string ⟨#[38]⟩, .string ⟨#[45]⟩, .string ⟨#[59]⟩, .string ⟨#[126]⟩, .string ⟨#[43]⟩, .string ⟨#[112, 111]⟩, .string ⟨#[120]⟩] 9))) (some ⟨w3.heap.size, 0, none⟩) 11 bendL := strs_lit bendL il (by omega) rfl (by omega) (fun i hi => by
    match i, hi with
    | 0, _ => rfl
    | 1, _ => rfl
    | 2, _ => rfl
    | 3, _ => rfl
    | 4, _ => rfl
    | 5, _ => rfl
    | 6, _ => rfl
    | 7, _ => rfl
    | 8, _ => rfl
    | 9, _ => rfl
    | 10, _ => rfl)
  have hB3' := hB3.alloc hB3.size (.cells #[.string ⟨#[]⟩, .string ⟨#[40]⟩, .string ⟨#[41]⟩, .string ⟨#[124]⟩, .string ⟨#[38]⟩, .string ⟨#[45]⟩, .string ⟨#[59]⟩, .string ⟨#[126]⟩, .string ⟨#[43]⟩, .string ⟨#[112, 111]⟩, .string ⟨#[120]⟩] 9)
  have hbend := bend_any _ R p2 (ct x) _ 11 bendL (by omega) rd3 (by omega) hil (by simp [bendL]) (fun t ht => by
    simp only [bendL, List.mem_cons, List.not_mem_nil, or_false] at ht
    rcases ht with rfl | rfl | rfl | rfl | rfl | rfl | rfl | rfl | rfl | rfl | rfl <;> decide)
  clear rd2 hb3 hx il hil rd3 hB2 hB3
  go_wp2_with fail
  refine hbend.mono ?_
  rintro e4 w4 ⟨t, p4, rfl, ht, m4, _, _⟩
  have hB4 : Below w.heap.size w w4 := hB3'.trans (m4.below hR hB3'.size)
  clear hbend m4
  go_wp2_with fail
  go_ret
  exact ⟨t, rfl, ht, hB4⟩

end Go.Proofs.YtapelogbceoojaaDoor
