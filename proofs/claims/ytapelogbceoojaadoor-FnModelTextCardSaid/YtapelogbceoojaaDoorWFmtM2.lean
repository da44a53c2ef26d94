/-
  The walks of spec.l7Model, spec.FormatModel.
-/
import Derived.Test.YtapelogbceoojaaDoorWFmtM
import Derived.Deep.RegionWith
namespace Go.Proofs.YtapelogbceoojaaDoor
open Go.RowKit
set_option linter.unusedVariables false
set_option maxRecDepth 100000

theorem keep4 {wr X : World} {b p0 p1 p2 p3 : Nat} {v0 v1 v2 v3 : Value} (h : wr.cell? ⟨b, p0, none⟩ = some v0 ∧ wr.cell? ⟨b, p1, none⟩ = some v1 ∧ wr.cell? ⟨b, p2, none⟩ = some v2 ∧ wr.cell? ⟨b, p3, none⟩ = some v3) (hb : Below wr.heap.size wr X) :
    X.cell? ⟨b, p0, none⟩ = some v0 ∧ X.cell? ⟨b, p1, none⟩ = some v1 ∧ X.cell? ⟨b, p2, none⟩ = some v2 ∧ X.cell? ⟨b, p3, none⟩ = some v3 :=
  ⟨Le.below hb _ _ h.1, Le.below hb _ _ h.2.1, Le.below hb _ _ h.2.2.1, Le.below hb _ _ h.2.2.2⟩

set_option maxHeartbeats 2000000 in
theorem l7Model_any (rs : List RU) (hm : MOk rs) (w : World) (v : Value) (hr : SlR 4 RepU w v rs) :
    Calls Tryd.prog 68 #[v] w (RetStr w (mt rs)) := by
  obtain ⟨A, c, rfl, _⟩ := hr.slice
  go_enter Tryd.func68, Tryd.ntmps68
  have hl5 := hm.2.1
  have Hok := Lib.hid hm.2.2
  clear hm
  go_wp2_with fail
  go_loopg [3, 4] rs.length (fun g s3 s4 wr => ∃ k : Nat, k ≤ rs.length ∧ g = rs.length - k ∧ s4 = .int .i64 k ∧ s3 = .string (mt (rs.take k)) ∧ Below w.heap.size w wr)
  case atStart => exact ⟨0, Nat.zero_le _, rfl, rfl, by rw [List.take_zero, mt_nil], Below.refl _ _⟩
  case round =>
    obtain ⟨k, hk, rfl, rfl, rfl, hbr⟩ := hrel
    by_cases hlt : k < rs.length
    · obtain ⟨b, o, A0, c0, rfl, hbl, k0, k1, k2, k3, hre⟩ := RepUs.get (RepUs.le hr (Le.below hbr)) hlt
      have hu := Hok.out _ (List.getElem_mem hlt)
      obtain ⟨j, hj⟩ : ∃ j : Nat, rs[k].kind = j := ⟨rs[k].kind.toNat, by have := hu.1; omega⟩
      have hj4 : (j : Int) < 4 := by have := hu.2.1; omega
      have Hj : Hid ((1 : Int) ≤ (j : Int) ∧ (j : Int) ≤ 3) := by show _ ∧ _; have := hu.1; omega
      have hpart : part rs[k] = wd (j : Int) ++ ⟨#[32]⟩ ++ ct rs[k].e := by rw [← hj]; rfl
      have hsw := size_wd (j : Int)
      have hsc : (ct rs[k].e).size ≤ 320 := by have h2 := size_ct 12 rs[k].e hu.2.2.1; have h3 := hu.2.2.2; omega
      have hsm : (mt (rs.take k)).size ≤ 3000 := by
        have := join_len (rs.take k) (fun r hr => Hok.out r (List.mem_of_mem_take hr)) (by simp; omega)
        unfold mt
        rw [ByteArray.size_mk', List.size_toArray]
        exact this
      have Hpart := Lib.hid hpart
      have ht := fun (W : World) (h : Below wr.heap.size wr W) => l7Text_any 12 rs[k].e W A0 c0 hu.2.2.1 hu.2.2.2 (hre.le (Le.below h))
      have Ht := Lib.hid ht
      rw [hj] at k0
      have k4 := And.intro k0 (And.intro k1 (And.intro k2 k3))
      have K4 := Lib.hid k4
      clear k4 hre hr hu ht hpart
      have hs4 : ¬ 9223372036854775807 < (wd (j : Int)).size + 1 + (ct rs[k].e).size := by omega
      have hs5 : ¬ 9223372036854775807 < (wd (j : Int)).size + 1 := by omega
      have hs6 : ¬ 9223372036854775807 < (wd (j : Int)).size := by omega
      have hs0 : ¬ 9223372036854775807 < (mt (rs.take k)).size + 1 := by omega
      have hs1 : ¬ 9223372036854775807 < (mt (rs.take k)).size + 1 + (wd (j : Int)).size := by omega
      have hs2 : ¬ 9223372036854775807 < (mt (rs.take k)).size + 1 + (wd (j : Int)).size + 1 := by omega
      have hs3 : ¬ 9223372036854775807 < (mt (rs.take k)).size + 1 + (wd (j : Int)).size + 1 + (ct rs[k].e).size := by omega
      by_cases hk0 : k = 0
      · subst hk0
        clear hs0 hs1 hs2 hs3 hsm hsw hsc hj
        simp only [Nat.zero_mul, Nat.add_zero] at K4 k0 k1 k2 k3
        rw [List.take_zero, mt_nil]
        go_wp2_with fail
        go_region_with (first
            | (go_at_call 72; ((with_reducible refine (l7Words_any _).mono ?_); rintro e2 w2 ⟨rfl, hws, hb2, hlt2⟩; change wr.heap.size < w2.heap.size at hlt2; have hw2 := hws _ Hj.out.1 Hj.out.2; rw [Int.toNat_natCast] at hw2; change w2.cell? ⟨wr.heap.size, j, none⟩ = _ at hw2; obtain ⟨p0, p1, p2, p3⟩ := keep4 K4.out ((Below.refl _ _).drew.trans hb2); clear hws))
            | (go_at_call 55; ((with_reducible refine (Ht.out _ ?_).mono ?_); (exact (Below.refl _ _).drew.trans hb2); rintro e3 w3 ⟨rfl, hb3⟩; obtain ⟨p0', p1', p2', p3'⟩ := keep4 K4.out (((Below.refl _ _).drew.trans hb2).trans (hb3.mono (Nat.le_of_lt hlt2))); have hw3 := Le.below hb3 _ _ hw2)))
        all_goals
          have hb4 : Below wr.heap.size wr w3 := ((Below.refl _ _).drew.trans hb2).trans (hb3.mono (Nat.le_of_lt hlt2))
          have hb5 := hbr.trans (hb4.mono hbr.size)
          clear hb2 hb3 hb4 hw2 hlt2 hw3 p0 p1 p2 p3 p0' p1' p2' p3'
          go_wp2_with fail
          go_roundg (rs.length - (0 + 1))
          case measure => omega
          case rel =>
            refine ⟨0 + 1, by omega, rfl, by go_num, ?_, hb5⟩
            rw [List.take_succ_eq_append_getElem hlt, List.take_zero, List.nil_append, mt_one, Hpart.out, nil_app]
      · have hkp : decide ((k : Int) > 0) = true := by rw [decide_eq_true_iff]; omega
        have hne : rs.take k ≠ [] := fun h => by have := congrArg List.length h; simp only [List.length_take, List.length_nil] at this; omega
        have Hne := Lib.hid hne
        clear hne
        go_wp2_with fail
        go_region_with (first
            | (go_at_call 72; ((with_reducible refine (l7Words_any _).mono ?_); rintro e2 w2 ⟨rfl, hws, hb2, hlt2⟩; change wr.heap.size < w2.heap.size at hlt2; have hw2 := hws _ Hj.out.1 Hj.out.2; rw [Int.toNat_natCast] at hw2; change w2.cell? ⟨wr.heap.size, j, none⟩ = _ at hw2; obtain ⟨p0, p1, p2, p3⟩ := keep4 K4.out ((Below.refl _ _).drew.trans hb2); clear hws))
            | (go_at_call 55; ((with_reducible refine (Ht.out _ ?_).mono ?_); (exact (Below.refl _ _).drew.trans hb2); rintro e3 w3 ⟨rfl, hb3⟩; obtain ⟨p0', p1', p2', p3'⟩ := keep4 K4.out (((Below.refl _ _).drew.trans hb2).trans (hb3.mono (Nat.le_of_lt hlt2))); have hw3 := Le.below hb3 _ _ hw2)))
        all_goals
          have hb4 : Below wr.heap.size wr w3 := ((Below.refl _ _).drew.trans hb2).trans (hb3.mono (Nat.le_of_lt hlt2))
          have hb5 := hbr.trans (hb4.mono hbr.size)
          clear hb2 hb3 hb4 hw2 hlt2 hw3 p0 p1 p2 p3 p0' p1' p2' p3'
          go_wp2_with fail
          go_roundg (rs.length - (k + 1))
          case measure => omega
          case rel =>
            refine ⟨k + 1, by omega, rfl, by go_num, ?_, hb5⟩
            rw [List.take_succ_eq_append_getElem hlt, mt_snoc _ _ Hne.out, Hpart.out, ← ByteArray.append_assoc, ← ByteArray.append_assoc]
    · have hk' : k = rs.length := by omega
      subst hk'
      rw [List.take_length]
      go_wp2_with fail
      go_ret
      exact ⟨rfl, hbr⟩

set_option maxHeartbeats 400000 in
theorem specFormatM_any (rs : List RU) (hcnt : ∀ r ∈ rs, cntE r.e ≤ 1048577) (w : World) (v : Value) (hr : SlR 4 RepU w v rs) :
    Calls Tryd.prog 34 #[v] w (RetStr w (fmtM rs)) := by
  go_enter Tryd.func34, Tryd.ntmps34
  go_wp2_with fail
  refine (specModValid_any rs hcnt _ v hr).mono ?_
  rintro e1 w1 ⟨rfl, hb⟩
  cases hv : mB rs
  · have Hv := Lib.hid hv
    clear hv
    go_wp2_with fail
    go_ret
    exact ⟨ret_str (fmtM_false Hv.out).symm, hb⟩
  · have hok := mB_iff.1 hv
    have Hv := Lib.hid hv
    clear hv
    go_wp2_with fail
    refine (l7Model_any rs hok _ v (RepUs.le hr (Le.below hb))).mono ?_
    rintro e2 w2 ⟨rfl, hb2⟩
    go_wp2_with fail
    go_ret
    exact ⟨ret_str (fmtM_true Hv.out).symm, hb.trans (hb2.mono hb.size)⟩

end Go.Proofs.YtapelogbceoojaaDoor
