/-
  The walk of spec.ExecSame.
-/
import Derived.Test.YtfgpbnncdfcjjaaGreatDoorInts
namespace Go.Proofs.YtfgpbnncdfcjjaaGreatDoor
open Go.RowKit
set_option linter.unusedVariables false
set_option maxRecDepth 100000

set_option maxHeartbeats 1000000 in
theorem specX_any (x y : Ex) (w : World) (A B A' B' : Option Addr) (c d c' d' : Nat) (hx : RepX w A c B d x) (hy : RepX w A' c' B' d' y) :
    Calls Tryz.prog 48 #[.agg #[.slice A x.from_.length c, .slice B x.order.length d], .agg #[.slice A' y.from_.length c', .slice B' y.order.length d']] w (RetB w (eqB x y)) := by
  obtain ⟨fr, ord⟩ := x
  obtain ⟨fr', ord'⟩ := y
  have He : Hid _ := eqX_iff (x := ⟨fr, ord⟩) (y := ⟨fr', ord'⟩)
  obtain ⟨hf, ho⟩ := hx
  obtain ⟨hf', ho'⟩ := hy
  simp only at hf ho hf' ho' He ⊢
  have l1 := hf.len
  have l2 := hf'.len
  have l3 := ho.len
  have l4 := ho'.len
  obtain ⟨W0, hW0⟩ : ∃ W0, W0 = ((w.alloc (.cells #[.slice A fr.length c, .slice B ord.length d] 27)).alloc (.cells #[.slice A' fr'.length c', .slice B' ord'.length d'] 27)) := ⟨_, rfl⟩
  have hb0 : Below w.heap.size w W0 := by rw [hW0]; exact (((Below.refl _ _).alloc (Nat.le_refl _) _).alloc (by simp) _)
  have oA : Own W0 w.heap.size 27 #[.slice A fr.length c, .slice B ord.length d] := by rw [hW0]; exact (Own.new _ _ _).alloc _
  have oB : Own W0 (w.heap.size + 1) 27 #[.slice A' fr'.length c', .slice B' ord'.length d'] := by rw [hW0]; simpa using Own.new (w.alloc (.cells #[.slice A fr.length c, .slice B ord.length d] 27)) 27 #[.slice A' fr'.length c', .slice B' ord'.length d']
  have HW0 := Lib.hid hW0
  clear hW0
  have cells : ∀ W, Below W0.heap.size W0 W → W.cell? ⟨w.heap.size, 0, none⟩ = some (.slice A fr.length c) ∧ W.cell? ⟨w.heap.size, 1, none⟩ = some (.slice B ord.length d) ∧ W.cell? ⟨w.heap.size + 1, 0, none⟩ = some (.slice A' fr'.length c') ∧ W.cell? ⟨w.heap.size + 1, 1, none⟩ = some (.slice B' ord'.length d') := fun W hb =>
    ⟨(oA.under hb).cell rfl, (oA.under hb).cell rfl, (oB.under hb).cell rfl, (oB.under hb).cell rfl⟩
  have Hc := Lib.hid cells
  clear cells oA oB
  go_enter Tryz.func48, Tryz.ntmps48
  by_cases hlf : fr.length = fr'.length
  case neg =>
    have hne : ((fr.length : Int) != (fr'.length : Int)) = true := by simp; omega
    go_wp2_with fail
    go_ret
    exact ⟨ret_bool (by rw [He.out, eqB_ne_length hlf]; rfl), by rw [← HW0.out]; exact hb0⟩
  have hne : ((fr.length : Int) != (fr'.length : Int)) = false := by simp [hlf]
  have Hlf := Lib.hid hlf
  clear hlf
  by_cases hlo : ord.length = ord'.length
  case neg =>
    have hne' : ((ord.length : Int) != (ord'.length : Int)) = true := by simp; omega
    go_wp2_with fail
    go_ret
    exact ⟨ret_bool (by rw [He.out, eqB_ne_length hlo, Bool.and_false]), by rw [← HW0.out]; exact hb0⟩
  have hne' : ((ord.length : Int) != (ord'.length : Int)) = false := by simp [hlo]
  have Hlo := Lib.hid hlo
  clear hlo
  go_wp2_with fail
  rw [← HW0.out]
  -- the sources
  go_loopg [5] fr.length (fun g s5 wr => ∃ k : Nat, k ≤ fr.length ∧ g = fr.length - k ∧ s5 = .int .i64 k ∧ Hid (fr.take k = fr'.take k) ∧ Below W0.heap.size W0 wr)
  case atStart => exact ⟨0, Nat.zero_le _, rfl, rfl, rfl, Below.refl _ _⟩
  case round =>
    obtain ⟨k, hk, rfl, rfl, hpre, hb⟩ := hrel
    have hw := hb0.trans (hb.mono hb0.size)
    obtain ⟨p0, p1, q0, q1⟩ := Hc.out _ hb
    by_cases hlt : k < fr.length
    · have hlt' : k < fr'.length := by have := Hlf.out; omega
      obtain ⟨b, o, rfl, hbl, k0⟩ := (hf.le (Le.below hw)).get hlt
      obtain ⟨b', o', rfl, hbl', d0⟩ := (hf'.le (Le.below hw)).get hlt'
      clear hf hf' ho ho' Hc
      by_cases he : fr[k] = fr'[k]
      · have heb : (fr[k] != fr'[k]) = false := by simp [he]
        have He' := Lib.hid he
        clear he
        go_wp2_with fail
        go_quiet (fail)
        go_wp2_with fail
        go_roundg (fr.length - (k + 1))
        case measure => omega
        case rel => exact ⟨k + 1, by omega, rfl, by go_num, take_eq_of' hlt hlt' hpre.out He'.out, below_drewN hb _⟩
      · have heb : (fr[k] != fr'[k]) = true := by simp [he]
        go_wp2_with fail
        go_quiet (fail)
        go_wp2_with fail
        go_ret
        refine ⟨ret_bool ?_, below_drewN hw _⟩
        rw [He.out, eqB_false.2 (fun e => he (by simp only [e]))]
        rfl
    · obtain rfl : k = fr.length := by omega
      have Hff := Lib.hid (eq_of_take Hlf.out hpre.out)
      go_wp2_with fail
      clear p0 p1 q0 q1 hpre hf hf'
      -- the orders
      obtain ⟨w1, rfl⟩ : ∃ w1 : World, w1 = wr := ⟨_, rfl⟩
      go_loopg [6, 7] ord.length (fun g s6 s7 wr => ∃ k : Nat, k ≤ ord.length ∧ g = ord.length - k ∧ s6 = .int .i64 k ∧ Hid (ord.take k = ord'.take k) ∧ Below W0.heap.size W0 wr)
      case atStart => exact ⟨0, Nat.zero_le _, rfl, rfl, rfl, hb⟩
      case round =>
        clear hb hw
        obtain ⟨k, hk, rfl, rfl, hpre, hb⟩ := hrel
        have hw := hb0.trans (hb.mono hb0.size)
        obtain ⟨p0, p1, q0, q1⟩ := Hc.out _ hb
        by_cases hlt : k < ord.length
        · have hlt' : k < ord'.length := by have := Hlo.out; omega
          obtain ⟨b, o, A1, c1, rfl, hbl, k0, hre⟩ := (ho.le (Le.below hw)).get hlt
          obtain ⟨b', o', A2, c2, rfl, hbl', d0, hre'⟩ := (ho'.le (Le.below hw)).get hlt'
          have l5 := hre.len
          have l6 := hre'.len
          by_cases hlk : ord[k].length = ord'[k].length
          case neg =>
            have hnk : ((ord[k].length : Int) != (ord'[k].length : Int)) = true := by simp; omega
            clear ho ho' Hc
            go_wp2_with fail
            go_quiet (fail)
            go_wp2_with fail
            go_ret
            refine ⟨ret_bool ?_, below_drewN hw _⟩
            rw [He.out, eqB_false (a := ord).2 (fun e => hlk (by simp only [e])), Bool.and_false]
          have hnk : ((ord[k].length : Int) != (ord'[k].length : Int)) = false := by simp [hlk]
          have Hlk := Lib.hid hlk
          clear hlk
          go_wp2_with fail
          go_quiet (fail)
          go_wp2_with fail
          obtain ⟨w2, rfl⟩ : ∃ w2 : World, w2 = wr := ⟨_, rfl⟩
          go_loopg [7] ord[k].length (fun g s7 wr => ∃ j : Nat, j ≤ ord[k].length ∧ g = ord[k].length - j ∧ s7 = .int .i64 j ∧ Hid (ord[k].take j = ord'[k].take j) ∧ Below w2.heap.size w2 wr)
          case atStart => exact ⟨0, Nat.zero_le _, rfl, rfl, rfl, below_of_drewN _ _⟩
          case round =>
            obtain ⟨j, hj, rfl, rfl, hpre', hb'⟩ := hrel
            have hw' := hw.trans (hb'.mono hw.size)
            have hb'' := hb.trans (hb'.mono hb.size)
            obtain ⟨p0', p1', q0', q1'⟩ := Hc.out _ hb''
            have k0' := (Le.below hb') _ _ k0
            have d0' := (Le.below hb') _ _ d0
            clear p0 p1 q0 q1
            by_cases hjt : j < ord[k].length
            · have hjt' : j < ord'[k].length := by have := Hlk.out; omega
              obtain ⟨b2, o2, rfl, hbl2, k1⟩ := (hre.le (Le.below hb')).get hjt
              obtain ⟨b3, o3, rfl, hbl3, d1⟩ := (hre'.le (Le.below hb')).get hjt'
              have k0'' := k0'
              have d0'' := d0'
              clear hre hre' ho ho' Hc k0 d0
              by_cases he : ord[k][j] = ord'[k][j]
              · have heb : (ord[k][j] != ord'[k][j]) = false := by simp [he]
                have He' := Lib.hid he
                clear he
                go_wp2_with fail
                go_quiet (fail)
                go_wp2_with fail
                go_roundg (ord[k].length - (j + 1))
                case measure => omega
                case rel => exact ⟨j + 1, by omega, rfl, by go_num, take_eq_of' hjt hjt' hpre'.out He'.out, below_drewN hb' _⟩
              · have heb : (ord[k][j] != ord'[k][j]) = true := by simp [he]
                go_wp2_with fail
                go_quiet (fail)
                go_wp2_with fail
                go_ret
                refine ⟨ret_bool ?_, below_drewN hw' _⟩
                rw [He.out, eqB_false (a := ord).2 (fun e => he (by simp only [e])), Bool.and_false]
            · obtain rfl : j = ord[k].length := by omega
              have Hkk := Lib.hid (eq_of_take Hlk.out hpre'.out)
              clear hre hre' ho ho' Hc k0 d0
              go_wp2_with fail
              go_roundg (ord.length - (k + 1))
              case measure => omega
              case rel => exact ⟨k + 1, by omega, rfl, by go_num, take_eq_of' hlt hlt' hpre.out Hkk.out, hb''⟩
        · obtain rfl : k = ord.length := by omega
          clear ho ho' Hc
          go_wp2_with fail
          go_ret
          refine ⟨ret_bool ?_, hw⟩
          rw [He.out, eqB_iff.2 Hff.out, eqB_iff.2 (eq_of_take Hlo.out hpre.out)]
          rfl

end Go.Proofs.YtfgpbnncdfcjjaaGreatDoor
