/-
  laws.wmWithin; outcomes of one thread with buffers.
-/
import Derived.Test.YtahegjofooahkaaGreatSrt
import Derived.Test.YtahegjofooahkaaGreatRunB
import Derived.Test.YtahegjofooahkaaGreatWayC
namespace Go.Proofs.YtahegjofooahkaaGreat
open Go.RowKit
set_option linter.unusedVariables false
set_option maxRecDepth 100000

set_option maxHeartbeats 1000000 in
theorem wmWi_any (L M : List (List Int)) (hall : ∀ x ∈ L, x ∈ M) (W : World) (A B : Option Addr) (c d : Nat) (hI : Intss W A c L) (hJ : Intss W B d M) : Calls Tryz.prog 46 #[.slice A L.length c, .slice B M.length d] W (RetB W true) := by
  have hm := hI.len
  have HI := Lib.hid hI
  have HJ := Lib.hid hJ
  have HA := Lib.hid hall
  clear hI hJ hall
  go_enter Tryz.func46, Tryz.ntmps46
  go_wp2_with fail
  go_loopg [5] L.length (fun g s5 wr => ∃ i : Nat, i ≤ L.length ∧ g = L.length - i ∧ s5 = .int .i64 i ∧ Below W.heap.size W wr)
  case atStart => exact ⟨0, Nat.zero_le _, rfl, rfl, Below.refl _ _⟩
  case round =>
    obtain ⟨i, hi, rfl, rfl, hb⟩ := hrel
    by_cases hlt : i < L.length
    · obtain ⟨b, o', A1, c1, rfl, hb1, k0, h0⟩ := (HI.out.le (Le.below hb)).get hlt
      have hwm := wmOut_any M L[i] wr B A1 d c1 (HJ.out.le (Le.below hb)) h0
      rw [inL_iff.2 (HA.out _ (List.getElem_mem hlt))] at hwm
      generalize L[i] = x at k0 h0 hwm
      clear h0
      go_wp2_with fail
      refine hwm.mono ?_
      rintro e5 w5 ⟨rfl, hb5⟩
      have hB5 := hb.trans (hb5.mono hb.size)
      clear hwm k0
      go_wp2_with fail
      go_roundg (L.length - (i + 1))
      case measure => omega
      case rel => exact ⟨i + 1, by omega, rfl, by go_num, hB5⟩
    · obtain rfl : i = L.length := by omega
      go_wp2_with fail
      go_ret
      exact ⟨rfl, hb⟩

theorem asc_nodup {L : List (List Int)} (h : Asc L) : L.Nodup := h.imp fun h e => by rw [e, lexC_self] at h; omega
/-- Outcomes with buffers that are those of one memory. -/
theorem outB_eq {p : Prg} {sp : Bool} {L M : List (List Int)} (hp : PrgOk p) (h : IsOutB p sp L) (k : IsOut p M) (he : ∀ y, OutB p sp y → OutS p y) : L = M :=
  asc_uniq L M h.asc k.asc fun x => by
    rw [h.iff hp, k.iff hp]
    exact ⟨he x, fun h => out_sc sp hp h⟩
theorem outB_eqB {p : Prg} {L M : List (List Int)} (hp : PrgOk p) (h : IsOutB p true L) (k : IsOutB p false M) (he : ∀ y, OutB p true y → OutB p false y) : L = M :=
  asc_uniq L M h.asc k.asc fun x => by
    rw [h.iff hp, k.iff hp]
    exact ⟨he x, fun h => out_pso hp h⟩
theorem one_outB {p : Prg} {sp : Bool} (hp : PrgOk p) (h1 : p.length = 1) {L : List (List Int)} (h : IsOutB p sp L) : L.length = 1 := by
  have hi := h.iff hp
  obtain ⟨s, hs, hd⟩ := exists_done hp
  have hm : outS s ∈ L := (hi _).2 (out_sc sp hp ⟨s, hs, hd, rfl⟩)
  have hu : ∀ y ∈ L, y = outS s := fun y hy => by
    obtain ⟨u, hu, hdu, rfl⟩ := out_one hp h1 ((hi _).1 hy)
    have e1 : rkS s = wSum List.length p := by unfold rkS; rw [done_pc (reach_ok hp hs) hd, wSum_foldr]
    have e2 : rkS u = wSum List.length p := by unfold rkS; rw [done_pc (reach_ok hp hu) hdu, wSum_foldr]
    rw [one_state hp h1 _ u s hu hs e2 e1]
  have h2 := nodup_le L [outS s] (asc_nodup h.asc) fun y hy => by rw [hu y hy]; simp
  have h3 := List.length_pos_of_mem hm
  simp at h2
  omega

end Go.Proofs.YtahegjofooahkaaGreat
