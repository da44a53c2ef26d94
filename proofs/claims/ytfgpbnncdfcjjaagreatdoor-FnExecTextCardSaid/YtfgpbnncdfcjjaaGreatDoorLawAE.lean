/-
  The walks of impl.AllExecs and FnExactAllExecs: it answers true.
-/
import Derived.Test.YtfgpbnncdfcjjaaGreatDoorImAl
import Derived.Test.YtfgpbnncdfcjjaaGreatDoorSpOA
import Derived.Test.YtfgpbnncdfcjjaaGreatDoorOwM
import Derived.Test.YtfgpbnncdfcjjaaGreatDoorLawEv
namespace Go.Proofs.YtfgpbnncdfcjjaaGreatDoor
open Go.RowKit
set_option linter.unusedVariables false
set_option maxRecDepth 100000

set_option maxHeartbeats 1000000 in
theorem implAll_any (p : Prg) (hl : p.length ≤ 1048576) (hls : ∀ t ∈ p, t.length ≤ 1048576) (w : World) (v : Value) (hr : PrgS w v p) : Calls Tryz.prog 45 #[v] w (RetOwXs w (allO p)) := by
  have hpv := implPrg_any p hl hls w v hr
  obtain ⟨A, c, rfl, _⟩ := hr.slice
  clear hls
  go_enter Tryz.func45, Tryz.ntmps45
  cases hv : prgB p
  · rw [hv] at hpv
    have He : Hid (allO p = []) := by show _ = _; unfold allO; rw [if_neg (by rw [hv]; decide)]
    clear hv
    go_wp2_with fail
    refine hpv.mono ?_
    rintro e1 w1 ⟨rfl, hb1⟩
    clear hpv
    go_wp2_with fail
    go_ret
    refine ⟨_, [], rfl, ?_, List.nodup_nil, (fun b hb => by cases hb), hb1⟩
    rw [He.out]
    exact OwRow.nil
  · rw [hv] at hpv
    have hs := prgB_iff.1 hv
    have He : Hid (allO p = cands (evs p)) := by show _ = _; unfold allO; rw [if_pos hv]
    have Hs := Lib.hid hs
    clear hv hs
    go_wp2_with fail
    refine hpv.mono ?_
    rintro e1 w1 ⟨rfl, hb1⟩
    clear hpv
    go_wp2_with fail
    refine (imAll_any p Hs.out w1 _ (PrgS.le hr (Le.below hb1))).mono ?_
    rintro e2 w2 ⟨u, F, rfl, ho, hn, hF, hb2⟩
    have Ho := Lib.hid ho
    clear ho
    go_wp2_with fail
    go_ret
    refine ⟨u, F, rfl, ?_, hn, fun b hb => Nat.le_trans hb1.size (hF b hb), hb1.trans (hb2.mono hb1.size)⟩
    rw [He.out]
    exact Ho.out

theorem wSum_le_mul {α : Type} (f : α → Nat) (n : Nat) : ∀ xs : List α, (∀ x ∈ xs, f x ≤ n) → wSum f xs ≤ xs.length * n
  | [], _ => by simp [wSum]
  | x :: xs, h => by
    have h1 := h x (by simp)
    have h2 := wSum_le_mul f n xs fun y hy => h y (List.mem_cons_of_mem _ hy)
    rw [wSum, List.length_cons, Nat.add_mul, Nat.one_mul]
    omega
theorem mem_allO {p : Prg} {x : Ex} : x ∈ allO p ↔ CandOk p x := by
  unfold allO
  by_cases h : prgB p = true
  · rw [if_pos h]
    exact mem_cands (prgB_iff.1 h)
  · rw [if_neg h]
    exact ⟨(fun hm => by cases hm), fun hx => absurd (prgB_iff.2 hx.1) h⟩
theorem cand_wt {p : Prg} {x : Ex} (h : CandOk p x) : wtX x ≤ 15 + 3 * 7 := by
  obtain ⟨hp, hf, ho⟩ := h
  have h3 := few3 hp
  have h1 := hf.1
  have h2 := h3.len
  have h4 : wSum List.length x.order ≤ x.order.length * 7 := wSum_le_mul _ _ _ fun o hm => by
    obtain ⟨l, hl, rfl⟩ := List.getElem_of_mem hm
    have hl3 : l < 3 := by have := ho.1; omega
    have h5 := (ho.2 l hl3).1.length_eq
    rw [show x.order.getD l [] = x.order[l] by simp [hl]] at h5
    have := h3.pm l (by omega)
    omega
  have := ho.1
  unfold wtX
  omega
theorem all_small (p : Prg) : wSum wtX (allO p) ≤ 3000 * 36 := by
  have h1 : (allO p).length ≤ 3000 := by
    unfold allO
    by_cases h : prgB p = true
    · rw [if_pos h]
      unfold cands
      rw [flatMap_len _ (orders (evs p)).length (fun f => by rw [List.length_map])]
      exact (few3 (prgB_iff.1 h)).all
    · rw [if_neg h]; simp
  have h2 := wSum_le_mul wtX 36 (allO p) fun x hx => cand_wt (mem_allO.1 hx)
  exact Nat.le_trans h2 (Nat.mul_le_mul_right _ h1)

end Go.Proofs.YtfgpbnncdfcjjaaGreatDoor
