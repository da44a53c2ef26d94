/-
  The walks of impl.AllExecs and FnExactAllExecs: it answers true.
-/
import Derived.Test.YtpadkallejfdlaaImAl
import Derived.Test.YtpadkallejfdlaaSpAll
import Derived.Test.YtpadkallejfdlaaOwM
import Derived.Test.YtpadkallejfdlaaLawEv
namespace Go.Proofs.Ytpadkallejfdlaa
open Go.RowKit
set_option linter.unusedVariables false
set_option maxRecDepth 100000

set_option maxHeartbeats 1000000 in
theorem implAll_any (p : Prg) (hl : p.length ≤ 1048576) (hls : ∀ t ∈ p, t.length ≤ 1048576) (w : World) (v : Value) (hr : PrgS w v p) : Calls Try.prog 22 #[v] w (RetOwXs w (allO p)) := by
  have hpv := implPrg_any p hl hls w v hr
  obtain ⟨A, c, rfl, _⟩ := hr.slice
  clear hls
  go_enter Try.func22, Try.ntmps22
  cases hv : prgB p
  · rw [hv] at hpv
    have He : Hid (allO p = []) := by show _ = _; unfold allO; rw [if_neg (by rw [hv]; decide)]
    clear hv
    go_wp2_with fail
    refine hpv.mono ?_
    rintro e1 w1 ⟨rfl, hb1⟩
    clear hpv
    go_wp2_with fail
    go_ret
    refine ⟨_, [], rfl, ?_, List.nodup_nil, (fun b hb => by cases hb), hb1⟩
    rw [He.out]
    exact OwRow.nil
  · rw [hv] at hpv
    have hs := prgB_iff.1 hv
    have He : Hid (allO p = cands (evs p)) := by show _ = _; unfold allO; rw [if_pos hv]
    have Hs := Lib.hid hs
    clear hv hs
    go_wp2_with fail
    refine hpv.mono ?_
    rintro e1 w1 ⟨rfl, hb1⟩
    clear hpv
    go_wp2_with fail
    refine (imAll_any p Hs.out w1 _ (PrgS.le hr (Le.below hb1))).mono ?_
    rintro e2 w2 ⟨u, F, rfl, ho, hn, hF, hb2⟩
    have Ho := Lib.hid ho
    clear ho
    go_wp2_with fail
    go_ret
    refine ⟨u, F, rfl, ?_, hn, fun b hb => Nat.le_trans hb1.size (hF b hb), hb1.trans (hb2.mono hb1.size)⟩
    rw [He.out]
    exact Ho.out

theorem wSum_le_mul {α : Type} (f : α → Nat) (n : Nat) : ∀ xs : List α, (∀ x ∈ xs, f x ≤ n) → wSum f xs ≤ xs.length * n
  | [], _ => by simp [wSum]
  | x :: xs, h => by
    have h1 := h x (by simp)
    have h2 := wSum_le_mul f n xs fun y hy => h y (List.mem_cons_of_mem _ hy)
    rw [wSum, List.length_cons, Nat.add_mul, Nat.one_mul]
    omega
theorem mem_allO {p : Prg} {x : Ex} : x ∈ allO p ↔ CandOk p x := by
  unfold allO
  by_cases h : prgB p = true
  · rw [if_pos h]
    exact mem_cands (prgB_iff.1 h)
  · rw [if_neg h]
    exact ⟨(fun hm => by cases hm), fun hx => absurd (prgB_iff.2 hx.1) h⟩
theorem cand_wt {p : Prg} {x : Ex} (h : CandOk p x) : wtX x ≤ 15 + 3 * 7 := by
  obtain ⟨hp, hf, ho⟩ := h
  have h3 := few3 hp
  have h1 := hf.1
  have h2 := h3.len
  have h4 : wSum List.length x.order ≤ x.order.length * 7 := wSum_le_mul _ _ _ fun o hm => by
    obtain ⟨l, hl, rfl⟩ := List.getElem_of_mem hm
    have hl3 : l < 3 := by have := ho.1; omega
    have h5 := (ho.2 l hl3).1.length_eq
    rw [show x.order.getD l [] = x.order[l] by simp [hl]] at h5
    have := h3.pm l (by omega)
    omega
  have := ho.1
  unfold wtX
  omega
theorem all_small (p : Prg) : wSum wtX (allO p) ≤ 3000 * 36 := by
  have h1 : (allO p).length ≤ 3000 := by
    unfold allO
    by_cases h : prgB p = true
    · rw [if_pos h]
      unfold cands
      rw [flatMap_len _ (orders (evs p)).length (fun f => by rw [List.length_map])]
      exact (few3 (prgB_iff.1 h)).all
    · rw [if_neg h]; simp
  have h2 := wSum_le_mul wtX 36 (allO p) fun x hx => cand_wt (mem_allO.1 hx)
  exact Nat.le_trans h2 (Nat.mul_le_mul_right _ h1)

set_option maxHeartbeats 4000000 in
theorem lawAE_walk (p : Prg) (w : World) (v : Value) (hr : PrgS w v p) : Calls Try.prog 5 #[v] w (RetB w true) := by
  obtain ⟨A, c, rfl, hlen⟩ := hr.slice
  go_enter Try.func5, Try.ntmps5
  go_wp2_with fail
  refine (szInsSS_any p _ A c 1048576 hr (by omega) (by omega)).mono ?_
  rintro e1 w1 ⟨rfl, hb1⟩
  by_cases hfit : ((p.length + wSum List.length p : Nat) : Int) ≤ 1048576
  · rw [restI_le hfit]
    have hl : p.length ≤ 1048576 := by omega
    have hls : ∀ t ∈ p, t.length ≤ 1048576 := fun t ht => by have := wSum_mem List.length ht; omega
    have Hls := Lib.hid hls
    clear hls
    have hr1 := PrgS.le hr (Le.below hb1)
    go_wp2_with fail
    refine (toInsSS_any p hl Hls.out _ A c hr1).mono ?_
    rintro e2 w2 ⟨v2, F2, rfl, ho2, _, _, hb2⟩
    have hB2 := hb1.trans (hb2.mono hb1.size)
    go_wp2_with fail
    refine (specAll_any p hl _ _ ho2.prgS0).mono ?_
    rintro e3 w3 ⟨A3, c3, rfl, hev3', hb3⟩
    have hev3 : ExS w3 (.slice A3 (allO p).length c3) (allO p) := ExS.le hev3' (Le.above _ _)
    have hB3 := hB2.trans (hb3.mono hB2.size)
    have hr3 := PrgS.le hr (Le.below hB3)
    have hle := all_small p
    have hwt : wSum wtIs p ≤ 4 * 1048576 := by
      rw [wtIs_small]
      omega
    clear ho2 hb2 hb3 hr1
    go_wp2_with fail
    refine (toInsSS_any p hl Hls.out _ A c hr3).mono ?_
    rintro e4 w4 ⟨v4, F4, rfl, ho4, hn4, hF4, hb4⟩
    have hB4 := hB3.trans (hb4.mono hB3.size)
    have hL4 := ho4.lt pinsS_loc
    go_wp2_with fail
    refine (implAll_any p hl Hls.out _ _ ho4.prgS0).mono ?_
    rintro e5 w5 ⟨v5, F5, rfl, ho5, hn5, hF5, hb5⟩
    have hB5 := hB4.trans (hb5.mono hB4.size)
    have hev5 := ExS.le hev3 ((Le.below hb4).trans (Le.below hb5))
    have ho45 : OwPr w5 v4 p F4 := ho4.below pinsS_loc hb5
    go_wp2_with fail
    refine (eqXS_any (allO p) _ _ _ ho5.exS0 hev5).mono ?_
    rintro e6 w6 ⟨rfl, hb6⟩
    have hB6 := hB5.trans (hb6.mono hB5.size)
    have ho46 : OwPr w6 v4 p F4 := ho45.below pinsS_loc hb6
    have ho56 : OwXs w6 v5 (allO p) F5 := ho5.below px_loc hb6
    have hev6 := ExS.le hev5 (Le.below hb6)
    have hr6 := PrgS.le hr (Le.below hB6)
    clear hev5 ho45 ho5 ho4 hr3
    go_wp2_with fail
    refine (toInsSS_any p hl Hls.out _ A c hr6).mono ?_
    rintro e7 w7 ⟨v7, F7, rfl, ho7, _, _, hb7⟩
    have hB7 := hB6.trans (hb7.mono hB6.size)
    have ho47 : OwPr w7 v4 p F4 := ho46.below pinsS_loc hb7
    go_wp2_with fail
    refine (eqInsSS_any p _ _ _ ho47.prgS0 ho7.prgS0).mono ?_
    rintro e8 w8 ⟨rfl, hb8⟩
    have hB8 := hB7.trans (hb8.mono hB7.size)
    have ho48 : OwPr w8 v4 p F4 := ho47.below pinsS_loc hb8
    have ho58 : OwXs w8 v5 (allO p) F5 := (ho56.below px_loc hb7).below px_loc hb8
    have hev8 := ExS.le hev6 ((Le.below hb7).trans (Le.below hb8))
    clear ho46 ho47 ho56 hev6 ho7 hr6
    obtain ⟨M, hM⟩ : ∃ M : Nat, M = 1 + wSum wtIs p := ⟨_, rfl⟩
    have Mk1 : Hid (Calls Try.prog 15 #[v4, .int .i64 1] w8 (fun e w' => e = .returned (.int .i64 (M : Int)) ∧ MvO F4 w8 w')) := by
      rw [hM]
      exact (markInsSS_any p w8 v4 F4 1 ho48 hn4 (by omega)).mono fun e w' h => ⟨h.1, h.2.2⟩
    have bM : decide ((M : Int) < 0) = false := by rw [decide_eq_false_iff_not]; omega
    clear hwt hM ho48
    go_wp2_with fail
    refine Mk1.out.mono ?_
    rintro e9 w9 ⟨rfl, m9⟩
    have hB9 : Below w.heap.size w w9 := hB8.trans (m9.below (fun b hb => Nat.le_trans hB3.size (hF4 b hb)) hB8.size)
    have ho59 : OwXs w9 v5 (allO p) F5 := ho58.move px_loc fun b hm => m9.block b (ho58.lt px_loc b hm) fun h4 => by
      have := hF5 b hm
      have := hL4 b h4
      omega
    have hL9 : Le w3 w9 := fun a x hc => m9.cell (((Le.below hb4).trans ((Le.below hb5).trans ((Le.below hb6).trans ((Le.below hb7).trans (Le.below hb8))))) a x hc) fun h4 => by
      have := hF4 _ h4
      have := World.block_lt_of_cell? _ _ hc
      omega
    have hev9 : ExS w9 (.slice A3 (allO p).length c3) (allO p) := ExS.le hev3 hL9
    clear ho58 Mk1 hev8
    go_wp2_with fail
    refine (eqXS_any (allO p) _ _ _ ho59.exS0 hev9).mono ?_
    rintro e10 w10 ⟨rfl, hb10⟩
    have hB10 := hB9.trans (hb10.mono hB9.size)
    have ho5x : OwXs w10 v5 (allO p) F5 := ho59.below px_loc hb10
    obtain ⟨N, hN⟩ : ∃ N : Nat, N = 1 + wSum wtX (allO p) := ⟨_, rfl⟩
    have bN : decide ((N : Int) < 0) = false := by rw [decide_eq_false_iff_not]; omega
    have Mk2 : Hid (Calls Try.prog 24 #[v5, .int .i64 1] w10 (fun e w' => e = .returned (.int .i64 (N : Int)) ∧ ExS w' v5 (mkG mkX wtX 1 (allO p)) ∧ MvO F5 w10 w')) := by
      rw [hN]
      exact (markXS_any (allO p) w10 v5 F5 1 ho5x hn5 (by omega)).mono fun e w' h => ⟨h.1, h.2.1.exS0, h.2.2⟩
    have Held : Hid (∀ (w : World), ExS w v5 (mkG mkX wtX 1 (allO p)) → Calls Try.prog 25 #[v5, .int .i64 1] w (RetHd w N)) := fun w h => by
      rw [hN]; exact heldXS_any (allO p) w _ 1 h (by omega)
    clear hN ho59 hle ho5x
    go_wp2_with fail
    refine Mk2.out.mono ?_
    rintro e11 w11 ⟨rfl, hmk, m11⟩
    have hB11 : Below w.heap.size w w11 := hB10.trans (m11.below (fun b hb => Nat.le_trans hB4.size (hF5 b hb)) hB10.size)
    have hev11 : ExS w11 (.slice A3 (allO p).length c3) (allO p) := ExS.le hev3 fun a x hc => m11.cell (Le.below hb10 a x (hL9 a x hc)) fun h5 => by
      have := hF5 _ h5
      have := hb4.size
      have := World.block_lt_of_cell? _ _ hc
      omega
    go_wp2_with fail
    refine (Held.out w11 hmk).mono ?_
    rintro e12 w12 ⟨rfl, hb12⟩
    have hB12 := hB11.trans (hb12.mono hB11.size)
    have hr12 := PrgS.le hr (Le.below hB12)
    go_wp2_with fail
    refine (toInsSS_any p hl Hls.out _ A c hr12).mono ?_
    rintro e13 w13 ⟨v13, F13, rfl, ho13, _, _, hb13⟩
    have hB13 := hB12.trans (hb13.mono hB12.size)
    go_wp2_with fail
    refine (implAll_any p hl Hls.out _ _ ho13.prgS0).mono ?_
    rintro e14 w14 ⟨v14, F14, rfl, ho14, _, _, hb14⟩
    have hB14 := hB13.trans (hb14.mono hB13.size)
    have hL14 := (Le.below hb12).trans ((Le.below hb13).trans (Le.below hb14))
    go_wp2_with fail
    refine (eqXS_any (allO p) _ _ _ ho14.exS0 (ExS.le hev11 hL14)).mono ?_
    rintro e15 w15 ⟨rfl, hb15⟩
    have hB15 := hB14.trans (hb15.mono hB14.size)
    go_wp2_with fail
    refine (Held.out w15 (ExS.le hmk (hL14.trans (Le.below hb15)))).mono ?_
    rintro e16 w16 ⟨rfl, hb16⟩
    have hB16 := hB15.trans (hb16.mono hB15.size)
    go_wp2_with fail
    go_ret
    exact ⟨rfl, hB16⟩
  · rw [restI_gt (Int.not_le.1 hfit)]
    go_wp2_with fail
    go_ret
    exact ⟨rfl, hb1⟩

end Go.Proofs.Ytpadkallejfdlaa
