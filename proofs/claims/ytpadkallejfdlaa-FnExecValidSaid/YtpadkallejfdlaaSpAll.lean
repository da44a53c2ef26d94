/-
  The walks of spec.l6All and spec.AllExecs.
-/
import Derived.Test.YtpadkallejfdlaaRwS
import Derived.Test.YtpadkallejfdlaaSpCp
import Derived.Test.YtpadkallejfdlaaSpOr
namespace Go.Proofs.Ytpadkallejfdlaa
open Go.RowKit
set_option linter.unusedVariables false
set_option maxRecDepth 100000

def candG (os : List (List (List Int))) (f : List Int) : List Ex := os.map fun o => ⟨f, o⟩

set_option maxHeartbeats 16000000 in
theorem spAll_any (p : Prg) (hp : PrgOk p) (w : World) (v : Value) (hr : PrgS w v p) : Calls Try.prog 47 #[v] w (RetExS w (cands (evs p))) := by
  obtain ⟨i0, hi0, hz0, hz1, hz2⟩ := info_parts Try.infoEx
  have hF := few3 hp
  have HF := Lib.hid hF
  have Hres : Hid (cands (evs p) = (froms (evs p)).flatMap (candG (orders (evs p)))) := rfl
  have Htot : Hid ((cands (evs p)).length ≤ 3000) := by
    show _ ≤ _
    unfold cands
    rw [flatMap_len _ (orders (evs p)).length (fun f => by rw [List.length_map])]
    exact hF.all
  have Hf15 : Hid (∀ f ∈ froms (evs p), f.length ≤ 15) := fun f hf => by
    have := prodL_each hf
    rw [chF_length] at this
    have := hF.len
    omega
  have Ho3 : Hid (∀ o ∈ orders (evs p), o.length ≤ 3 ∧ ∀ q ∈ o, q.length ≤ 7) := fun o ho => by
    have h1 := prodL_each ho
    rw [List.length_map, List.length_drop, List.length_range] at h1
    refine ⟨by omega, fun q hq => ?_⟩
    obtain ⟨h0, h2⟩ := (mem_orders hF.hd).1 ho
    obtain ⟨l, hl, rfl⟩ := List.getElem_of_mem hq
    have h3 := (h2 l (by omega)).1.length_eq
    rw [show o.getD l [] = o[l] by simp [hl]] at h3
    have := hF.pm l (by omega)
    omega
  obtain ⟨A, c, rfl, _⟩ := hr.slice
  clear hF
  go_enter Try.func47, Try.ntmps47
  go_wp2_with fail
  refine (l6Events_any p hp.1 _ _ hr).mono ?_
  rintro e1 w1 ⟨v1, rfl, hrow1, hb1⟩
  have hev1 : EvS w1 v1 (evs p) := EvS.le (RowEv.evS hrow1) (Le.above _ _)
  obtain ⟨A1, c1, rfl, _⟩ := SlR.slice hev1
  have hs1 := hb1.size
  have Hev1 := Lib.hid hev1
  clear hev1 hrow1
  go_wp2_with fail
  refine (spFr_any (evs p) HF.out (evs p).length 0 (by omega) _ _ _ Hev1.out).mono ?_
  rintro e2 w2 ⟨A2, c2, rfl, hfr, hb2⟩
  have hs2 := hb2.size
  rw [show prodL (chF (evs p) 0 ((evs p).drop 0)) = froms (evs p) from rfl] at hfr ⊢
  have Hfr := Lib.hid hfr
  have Hev2 : Hid (EvS w2 (.slice A1 (evs p).length c1) (evs p)) := EvS.le Hev1.out (Le.below hb2)
  clear Hev1 hfr
  go_wp2_with fail
  refine (spOr_any (evs p) HF.out 3 0 (by omega) _ _ _ Hev2.out).mono ?_
  rintro e3 w3 ⟨A3, c3, rfl, hor, hb3⟩
  have hs3 := hb3.size
  rw [show ordersF (evs p) 0 = orders (evs p) from rfl] at hor ⊢
  have hB3 : Below w.heap.size w w3 := hb1.trans ((hb2.trans (hb3.mono hs2)).mono hs1)
  have hfr3 : Intss w3 A2 c2 (froms (evs p)) := (Hfr.out.le (Le.above _ _)).le (Le.below hb3)
  have hor3 : I3 w3 A3 c3 (orders (evs p)) := hor.le (Le.above _ _)
  clear Hev2 Hfr hor hb1 hb2 hb3
  generalize froms (evs p) = fs at hfr3 Hres Hf15
  generalize orders (evs p) = os at hor3 Hres Ho3
  have hfl := hfr3.len
  have hol := hor3.len
  have hrow0 : Hid (RowX (w3.alloc (.cells #[] 50)) w3.heap.size (.slice (some ⟨w3.heap.size, 0, none⟩) 0 0) []) := RowOf.made _ (Own.new _ _ _) (Nat.le_refl _)
  go_wp2_with fail
  go_loopg [6, 7] fs.length (fun g s6 s7 wr => ∃ (i : Nat) (v : Value) (xs : List Ex), i ≤ fs.length ∧ g = fs.length - i ∧ v = s6 ∧ s7 = .int .i64 i ∧ Hid (RowX wr w3.heap.size v xs) ∧ Hid (xs = (fs.take i).flatMap (candG os)) ∧ Below w3.heap.size w3 wr)
  case atStart => exact ⟨0, _, [], Nat.zero_le _, rfl, rfl, rfl, hrow0.out, by simp [Hid], (Below.refl _ _).alloc (Nat.le_refl _) _⟩
  case round =>
    obtain ⟨wo, rfl⟩ : ∃ wo : World, wo = wr := ⟨_, rfl⟩
    obtain ⟨i, v, xs, hi, rfl, rfl, rfl, hrow, hxs, hb⟩ := hrel
    by_cases hlt : i < fs.length
    · obtain ⟨bi, oi, Ai, ci, rfl, hbi, k0, hq⟩ := hfr3.get hlt
      have h15 := Hf15.out _ (List.getElem_mem hlt)
      have Htk := Lib.hid (flatMap_take_succ (candG os) fs i hlt)
      have hPl : xs.length + (candG os fs[i]).length ≤ 3000 := by
        have h1 := flatMap_take_le (candG os) fs (i + 1)
        rw [Htk.out, ← hxs.out, List.length_append, ← Hres.out] at h1
        have := Htot.out
        omega
      have Hq := Lib.hid hq
      generalize fs[i] = f at k0 hq Hq h15 Htk hPl
      rw [candG, List.length_map] at hPl
      clear hq
      go_wp2_with fail
      go_loopg [6, 8] os.length (fun g s6 s8 wr => ∃ (j : Nat) (v : Value) (ys : List Ex), j ≤ os.length ∧ g = os.length - j ∧ v = s6 ∧ s8 = .int .i64 j ∧ Hid (RowX wr w3.heap.size v ys) ∧ Hid (ys = xs ++ (os.take j).map fun o => ⟨f, o⟩) ∧ Below w3.heap.size w3 wr)
      case atStart => exact ⟨0, v, xs, Nat.zero_le _, rfl, rfl, rfl, hrow.out, by simp [Hid], hb⟩
      case round =>
        clear hb hrow
        obtain ⟨j, v, ys, hj, rfl, rfl, rfl, hrow, hys, hb⟩ := hrel
        by_cases hjlt : j < os.length
        · obtain ⟨bj, oj, Aj, cj, rfl, hbj, j0, hjl, hrj⟩ := SlR.getSub hor3 hjlt
          have h3' := Ho3.out _ (List.getElem_mem hjlt)
          have Htj := Lib.hid (List.take_succ_eq_append_getElem hjlt)
          have hlen2 : ys.length + 1 ≤ 3000 := by rw [hys.out, List.length_append, List.length_map, List.length_take]; omega
          have hsr := hb.size
          have k1 := Le.below hb _ _ k0
          have j1 := Le.below hb _ _ j0
          have Hrx : Hid (RepX wr.drew Ai ci Aj cj ⟨f, os[j]⟩) := ⟨Hq.out.le (Le.below hb).to_drew, SlR.le' rints_le hrj (Le.below hb).to_drew⟩
          have Hcp := Lib.hid (spCp_any ⟨f, os[j]⟩ (by show f.length ≤ 1000; omega) (by show os[j].length ≤ 1000; omega) (fun q hq => by have := h3'.2 q hq; omega) wr.drew Ai Aj ci cj Hrx.out)
          generalize os[j] = rj at j0 j1 hrj Hrx h3' Htj Hcp
          have hrow' : RowOf 2 (RX (far w3.heap.size v.ownBlock wr)) wr w3.heap.size 50 v ys := hrow.out
          obtain ⟨cs, hown, hqs⟩ := hrow'
          have Hown := Lib.hid hown
          have Hqs := Lib.hid hqs
          have HK : Hid (∀ W : World, (∀ b, b < w3.heap.size → W.heap[b]? = wr.heap[b]?) → W.cell? ⟨bi, oi + i, none⟩ = some (.slice Ai f.length ci) ∧ W.cell? ⟨bj, oj + j, none⟩ = some (.slice Aj rj.length cj)) := fun W hW =>
            ⟨(World.cell?_of_block (w := wr) (hW bi hbi)).trans k1, (World.cell?_of_block (w := wr) (hW bj hbj)).trans j1⟩
          clear hrj hown hqs Hrx
          go_wp2_with fail
          go_region_held3 (fun W => W.cell? ⟨bi, oi + i, none⟩ = some (.slice Ai f.length ci) ∧ W.cell? ⟨bj, oj + j, none⟩ = some (.slice Aj rj.length cj))
            ((first | exact HK.out _ (fun b hb => rfl) | exact HK.out _ (fun b hb => hb5.block b (by simp; omega)) | exact HK.out _ (fun b hb => (Go.Deep.blk_alloc_lt _ _ _ (by omega)).trans (hb5.block b (by simp; omega))) | exact HK.out _ Hbel6))
            (first
              | (go_at_call 86; ((with_reducible refine Hcp.out.mono ?_); rintro e5 w5 ⟨A5, c5, B5, d5, rfl, hx5, hb5⟩; have s5 : wr.heap.size ≤ w5.heap.size := hb5.size; have hb5' : Below wr.heap.size wr w5 := below_of_drew hb5))
              | (refine step_append_lies _ (by rfl) _ _ _ (by rfl) w3.heap.size 50 i0 _ 2 48 Try.underlying40 hi0 hz0 hz1 hz2 rfl (by omega) v ys.length cs (by rfl) (owns_alloc (owns_of_block Hown.out (w' := w5) fun g _ _ hl => hb5'.block g hl) _) ⟨w5.heap.size, 0, none⟩ 1 1 [.slice A5 f.length c5, .slice B5 rj.length d5] (by rfl) (by rfl) (World.news_of_block (cs := #[.slice A5 f.length c5, .slice B5 rj.length d5]) (t := 50) (fr := (0, 0)) (heap_alloc_new w5 _)) (by simp [Value.oneCell']) (by omega) (by simp [maxLen]; omega) (by omega) (by simp; omega) (w5.heap.size + 1) (by simp) ?_; intro gg cap w6 hown6 hgrow6 hat6 hlt6; have Hbel6 : ∀ b, b < w3.heap.size → w6.heap[b]? = wr.heap[b]? := (fun b hb => (World.grownBy.block hgrow6 b (by simp; omega) (fun e => by have := owns_base' Hown.out e.symm; omega)).trans ((Go.Deep.blk_alloc_lt _ _ _ (by omega)).trans (hb5'.block b (by omega))))))
          have hp6 : RowX w6 w3.heap.size (.slice (some ⟨gg, 0, none⟩) (ys.length + 1) cap) (ys ++ [Ex.mk f rj]) := RowX.push Hown.out Hqs.out hb5' (by omega) hx5 hgrow6 hown6 hat6 rfl
          have hB6 : Below w3.heap.size w3 w6 := below_of_grown (hb.trans ((hb5'.alloc s5 (.cells #[.slice A5 f.length c5, .slice B5 rj.length d5] 50)).mono hsr)) hgrow6 (by simp; omega) (fun g hg => owns_base' Hown.out hg)
          clear hgrow6 hown6 hb5 hx5
          go_wp2_with fail
          go_roundg (os.length - (j + 1))
          case measure => omega
          case rel => exact ⟨j + 1, _, ys ++ [Ex.mk f rj], by omega, rfl, rfl, by go_num, hp6, (by show _ = _; rw [Htj.out, List.map_append, ← List.append_assoc, ← hys.out]; rfl), hB6⟩
        · obtain rfl : j = os.length := by omega
          rw [List.take_length] at hys
          go_wp2_with fail
          go_roundg (fs.length - (i + 1))
          case measure => omega
          case rel => exact ⟨i + 1, v, ys, by omega, rfl, rfl, by go_num, hrow.out, (by show _ = _; rw [Htk.out, ← hxs.out]; exact hys.out), hb⟩
    · obtain rfl : i = fs.length := by omega
      rw [List.take_length] at hxs
      have hx9 : ExS (above w3.heap.size wo) v xs := RowX.exS hrow.out
      obtain ⟨A9, c9, rfl, _⟩ := SlR.slice hx9
      have Hx9 : Hid (xs = cands (evs p)) := by show _ = _; rw [Hres.out]; exact hxs.out
      have HI9 := Lib.hid hx9
      clear hx9 hrow
      go_wp2_with fail
      go_ret
      rw [← Hx9.out]
      exact ⟨A9, c9, rfl, ExS.le HI9.out (Le.above_mono hB3.size _), hB3.trans (hb.mono hB3.size)⟩

/-- What AllExecs answers. -/
noncomputable def allO (p : Prg) : List Ex := if prgB p = true then cands (evs p) else []

set_option maxHeartbeats 1000000 in
theorem specAll_any (p : Prg) (hl : p.length ≤ 1048576) (w : World) (v : Value) (hr : PrgS w v p) : Calls Try.prog 21 #[v] w (RetExS w (allO p)) := by
  have hpv := specPrg_any p hl w v hr
  obtain ⟨A, c, rfl, _⟩ := hr.slice
  go_enter Try.func21, Try.ntmps21
  cases hv : prgB p
  · rw [hv] at hpv
    have He : Hid (allO p = []) := by show _ = _; unfold allO; rw [if_neg (by rw [hv]; decide)]
    clear hv
    go_wp2_with fail
    refine hpv.mono ?_
    rintro e1 w1 ⟨rfl, hb1⟩
    clear hpv
    go_wp2_with fail
    go_ret
    rw [He.out]
    exact ⟨_, _, rfl, ⟨_, _, rfl, by simp, fun i hi => absurd hi (Nat.not_lt_zero _)⟩, hb1.alloc hb1.size _⟩
  · rw [hv] at hpv
    have hs := prgB_iff.1 hv
    have He : Hid (allO p = cands (evs p)) := by show _ = _; unfold allO; rw [if_pos hv]
    have Hs := Lib.hid hs
    clear hv hs
    go_wp2_with fail
    refine hpv.mono ?_
    rintro e1 w1 ⟨rfl, hb1⟩
    clear hpv
    go_wp2_with fail
    refine (spAll_any p Hs.out w1 _ (PrgS.le hr (Le.below hb1))).mono ?_
    rintro e2 w2 ⟨A2, c2, rfl, hx, hb2⟩
    have Hx := Lib.hid hx
    clear hx
    go_wp2_with fail
    go_ret
    rw [He.out]
    exact ⟨A2, c2, rfl, ExS.le Hx.out (Le.above_mono hb1.size _), hb1.trans (hb2.mono hb1.size)⟩

end Go.Proofs.Ytpadkallejfdlaa
