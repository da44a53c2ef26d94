/-
  The walks of impl.FormatModel, spec.l7Words, spec.l7Model, spec.FormatModel.
-/
import Derived.Test.YtapelogbceoojaaDoorWVal
import Derived.Test.YtapelogbceoojaaDoorWText
import Derived.Test.YtapelogbceoojaaDoorShelf
namespace Go.Proofs.YtapelogbceoojaaDoor
open Go.RowKit
set_option linter.unusedVariables false
set_option maxRecDepth 100000

theorem Tryd.infoS : (Tryd.prog.info? 9).map (fun i => (i.zero, i.size, i.bytes)) = some (some (.string ByteArray.empty), 1, 16) := by kernel_rfl

/-- What a cell holds. -/
def getC (W : World) (p : Addr) : Value := (W.cell? p).getD undef
theorem getC_eq {W : World} {p : Addr} {v : Value} (h : W.cell? p = some v) : W.cell? p = some (getC W p) := by unfold getC; rw [h]; rfl
/-- Five cells to be read, one to be written. -/
theorem keep5 {W W' : World} {b b0 bp j k : Nat} {v0 v1 v2 v3 v4 : Value}
    (h : W.cell? ⟨b, 0, none⟩ = some v0 ∧ W.cell? ⟨b, 1, none⟩ = some v1 ∧ W.cell? ⟨b, 2, none⟩ = some v2 ∧ W.cell? ⟨b, 3, none⟩ = some v3 ∧ W.cell? ⟨b0, j, none⟩ = some v4 ∧ W.frozen? ⟨bp, k, none⟩ = false ∧ W.cell? ⟨bp, k, none⟩ = some (getC W ⟨bp, k, none⟩)) (hb : Below W.heap.size W W') :
    W'.cell? ⟨b, 0, none⟩ = some v0 ∧ W'.cell? ⟨b, 1, none⟩ = some v1 ∧ W'.cell? ⟨b, 2, none⟩ = some v2 ∧ W'.cell? ⟨b, 3, none⟩ = some v3 ∧ W'.cell? ⟨b0, j, none⟩ = some v4 ∧ W'.frozen? ⟨bp, k, none⟩ = false ∧ W'.cell? ⟨bp, k, none⟩ = some (getC W' ⟨bp, k, none⟩) := by
  obtain ⟨h0, h1, h2, h3, h4, h5, h6⟩ := h
  have l := Le.below hb
  exact ⟨l _ _ h0, l _ _ h1, l _ _ h2, l _ _ h3, l _ _ h4, (hb.frozen (p := ⟨bp, k, none⟩) (World.block_lt_of_cell? _ _ h6)).trans h5, getC_eq (l _ _ h6)⟩
theorem keep5s {W : World} {b b0 bp j k : Nat} {v0 v1 v2 v3 v4 : Value}
    (h : W.cell? ⟨b, 0, none⟩ = some v0 ∧ W.cell? ⟨b, 1, none⟩ = some v1 ∧ W.cell? ⟨b, 2, none⟩ = some v2 ∧ W.cell? ⟨b, 3, none⟩ = some v3 ∧ W.cell? ⟨b0, j, none⟩ = some v4 ∧ W.frozen? ⟨bp, k, none⟩ = false ∧ W.cell? ⟨bp, k, none⟩ = some (getC W ⟨bp, k, none⟩)) (hb : b ≠ bp) (hb0 : b0 ≠ bp) (v : Value) :
    (W.setCell ⟨bp, k, none⟩ v).cell? ⟨b, 0, none⟩ = some v0 ∧ (W.setCell ⟨bp, k, none⟩ v).cell? ⟨b, 1, none⟩ = some v1 ∧ (W.setCell ⟨bp, k, none⟩ v).cell? ⟨b, 2, none⟩ = some v2 ∧ (W.setCell ⟨bp, k, none⟩ v).cell? ⟨b, 3, none⟩ = some v3 ∧ (W.setCell ⟨bp, k, none⟩ v).cell? ⟨b0, j, none⟩ = some v4 ∧ (W.setCell ⟨bp, k, none⟩ v).frozen? ⟨bp, k, none⟩ = false ∧ (W.setCell ⟨bp, k, none⟩ v).cell? ⟨bp, k, none⟩ = some (getC (W.setCell ⟨bp, k, none⟩ v) ⟨bp, k, none⟩) := by
  obtain ⟨h0, h1, h2, h3, h4, h5, h6⟩ := h
  have o : ∀ (b' o' : Nat), b' ≠ bp → (W.setCell ⟨bp, k, none⟩ v).cell? ⟨b', o', none⟩ = W.cell? ⟨b', o', none⟩ := fun b' o' hne => World.cell?_setCell_other W _ _ v (fun e => hne (by injection e with e1 _ _; exact e1.symm))
  exact ⟨(o _ _ hb).trans h0, (o _ _ hb).trans h1, (o _ _ hb).trans h2, (o _ _ hb).trans h3, (o _ _ hb0).trans h4, (World.frozen?_setCell _ _ _ _).trans h5, getC_eq (World.cell?_setCell_same _ _ _ h6)⟩

set_option maxHeartbeats 2000000 in
theorem formatM_any (rs : List RU) (w : World) (v : Value) (hg : GN w) (hgr : GR w) (hr : SlR 4 RepU w v rs) :
    Calls Tryd.prog 35 #[v] w (RetStr w (fmtM rs)) := by
  obtain ⟨A, c, rfl, hm⟩ := hr.slice
  go_enter Tryd.func35, Tryd.ntmps35
  go_wp2_with fail
  refine (modValid_any rs _ _ hg hr).mono ?_
  rintro e1 w1 ⟨rfl, hb⟩
  cases hv : mB rs
  · have Hv := Lib.hid hv
    clear hv
    go_wp2_with fail
    go_ret
    exact ⟨ret_str (fmtM_false Hv.out).symm, hb⟩
  · have hok := mB_iff.1 hv
    have Hv := Lib.hid hv
    clear hv
    have hl5 : rs.length ≤ 5 := hok.2.1
    have hok2 := hok.2.2
    have Hok := Lib.hid hok2
    clear hok hok2
    have hmk := run_make_any (P := Tryd.prog) 86 9 _ 1 16 Tryd.underlying86 Tryd.infoS rs.length (by omega) (by omega)
    go_wp2_with fail
    clear hmk
    go_loopg [14] rs.length (fun g s14 wr => ∃ (k : Nat) (F : Nat → Value), k ≤ rs.length ∧ g = rs.length - k ∧ s14 = .int .i64 k ∧ Below w.heap.size w wr ∧
      wr.rowIs w1.heap.size 9 rs.length F ∧ ∀ i (h : i < k) (h' : i < rs.length), F i = .string (part rs[i]))
    case atStart =>
      obtain ⟨F, hF⟩ := rowIs_made_any w1 #[.string ByteArray.empty] rs.length 9
      exact ⟨0, F, Nat.zero_le _, rfl, rfl, hb.alloc hb.size _, hF, fun i h => absurd h (Nat.not_lt_zero _)⟩
    case round =>
      obtain ⟨k, F, hk, rfl, rfl, hbr, hF, hall⟩ := hrel
      have Hall := Lib.hid hall
      clear hall
      by_cases hlt : k < rs.length
      · obtain ⟨b, o, A0, c0, rfl, hbl, k0, k1, k2, k3, hre⟩ := RepUs.get (RepUs.le hr (Le.below hbr)) hlt
        have hu := Hok.out _ (List.getElem_mem hlt)
        have hsz : (part rs[k]).size ≤ 400 := size_part hu
        have hwd := (hgr.le (Le.below hbr)).word hu.1 hu.2.1
        obtain ⟨j, hj⟩ : ∃ j : Nat, rs[k].kind = j := ⟨rs[k].kind.toNat, by have := hu.1; omega⟩
        have hj4 : (j : Int) < 4 := by have := hu.2.1; omega
        have hpart : part rs[k] = wd (j : Int) ++ ⟨#[32]⟩ ++ ct rs[k].e := by rw [← hj]; rfl
        have hsw := size_wd (j : Int)
        have hs1 : ¬ 9223372036854775807 < (wd (j : Int)).size + 1 := by omega
        have hsc : (ct rs[k].e).size ≤ 320 := by have h2 := size_ct 12 rs[k].e hu.2.2.1; have h3 := hu.2.2.2; omega
        have hs2 : ¬ 9223372036854775807 < (wd (j : Int)).size + 1 + (ct rs[k].e).size := by omega
        have Hpart := Lib.hid hpart
        have hfm := fmt_true (valB_iff.2 hu.2.2)
        have Hfm := Lib.hid hfm
        have Hu := Lib.hid hu
        clear hpart hfm hsz
        have hfa := fun (W : World) (h : Below wr.heap.size wr W) => format_any rs[k].e W A0 c0 (hg.le ((Le.below hbr).trans (Le.below h))) (hre.le (Le.below h))
        have Hfa := Lib.hid hfa
        have hgw := ((hgr.le (Le.below hb)).word hu.1 hu.2.1)
        have hwd' : wr.cell? ⟨0, j, none⟩ = some (.string (wd (j : Int))) := by rw [hj] at hwd; exact hwd
        rw [hj] at k0
        clear hwd hre hfa hr hg hgr hu
        go_wp2_with fail
        generalize hW : wr.alloc (.cells #[.int .i64 (j : Int), .int .i64 rs[k].e.op, .string rs[k].e.name, .slice A0 rs[k].e.kids.length c0] 72) = W
        have q0 : W.cell? ⟨wr.heap.size, 0, none⟩ = some (.int .i64 (j : Int)) := by rw [← hW]; simp
        have q1 : W.cell? ⟨wr.heap.size, 1, none⟩ = some (.int .i64 rs[k].e.op) := by rw [← hW]; simp
        have q2 : W.cell? ⟨wr.heap.size, 2, none⟩ = some (.string rs[k].e.name) := by rw [← hW]; simp
        have q3 : W.cell? ⟨wr.heap.size, 3, none⟩ = some (.slice A0 rs[k].e.kids.length c0) := by rw [← hW]; simp
        have q4 : W.cell? ⟨0, j, none⟩ = some (.string (wd (j : Int))) := by rw [← hW]; exact Le.alloc _ _ _ _ hwd'
        have hWb : Below wr.heap.size wr W := by rw [← hW]; exact (Below.refl _ _).alloc (Nat.le_refl _) _
        have hWs : wr.heap.size < W.heap.size := by rw [← hW]; simp
        clear hwd' k0 k1 k2 k3
        have hFW : W.rowIs w1.heap.size 9 rs.length F := hF.of_block (hWb.block _ hF.lt)
        have hall5 := And.intro q0 (And.intro q1 (And.intro q2 (And.intro q3 (And.intro q4 (And.intro (hFW.frozen k) (getC_eq (hFW.cell (i := k) (by omega))))))))
        have Hall5 := Lib.hid hall5
        have hn1 : wr.heap.size ≠ w1.heap.size := by have := hF.lt; omega
        have hn2 : 0 ≠ w1.heap.size := by have := World.block_lt_of_cell? _ _ hgw; omega
        clear q0 q1 q2 q3 q4 hall5 hW
        go_region_held3 (fun X => X.cell? ⟨wr.heap.size, 0, none⟩ = some (.int .i64 (j : Int)) ∧ X.cell? ⟨wr.heap.size, 1, none⟩ = some (.int .i64 rs[k].e.op) ∧ X.cell? ⟨wr.heap.size, 2, none⟩ = some (.string rs[k].e.name) ∧ X.cell? ⟨wr.heap.size, 3, none⟩ = some (.slice A0 rs[k].e.kids.length c0) ∧ X.cell? ⟨0, j, none⟩ = some (.string (wd (j : Int))) ∧ X.frozen? ⟨w1.heap.size, k, none⟩ = false ∧ X.cell? ⟨w1.heap.size, k, none⟩ = some (getC X ⟨w1.heap.size, k, none⟩))
          (first | exact keep5 Hall5.out (Below.refl _ _).drew | exact keep5 (keep5 Hall5.out (Below.refl _ _).drew) hb2 | exact keep5s (keep5 (keep5 Hall5.out (Below.refl _ _).drew) hb2) hn1 hn2 _)
          (first
            | (go_at_call 21; ((with_reducible refine (Hfa.out _ ?_).mono ?_); (exact hWb.drew); rintro e2 w2 ⟨rfl, hb2⟩; rw [Hfm.out])))
        have hb3 : Below wr.heap.size wr w2 := hWb.drew.trans (hb2.mono (by simp; omega))
        have hF2 : w2.rowIs w1.heap.size 9 rs.length F := hF.of_block (hb3.block _ hF.lt)
        have hb4 := hbr.trans (hb3.mono hbr.size)
        have hbs := hb.size
        clear hb2
        go_wp2_with fail
        go_roundg (rs.length - (k + 1))
        case measure => omega
        case rel =>
          refine ⟨k + 1, _, by omega, rfl, by go_num, hb4.setCell (p := ⟨w1.heap.size, k, none⟩) hbs _, hF2.set k _, fun i hi hi' => ?_⟩
          by_cases e : i = k
          · subst e
            simp only [if_true]
            rw [Hpart.out]
          · simp only [e, if_false]
            exact Hall.out i (by omega) hi'
      · have hk' : k = rs.length := by omega
        subst hk'
        have hlen : (rs.map part).length = rs.length := by simp
        have hj := Tryd.strings_Join w1.heap.size 0 rs.length (rs.map part) ⟨#[47]⟩ wr (fun j x hx => by
          obtain ⟨hj, rfl⟩ := List.getElem?_eq_some_iff.1 hx
          have hj' : j < rs.length := by simpa using hj
          rw [Nat.zero_add, hF.cell hj', Hall.out j hj' hj']
          simp) hF.lt (by simp; omega) (by simp) (by have := join_len rs Hok.out hl5; exact Nat.le_trans this (by decide))
        rw [hlen] at hj
        clear hr hg hgr hF
        go_wp2_with fail
        refine hj.mono ?_
        rintro e2 w2 ⟨rfl, hb2⟩
        have hb3 := hbr.trans (hb2.mono hbr.size)
        go_wp2_with fail
        go_ret
        exact ⟨ret_str (by rw [fmtM_true Hv.out]; unfold mt; rw [List.map_map]), hb3⟩

theorem nil_app (x : ByteArray) : (⟨#[]⟩ : ByteArray) ++ x = x := by
  apply ByteArray.ext
  simp

def RetWords (w : World) (e : Ending) (w' : World) : Prop := e = .returned (.slice (some ⟨w.heap.size, 0, none⟩) 4 4) ∧ (∀ k : Int, 1 ≤ k → k ≤ 3 → w'.cell? ⟨w.heap.size, k.toNat, none⟩ = some (.string (wd k))) ∧ Below w.heap.size w w' ∧ w.heap.size < w'.heap.size
set_option maxHeartbeats 400000 in
theorem l7Words_any (w : World) : Calls Tryd.prog 72 #[] w (RetWords w) := by
  go_enter Tryd.func72, Tryd.ntmps72
  go_wp2_with fail
  go_ret
  refine ⟨rfl, fun k h1 h3 => ?_, (Below.refl _ _).alloc (Nat.le_refl _) _, by simp⟩
  rcases kind_cases h1 h3 with rfl | rfl | rfl <;> (rw [World.cell?_alloc_new]; rfl)


end Go.Proofs.YtapelogbceoojaaDoor
