/-
  The reference's states: l3Start.
-/
import Derived.Test.YtcckflijaolnkaaS3D
namespace Go.Proofs.Ytcckflijaolnkaa
open Go.RowKit
set_option linter.unusedVariables false
set_option maxRecDepth 100000

theorem madeCells_rep (z : Value) (n : Nat) : (madeCells #[z] n).toList = List.replicate n z := by
  unfold madeCells
  refine List.ext_getElem (by simp) fun i h1 h2 => ?_
  simp only [Array.toList_map, List.getElem_map, List.getElem_replicate]
  have : (Array.range n).toList[i]'(by simpa using h1) % 1 = 0 := Nat.mod_one _
  simp [Nat.mod_one]
theorem rowI_own {w : World} {g B : Nat} {xs : List Int} {cur : Array Value} (ho : Own w g 3 cur) (hc : cur.toList = xs.map (Value.int .i64)) (hB : B ≤ g) (hl : xs.length ≤ 1000000) : RowI w B (.slice (some ⟨g, 0, none⟩) xs.length xs.length) xs :=
  row_of_map ⟨by simp, .inr ⟨g, xs.length, cur, rfl, hB, ho, Nat.le_refl _, by simp [maxLen]; omega, by have := congrArg List.length hc; simpa using this, by rw [hc, Nat.mul_one, List.take_of_length_le (by simp)]⟩⟩
theorem hasI_made {w : World} {B n : Nat} (hB : B ≤ w.heap.size) (hn : n ≤ 1000000) : HasI B (List.replicate n 0) (w.alloc (.cells (madeCells #[.int .i64 0] n) 3)) (.slice (some ⟨w.heap.size, 0, none⟩) n n) := by
  have h := rowI_own (B := B) (xs := List.replicate n 0) (Own.new w 3 (madeCells #[.int .i64 0] n)) (by rw [madeCells_rep]; simp) hB (by simpa using hn)
  refine ⟨some ⟨w.heap.size, 0, none⟩, n, by rw [List.length_replicate], ?_⟩
  rw [List.length_replicate] at h ⊢
  exact h
/-- The state before a program of n threads with b buffers. -/
def s30 (n b : Nat) : S3 := ⟨List.replicate n 0, List.replicate (n * 3) 0, [0, 0, 0], List.replicate b []⟩
def TSt (Ap : Option Addr) (cp n V : Nat) (d : Nat) (w : World) (v : Value) : Prop :=
  match d with
  | 6 => v = .slice Ap n cp
  | 7 => v = .int .i64 n
  | 8 => HasI V (List.replicate n 0) w v
  | 9 => v = .slice Ap n cp
  | 10 => v = .int .i64 n
  | 11 => v = .int .i64 ((n * 3 : Nat) : Int)
  | 12 => HasI V (List.replicate (n * 3) 0) w v
  | 13 => HasI V [0, 0, 0] w v
  | 14 => ∃ v1 v2 v3, v = .agg #[v1, v2, v3, .slice none 0 0] ∧ HasI V (List.replicate n 0) w v1 ∧ HasI V (List.replicate (n * 3) 0) w v2 ∧ HasI V [0, 0, 0] w v3
  | 5 => HasB V 71 #[.slice none 0 0, .slice none 0 0, .slice none 0 0, .slice none 0 0] w v
  | _ => True
def clSt (d : Nat) : Nat :=
  match d with
  | 5 => 1 | _ => 0
theorem tst_nx {Ap : Option Addr} {cp n V : Nat} : ∀ d w w' v, Nx w w' → TSt Ap cp n V d w v → TSt Ap cp n V d w' v := fun d w w' v hb h => by
  unfold TSt at h ⊢
  split at h <;> first | exact h | exact HasI.nx hb h | exact HasB.nx hb h | (obtain ⟨v1, v2, v3, e, h1, h2, h3⟩ := h; exact ⟨v1, v2, v3, e, h1.nx hb, h2.nx hb, h3.nx hb⟩) | trivial
theorem tst_blk {Ap : Option Addr} {cp n V : Nat} : ∀ d w v b, TSt Ap cp n V d w v → clSt d ≠ 0 → blkV v = some b → b < w.heap.size := fun d w v b h hc hb => by
  unfold TSt at h
  split at h <;> first | exact HasI.blk h hb | exact HasB.blk h hb | exact absurd rfl hc | (exfalso; revert hc; unfold clSt; split <;> simp_all)

set_option maxHeartbeats 4000000 in
theorem l3Start_any (p : Prg) (hp : p.length ≤ 1000) (b : Nat) (hb1000 : b ≤ 1000) (W : World) (vp : Value) (hpr : PrgS W vp p) :
    Calls Try.prog 52 #[vp, .int .i64 b] W (RetS4 W (s30 p.length b)) := by
  obtain ⟨Ap, cp, rfl, hpl⟩ := SlR.slice hpr
  have hmk1 := run_make_any (P := Try.prog) 35 3 _ 1 8 Try.underlying35 Try.infoInt p.length (by omega) (by omega)
  have hmk2 := run_make_any (P := Try.prog) 35 3 _ 1 8 Try.underlying35 Try.infoInt (p.length * 3) (by omega) (by omega)
  have hmk3 := run_make_any (P := Try.prog) 35 3 _ 1 8 Try.underlying35 Try.infoInt 3 (by omega) (by omega)
  have hmk4 := run_make_any (P := Try.prog) 29 35 _ 1 24 Try.underlying29 Try.infoInts b (by omega) (by omega)
  obtain ⟨V, hV⟩ : ∃ V, V = W.alloc (.cells #[.slice none 0 0, .slice none 0 0, .slice none 0 0, .slice none 0 0] 71) := ⟨_, rfl⟩
  have hB : Below W.heap.size W V := by rw [hV]; exact (Below.refl _ _).alloc (Nat.le_refl _) _
  have hVs : V.heap.size = W.heap.size + 1 := by rw [hV]; simp
  have oR : Own V W.heap.size 71 #[.slice none 0 0, .slice none 0 0, .slice none 0 0, .slice none 0 0] := by rw [hV]; exact Own.new _ _ _
  have HV := Lib.hid (And.intro hVs oR)
  obtain ⟨n, hn⟩ : ∃ n, n = p.length := ⟨_, rfl⟩
  rw [← hn] at hp hmk1 hmk2 ⊢
  have hmkb : ∀ w, (Instr.makeSlice 35 (.int .i64 ((n : Int) * 3)) (.int .i64 ((n : Int) * 3))).run Try.prog w = .ok (.slice (some ⟨w.heap.size, 0, none⟩) (n * 3) (n * 3)) (w.alloc (.cells (madeCells #[.int .i64 0] (n * 3)) 3)) := fun w => by
    have h := hmk2 w
    rw [show ((n * 3 : Nat) : Int) = (n : Int) * 3 by omega, Nat.mul_one] at h
    exact h
  have hmkc : ∀ w, (Instr.makeSlice 35 (.int .i64 3) (.int .i64 3)).run Try.prog w = .ok (.slice (some ⟨w.heap.size, 0, none⟩) 3 3) (w.alloc (.cells (madeCells #[.int .i64 0] 3) 3)) := fun w => hmk3 w
  have hmka : ∀ w, (Instr.makeSlice 35 (.int .i64 (n : Int)) (.int .i64 (n : Int))).run Try.prog w = .ok (.slice (some ⟨w.heap.size, 0, none⟩) n n) (w.alloc (.cells (madeCells #[.int .i64 0] n) 3)) := fun w => by
    have h := hmk1 w
    rw [Nat.mul_one] at h
    exact h
  have hmkd : ∀ w, (Instr.makeSlice 29 (.int .i64 (b : Int)) (.int .i64 (b : Int))).run Try.prog w = .ok (.slice (some ⟨w.heap.size, 0, none⟩) b b) (w.alloc (.cells (madeCells #[.slice none 0 0] b) 35)) := fun w => by
    have h := hmk4 w
    rw [Nat.mul_one] at h
    exact h
  clear hmk1 hmk2 hmk3 hmk4
  clear hVs oR hpr hn hpl
  go_enter Try.func52, Try.ntmps52
  go_upto_region 1 with (fail)
  rw [← hV]
  clear hV
  refine wp_region_rel [0, 1, 2, 3, 4, 5, 6, 7, 8, 9] [10] (TSt Ap cp n V.heap.size) clSt [6, 7, 8, 9, 10, 11, 12, 13, 14, 5] (by kernel_rfl) (by kernel_rfl) rfl (by simp) tst_nx tst_blk ?_ ?_
  · refine ⟨?_, ?_, ?_, ?_, ?_, ?_, ?_, ?_, ?_, ?_, trivial⟩
    all_goals (intro xs w hw hdep hsep; have hVw : V.heap.size ≤ w.heap.size := Nx.sz hw; simp only [shpA, fillL, List.contains_cons, List.contains_nil, Nat.reduceAdd, Nat.reduceBEq, Bool.or_false, Bool.or_true, Bool.false_eq_true, ↓reduceIte])
    · go_wp2_with fail
      exact RelPost.mk (Nx.refl _) _ rfl rfl rfl
    · have e1 : xs 6 = .slice Ap n cp := hdep 6 (List.mem_of_elem_eq_true (by kernel_rfl))
      rw [e1]
      go_wp2_with fail
      exact RelPost.mk (Nx.refl _) _ rfl rfl rfl
    · have e1 : xs 7 = .int .i64 n := hdep 7 (List.mem_of_elem_eq_true (by kernel_rfl))
      rw [e1]
      go_wp2_with fail
      exact RelPost.mk ((Below.refl _ _).alloc (Nat.le_refl _) _) _ rfl (hasI_made (n := n) hVw (by omega)) rfl
    · go_wp2_with fail
      exact RelPost.mk (Nx.refl _) _ rfl rfl rfl
    · have e1 : xs 9 = .slice Ap n cp := hdep 9 (List.mem_of_elem_eq_true (by kernel_rfl))
      rw [e1]
      go_wp2_with fail
      exact RelPost.mk (Nx.refl _) _ rfl rfl rfl
    · have e1 : xs 10 = .int .i64 n := hdep 10 (List.mem_of_elem_eq_true (by kernel_rfl))
      rw [e1]
      go_wp2_with fail
      exact RelPost.mk (Nx.refl _) _ rfl (by show _ = _; go_num) rfl
    · have e1 : xs 11 = .int .i64 ((n * 3 : Nat) : Int) := hdep 11 (List.mem_of_elem_eq_true (by kernel_rfl))
      rw [e1]
      go_wp2_with fail
      exact RelPost.mk ((Below.refl _ _).alloc (Nat.le_refl _) _) _ rfl (hasI_made (n := n * 3) hVw (by omega)) rfl
    · go_wp2_with fail
      exact RelPost.mk ((Below.refl _ _).alloc (Nat.le_refl _) _) _ rfl (hasI_made (n := 3) hVw (by omega)) rfl
    · obtain ⟨A8, c8, e8, r8⟩ : HasI V.heap.size (List.replicate n 0) w (xs 8) := hdep 8 (List.mem_of_elem_eq_true (by kernel_rfl))
      obtain ⟨A12, c12, e12, r12⟩ : HasI V.heap.size (List.replicate (n * 3) 0) w (xs 12) := hdep 12 (List.mem_of_elem_eq_true (by kernel_rfl))
      obtain ⟨A13, c13, e13, r13⟩ : HasI V.heap.size [0, 0, 0] w (xs 13) := hdep 13 (List.mem_of_elem_eq_true (by kernel_rfl))
      rw [List.length_replicate] at e8 e12
      rw [e8, e12, e13]
      go_wp2_with fail
      exact RelPost.mk (Nx.refl _) _ rfl ⟨_, _, _, rfl, ⟨A8, c8, by rw [List.length_replicate], r8⟩, ⟨A12, c12, by rw [List.length_replicate], r12⟩, ⟨A13, c13, rfl, r13⟩⟩ rfl
    · go_wp2_with fail
      exact RelPost.own ((Below.refl _ _).alloc (Nat.le_refl _) _) _ rfl ⟨w.heap.size, rfl, Own.new w _ _, hVw⟩ (fun b hb => .inl (by injection hb with hb; simp only at hb; omega))
  intro xs w5 hw5 hT hsep
  obtain ⟨T, eT, oT, hT0⟩ : HasB V.heap.size 71 #[.slice none 0 0, .slice none 0 0, .slice none 0 0, .slice none 0 0] w5 (xs 5) := hT 5 (List.mem_of_elem_eq_true (by kernel_rfl))
  obtain ⟨v1, v2, v3, e14, ⟨A8, c8, rfl, r8⟩, ⟨A12, c12, rfl, r12⟩, ⟨A13, c13, rfl, r13⟩⟩ : ∃ v1 v2 v3, xs 14 = .agg #[v1, v2, v3, .slice none 0 0] ∧ HasI V.heap.size (List.replicate n 0) w5 v1 ∧ HasI V.heap.size (List.replicate (n * 3) 0) w5 v2 ∧ HasI V.heap.size [0, 0, 0] w5 v3 := hT 14 (List.mem_of_elem_eq_true (by kernel_rfl))
  have hbw := nx_below hw5
  simp only [List.length_replicate] at e14 r8 r12
  show wpList _ _ _ [_] _ _
  simp only [shpA, fillL, List.contains_cons, List.contains_nil, Nat.reduceAdd, Nat.reduceBEq, Bool.or_false, Bool.or_true, Bool.false_eq_true, ↓reduceIte]
  rw [eT, e14]
  have y0 := oT.frozen 0
  have y1 := oT.frozen 1
  have y2 := oT.frozen 2
  have y3 := oT.frozen 3
  have z0 := oT.cell (i := 0) rfl
  have z1 := oT.cell (i := 1) rfl
  have z2 := oT.cell (i := 2) rfl
  have z3 := oT.cell (i := 3) rfl
  obtain ⟨w3, hw3⟩ : ∃ w3, w3 = (((w5.setCell ⟨T, 0, none⟩ (.slice A8 n c8)).setCell ⟨T, 1, none⟩ (.slice A12 (n * 3) c12)).setCell ⟨T, 2, none⟩ (.slice A13 3 c13)).setCell ⟨T, 3, none⟩ (.slice none 0 0) := ⟨_, rfl⟩
  have oT3 : Own w3 T 71 #[.slice A8 n c8, .slice A12 (n * 3) c12, .slice A13 3 c13, .slice none 0 0] := by
    rw [hw3]
    exact (((oT.set 0 (.slice A8 n c8)).set 1 (.slice A12 (n * 3) c12)).set 2 (.slice A13 3 c13)).set 3 (.slice none 0 0)
  have hB3 : Below V.heap.size V w3 := by rw [hw3]; exact (((hbw.setCell hT0 _).setCell hT0 _).setCell hT0 _).setCell hT0 _
  have hfar : ∀ b, b ≠ T → w3.heap[b]? = w5.heap[b]? := fun b hb => by
    rw [hw3]
    rw [Go.Deep.blk_setCell_other _ _ _ _ hb, Go.Deep.blk_setCell_other _ _ _ _ hb, Go.Deep.blk_setCell_other _ _ _ _ hb, Go.Deep.blk_setCell_other _ _ _ _ hb]
  have R8 : Hid (RowI w3 V.heap.size (.slice A8 n c8) (List.replicate n 0)) := r8.of_block fun g _ hg _ => hfar g (fun e => r8.ne_own oT (by decide) (by rw [hg, e]))
  have R12 : Hid (RowI w3 V.heap.size (.slice A12 (n * 3) c12) (List.replicate (n * 3) 0)) := r12.of_block fun g _ hg _ => hfar g (fun e => r12.ne_own oT (by decide) (by rw [hg, e]))
  have R13 : Hid (RowI w3 V.heap.size (.slice A13 3 c13) [0, 0, 0]) := r13.of_block fun g _ hg _ => hfar g (fun e => r13.ne_own oT (by decide) (by rw [hg, e]))
  have N8 := Lib.hid (r8.ne_own oT (by decide))
  have N12 := Lib.hid (r12.ne_own oT (by decide))
  have N13 := Lib.hid (r13.ne_own oT (by decide))
  have hTl := oT3.lt
  have hs3 : w3.heap.size = w5.heap.size := by rw [hw3]; simp
  have f3 : ∀ o, (w3.alloc o).frozen? ⟨T, 3, none⟩ = false := fun o => (oT3.alloc o).frozen 3
  have k3 : ∀ o, (w3.alloc o).cell? ⟨T, 3, none⟩ = some (.slice none 0 0) := fun o => (oT3.alloc o).cell (i := 3) rfl
  have OT3 := Lib.hid oT3
  clear hT hsep eT e14 hw5 hmka hmkb hmkc
  generalize xs 6 = u6x
  generalize xs 7 = u7x
  generalize xs 8 = u8x
  generalize xs 9 = u9x
  generalize xs 10 = u10x
  generalize xs 11 = u11x
  generalize xs 12 = u12x
  generalize xs 13 = u13x
  go_upto_region 2 with (fail)
  rw [← hw3]
  clear hw3 hfar r8 r12 r13 oT y0 y1 y2 y3 z0 z1 z2 z3 hbw oT3
  go_upto_region 3 with (fail)
  obtain ⟨w4, hw4⟩ : ∃ w4, w4 = (w3.alloc (.cells (madeCells #[.slice none 0 0] b) 35)).setCell ⟨T, 3, none⟩ (.slice (some ⟨w5.heap.size, 0, none⟩) b b) := ⟨_, rfl⟩
  rw [← hw4]
  have oT4 : Own w4 T 71 #[.slice A8 n c8, .slice A12 (n * 3) c12, .slice A13 3 c13, .slice (some ⟨w5.heap.size, 0, none⟩) b b] := by rw [hw4]; exact (OT3.out.alloc _).set 3 _
  have oG : Own w4 w5.heap.size 35 (madeCells #[.slice none 0 0] b) := by
    rw [hw4, ← hs3]
    exact (Own.new w3 35 (madeCells #[.slice none 0 0] b)).far (fun e => by simp only at e; omega) _
  have hB4 : Below V.heap.size V w4 := by rw [hw4]; exact (hB3.alloc hB3.size _).setCell hT0 _
  have hfar4 : ∀ g, g ≠ T → g < w3.heap.size → w4.heap[g]? = w3.heap[g]? := fun g hg hl => by
    rw [hw4, Go.Deep.blk_setCell_other _ _ _ _ hg]
    exact Go.Deep.blk_alloc_lt _ _ _ hl
  have S8 : Hid (RowI w4 V.heap.size (.slice A8 n c8) (List.replicate n 0)) := R8.out.of_block fun g _ hg hl => hfar4 g (fun e => N8.out (by rw [hg, e])) hl
  have S12 : Hid (RowI w4 V.heap.size (.slice A12 (n * 3) c12) (List.replicate (n * 3) 0)) := R12.out.of_block fun g _ hg hl => hfar4 g (fun e => N12.out (by rw [hg, e])) hl
  have S13 : Hid (RowI w4 V.heap.size (.slice A13 3 c13) [0, 0, 0]) := R13.out.of_block fun g _ hg hl => hfar4 g (fun e => N13.out (by have h := hg; rw [e] at h; exact h)) hl
  have hsG : V.heap.size ≤ w5.heap.size := by have := hB3.size; omega
  have q0 := oT4.cell (i := 0) rfl
  have q1 := oT4.cell (i := 1) rfl
  have q2 := oT4.cell (i := 2) rfl
  have q3 := oT4.cell (i := 3) rfl
  have hT4 := oT4.lt
  have oR4 := HV.out.2.under hB4
  have p0 := oR4.cell (i := 0) rfl
  have p1 := oR4.cell (i := 1) rfl
  have p2 := oR4.cell (i := 2) rfl
  have p3 := oR4.cell (i := 3) rfl
  have g0 := oR4.frozen 0
  have g1 := oR4.frozen 1
  have g2 := oR4.frozen 2
  have g3 := oR4.frozen 3
  have hR4 := oR4.lt
  have OG := Lib.hid oG
  clear hw4 oT4 oG hfar4 R8 R12 R13 N8 N12 N13 OT3 hTl hs3 f3 k3 hB3 oR4
  go_wp2_with fail
  refine bodyPost_ret (v := .agg #[.slice A8 n c8, .slice A12 (n * 3) c12, .slice A13 3 c13, .slice (some ⟨w5.heap.size, 0, none⟩) b b]) (by simp [results, Try.results52, go_sem, p0, p1, p2, p3]) rfl ?_
  obtain ⟨X, hX⟩ : ∃ X, X = (((w4.setCell ⟨W.heap.size, 0, none⟩ (.slice A8 n c8)).setCell ⟨W.heap.size, 1, none⟩ (.slice A12 (n * 3) c12)).setCell ⟨W.heap.size, 2, none⟩ (.slice A13 3 c13)).setCell ⟨W.heap.size, 3, none⟩ (.slice (some ⟨w5.heap.size, 0, none⟩) b b) := ⟨_, rfl⟩
  have hfar : ∀ g, V.heap.size ≤ g → X.heap[g]? = w4.heap[g]? := fun g hg => by
    have hne : g ≠ W.heap.size := by have := HV.out.1; omega
    rw [hX, Go.Deep.blk_setCell_other _ _ _ _ hne, Go.Deep.blk_setCell_other _ _ _ _ hne, Go.Deep.blk_setCell_other _ _ _ _ hne, Go.Deep.blk_setCell_other _ _ _ _ hne]
  have hWV : W.heap.size ≤ V.heap.size := hB.size
  have hbX : Below W.heap.size W X := by rw [hX]; exact ((((hB.trans (hB4.mono hB.size)).setCell (Nat.le_refl _) _).setCell (Nat.le_refl _) _).setCell (Nat.le_refl _) _).setCell (Nat.le_refl _) _
  rw [← hX]
  have key : ∀ A m c xs, RowI w4 V.heap.size (.slice A m c) xs → Ints (above W.heap.size X) A c xs := fun A m c xs h => by
    have h' : RowI X V.heap.size (.slice A m c) xs := h.of_block fun g h1 _ _ => hfar g h1
    obtain ⟨A', c', e, hI⟩ := h'.ints
    injection e with e1 e2 e3
    subst e1 e3
    exact hI.le (Le.above_mono hWV _)
  have oGX : Own X w5.heap.size 35 (madeCells #[.slice none 0 0] b) := OG.out.of_block (hfar _ hsG)
  refine ⟨A8, A12, A13, some ⟨w5.heap.size, 0, none⟩, c8, c12, c13, b, by simp [s30], ⟨key _ _ _ _ S8.out, key _ _ _ _ S12.out, key _ _ _ _ S13.out, Intss.mk (by simp [s30]; omega) fun i hi => ⟨none, 0, ?_, ?_⟩⟩, hbX⟩
  · have hi' : i < b := by simpa [s30] using hi
    have h1 : (madeCells #[Value.slice none 0 0] b)[i]? = some (.slice none 0 0) := by
      rw [← Array.getElem?_toList, madeCells_rep, List.getElem?_replicate, if_pos hi']
    rw [show 0 + i = i by omega]
    refine cell_above_of (by simp only; omega) ((oGX.cell h1).trans ?_)
    simp [s30]
  · simp only [s30, List.getElem_replicate]
    exact Ints.nil _ _

end Go.Proofs.Ytcckflijaolnkaa
