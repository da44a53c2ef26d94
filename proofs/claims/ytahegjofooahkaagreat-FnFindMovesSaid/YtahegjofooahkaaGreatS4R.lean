/-
  The reference's search with buffers: spec.l4Run walked.
-/
import Derived.Test.YtahegjofooahkaaGreatSpM
import Derived.Test.YtahegjofooahkaaGreatS4A
namespace Go.Proofs.YtahegjofooahkaaGreat
open Go.RowKit
set_option linter.unusedVariables false
set_option maxRecDepth 100000

theorem keyL_B {b : BSt} : (keyL (s3B b)).map Int.toNat = kBS b := by
  unfold keyL kBS kS s3B
  simp only [List.map_append, List.map_map, List.append_assoc]
  have h1 : List.map (Int.toNat ∘ fun n => ((n : Nat) : Int)) b.s.pc = b.s.pc := (List.map_congr_left fun n _ => by simp).trans (List.map_id _)
  have h2 : ∀ l : List (List (Int × Int)), List.map Int.toNat ((l.map flatW).flatMap bufL) = l.flatMap fun bf => 255 :: (flatW bf).map Int.toNat := fun l => by
    induction l with
    | nil => rfl
    | cons a l ih =>
      simp only [List.map_cons, List.flatMap_cons, List.map_append, ih, bufL]
      rfl
  rw [h1, h2]
theorem kyB_B {b : BSt} : kyB (s3B b) = keyBS b := by
  unfold kyB keyBS byt strOfNums
  rw [← keyL_B, List.map_map]
  rfl
theorem keyLB_by {p : Prg} {sp : Bool} (hp : PrgOk p) {b : BSt} (hb : BOk p sp b) : By (keyL (s3B b)) := fun v hv => by
  have h7 := fun t => (thr_ok hp t).1
  unfold keyL s3B at hv
  rcases List.mem_append.1 hv with hv | hv
  · rcases List.mem_append.1 hv with hv | hv
    · rcases List.mem_append.1 hv with hv | hv
      · obtain ⟨n, hn, rfl⟩ := List.mem_map.1 hv
        obtain ⟨t, ht, rfl⟩ := List.getElem_of_mem hn
        have h1 := hb.ok.pcb t
        have h2 := h7 t
        have h3 : pcS b.s t = b.s.pc[t] := by unfold pcS; rw [List.getD_eq_getElem?_getD, List.getElem?_eq_getElem ht]; rfl
        omega
      · obtain ⟨h1, h2⟩ := hb.ok.regb v hv
        omega
    · obtain ⟨h1, h2⟩ := hb.ok.memb v hv
      omega
  · obtain ⟨y, hy, hv⟩ := List.mem_flatMap.1 hv
    obtain ⟨bf, hbf, rfl⟩ := List.mem_map.1 hy
    rcases List.mem_cons.1 hv with rfl | hv
    · omega
    · unfold flatW at hv
      obtain ⟨w, hw, hv⟩ := List.mem_flatMap.1 hv
      obtain ⟨h1, h2⟩ := hb.went bf hbf w hw
      unfold In03 at h2
      simp only [List.mem_cons, List.not_mem_nil, or_false] at hv
      rcases hv with rfl | rfl <;> omega
theorem keyLB_len {p : Prg} {sp : Bool} (hp : PrgOk p) {b : BSt} (hb : BOk p sp b) : 0 < (keyL (s3B b)).length ∧ (keyL (s3B b)).length ≤ 1000 := by
  obtain ⟨h1, h2, h3, h4, h5⟩ := s4_lens hp hb
  have h6 := hp.1.1
  have key : ∀ l : List (List Int), (∀ x ∈ l, x.length ≤ 14) → (l.flatMap bufL).length ≤ 15 * l.length := fun l => by
    induction l with
    | nil => intro _; simp
    | cons a l ih =>
      intro h
      have h2 := h a (by simp)
      have h3 := ih fun bf hb => h bf (by simp [hb])
      simp only [List.flatMap_cons, List.length_append, List.length_cons, bufL]
      omega
  have h7 := key _ h5
  unfold keyL
  simp only [List.length_append]
  omega

def TSp (R go oo co Ln Vz : Nat) (ag : Value) (os : List Int) (M : List (List Int)) (P : Nat → Prop) (d : Nat) (w : World) (v : Value) : Prop :=
  match d with
  | 46 => v = .pointer (some ⟨R, 1, none⟩)
  | 47 => v = .slice (some ⟨go, oo, none⟩) Ln co
  | 48 => v = ag
  | 49 => HasI Vz os w v
  | 50 => ∃ g o c, v = .slice (some ⟨g, o, none⟩) M.length c ∧ M.length ≤ c ∧ c ≤ 9223372036854775807 ∧ Intss (hidP P w) (some ⟨g, o, none⟩) c M
  | _ => True
theorem tsp_nx {R go oo co Ln Vz : Nat} {ag : Value} {os : List Int} {M : List (List Int)} {P : Nat → Prop} : ∀ d w w' v, Nx w w' → TSp R go oo co Ln Vz ag os M P d w v → TSp R go oo co Ln Vz ag os M P d w' v := fun d w w' v hb h => by
  unfold TSp at h ⊢
  split at h <;> first | exact h | exact HasI.nx hb h | (obtain ⟨g, o, c, e, h1, h2, h3⟩ := h; exact ⟨g, o, c, e, h1, h2, h3.le (Le.hidP_below hb (fun _ _ => .inr trivial))⟩) | trivial
theorem tsp_blk {R go oo co Ln Vz : Nat} {ag : Value} {os : List Int} {M : List (List Int)} {P : Nat → Prop} : ∀ d w v b, TSp R go oo co Ln Vz ag os M P d w v → (fun _ => 0 : Nat → Nat) d ≠ 0 → blkV v = some b → b < w.heap.size := fun _ _ _ _ _ h => absurd rfl h
set_option maxHeartbeats 4000000 in
theorem l4Run_any (p : Prg) (hp : PrgOk p) (sp : Bool) (W : World) (vp : Value) (hpr : PrgS W vp p) :
    Calls Tryz.prog 50 #[vp, .bool sp] W (RetSq (sucB p sp) (bt0 p sp) (doneB p) outB W) := by
  obtain ⟨Ap, cp, rfl, hpl⟩ := SlR.slice hpr
  obtain ⟨i0, hi0, hz0, hz1, hz2⟩ := info_parts Tryz.infoS3
  have hmk := run_make_any (P := Tryz.prog) 72 99 _ 1 24 Tryz.underlying72 Tryz.infoSs 4096 (by omega) (by omega)
  have hmkT : ∀ w, (Instr.makeSlice 72 (.int .i64 4096) (.int .i64 4096)).run Tryz.prog w = .ok (.slice (some ⟨w.heap.size, 0, none⟩) 4096 4096) (w.alloc (.cells (madeCells #[.slice none 0 0] 4096) 99)) := fun w => hmk w
  obtain ⟨cur, hcur⟩ : ∃ cur, cur = madeCells #[Value.slice none 0 0] 4096 := ⟨_, rfl⟩
  have Hcur : Hid (cur.size = 4096 ∧ ∀ i, i < 4096 → cur[i]? = some (.slice none 0 0)) := by
    rw [hcur]
    exact ⟨size_madeCells _ _, fun i hi => by rw [← Array.getElem?_toList, madeCells_rep, List.getElem?_replicate, if_pos hi]⟩
  rw [← hcur] at hmkT
  clear hmk hcur
  have HP := Lib.hid hpr
  have Hp := Lib.hid hp
  have hp3 := hp.1.1
  obtain ⟨V1, hV1⟩ : ∃ V1, V1 = (W.alloc (.cells #[.int .i64 0, .slice none 0 0] 60)).alloc (.cells cur 99) := ⟨_, rfl⟩
  have hB1 : Below W.heap.size W V1 := by rw [hV1]; exact ((Below.refl _ _).alloc (Nat.le_refl _) _).alloc (by simp) _
  have hs1 : V1.heap.size = W.heap.size + 2 := by rw [hV1]; simp
  have oR1 : Own V1 W.heap.size 60 #[.int .i64 0, .slice none 0 0] := by rw [hV1]; exact (Own.new _ _ _).alloc _
  have oT1 : Own V1 (W.heap.size + 1) 99 cur := by rw [hV1]; simpa using Own.new (W.alloc (.cells #[.int .i64 0, .slice none 0 0] 60)) 99 cur
  have hst := l4Start_any p hp sp V1 (.slice Ap p.length cp) (hpr.le (Le.below hB1))
  have OR1 := Lib.hid (And.intro oR1 (And.intro oT1 hs1))
  clear hpr oR1 oT1 hp
  go_enter Tryz.func50, Tryz.ntmps50
  go_upto_region 2 with (fail)
  rw [← hV1]
  clear hV1
  go_wp2_with fail
  refine hst.mono ?_
  rintro e5 w5 ⟨A1, A2, A3, A4, c1, c2, c3, c4, rfl, hr5, hb5⟩
  clear hst hmkT
  have hok0 : BOk p sp (bt0 p sp) := BOk.start p sp
  have hby := keyLB_by Hp.out hok0
  have hkl := keyLB_len Hp.out hok0
  have Hb5 : Hid (Below V1.heap.size V1 w5) := hb5
  obtain ⟨q, hq⟩ : ∃ q, q = s3B (bt0 p sp) := ⟨_, rfl⟩
  rw [← hq] at hr5 hby hkl ⊢
  have Hq := Lib.hid hq
  clear hq hb5
  obtain ⟨w6, hw6⟩ : ∃ w6, w6 = w5.alloc (.cells #[.slice A1 q.at_.length c1, .slice A2 q.regs.length c2, .slice A3 q.mem.length c3, .slice A4 q.buf.length c4] 70) := ⟨_, rfl⟩
  have hb56 : Below w5.heap.size w5 w6 := by rw [hw6]; exact (Below.refl _ _).alloc (Nat.le_refl _) _
  have oB6 : Own w6 w5.heap.size 70 #[.slice A1 q.at_.length c1, .slice A2 q.regs.length c2, .slice A3 q.mem.length c3, .slice A4 q.buf.length c4] := by rw [hw6]; exact Own.new _ _ _
  have hs6 : w6.heap.size = w5.heap.size + 1 := by rw [hw6]; simp
  have x0 := oB6.cell (i := 0) rfl
  have x1 := oB6.cell (i := 1) rfl
  have x2 := oB6.cell (i := 2) rfl
  have x3 := oB6.cell (i := 3) rfl
  have hkey := l3Key_any q hby hkl.1 (by omega) w6 A1 A2 A3 A4 c1 c2 c3 c4 (hr5.le ((Le.above _ _).trans (Le.below hb56)))
  have OB6 := Lib.hid oB6
  have Hr5 := Lib.hid hr5
  have hl6 := oB6.lt
  have hkz : (strOfNums (keyL q)).size ≤ 1000000 := by rw [strOfNums_size]; omega
  obtain ⟨ky, hky⟩ : ∃ ky, ky = strOfNums (keyL q) := ⟨_, rfl⟩
  rw [← hky] at hkey hkz
  have Hky := Lib.hid hky
  clear oB6 hr5 hby hkl hky
  go_upto_region 3 with (fail)
  rw [← hw6]
  clear hw6
  go_wp2_with fail
  refine hkey.mono ?_
  rintro e7 w7 ⟨rfl, hb7⟩
  have Hb7 := Lib.hid hb7
  have ht7 : TabM w7 (W.heap.size + 1) (fun _ => []) (fun _ => none) := ((TabM.made OR1.out.2.1 Hcur.out.1 Hcur.out.2).below Hb5.out).below hb56 |>.below hb7
  have hmk := l3Mark_any ky hkz w7 (W.heap.size + 1) _ _ ht7 (by simp)
  clear hkey hb7 x0 x1 x2 x3
  go_wp2_with fail
  refine hmk.mono ?_
  rintro e8 w8 ⟨rfl, bs0, ht8, hm8, hbs8⟩
  clear hmk ht7
  obtain ⟨w9, hw9⟩ : ∃ w9, w9 = (w8.alloc (.cells #[] 24)).alloc (.cells #[.int .i64 0, .slice (some ⟨w8.heap.size, 0, none⟩) 0 0] 60) := ⟨_, rfl⟩
  have hs9 : w9.heap.size = w8.heap.size + 2 := by rw [hw9]; simp
  have hb89 : Below w8.heap.size w8 w9 := by rw [hw9]; exact ((Below.refl _ _).alloc (Nat.le_refl _) _).alloc (by simp) _
  have oR9 : Own w9 (w8.heap.size + 1) 60 #[.int .i64 0, .slice (some ⟨w8.heap.size, 0, none⟩) 0 0] := by rw [hw9]; simpa using Own.new (w8.alloc (.cells #[] 24)) 60 #[.int .i64 0, .slice (some ⟨w8.heap.size, 0, none⟩) 0 0]
  have hown0 : ∀ b, OwT (W.heap.size + 1) (fun _ => none) b → b = W.heap.size + 1 := fun b hb => by
    rcases hb with h | ⟨_, _, h⟩
    · exact h
    · cases h
  have hs1 := OR1.out.2.2
  have hs15 : V1.heap.size ≤ w5.heap.size := Hb5.out.size
  have hs67 : w6.heap.size ≤ w7.heap.size := Hb7.out.size
  have hs78 : w7.heap.size ≤ w8.heap.size := hm8.size
  have hown8 : ∀ b, OwT (W.heap.size + 1) bs0 b → b = W.heap.size + 1 ∨ (w7.heap.size ≤ b ∧ b < w8.heap.size) := fun b hb => by
    rcases hbs8 b hb with h | h
    · exact .inl (hown0 b h)
    · exact .inr ⟨h, ht8.lt hb⟩
  have hkeep : ∀ b, b < w7.heap.size → b ≠ W.heap.size + 1 → w9.heap[b]? = w7.heap[b]? := fun b hb hn => (hb89.block b (by omega)).trans (hm8.block b hb fun hm => hn (hown0 b hm))
  have hSr : Hid (SrS (W.heap.size + 1) (W.heap.size + 1) (w8.heap.size + 1) w9 bs0 (.slice (some ⟨w5.heap.size, 0, none⟩) 1 1) 0 [ky] [q] [] w8.heap.size 0 0) := by
    refine SrS.start ((TabK.mark (ks := []) (fun k => Iff.rfl) (fun i => Nat.le_refl _) ht8).move fun b hb => hb89.block b (ht8.lt hb)) ((OB6.out.under Hb7.out).of_block (hkeep _ (by omega) (by omega))) (Hr5.out.le fun a v hc => ?_) oR9 ⟨fun h => ?_, by omega⟩ (fun h => ?_) (fun b hb => ?_)
    · obtain ⟨h1, h2⟩ := cell_above_lt hc
      have hl := World.block_lt_of_cell? _ _ h2
      refine cell_hidP.2 ⟨fun hm => ?_, ?_⟩
      · rcases hm with (hm | hm | hm) | hm
        · rcases hown8 _ hm with h | h <;> omega
        · injection hm with hm; omega
        · omega
        · omega
      · rw [World.cell?_of_block (w := w7) (hkeep a.block (by omega) (by omega))]
        exact Le.below Hb7.out _ _ (Le.below hb56 _ _ h2)
    · rcases hown8 _ h with h | h <;> omega
    · rcases hown8 _ h with h | h <;> omega
    · rcases hb with hb | hb | hb
      · rcases hown8 _ hb with h | h <;> omega
      · injection hb with hb; omega
      · omega
  have HB9 : Hid (Below W.heap.size W w9) := (((hB1.trans (Hb5.out.mono hB1.size)).trans (hb56.mono (by omega))).trans (Hb7.out.mono (by omega))).trans ((hm8.below (fun b hb => by have := hown0 b hb; omega) (by omega)).trans (hb89.mono (by omega)))
  have HRes : Hid (Own w9 W.heap.size 60 #[.int .i64 0, .slice none 0 0]) := (((OR1.out.1.under Hb5.out).under hb56).under Hb7.out).of_block (hkeep _ (by omega) (by omega))
  go_upto_region 5 with (fail)
  rw [← hw9]
  obtain ⟨R, hR⟩ : ∃ R, R = w8.heap.size + 1 := ⟨_, rfl⟩
  obtain ⟨g, hg⟩ : ∃ g, g = W.heap.size + 1 := ⟨_, rfl⟩
  rw [← hR, ← hg] at hSr ⊢
  have HgR := Lib.hid (And.intro hg hR)
  have hSr' : Hid (SrS (W.heap.size + 1) g R w9 bs0 (.slice (some ⟨w5.heap.size, 0, none⟩) 1 1) ((([bt0 p sp] : List BSt).length : Int) - (([bt0 p sp] : List BSt).length : Int)) ([bt0 p sp].map fun s => kyB (s3B s)) ([bt0 p sp].map s3B) [] w8.heap.size 0 0) := by
    have h := hSr.out
    rw [Hky.out, Hq.out] at h
    show SrS _ _ _ _ _ _ _ _ _ _ _ _ _
    rw [← HgR.out.1]
    exact h
  have hgW : g = W.heap.size + 1 := hg
  have hw9W : W.heap.size + 1 ≤ w9.heap.size := by omega
  clear hSr hg hR hs9 hb89 oR9 hown0 hs1 hs15 hs67 hs78 hown8 hkeep ht8 hm8 hbs8 hb56 hs6 hl6 OB6 Hr5 Hb5 Hb7 hw9 Hcur hgW
  clear hkz hok0 OR1 hB1
  go_wp2_with fail
  go_loopg [6] 5000000000000 (fun gk s4 wr => ∃ (V K : List BSt) (L : List (List Int)) (v4 : Value) (bs : Nat → Option Nat) (go oo co : Nat), gk + V.length = 5000000000000 + K.length ∧ v4 = s4 ∧ Hid (Dfs (sucB p sp) (bt0 p sp) V K) ∧ Hid (SrS (W.heap.size + 1) g R wr bs v4 ((V.length : Int) - (K.length : Int)) (V.map fun s => kyB (s3B s)) (K.map s3B) L go oo co) ∧ Hid (Wh (doneB p) outB V K L) ∧ Hid (Below (W.heap.size + 1) w9 wr))
  case atStart => exact ⟨[bt0 p sp], [bt0 p sp], [], _, bs0, w8.heap.size, 0, 0, rfl, rfl, Dfs.start _ _, hSr'.out, Wh.start _, Below.refl _ _⟩
  case round =>
    obtain ⟨wo, rfl⟩ : ∃ wo : World, wo = wr := ⟨_, rfl⟩
    obtain ⟨V, K, L, v4, bs, go, oo, co, hgk, rfl, hdfs, hsr, hwh, hb⟩ := hrel
    have hfew := buf_few Hp.out hdfs.out.nd hdfs.out.reach
    have hwo : W.heap.size + 1 ≤ wo.heap.size := Nat.le_trans hw9W hb.out.size
    have HPU : Hid (∀ U, Below (W.heap.size + 1) w9 U → PrgS U (.slice Ap p.length cp) p ∧ Own U W.heap.size 60 #[.int .i64 0, .slice none 0 0]) := fun U hU => ⟨HP.out.le (Le.below (HB9.out.trans (hU.mono (by omega)))), HRes.out.below hU (by omega)⟩
    clear hSr'
    rcases snoc_casesQ K with rfl | ⟨Kt, s, rfl⟩
    · obtain ⟨A6, c6, rfl, _, _⟩ := hsr.out.stk.slice
      have oRo := hsr.out.cell
      have r0 := oRo.cell (i := 0) rfl
      have r1 := oRo.cell (i := 1) rfl
      have hRl := oRo.lt
      have oRes := (HPU.out wo hb.out).2
      have p0 := oRes.cell (i := 0) rfl
      have p1 := oRes.cell (i := 1) rfl
      have f0 := oRes.frozen 0
      have f1 := oRes.frozen 1
      have hWl := oRes.lt
      have HsrO := hsr
      have r0' : wo.cell? ⟨R, 0, none⟩ = some (.int .i64 (V.length : Int)) := by rw [r0]; simp
      clear oRo oRes r0 hsr
      go_wp2_with fail
      refine bodyPost_ret (v := .agg #[.int .i64 (V.length : Int), .slice (some ⟨go, oo, none⟩) L.length co]) (by simp [results, Tryz.results50, go_sem, p0, p1]) rfl ?_
      have hset : Le (hidP (HQ (W.heap.size + 1) g R bs (Value.slice A6 ([].map s3B : List S3).length c6).ownBlock) wo) (above W.heap.size ((wo.setCell ⟨W.heap.size, 0, none⟩ (.int .i64 (V.length : Int))).setCell ⟨W.heap.size, 1, none⟩ (.slice (some ⟨go, oo, none⟩) L.length co))) := fun x u hc => by
        obtain ⟨h1, h2⟩ := cell_hidP.1 hc
        have hge : ¬ x.block < W.heap.size + 1 := fun e => h1 (.inr e)
        have hne : x.block ≠ W.heap.size := by omega
        refine cell_above_of (by omega) ?_
        rw [World.cell?_setCell_other _ _ _ _ (fun e => hne (congrArg Addr.block e).symm), World.cell?_setCell_other _ _ _ _ (fun e => hne (congrArg Addr.block e).symm)]
        exact h2
      have hbW : Below W.heap.size W wo := HB9.out.trans (hb.out.mono (by omega))
      refine ⟨V, L, go, oo, co, rfl, hdfs.out, hwh.out, HsrO.out.outs.le hset, by simp; exact hbW.size, (hbW.setCell (Nat.le_refl _) _).setCell (Nat.le_refl _) _⟩
    · have hsr1 := hsr.out
      rw [List.map_append, List.map_singleton] at hsr1
      obtain ⟨g4, c, cs, rfl, hg4, hc, hc9, hcell, hq4, hsrp⟩ := hsr1.pop
      rw [List.length_map] at hc hcell hsrp ⊢
      obtain ⟨A1, A2, A3, A4, c1, c2, c3, c4, e0, e1, e2, e3, hrep⟩ := hq4
      have q0 := hcell 0 (by omega)
      have q1 := hcell 1 (by omega)
      have q2 := hcell 2 (by omega)
      have q3 := hcell 3 (by omega)
      rw [e0, Nat.add_zero] at q0
      rw [e1] at q1
      rw [e2] at q2
      rw [e3] at q3
      have hcur6 := QCur.new (t := 70) (fun b hb => hsrp.ltH hwo hb) hrep
      obtain ⟨nn, hnn⟩ : ∃ nn : Int, nn = (V.length : Int) - ((Kt ++ [s]).length : Int) := ⟨_, rfl⟩
      rw [← hnn] at hsrp
      have hKV : Kt.length + 1 ≤ V.length := by have := hwh.out.2.2; rw [List.length_append, List.length_singleton] at this; omega
      have hn0 : 0 ≤ nn ∧ nn ≤ 10000000000000 := by rw [hnn, List.length_append, List.length_singleton]; omega
      have Hnn : Hid (nn + 1 = (V.length : Int) - (Kt.length : Int)) := by show _ = _; rw [hnn, List.length_append, List.length_singleton]; omega
      have hsV := hdfs.out.sub s (by simp)
      have Hre := Lib.hid (hdfs.out.reach s hsV)
      have HsV := Lib.hid hsV
      have Hat : Hid (DfsAt (sucB p sp) (bt0 p sp) V Kt s 0) := Dfs.pop hdfs.out
      have hok := reachB_ok Hp.out Hre.out
      have Hok := Lib.hid hok
      rw [List.length_append, List.length_singleton] at hgk
      have sr6 := hsrp.below ((Below.refl wo.heap.size wo).alloc (Nat.le_refl _) (.cells #[.slice A1 (s3B s).at_.length c1, .slice A2 (s3B s).regs.length c2, .slice A3 (s3B s).mem.length c3, .slice A4 (s3B s).buf.length c4] 70))
      obtain ⟨w6, hw6⟩ : ∃ w6, w6 = wo.alloc (.cells #[.slice A1 (s3B s).at_.length c1, .slice A2 (s3B s).regs.length c2, .slice A3 (s3B s).mem.length c3, .slice A4 (s3B s).buf.length c4] 70) := ⟨_, rfl⟩
      obtain ⟨S6, hS6⟩ : ∃ S6, S6 = wo.heap.size := ⟨_, rfl⟩
      have hb6 : Below wo.heap.size wo w6 := by rw [hw6]; exact (Below.refl _ _).alloc (Nat.le_refl _) _
      rw [← hw6] at sr6 hcur6
      have Hcur6 := Lib.hid hcur6
      have Sr6 := Lib.hid sr6
      have oR6 := sr6.cell
      have r0 := oR6.cell (i := 0) rfl
      have f0 := oR6.frozen 0
      have hRl := oR6.lt
      clear hcell e0 e1 e2 e3 hrep hcur6 hsr1 hsrp hsr hnn hsV hok hdfs sr6
      go_upto_region 7 with (fail)
      rw [← hw6]
      clear hw6 q0 q1 q2 q3
      go_upto_region 9 with (fail)
      obtain ⟨w8b, hw8⟩ : ∃ w8b, w8b = w6.setCell ⟨R, 0, none⟩ (.int .i64 (nn + 1)) := ⟨_, rfl⟩
      have sr8 := Sr6.out.setR (i := 0) (u := .int .i64 (nn + 1)) (n' := nn + 1) (L' := L) (go' := go) (oo' := oo) (co' := co) (oR6.set 0 _) Sr6.out.cap Sr6.out.outs
      have cur8 := Hcur6.out.le (Sr6.out.leR 0 (.int .i64 (nn + 1)))
      have hb8 : Below (W.heap.size + 1) w9 w8b := by
        rw [hw8]
        exact (hb.out.trans (hb6.mono hwo)).setCell (Sr6.out.low R (.inr (.inr rfl))) _
      rw [← hw8] at sr8 cur8 ⊢
      have hs8 : w8b.heap.size = w6.heap.size := by rw [hw8]; simp
      clear hw8 oR6 r0 f0 Sr6 Hcur6
      rw [← hS6]
      rw [← hS6] at cur8
      have hWa : W.heap.size + 1 ≤ w8b.heap.size := Nat.le_trans hw9W hb8.size
      have hdn := l4Done_any p Hp.out sp s Hok.out w8b (.slice Ap p.length cp) (HPU.out w8b hb8).1 A1 A2 A3 A4 c1 c2 c3 c4 (cur8.rep.le (Le.hidP _ _))
      have x0 := Le.hidP _ _ _ _ cur8.q0
      have x1 := Le.hidP _ _ _ _ cur8.q1
      have x2 := Le.hidP _ _ _ _ cur8.q2
      have x3 := Le.hidP _ _ _ _ cur8.q3
      have hS8 := cur8.size
      have Sr8 := Lib.hid sr8
      have Cur8 := Lib.hid cur8
      clear sr8 cur8 hS6
      go_wp2_with fail
      refine hdn.mono ?_
      rintro ea wa ⟨rfl, hba⟩
      have srA := Lib.hid (Sr8.out.below hba)
      have curA := Lib.hid (Cur8.out.below hba)
      have hbA : Below (W.heap.size + 1) w9 wa := hb8.trans (hba.mono hWa)
      clear hdn x0 x1 x2 x3 Sr8 Cur8 hba hS8 hb6
      cases hdo : doneB p s
      case' false =>
        have whB := Lib.hid (Wh.pop hwh.out hdo)
        obtain ⟨wb, hwb⟩ : ∃ wb : World, wb = wa := ⟨_, rfl⟩
        rw [← hwb] at srA curA hbA
        obtain ⟨L2, rfl⟩ : ∃ x, x = L := ⟨_, rfl⟩
        obtain ⟨go2, rfl⟩ : ∃ x, x = go := ⟨_, rfl⟩
        obtain ⟨oo2, rfl⟩ : ∃ x, x = oo := ⟨_, rfl⟩
        obtain ⟨co2, rfl⟩ : ∃ x, x = co := ⟨_, rfl⟩
        have srB := srA
        have curB := curA
        have hbB := hbA
        clear srA curA hbA hdo
        go_upto_region 11 with (fail)
        rw [← hwb]
        clear hwb hwh
      case' true =>
        have whB := Lib.hid (Wh.popOut hwh.out hdo HsV.out Hat.out.notk)
        have hlen9 : ∀ x ∈ L, x.length = (outB s).length := Wh.len (m := (outB s).length) hwh.out (fun t ht => by
          have h1 := reachB_ok Hp.out (Hat.out.reach t ht)
          have h2 := Hok.out
          unfold outB outS
          rw [List.length_append, List.length_append, h1.ok.regl, h1.ok.meml, h2.ok.regl, h2.ok.meml])
        have Hlen9 := Lib.hid hlen9
        have hLl : L.length ≤ 5000000000000 := by have := hwh.out.2.2; omega
        have hreg1 : (s3B s).regs.length ≤ 1000 := by show s.s.regs.length ≤ _; rw [Hok.out.ok.regl]; omega
        have hmem1 : (s3B s).mem.length ≤ 1000 := by show s.s.mem.length ≤ _; rw [Hok.out.ok.meml]; omega
        have HlP : Hid (∀ b, HQ (W.heap.size + 1) g R bs (some g4) b → b < wa.heap.size) := fun b hb => srA.out.ltH (Nat.le_trans hw9W hbA.size) hb
        obtain ⟨hcap1, hcap2⟩ := srA.out.cap
        have hRa := srA.out.cell.lt
        clear hlen9
        go_upto_region 10 with (fail)
        refine wp_region_rel [0, 1, 2, 3, 4] [5, 6] (TSp R go oo co L.length wa.heap.size (.agg #[.slice A1 (s3B s).at_.length c1, .slice A2 (s3B s).regs.length c2, .slice A3 (s3B s).mem.length c3, .slice A4 (s3B s).buf.length c4]) (outB s) (putL L (outB s)) (HQ (W.heap.size + 1) g R bs (some g4))) (fun _ => 0) [46, 47, 48, 49, 50] (by kernel_rfl) (by kernel_rfl) rfl (by simp) tsp_nx tsp_blk ?_ ?_
        · refine ⟨?_, ?_, ?_, ?_, ?_, trivial⟩
          all_goals (intro xs w hw hdep hsep; have hbw := nx_below hw; simp only [shpA, fillL, List.contains_cons, List.contains_nil, Nat.reduceAdd, Nat.reduceBEq, Bool.or_false, Bool.or_true, Bool.false_eq_true, ↓reduceIte])
          · go_wp2_with fail
            exact RelPost.mk (Nx.refl _) _ rfl rfl rfl
          · have e43 : xs 46 = .pointer (some ⟨R, 1, none⟩) := hdep 46 (List.mem_of_elem_eq_true (by kernel_rfl))
            have y1 := (srA.out.cell.under hbw).cell (i := 1) rfl
            rw [e43]
            go_wp2_with fail
            exact RelPost.mk (Nx.refl _) _ rfl rfl rfl
          · have cw := curA.out.below hbw
            have y0 := Le.hidP _ _ _ _ cw.q0
            have y1 := Le.hidP _ _ _ _ cw.q1
            have y2 := Le.hidP _ _ _ _ cw.q2
            have y3 := Le.hidP _ _ _ _ cw.q3
            clear cw
            go_wp2_with fail
            exact RelPost.mk (Nx.refl _) _ rfl rfl rfl
          · have e45 : xs 48 = .agg #[.slice A1 (s3B s).at_.length c1, .slice A2 (s3B s).regs.length c2, .slice A3 (s3B s).mem.length c3, .slice A4 (s3B s).buf.length c4] := hdep 48 (List.mem_of_elem_eq_true (by kernel_rfl))
            have hoc := l3Outcome_any (s3B s) hreg1 hmem1 w A1 A2 A3 A4 c1 c2 c3 c4 ((curA.out.below hbw).rep.le (Le.hidP _ _))
            have hsw := hbw.size
            rw [e45]
            go_wp2_with fail
            refine hoc.mono ?_
            rintro ec wc ⟨Ao, co', rfl, hro, hbc⟩
            go_wp2_with fail
            exact RelPost.mk hbc _ rfl ⟨Ao, co', by show Value.slice _ _ _ = _; simp only [outB, outS, s3B, List.length_append], RowOf.rebase hro (fun b hb => by have := (hro.blk hb).1; omega)⟩ rfl
          · have e44 : xs 47 = .slice (some ⟨go, oo, none⟩) L.length co := hdep 47 (List.mem_of_elem_eq_true (by kernel_rfl))
            obtain ⟨Ao, do', e46, hro⟩ : HasI wa.heap.size (outB s) w (xs 49) := hdep 49 (List.mem_of_elem_eq_true (by kernel_rfl))
            have hsw := hbw.size
            have hao : Ints (hidP (HQ (W.heap.size + 1) g R bs (some g4)) w) Ao do' (outB s) := by
              obtain ⟨A', c', e, hI⟩ := hro.ints
              injection e with e1 e2 e3
              subst e1 e3
              exact hI.le (Le.above_hidP HlP.out)
            have hput := l3Put_any L (outB s) Hlen9.out hLl w go oo co Ao do' (hidP (HQ (W.heap.size + 1) g R bs (some g4)) w) (Le.hidP _ _) (srA.out.outs.le (srA.out.leB hbw)) hcap1 hcap2 hao
            rw [e44, e46]
            go_wp2_with fail
            refine hput.mono ?_
            rintro ec wc ⟨g2, o2, c2', rfl, k1, k2, k3, hbc⟩
            go_wp2_with fail
            exact RelPost.mk hbc _ rfl ⟨g2, o2, c2', rfl, k1, k2, k3 _ (Le.hidP_below hbc (fun _ _ => .inr trivial)) (Le.above_hidP (fun b hb => Nat.lt_of_lt_of_le (HlP.out b hb) hsw))⟩ rfl
        intro xs wy hw hT hsep
        have hbw := nx_below hw
        obtain ⟨go2, oo2, co2, e47, k1, k2, k3⟩ : ∃ g' o c, xs 50 = .slice (some ⟨g', o, none⟩) (putL L (outB s)).length c ∧ (putL L (outB s)).length ≤ c ∧ c ≤ 9223372036854775807 ∧ Intss (hidP (HQ (W.heap.size + 1) g R bs (some g4)) wy) (some ⟨g', o, none⟩) c (putL L (outB s)) := hT 50 (List.mem_of_elem_eq_true (by kernel_rfl))
        show wpList _ _ _ [_, _] _ _
        simp only [shpA, fillL, List.contains_cons, List.contains_nil, Nat.reduceAdd, Nat.reduceBEq, Bool.or_false, Bool.or_true, Bool.false_eq_true, ↓reduceIte]
        rw [e47]
        obtain ⟨L2, hL2⟩ : ∃ x, x = putL L (outB s) := ⟨_, rfl⟩
        rw [← hL2] at whB k1 k3 ⊢
        have sry := srA.out.below hbw
        have cury := curA.out.below hbw
        have hby : Below (W.heap.size + 1) w9 wy := hbA.trans (hbw.mono (Nat.le_trans hw9W hbA.size))
        have oRy := sry.cell
        have y1 := oRy.cell (i := 1) rfl
        have f1 := oRy.frozen 1
        have srB := Lib.hid (sry.setR (i := 1) (u := .slice (some ⟨go2, oo2, none⟩) L2.length co2) (n' := nn + 1) (L' := L2) (go' := go2) (oo' := oo2) (co' := co2) (oRy.set 1 _) ⟨k1, k2⟩ k3)
        have curB := Lib.hid (cury.le (sry.leR 1 (.slice (some ⟨go2, oo2, none⟩) L2.length co2)))
        have hbB : Below (W.heap.size + 1) w9 (wy.setCell ⟨R, 1, none⟩ (.slice (some ⟨go2, oo2, none⟩) L2.length co2)) := hby.setCell (sry.low R (.inr (.inr rfl))) _
        clear e47 hT hsep hw hL2 sry cury srA curA hbA hdo Hlen9 hLl HlP hcap1 hcap2 k3 hwh
        generalize xs 46 = y43
        generalize xs 47 = y44
        generalize xs 48 = y45
        generalize xs 49 = y46
        go_upto_region 11 with (fail)
        obtain ⟨wb, hwb⟩ : ∃ wb, wb = wy.setCell ⟨R, 1, none⟩ (.slice (some ⟨go2, oo2, none⟩) L2.length co2) := ⟨_, rfl⟩
        rw [← hwb] at srB curB hbB ⊢
        clear hwb y1 f1 oRy hby hbw
      all_goals
        go_wp2_with fail
        go_loopg [6, 9] (p.length + s.bufs.length) (fun gi s4 s7 wi => ∃ (t : Nat) (V1 K1 : List BSt) (v4 : Value) (bs1 : Nat → Option Nat), t ≤ p.length + s.bufs.length ∧ gi = p.length + s.bufs.length - t ∧ v4 = s4 ∧ s7 = .int .i64 t ∧ Hid (DfsAt (sucB p sp) (bt0 p sp) V1 K1 s (((List.range t).filter (canB p sp s)).length)) ∧ Hid (SrS (W.heap.size + 1) g R wi bs1 v4 (nn + 1) (V1.map fun s => kyB (s3B s)) (K1.map s3B) L2 go2 oo2 co2) ∧ Hid (Wh (doneB p) outB V1 K1 L2) ∧ Hid (QCur (hidP (HQ (W.heap.size + 1) g R bs1 v4.ownBlock) wi) S6 A1 A2 A3 A4 c1 c2 c3 c4 (s3B s)) ∧ V1.length + Kt.length = K1.length + V.length ∧ Hid (Below (W.heap.size + 1) w9 wi))
        case atStart => exact ⟨0, V, Kt, _, bs, Nat.zero_le _, rfl, rfl, rfl, Hat.out, srB.out, whB.out, curB.out, Nat.add_comm _ _, hbB⟩
        case round =>
          obtain ⟨wi, rfl⟩ : ∃ wi : World, wi = wr := ⟨_, rfl⟩
          obtain ⟨t, V1, K1, v4, bs1, hti, rfl, rfl, rfl, hat1, hsr1, hwh1, hcur1, hcnt, hbi⟩ := hrel
          have hfew1 := buf_few Hp.out hat1.out.nd hat1.out.reach
          have hwi : W.heap.size + 1 ≤ wi.heap.size := Nat.le_trans hw9W hbi.out.size
          clear srB whB curB hbB
          have x0 := Le.hidP _ _ _ _ hcur1.out.q0
          have x1 := Le.hidP _ _ _ _ hcur1.out.q1
          have x2 := Le.hidP _ _ _ _ hcur1.out.q2
          have x3 := Le.hidP _ _ _ _ hcur1.out.q3
          have hS6i := hcur1.out.size
          have Hbl := Lib.hid (s3B_len s)
          have hbl9 : (s3B s).buf.length ≤ 9 := (s4_lens Hp.out Hok.out).2.2.2.1
          by_cases hlt : t < p.length + s.bufs.length
          · have hltI : (t : Int) < (p.length : Int) + ((s3B s).buf.length : Int) := by rw [Hbl.out]; omega
            have hltN : t < p.length + (s3B s).buf.length := by rw [Hbl.out]; exact hlt
            have ht20 : t ≤ 20 := by have h := hbl9; rw [Hbl.out] at h; omega
            have hcn := l4Can_any p Hp.out sp s Hok.out (t : Int) wi (.slice Ap p.length cp) (HPU.out wi hbi.out).1 A1 A2 A3 A4 c1 c2 c3 c4 (hcur1.out.rep.le (Le.hidP _ _))
            rw [can4_nat] at hcn
            go_wp2_with fail
            refine hcn.mono ?_
            rintro en wn ⟨rfl, hbn⟩
            have hsrn := Lib.hid (hsr1.out.below hbn)
            have hcurn := Lib.hid (hcur1.out.below hbn)
            have hbn9 : Hid (Below (W.heap.size + 1) w9 wn) := hbi.out.trans (hbn.mono hwi)
            have hwn : W.heap.size + 1 ≤ wn.heap.size := Nat.le_trans hwi hbn.size
            clear hsr1 hbi hbn hcur1 hcn x0 x1 x2 x3 hS6i hltI hltN
            cases hon : canB p sp s t
            · have Hat' : Hid (DfsAt (sucB p sp) (bt0 p sp) V1 K1 s (((List.range (t + 1)).filter (canB p sp s)).length)) := by
                show DfsAt _ _ _ _ _ _
                rw [filter_range_succ, hon]
                exact hat1.out
              clear hon hat1
              go_wp2_with fail
              go_roundg (p.length + s.bufs.length - (t + 1))
              case measure => omega
              case rel => exact ⟨t + 1, V1, K1, _, bs1, by omega, rfl, rfl, by go_num, Hat'.out, hsrn.out, hwh1.out, hcurn.out, hcnt, hbn9.out⟩
            · obtain ⟨hfl, hfg⟩ := filter_range_get (f := canB p sp s) hlt hon
              have htm : t ∈ mvB p sp s := (mem_mvB Hok.out).2 hon
              obtain ⟨nx, hnx⟩ : ∃ nx, nx = nxB p sp s t := ⟨_, rfl⟩
              have hokn : BOk p sp nx := by rw [hnx]; exact reachB_ok Hp.out (.next Hre.out (List.mem_map.2 ⟨t, htm, rfl⟩))
              have Hokn := Lib.hid hokn
              have Hil : Hid (((List.range t).filter (canB p sp s)).length < (sucB p sp s).length) := by
                show _ < _
                unfold sucB
                rw [List.length_map]
                exact hfl
              have Hig : Hid ((sucB p sp s)[((List.range t).filter (canB p sp s)).length]'Hil.out = nx) := by
                show _ = _
                rw [hnx]
                unfold sucB
                rw [List.getElem_map]
                congr 1
              have Hi1 : Hid (((List.range (t + 1)).filter (canB p sp s)).length = ((List.range t).filter (canB p sp s)).length + 1) := by
                show _ = _
                rw [filter_range_succ, hon]
                rfl
              have hdo := l4Do_any p Hp.out sp s Hok.out t hon wn (.slice Ap p.length cp) (HPU.out wn hbn9.out).1 A1 A2 A3 A4 c1 c2 c3 c4 (hcurn.out.rep.le (Le.hidP _ _))
              rw [← hnx] at hdo
              have x0 := Le.hidP _ _ _ _ hcurn.out.q0
              have x1 := Le.hidP _ _ _ _ hcurn.out.q1
              have x2 := Le.hidP _ _ _ _ hcurn.out.q2
              have x3 := Le.hidP _ _ _ _ hcurn.out.q3
              have hS6n := hcurn.out.size
              clear hon hfl hfg htm hnx hokn
              go_wp2_with fail
              refine hdo.mono ?_
              rintro ej wj ⟨D1, D2, D3, D4, d1, d2, d3, d4, rfl, hrj, hbj⟩
              have hsrj := hsrn.out.below hbj
              have hrepj : Rep4 (hidP (HQ (W.heap.size + 1) g R bs1 v4.ownBlock) wj) D1 D2 D3 D4 d1 d2 d3 d4 (s3B nx) := hrj.le (Le.above_hidP (fun b hb => hsrn.out.ltH hwn hb))
              have hcurNx := QCur.new (t := 70) (fun b hb => hsrj.ltH (Nat.le_trans hwn hbj.size) hb) hrepj
              have hcurj := hcurn.out.below hbj
              obtain ⟨wk, hwk⟩ : ∃ wk, wk = wj.alloc (.cells #[.slice D1 (s3B nx).at_.length d1, .slice D2 (s3B nx).regs.length d2, .slice D3 (s3B nx).mem.length d3, .slice D4 (s3B nx).buf.length d4] 70) := ⟨_, rfl⟩
              have hbjk : Below wj.heap.size wj wk := by rw [hwk]; exact (Below.refl _ _).alloc (Nat.le_refl _) _
              have hsrk := Lib.hid (hsrj.below hbjk)
              have hcurk := Lib.hid (hcurj.below hbjk)
              rw [← hwk] at hcurNx
              have hcurN := Lib.hid hcurNx
              obtain ⟨N8, hN8⟩ : ∃ N8, N8 = wj.heap.size := ⟨_, rfl⟩
              rw [← hN8] at hcurN
              have hbj9 : Below (W.heap.size + 1) w9 wj := hbn9.out.trans (hbj.mono hwn)
              have hbk9 : Below (W.heap.size + 1) w9 wk := hbj9.trans (hbjk.mono (Nat.le_trans hw9W hbj9.size))
              have hkl := keyLB_len Hp.out Hokn.out
              have hwk1 : W.heap.size + 1 ≤ wk.heap.size := Nat.le_trans hw9W hbk9.size
              have hkey := l3Key_any (s3B nx) (keyLB_by Hp.out Hokn.out) hkl.1 (by omega) wk D1 D2 D3 D4 d1 d2 d3 d4 (hcurN.out.rep.le (Le.hidP _ _))
              have hkz : (strOfNums (keyL (s3B nx))).size ≤ 1000000 := by rw [strOfNums_size]; omega
              obtain ⟨kn, hkn⟩ : ∃ kn, kn = strOfNums (keyL (s3B nx)) := ⟨_, rfl⟩
              rw [← hkn] at hkey hkz
              have Hkn : Hid (kn = kyB (s3B nx)) := hkn
              clear hdo x0 x1 x2 x3 hrj hbj hsrj hrepj hcurNx hcurj hbjk hkn hsrn hcurn hbj9 hbn9 hkl
              go_upto_region 16 with (fail)
              rw [← hwk]
              rw [← hN8]
              clear hwk hN8
              have x0 := Le.hidP _ _ _ _ hcurN.out.q0
              have x1 := Le.hidP _ _ _ _ hcurN.out.q1
              have x2 := Le.hidP _ _ _ _ hcurN.out.q2
              have x3 := Le.hidP _ _ _ _ hcurN.out.q3
              have hNk := hcurN.out.size
              go_wp2_with fail
              refine hkey.mono ?_
              rintro el wl ⟨rfl, hbl⟩
              have hsrl := Lib.hid (hsrk.out.below hbl)
              have hcurl := Lib.hid (hcurk.out.below hbl)
              have hcurNl := Lib.hid (hcurN.out.below hbl)
              have hbl9 : Below (W.heap.size + 1) w9 wl := hbk9.trans (hbl.mono hwk1)
              obtain ⟨xss, htab, hks1, hks2⟩ := hsrl.out.tab
              have hfd := l3Found_any kn hkz wl g xss bs1 htab
              have Htab := Lib.hid (And.intro htab (And.intro hks1 hks2))
              have Hmem : Hid (inB (xss (hashS kn)) kn = true ↔ nx ∈ V1) := by
                show _ ↔ _
                rw [inB_iff, hks1, List.mem_map]
                constructor
                · rintro ⟨u, hu, he⟩
                  have : u = nx := keyBS_inj Hp.out (reachB_ok Hp.out (hat1.out.reach u hu)) Hokn.out (by rw [← kyB_B, ← kyB_B, he, Hkn.out])
                  rw [← this]; exact hu
                · intro hu
                  exact ⟨nx, hu, Hkn.out.symm⟩
              clear hkey x0 x1 x2 x3 hsrk hcurk hcurN hbl htab hks1 hks2 hNk hbk9
              generalize hfb : inB (xss (hashS kn)) kn = fb at hfd Hmem
              have Hfb := Lib.hid hfb
              clear hfb
              go_wp2_with fail
              refine hfd.mono ?_
              rintro em wm ⟨rfl, hbm⟩
              have hsrm := Lib.hid (hsrl.out.below hbm)
              have hcurm := Lib.hid (hcurl.out.below hbm)
              have hcurNm := Lib.hid (hcurNl.out.below hbm)
              have hwl1 : W.heap.size + 1 ≤ wl.heap.size := Nat.le_trans hw9W hbl9.size
              have hbm9 : Below (W.heap.size + 1) w9 wm := hbl9.trans (hbm.mono hwl1)
              have htabm := Htab.out.1.below hbm
              clear hfd hsrl hcurl hcurNl hbl9
              cases fb
              · have Hnin : Hid (nx ∉ V1) := fun h => by have := Hmem.out.2 h; cases this
                have hl5 : (xss (hashS kn)).length ≤ 5000000000000 := by
                  have := Htab.out.2.2 (hashS kn)
                  rw [List.length_map] at this
                  omega
                have hmk := l3Mark_any kn hkz wm g xss bs1 htabm hl5
                clear htabm hbm
                go_wp2_with fail
                refine hmk.mono ?_
                rintro eo wo2 ⟨rfl, bs2, ht2, hm2, hbs2⟩
                have hsro := hsrm.out.mark Htab.out.2.1 Htab.out.2.2 ht2 hm2 hbs2 (Nat.le_trans hw9W hbm9.size)
                have hcuro := hcurm.out.le (hsrm.out.leM hm2 hbs2)
                have hcurNo := hcurNm.out.le (hsrm.out.leM hm2 hbs2)
                have hbo9 : Below (W.heap.size + 1) w9 wo2 := hbm9.trans (hm2.below (fun b hb => hsrm.out.low b (.inl hb)) (Nat.le_trans hw9W hbm9.size))
                have hwo1 : W.heap.size + 1 ≤ wo2.heap.size := Nat.le_trans hw9W hbo9.size
                have hksn : Hid (List.map (fun s => kyB (s3B s)) V1 ++ [kn] = (V1 ++ [nx]).map fun s => kyB (s3B s)) := by show _ = _; rw [List.map_append, Hkn.out]; rfl
                rw [hksn.out] at hsro
                have hbX : Below wo2.heap.size wo2 (wo2.alloc (.cells #[.slice D1 (s3B nx).at_.length d1, .slice D2 (s3B nx).regs.length d2, .slice D3 (s3B nx).mem.length d3, .slice D4 (s3B nx).buf.length d4] 70)) := (Below.refl _ _).alloc (Nat.le_refl _) _
                have HsrX := Lib.hid (hsro.below hbX)
                have HcurX := Lib.hid (hcuro.below hbX)
                have HcurNX := Lib.hid (hcurNo.below hbX)
                have x0 := Le.hidP _ _ _ _ hcurNo.q0
                have x1 := Le.hidP _ _ _ _ hcurNo.q1
                have x2 := Le.hidP _ _ _ _ hcurNo.q2
                have x3 := Le.hidP _ _ _ _ hcurNo.q3
                have hNo := hcurNo.size
                obtain ⟨cs4, hown4, hq4⟩ := HsrX.out.stk
                have Hown4 := Lib.hid hown4
                have Hq4 := Lib.hid hq4
                have hK1 : (K1.map s3B).length = K1.length := List.length_map ..
                have hK5 : K1.length ≤ 1000000000000 := by have := hwh1.out.2.2; omega
                rw [hK1] at hown4
                have Hown4' := Lib.hid hown4
                clear hown4 hq4 hmk ht2 hm2 hbs2 hsro hcuro hcurNo hsrm hcurm hcurNm hK1 hl5 hbm9
                go_wp2_with (at_builtin; refine wpList_append_lies (o := ⟨some 85, _, _, _, _, _⟩) _ (by rfl) _ _ _ (by rfl) (W.heap.size + 1) 70 i0 _ 4 96 Tryz.underlying103 hi0 hz0 hz1 hz2 rfl (by omega) v4 K1.length cs4 (by rfl) Hown4'.out ⟨wo2.heap.size, 0, none⟩ 1 1 [.slice D1 (s3B nx).at_.length d1, .slice D2 (s3B nx).regs.length d2, .slice D3 (s3B nx).mem.length d3, .slice D4 (s3B nx).buf.length d4] (by rfl) (by rfl) (World.news_of_block (cs := #[.slice D1 (s3B nx).at_.length d1, .slice D2 (s3B nx).regs.length d2, .slice D3 (s3B nx).mem.length d3, .slice D4 (s3B nx).buf.length d4]) (t := 70) (fr := (0, 0)) (heap_alloc_new wo2 _)) (by simp [Value.oneCell']) (by omega) (by simp [maxLen]; omega) (by omega) (by simp; omega) (wo2.heap.size + 1) (by simp) ?_; intro gg cap wz hownz hgrowz hatz hltz)
                have h4z : ∀ b, (Value.slice (some ⟨gg, 0, none⟩) (K1.length + 1) cap).ownBlock = some b → v4.ownBlock = some b ∨ (wo2.alloc (.cells #[.slice D1 (s3B nx).at_.length d1, .slice D2 (s3B nx).regs.length d2, .slice D3 (s3B nx).mem.length d3, .slice D4 (s3B nx).buf.length d4] 70)).heap.size ≤ b := fun b hb => by
                  simp only [Value.ownBlock, Option.some.injEq] at hb
                  subst hb
                  rcases hatz with h | h
                  · exact .inl h
                  · right; simp; omega
                have hrz : RowOf 4 (QS4 (hidP (HQ (W.heap.size + 1) g R bs2 (Value.slice (some ⟨gg, 0, none⟩) (K1.length + 1) cap).ownBlock) wz)) wz (W.heap.size + 1) 70 (.slice (some ⟨gg, 0, none⟩) (K1.length + 1) cap) (K1.map s3B ++ [(s3B nx)]) := by
                  refine RowOf.snoc (news := [.slice D1 (s3B nx).at_.length d1, .slice D2 (s3B nx).regs.length d2, .slice D3 (s3B nx).mem.length d3, .slice D4 (s3B nx).buf.length d4]) (qs4_congr _) Hown4.out (fun i hi => QS4.le (HsrX.out.leP hgrowz h4z) (Hq4.out i hi)) rfl ⟨D1, D2, D3, D4, d1, d2, d3, d4, rfl, rfl, rfl, rfl, HcurNX.out.rep.le (HsrX.out.leP hgrowz h4z)⟩ ?_
                  rw [List.length_map]
                  exact hownz
                have hsrz := HsrX.out.push hgrowz h4z (by simp; omega) hrz
                have Hsrz : Hid (SrS (W.heap.size + 1) g R wz bs2 (.slice (some ⟨gg, 0, none⟩) (K1.length + 1) cap) (nn + 1) ((V1 ++ [nx]).map fun s => kyB (s3B s)) ((K1 ++ [nx]).map s3B) L2 go2 oo2 co2) := by
                  show SrS _ _ _ _ _ _ _ _ _ _ _ _ _
                  rw [List.map_append (l₁ := K1)]
                  exact hsrz
                have Hcur' : Hid (QCur (hidP (HQ (W.heap.size + 1) g R bs2 (Value.slice (some ⟨gg, 0, none⟩) (K1.length + 1) cap).ownBlock) wz) S6 A1 A2 A3 A4 c1 c2 c3 c4 (s3B s)) := by exact HcurX.out.le (HsrX.out.leP hgrowz h4z)
                have hbz9 : Hid (Below (W.heap.size + 1) w9 wz) := below_of_grown (hbo9.alloc hwo1 _) hgrowz (by simp; omega) (fun b hb => HsrX.out.low b (.inr (.inl hb)))
                have Hat' : Hid (DfsAt (sucB p sp) (bt0 p sp) (V1 ++ [nx]) (K1 ++ [nx]) s (((List.range (t + 1)).filter (canB p sp s)).length)) := by
                  have h := hat1.out.new Hil.out (by rw [Hig.out]; exact Hnin.out)
                  rw [Hig.out] at h
                  show DfsAt _ _ _ _ _ _
                  rw [Hi1.out]
                  exact h
                have Hwh' : Hid (Wh (doneB p) outB (V1 ++ [nx]) (K1 ++ [nx]) L2) := hwh1.out.new Hnin.out
                have hcnt' : (V1 ++ [nx]).length + Kt.length = (K1 ++ [nx]).length + V.length := by simp only [List.length_append, List.length_singleton]; omega
                clear hownz hgrowz hatz h4z hrz hsrz x0 x1 x2 x3
                go_wp2_with fail
                go_roundg (p.length + s.bufs.length - (t + 1))
                case measure => omega
                case rel => exact ⟨t + 1, V1 ++ [nx], K1 ++ [nx], _, bs2, by omega, rfl, rfl, by go_num, Hat'.out, Hsrz.out, Hwh'.out, Hcur'.out, hcnt', hbz9.out⟩
              · have Hin : Hid (nx ∈ V1) := Hmem.out.1 rfl
                have Hat' : Hid (DfsAt (sucB p sp) (bt0 p sp) V1 K1 s (((List.range (t + 1)).filter (canB p sp s)).length)) := by
                  show DfsAt _ _ _ _ _ _
                  rw [Hi1.out]
                  exact hat1.out.seen Hil.out (by rw [Hig.out]; exact Hin.out)
                have Hcur' : Hid (QCur (hidP (HQ (W.heap.size + 1) g R bs1 v4.ownBlock) wm) S6 A1 A2 A3 A4 c1 c2 c3 c4 (s3B s)) := by exact hcurm.out
                clear htabm hat1 hcurm hbm
                go_wp2_with fail
                go_roundg (p.length + s.bufs.length - (t + 1))
                case measure => omega
                case rel => exact ⟨t + 1, V1, K1, _, bs1, by omega, rfl, rfl, by go_num, Hat'.out, hsrm.out, hwh1.out, Hcur'.out, hcnt, hbm9⟩
          · have hte : t = p.length + s.bufs.length := by omega
            have Hdf : Hid (Dfs (sucB p sp) (bt0 p sp) V1 K1) := hat1.out.fin (by unfold sucB mvB; rw [List.length_map, hte]; exact Nat.le_refl _)
            have hltI : ¬ (t : Int) < (p.length : Int) + ((s3B s).buf.length : Int) := by rw [Hbl.out]; omega
            have hltN : ¬ t < p.length + (s3B s).buf.length := by rw [Hbl.out]; omega
            clear hte
            have Hnn' : Hid (nn + 1 = (V1.length : Int) - (K1.length : Int)) := by show _ = _; rw [Hnn.out]; omega
            have Hsr' : Hid (SrS (W.heap.size + 1) g R wi bs1 v4 ((V1.length : Int) - (K1.length : Int)) (V1.map fun s => kyB (s3B s)) (K1.map s3B) L2 go2 oo2 co2) := by show SrS _ _ _ _ _ _ _ _ _ _ _ _ _; rw [← Hnn'.out]; exact hsr1.out
            have hcl : gk - 1 + V1.length = 5000000000000 + K1.length := by omega
            clear hat1 hsr1
            go_wp2_with fail
            go_roundg (gk - 1)
            case measure => omega
            case rel => exact ⟨V1, K1, L2, _, bs1, go2, oo2, co2, hcl, rfl, Hdf.out, Hsr'.out, hwh1.out, hbi.out⟩

end Go.Proofs.YtahegjofooahkaaGreat
