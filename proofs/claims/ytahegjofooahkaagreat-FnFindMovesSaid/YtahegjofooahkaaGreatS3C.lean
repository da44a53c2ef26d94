/-
  The reference's states: l3Copy.
-/
import Derived.Test.YtahegjofooahkaaGreatS3A
import Derived.Test.YtahegjofooahkaaGreatApE
namespace Go.Proofs.YtahegjofooahkaaGreat
open Go.RowKit
set_option linter.unusedVariables false
set_option maxRecDepth 100000

/-- An empty row of ints; such a row with numbers in it. -/
def EmpI (B : Nat) (w : World) (v : Value) : Prop := ∃ g, v = .slice (some ⟨g, 0, none⟩) 0 0 ∧ Own w g 3 #[] ∧ B ≤ g
def HasI (B : Nat) (xs : List Int) (w : World) (v : Value) : Prop := ∃ A c, v = .slice A xs.length c ∧ RowI w B (.slice A xs.length c) xs
def HasB (B : Nat) (t : TypeId) (cs : Array Value) (w : World) (v : Value) : Prop := ∃ g, v = .pointer (some ⟨g, 0, none⟩) ∧ Own w g t cs ∧ B ≤ g
/-- They do not lead to one block. -/
def ApV (v v' : Value) : Prop := ∀ b, blkV v = some b → blkV v' ≠ some b
def TCp (B V : Nat) (A1 A2 A3 : Option Addr) (c1 c2 c3 : Nat) (xs ys zs : List Int) (d : Nat) (w : World) (v : Value) : Prop :=
  match d with
  | 5 => EmpI V w v
  | 6 => v = .pointer (some ⟨B, 0, none⟩)
  | 7 => v = .slice A1 xs.length c1
  | 8 => HasI V xs w v
  | 9 => EmpI V w v
  | 10 => v = .pointer (some ⟨B, 1, none⟩)
  | 11 => v = .slice A2 ys.length c2
  | 12 => HasI V ys w v
  | 13 => EmpI V w v
  | 14 => v = .pointer (some ⟨B, 2, none⟩)
  | 15 => v = .slice A3 zs.length c3
  | 16 => HasI V zs w v
  | 17 => ∃ v1 v2 v3, v = .agg #[v1, v2, v3, .slice none 0 0] ∧ HasI V xs w v1 ∧ HasI V ys w v2 ∧ HasI V zs w v3 ∧ ApV v1 v2 ∧ ApV v1 v3 ∧ ApV v2 v3
  | 3 => HasB V 70 #[.slice none 0 0, .slice none 0 0, .slice none 0 0, .slice none 0 0] w v
  | _ => True
def clCp (d : Nat) : Nat :=
  match d with
  | 5 => 1 | 8 => 1 | 9 => 2 | 12 => 2 | 13 => 3 | 16 => 3 | 3 => 4 | _ => 0
theorem EmpI.nx {V : Nat} {w w' : World} {v : Value} (hb : Nx w w') (h : EmpI V w v) : EmpI V w' v := by
  obtain ⟨g, e, h, hg⟩ := h
  exact ⟨g, e, h.under hb, hg⟩
theorem HasI.nx {B : Nat} {xs : List Int} {w w' : World} {v : Value} (hb : Nx w w') (h : HasI B xs w v) : HasI B xs w' v := by
  obtain ⟨A, c, e, h⟩ := h
  exact ⟨A, c, e, RowOf.below h hb⟩
theorem HasB.nx {B : Nat} {t : TypeId} {cs : Array Value} {w w' : World} {v : Value} (hb : Nx w w') (h : HasB B t cs w v) : HasB B t cs w' v := by
  obtain ⟨g, e, h, hg⟩ := h
  exact ⟨g, e, h.under hb, hg⟩
theorem EmpI.blk {V : Nat} {w : World} {v : Value} {b : Nat} (h : EmpI V w v) (hb : blkV v = some b) : b < w.heap.size := by
  obtain ⟨g, rfl, h, _⟩ := h
  injection hb with hb
  subst hb
  exact h.lt
theorem HasI.blk {B : Nat} {xs : List Int} {w : World} {v : Value} {b : Nat} (h : HasI B xs w v) (hb : blkV v = some b) : b < w.heap.size := by
  obtain ⟨A, c, rfl, h⟩ := h
  cases A with
  | none => cases hb
  | some a =>
    obtain ⟨cs, h2, _⟩ := id h
    rcases h2.2 with ⟨e, _⟩ | ⟨g, cap, cur, e, _⟩
    · cases e
    · injection e with e1
      injection e1 with e1
      subst e1
      exact (h.blk (g := b) hb).2
theorem HasB.blk {B : Nat} {t : TypeId} {cs : Array Value} {w : World} {v : Value} {b : Nat} (h : HasB B t cs w v) (hb : blkV v = some b) : b < w.heap.size := by
  obtain ⟨g, rfl, h, _⟩ := h
  injection hb with hb
  subst hb
  exact h.lt
theorem tcp_nx {B V : Nat} {A1 A2 A3 : Option Addr} {c1 c2 c3 : Nat} {xs ys zs : List Int} : ∀ d w w' v, Nx w w' → TCp B V A1 A2 A3 c1 c2 c3 xs ys zs d w v → TCp B V A1 A2 A3 c1 c2 c3 xs ys zs d w' v := fun d w w' v hb h => by
  unfold TCp at h ⊢
  split at h <;> first | exact h | exact h.nx hb | exact HasI.nx hb h | exact EmpI.nx hb h | exact HasB.nx hb h | (obtain ⟨v1, v2, v3, e, h1, h2, h3, h4⟩ := h; exact ⟨v1, v2, v3, e, h1.nx hb, h2.nx hb, h3.nx hb, h4⟩) | trivial
theorem tcp_blk {B V : Nat} {A1 A2 A3 : Option Addr} {c1 c2 c3 : Nat} {xs ys zs : List Int} : ∀ d w v b, TCp B V A1 A2 A3 c1 c2 c3 xs ys zs d w v → clCp d ≠ 0 → blkV v = some b → b < w.heap.size := fun d w v b h hc hb => by
  unfold TCp at h
  split at h <;> first | exact h.blk hb | exact HasI.blk h hb | exact EmpI.blk h hb | exact HasB.blk h hb | exact absurd rfl hc | (exfalso; revert hc; unfold clCp; split <;> simp_all)
/-- A row does not lie in a block of another type. -/
theorem RowOf.ne_own {α : Type} {k : Nat} {Q : (Nat → Value) → α → Prop} {w : World} {base T : Nat} {e t : TypeId} {v : Value} {xs : List α} {cs : Array Value} (h : RowOf k Q w base e v xs) (ho : Own w T t cs) (hne : e ≠ t) : ¬ v.ownBlock = some T := fun hv => by
  obtain ⟨cs', h1, _⟩ := h
  rcases h1.2 with ⟨rfl, _⟩ | ⟨g, cap, cur, rfl, _, hg, _⟩
  · cases hv
  · simp only [Value.ownBlock, Option.some.injEq] at hv
    subst hv
    unfold Own at ho
    rw [hg] at ho
    injection ho with ho
    injection ho with h1 h2
    exact hne h2
theorem RowOf.kept {α : Type} {k : Nat} {Q : (Nat → Value) → α → Prop} {w : World} {base : Nat} {e : TypeId} {v : Value} {xs : List α} {p : Addr} {u : Value} (h : RowOf k Q w base e v xs) (hn : ¬ v.ownBlock = some p.block) : RowOf k Q (w.setCell p u) base e v xs :=
  h.of_block fun g _ hg _ => Go.Deep.blk_setCell_other _ _ _ _ (fun e => hn (by rw [hg, e]))
theorem MvO.grown'' {F : List Nat} {a X w1 : World} {row : Option Nat} (h : MvO F a X) (hg : X.grownBy w1 row) (hr : ∀ g, row = some g → g ∈ F ∨ a.heap.size ≤ g) : MvO F a w1 :=
  ⟨(World.grownBy.os hg).trans h.os, (World.grownBy.tape hg).trans h.tape, (World.grownBy.output hg).trans h.output, Nat.le_trans h.size (World.grownBy.size hg), fun i hi hn => (World.grownBy.block hg i (Nat.lt_of_lt_of_le hi h.size) fun e => by
    rcases hr i e.symm with h | h
    · exact hn h
    · omega).trans (h.block i hi hn)⟩
/-- What the second loop's slots hold. -/
def BoxI (B : Nat) (xs : List Int) (w : World) (v : Value) : Prop := ∃ g u, v = .slice (some ⟨g, 0, none⟩) 1 1 ∧ Own w g 24 #[u] ∧ HasI B xs w u ∧ B ≤ g
theorem BoxI.nx {B : Nat} {xs : List Int} {w w' : World} {v : Value} (hb : Nx w w') (h : BoxI B xs w v) : BoxI B xs w' v := by
  obtain ⟨g, u, e, h, h1, h2⟩ := h
  exact ⟨g, u, e, h.under hb, h1.nx hb, h2⟩
theorem BoxI.blk {B : Nat} {xs : List Int} {w : World} {v : Value} {b : Nat} (h : BoxI B xs w v) (hb : blkV v = some b) : b < w.heap.size := by
  obtain ⟨g, u, rfl, h, _⟩ := h
  injection hb with hb
  subst hb
  exact h.lt
def TCq (B V T : Nat) (vr : Value) (A4 : Option Addr) (n4 c4 i : Nat) (pj : Value) (Aj : Option Addr) (cj : Nat) (rj : List Int) (d : Nat) (w : World) (v : Value) : Prop :=
  match d with
  | 25 => v = .pointer (some ⟨T, 3, none⟩)
  | 26 => v = vr
  | 27 => EmpI V w v
  | 28 => v = .pointer (some ⟨B, 3, none⟩)
  | 29 => v = .slice A4 n4 c4
  | 30 => v = .int .i64 i
  | 31 => v = pj
  | 32 => v = .slice Aj rj.length cj
  | 33 => HasI V rj w v
  | 34 => BoxI V rj w v
  | 36 => v = .pointer (some ⟨T, 3, none⟩)
  | _ => True
def clCq (d : Nat) : Nat :=
  match d with
  | 27 => 1 | 33 => 1 | 34 => 2 | _ => 0
theorem tcq_nx {B V T : Nat} {vr : Value} {A4 : Option Addr} {n4 c4 i : Nat} {pj : Value} {Aj : Option Addr} {cj : Nat} {rj : List Int} : ∀ d w w' v, Nx w w' → TCq B V T vr A4 n4 c4 i pj Aj cj rj d w v → TCq B V T vr A4 n4 c4 i pj Aj cj rj d w' v := fun d w w' v hb h => by
  unfold TCq at h ⊢
  split at h <;> first | exact h | exact HasI.nx hb h | exact EmpI.nx hb h | exact BoxI.nx hb h | trivial
theorem tcq_blk {B V T : Nat} {vr : Value} {A4 : Option Addr} {n4 c4 i : Nat} {pj : Value} {Aj : Option Addr} {cj : Nat} {rj : List Int} : ∀ d w v b, TCq B V T vr A4 n4 c4 i pj Aj cj rj d w v → clCq d ≠ 0 → blkV v = some b → b < w.heap.size := fun d w v b h hc hb => by
  unfold TCq at h
  split at h <;> first | exact HasI.blk h hb | exact EmpI.blk h hb | exact BoxI.blk h hb | exact absurd rfl hc | (exfalso; revert hc; unfold clCq; split <;> simp_all)


/-- A copy in rows of its own. -/
def RetCS (W : World) (s : S3) (e : Ending) (W' : World) : Prop := ∃ A1 A2 A3 A4 c1 c2 c3 c4 K cs Fs, e = .returned (.agg #[.slice A1 s.at_.length c1, .slice A2 s.regs.length c2, .slice A3 s.mem.length c3, .slice A4 s.buf.length c4]) ∧ W.heap.size ≤ K ∧ K ≤ W'.heap.size
  ∧ (RowI W' W.heap.size (.slice A1 s.at_.length c1) s.at_ ∧ RowI W' W.heap.size (.slice A2 s.regs.length c2) s.regs ∧ RowI W' W.heap.size (.slice A3 s.mem.length c3) s.mem)
  ∧ (ApV (.slice A1 s.at_.length c1) (.slice A2 s.regs.length c2) ∧ ApV (.slice A1 s.at_.length c1) (.slice A3 s.mem.length c3) ∧ ApV (.slice A2 s.regs.length c2) (.slice A3 s.mem.length c3))
  ∧ (∀ b, blkV (.slice A1 s.at_.length c1) = some b ∨ blkV (.slice A2 s.regs.length c2) = some b ∨ blkV (.slice A3 s.mem.length c3) = some b → b < K)
  ∧ RowsI W' K (.slice A4 s.buf.length c4) s.buf cs Fs ∧ Below W.heap.size W W'

set_option maxHeartbeats 4000000 in
theorem l3CopyW_any (s : S3) (h1 : s.at_.length ≤ 1000) (h2 : s.regs.length ≤ 1000) (h3 : s.mem.length ≤ 1000) (h4 : s.buf.length ≤ 1000) (h5 : ∀ xs ∈ s.buf, xs.length ≤ 1000) (W : World) (A1 A2 A3 A4 : Option Addr) (c1 c2 c3 c4 : Nat) (hr : Rep4 W A1 A2 A3 A4 c1 c2 c3 c4 s) :
    Calls Tryz.prog 118 #[.agg #[.slice A1 s.at_.length c1, .slice A2 s.regs.length c2, .slice A3 s.mem.length c3, .slice A4 s.buf.length c4]] W (RetCS W s) := by
  obtain ⟨i0, hi0, hz0, hz1, hz2⟩ := info_parts Tryz.infoInt
  obtain ⟨i1, hi1, hy0, hy1, hy2⟩ := info_parts Tryz.infoInts
  have H5 := Lib.hid h5
  clear h5
  obtain ⟨V, hV⟩ : ∃ V, V = (W.alloc (.cells #[.slice A1 s.at_.length c1, .slice A2 s.regs.length c2, .slice A3 s.mem.length c3, .slice A4 s.buf.length c4] 70)).alloc (.cells #[.slice none 0 0, .slice none 0 0, .slice none 0 0, .slice none 0 0] 70) := ⟨_, rfl⟩
  have hB : Below W.heap.size W V := by rw [hV]; exact ((Below.refl _ _).alloc (Nat.le_refl _) _).alloc (by simp) _
  have oX : Own V W.heap.size 70 #[.slice A1 s.at_.length c1, .slice A2 s.regs.length c2, .slice A3 s.mem.length c3, .slice A4 s.buf.length c4] := by rw [hV]; exact (Own.new _ _ _).alloc _
  have hWV : W.heap.size < V.heap.size := oX.lt
  have hVs : V.heap.size = W.heap.size + 2 := by rw [hV]; simp
  have oR : Own V (W.heap.size + 1) 70 #[.slice none 0 0, .slice none 0 0, .slice none 0 0, .slice none 0 0] := by rw [hV]; simpa using Own.new (W.alloc (.cells #[.slice A1 s.at_.length c1, .slice A2 s.regs.length c2, .slice A3 s.mem.length c3, .slice A4 s.buf.length c4] 70)) 70 #[.slice none 0 0, .slice none 0 0, .slice none 0 0, .slice none 0 0]
  have HO := Lib.hid (And.intro oX (And.intro oR (And.intro hVs hr.buf)))
  clear hVs oR
  have HF : Hid (∀ U, Nx V.drew U → (U.cell? ⟨W.heap.size, 0, none⟩ = some (.slice A1 s.at_.length c1) ∧ U.cell? ⟨W.heap.size, 1, none⟩ = some (.slice A2 s.regs.length c2) ∧ U.cell? ⟨W.heap.size, 2, none⟩ = some (.slice A3 s.mem.length c3)) ∧ Ints U A1 c1 s.at_ ∧ Ints U A2 c2 s.regs ∧ Ints U A3 c3 s.mem) :=
    fun U hb' => by
      have hb : Below V.heap.size V U := (Below.refl V.heap.size V).drew.trans hb'
      exact ⟨⟨Le.below hb _ _ (oX.cell (i := 0) rfl), Le.below hb _ _ (oX.cell (i := 1) rfl), Le.below hb _ _ (oX.cell (i := 2) rfl)⟩, hr.at_.le ((Le.below hB).trans (Le.below hb)), hr.regs.le ((Le.below hB).trans (Le.below hb)), hr.mem.le ((Le.below hB).trans (Le.below hb))⟩
  go_enter Tryz.func118, Tryz.ntmps118
  go_upto_region 1 with (fail)
  rw [← hV]
  clear hV
  refine wp_region_rel [0, 1, 2, 3, 4, 5, 6, 7, 8, 9, 10, 11, 12, 13] [14] (TCp W.heap.size V.heap.size A1 A2 A3 c1 c2 c3 s.at_ s.regs s.mem) clCp [5, 6, 7, 8, 9, 10, 11, 12, 13, 14, 15, 16, 17, 3] (by kernel_rfl) (by kernel_rfl) rfl (by simp) tcp_nx tcp_blk ?_ ?_
  · refine ⟨?_, ?_, ?_, ?_, ?_, ?_, ?_, ?_, ?_, ?_, ?_, ?_, ?_, ?_, trivial⟩
    all_goals (intro xs w hw hdep hsep; have hVw : V.heap.size ≤ w.heap.size := Nx.sz hw; simp only [shpA, fillL, List.contains_cons, List.contains_nil, Nat.reduceAdd, Nat.reduceBEq, Bool.or_false, Bool.or_true, Bool.false_eq_true, ↓reduceIte])
    · go_wp2_with fail
      exact RelPost.own ((Below.refl _ _).alloc (Nat.le_refl _) _) _ rfl ⟨w.heap.size, rfl, Own.new w _ _, hVw⟩ (fun b hb => .inl (by injection hb with hb; simp only at hb; omega))
    · go_wp2_with fail
      exact RelPost.mk (Nx.refl _) _ rfl rfl rfl
    · have e1 : xs 6 = .pointer (some ⟨W.heap.size, 0, none⟩) := hdep 6 (List.mem_of_elem_eq_true (by kernel_rfl))
      have q := (HF.out w hw).1.1
      rw [e1]
      go_wp2_with fail
      exact RelPost.mk (Nx.refl _) _ rfl rfl rfl
    · obtain ⟨g, e1, o1, hg1⟩ : EmpI V.heap.size w (xs 5) := hdep 5 (List.mem_of_elem_eq_true (by kernel_rfl))
      have e2 : xs 7 = .slice A1 s.at_.length c1 := hdep 7 (List.mem_of_elem_eq_true (by kernel_rfl))
      have hr := (HF.out w hw).2.1
      have e3 := e1
      rw [e1, e2]
      go_wp2_with (at_builtin; refine wpList_append_emp (o := ⟨some 8, _, _, _, _, _⟩) (by rfl) _ _ _ (by rfl) qint_congr (R := RInt) V.heap.size 3 i0 _ 8 Tryz.underlying24 hi0 hz0 hz1 hz2 rfl (by omega) g (by rfl) o1 hg1 A1 c1 s.at_ (by rfl) hr (fun cs y h => h) qint_one (by simp [maxLen]; omega) (by omega) ?_; intro A' c' w' hrow hnx hbk)
      exact RelPost.own hnx _ rfl ⟨A', c', rfl, hrow⟩ (fun b hb => by
        rcases hbk b hb with h | h
        · exact .inr ⟨5, (List.mem_of_elem_eq_true (by kernel_rfl)), rfl, by rw [e3, h]; rfl⟩
        · exact .inl h)
    · go_wp2_with fail
      exact RelPost.own ((Below.refl _ _).alloc (Nat.le_refl _) _) _ rfl ⟨w.heap.size, rfl, Own.new w _ _, hVw⟩ (fun b hb => .inl (by injection hb with hb; simp only at hb; omega))
    · go_wp2_with fail
      exact RelPost.mk (Nx.refl _) _ rfl rfl rfl
    · have e1 : xs 10 = .pointer (some ⟨W.heap.size, 1, none⟩) := hdep 10 (List.mem_of_elem_eq_true (by kernel_rfl))
      have q := (HF.out w hw).1.2.1
      rw [e1]
      go_wp2_with fail
      exact RelPost.mk (Nx.refl _) _ rfl rfl rfl
    · obtain ⟨g, e1, o1, hg1⟩ : EmpI V.heap.size w (xs 9) := hdep 9 (List.mem_of_elem_eq_true (by kernel_rfl))
      have e2 : xs 11 = .slice A2 s.regs.length c2 := hdep 11 (List.mem_of_elem_eq_true (by kernel_rfl))
      have hr := (HF.out w hw).2.2.1
      have e3 := e1
      rw [e1, e2]
      go_wp2_with (at_builtin; refine wpList_append_emp (o := ⟨some 12, _, _, _, _, _⟩) (by rfl) _ _ _ (by rfl) qint_congr (R := RInt) V.heap.size 3 i0 _ 8 Tryz.underlying24 hi0 hz0 hz1 hz2 rfl (by omega) g (by rfl) o1 hg1 A2 c2 s.regs (by rfl) hr (fun cs y h => h) qint_one (by simp [maxLen]; omega) (by omega) ?_; intro A' c' w' hrow hnx hbk)
      exact RelPost.own hnx _ rfl ⟨A', c', rfl, hrow⟩ (fun b hb => by
        rcases hbk b hb with h | h
        · exact .inr ⟨9, (List.mem_of_elem_eq_true (by kernel_rfl)), rfl, by rw [e3, h]; rfl⟩
        · exact .inl h)
    · go_wp2_with fail
      exact RelPost.own ((Below.refl _ _).alloc (Nat.le_refl _) _) _ rfl ⟨w.heap.size, rfl, Own.new w _ _, hVw⟩ (fun b hb => .inl (by injection hb with hb; simp only at hb; omega))
    · go_wp2_with fail
      exact RelPost.mk (Nx.refl _) _ rfl rfl rfl
    · have e1 : xs 14 = .pointer (some ⟨W.heap.size, 2, none⟩) := hdep 14 (List.mem_of_elem_eq_true (by kernel_rfl))
      have q := (HF.out w hw).1.2.2
      rw [e1]
      go_wp2_with fail
      exact RelPost.mk (Nx.refl _) _ rfl rfl rfl
    · obtain ⟨g, e1, o1, hg1⟩ : EmpI V.heap.size w (xs 13) := hdep 13 (List.mem_of_elem_eq_true (by kernel_rfl))
      have e2 : xs 15 = .slice A3 s.mem.length c3 := hdep 15 (List.mem_of_elem_eq_true (by kernel_rfl))
      have hr := (HF.out w hw).2.2.2
      have e3 := e1
      rw [e1, e2]
      go_wp2_with (at_builtin; refine wpList_append_emp (o := ⟨some 16, _, _, _, _, _⟩) (by rfl) _ _ _ (by rfl) qint_congr (R := RInt) V.heap.size 3 i0 _ 8 Tryz.underlying24 hi0 hz0 hz1 hz2 rfl (by omega) g (by rfl) o1 hg1 A3 c3 s.mem (by rfl) hr (fun cs y h => h) qint_one (by simp [maxLen]; omega) (by omega) ?_; intro A' c' w' hrow hnx hbk)
      exact RelPost.own hnx _ rfl ⟨A', c', rfl, hrow⟩ (fun b hb => by
        rcases hbk b hb with h | h
        · exact .inr ⟨13, (List.mem_of_elem_eq_true (by kernel_rfl)), rfl, by rw [e3, h]; rfl⟩
        · exact .inl h)
    · obtain ⟨A8, c8, e8, r8⟩ : HasI V.heap.size s.at_ w (xs 8) := hdep 8 (List.mem_of_elem_eq_true (by kernel_rfl))
      obtain ⟨A12, c12, e12, r12⟩ : HasI V.heap.size s.regs w (xs 12) := hdep 12 (List.mem_of_elem_eq_true (by kernel_rfl))
      obtain ⟨A16, c16, e16, r16⟩ : HasI V.heap.size s.mem w (xs 16) := hdep 16 (List.mem_of_elem_eq_true (by kernel_rfl))
      have hs1 : ApV (xs 8) (xs 12) := hsep 8 (List.mem_of_elem_eq_true (by kernel_rfl)) 12 (List.mem_of_elem_eq_true (by kernel_rfl)) (by decide) (by decide) (by decide)
      have hs2 : ApV (xs 8) (xs 16) := hsep 8 (List.mem_of_elem_eq_true (by kernel_rfl)) 16 (List.mem_of_elem_eq_true (by kernel_rfl)) (by decide) (by decide) (by decide)
      have hs3 : ApV (xs 12) (xs 16) := hsep 12 (List.mem_of_elem_eq_true (by kernel_rfl)) 16 (List.mem_of_elem_eq_true (by kernel_rfl)) (by decide) (by decide) (by decide)
      rw [e8, e12] at hs1
      rw [e8, e16] at hs2
      rw [e12, e16] at hs3
      rw [e8, e12, e16]
      go_wp2_with fail
      exact RelPost.mk (Nx.refl _) _ rfl ⟨_, _, _, rfl, ⟨A8, c8, rfl, r8⟩, ⟨A12, c12, rfl, r12⟩, ⟨A16, c16, rfl, r16⟩, hs1, hs2, hs3⟩ rfl
    · go_wp2_with fail
      exact RelPost.own ((Below.refl _ _).alloc (Nat.le_refl _) _) _ rfl ⟨w.heap.size, rfl, Own.new w _ _, hVw⟩ (fun b hb => .inl (by injection hb with hb; simp only at hb; omega))
  · intro xs w5 hw5 hT hsep
    obtain ⟨T, eT, oT, hT0⟩ : HasB V.heap.size 70 #[.slice none 0 0, .slice none 0 0, .slice none 0 0, .slice none 0 0] w5 (xs 3) := hT 3 (List.mem_of_elem_eq_true (by kernel_rfl))
    obtain ⟨v1, v2, v3, e17, ⟨A8, c8, rfl, r8⟩, ⟨A12, c12, rfl, r12⟩, ⟨A16, c16, rfl, r16⟩, hs1, hs2, hs3'⟩ : ∃ v1 v2 v3, xs 17 = .agg #[v1, v2, v3, .slice none 0 0] ∧ HasI V.heap.size s.at_ w5 v1 ∧ HasI V.heap.size s.regs w5 v2 ∧ HasI V.heap.size s.mem w5 v3 ∧ ApV v1 v2 ∧ ApV v1 v3 ∧ ApV v2 v3 := hT 17 (List.mem_of_elem_eq_true (by kernel_rfl))
    show wpList _ _ _ [_] _ _
    simp only [shpA, fillL, List.contains_cons, List.contains_nil, Nat.reduceAdd, Nat.reduceBEq, Bool.or_false, Bool.or_true, Bool.false_eq_true, ↓reduceIte]
    rw [eT, e17]
    have hB5 : Below V.heap.size V w5 := (Below.refl V.heap.size V).drew.trans hw5
    have hVs := HO.out.2.2.1
    have hnT : ∀ p : Nat, T ≠ W.heap.size ∧ T ≠ W.heap.size + 1 := fun _ => ⟨by omega, by omega⟩
    have y0 := oT.frozen 0
    have y1 := oT.frozen 1
    have y2 := oT.frozen 2
    have y3 := oT.frozen 3
    have z0 := oT.cell (i := 0) rfl
    have z1 := oT.cell (i := 1) rfl
    have z2 := oT.cell (i := 2) rfl
    have z3 := oT.cell (i := 3) rfl
    obtain ⟨w3, hw3⟩ : ∃ w3, w3 = (((w5.setCell ⟨T, 0, none⟩ (.slice A8 s.at_.length c8)).setCell ⟨T, 1, none⟩ (.slice A12 s.regs.length c12)).setCell ⟨T, 2, none⟩ (.slice A16 s.mem.length c16)).setCell ⟨T, 3, none⟩ (.slice none 0 0) := ⟨_, rfl⟩
    have hs3 : w3.heap.size = w5.heap.size := by rw [hw3]; simp
    have oT3 : Own w3 T 70 #[.slice A8 s.at_.length c8, .slice A12 s.regs.length c12, .slice A16 s.mem.length c16, .slice none 0 0] := by
      rw [hw3]
      exact (((oT.set 0 (.slice A8 s.at_.length c8)).set 1 (.slice A12 s.regs.length c12)).set 2 (.slice A16 s.mem.length c16)).set 3 (.slice none 0 0)
    have hfar : ∀ b, b ≠ T → w3.heap[b]? = w5.heap[b]? := fun b hb => by
      rw [hw3]
      rw [Go.Deep.blk_setCell_other _ _ _ _ hb, Go.Deep.blk_setCell_other _ _ _ _ hb, Go.Deep.blk_setCell_other _ _ _ _ hb, Go.Deep.blk_setCell_other _ _ _ _ hb]
    have hB3 : Below V.heap.size V w3 := ⟨(by rw [hw3]; exact hB5.os), (by rw [hw3]; exact hB5.tape), (by rw [hw3]; exact hB5.output), (by rw [hs3]; exact hB5.size), fun i hi => (hfar i (by omega)).trans (hB5.block i hi)⟩
    have R8 : Hid (RowI w3 V.heap.size (.slice A8 s.at_.length c8) s.at_) := r8.of_block fun g _ hg _ => hfar g (fun e => r8.ne_own oT (by decide) (by rw [hg, e]))
    have R12 : Hid (RowI w3 V.heap.size (.slice A12 s.regs.length c12) s.regs) := r12.of_block fun g _ hg _ => hfar g (fun e => r12.ne_own oT (by decide) (by rw [hg, e]))
    have R16 : Hid (RowI w3 V.heap.size (.slice A16 s.mem.length c16) s.mem) := r16.of_block fun g _ hg _ => hfar g (fun e => r16.ne_own oT (by decide) (by rw [hg, e]))
    have N8 := Lib.hid (r8.ne_own oT (by decide))
    have N12 := Lib.hid (r12.ne_own oT (by decide))
    have N16 := Lib.hid (r16.ne_own oT (by decide))
    have hTl : T < w3.heap.size := oT3.lt
    have oX3 : Own w3 W.heap.size _ _ := HO.out.1.under hB3
    have oR3 : Own w3 (W.heap.size + 1) _ _ := HO.out.2.1.under hB3
    have OX := Lib.hid oX3
    have OR := Lib.hid oR3
    have OT := Lib.hid oT3
    have Hs := Lib.hid (And.intro hs1 (And.intro hs2 hs3'))
    have hro3 : Intss w3 A4 c4 s.buf := HO.out.2.2.2.le ((Le.below hB).trans (Le.below hB3))
    have HR3 := Lib.hid hro3
    have HB3 : Hid (Below W.heap.size W w3) := hB.trans (hB3.mono hB.size)
    have hol := hro3.len
    have hT1 : W.heap.size + 1 < T := by omega
    go_upto_region 2 with (fail)
    rw [← hw3]
    clear e17 eT r8 r12 r16 hT hsep hs1 hs2 hs3' oT z0 z1 z2 z3 y0 y1 y2 y3 hfar hw3 hw5 hB5 hnT HF
    generalize xs 5 = y5x
    generalize xs 6 = y6x
    generalize xs 7 = y7x
    generalize xs 8 = y8x
    generalize xs 9 = y9x
    generalize xs 10 = y10x
    generalize xs 11 = y11x
    generalize xs 12 = y12x
    generalize xs 13 = y13x
    generalize xs 14 = y14x
    generalize xs 15 = y15x
    generalize xs 16 = y16x
    obtain ⟨K, hK⟩ : ∃ K, K = w3.heap.size := ⟨_, rfl⟩
    have HK := Lib.hid hK
    have hTK : T < K := by omega
    have hKW : W.heap.size ≤ K := by have := HB3.out.size; omega
    clear hK
    go_wp2_with fail
    go_loopg [4] s.buf.length (fun g s4 wr => ∃ (i : Nat) (v : Value) (cs : List Value) (Fs : Nat → List Nat), i ≤ s.buf.length ∧ g = s.buf.length - i ∧ s4 = .int .i64 i ∧ Hid (RowsI wr K v (s.buf.take i) cs Fs) ∧ Hid (Own wr T 70 #[.slice A8 s.at_.length c8, .slice A12 s.regs.length c12, .slice A16 s.mem.length c16, v]) ∧ Hid (MvO [T] w3 wr))
    case atStart => exact ⟨0, _, [], _, Nat.zero_le _, rfl, rfl, RowW.nil 1 _ _ _ _, OT.out, MvO.refl _ _⟩
    case round =>
      obtain ⟨wo, rfl⟩ : ∃ wo : World, wo = wr := ⟨_, rfl⟩
      obtain ⟨i, v, cs, Fs, hi, rfl, rfl, hrow, hoT, hmv⟩ := hrel
      have hsz := hmv.out.size
      have r1 := hmv.out.cell (OX.out.cell (i := 3) rfl) (by simp; omega)
      by_cases hlt : i < s.buf.length
      · obtain ⟨bj, oj, Aj, cj, rfl, hbj, j0, hrj⟩ := Intss.get HO.out.2.2.2 hlt
        have h1000 := H5.out _ (List.getElem_mem hlt)
        have hle0 : (s.buf.take i).length = i := by rw [List.length_take]; omega
        have Htk := Lib.hid (List.take_succ_eq_append_getElem hlt)
        have hleW : Le W wo := fun x u hx => by
          have hl := World.block_lt_of_cell? _ _ hx
          exact hmv.out.cell (Le.below HB3.out _ _ hx) (by simp; omega)
        have hilt : (i : Int) < (s.buf.length : Int) := by omega
        have HF : Hid (∀ U, Nx wo.drew U → U.cell? ⟨T, 3, none⟩ = some v ∧ U.cell? ⟨W.heap.size, 3, none⟩ = some (.slice (some ⟨bj, oj, none⟩) s.buf.length c4) ∧ U.cell? ⟨bj, oj + i, none⟩ = some (.slice Aj s.buf[i].length cj) ∧ Ints U Aj cj s.buf[i]) := fun U hU => by
          have hb : Below wo.heap.size wo U := (Below.refl wo.heap.size wo).drew.trans hU
          exact ⟨Le.below hb _ _ (hoT.out.cell (i := 3) rfl), Le.below hb _ _ r1, Le.below hb _ _ (hleW _ _ j0), hrj.le (hleW.trans (Le.below hb))⟩
        generalize s.buf[i] = rj at HF h1000 Htk
        clear j0 hrj hleW
        generalize s.buf.take i = xs0 at hrow hle0 Htk
        have hrow' := hrow.out
        obtain ⟨Av, cv, rfl, _⟩ := hrow'.intss
        have hTl' := hoT.out.lt
        have Hl0 := Lib.hid hle0
        clear hrow' hle0
        go_upto_region 5 with (fail)
        clear r1
        refine wp_region_rel [0, 1, 2, 3, 4, 5, 6, 7, 8, 9] [10, 11, 12] (TCq W.heap.size wo.heap.size T (.slice Av xs0.length cv) (some ⟨bj, oj, none⟩) s.buf.length c4 i (.pointer (some ⟨bj, oj + i, none⟩)) Aj cj rj) clCq [25, 26, 27, 28, 29, 30, 31, 32, 33, 34] (by kernel_rfl) (by kernel_rfl) rfl (by simp) tcq_nx tcq_blk ?_ ?_
        · refine ⟨?_, ?_, ?_, ?_, ?_, ?_, ?_, ?_, ?_, ?_, trivial⟩
          all_goals (intro xs w hw hdep hsep; have hVw : wo.heap.size ≤ w.heap.size := Nx.sz hw; simp only [shpA, fillL, List.contains_cons, List.contains_nil, Nat.reduceAdd, Nat.reduceBEq, Bool.or_false, Bool.or_true, Bool.false_eq_true, ↓reduceIte])
          · go_wp2_with fail
            exact RelPost.mk (Nx.refl _) _ rfl rfl rfl
          · have e1 : xs 25 = .pointer (some ⟨T, 3, none⟩) := hdep 25 (List.mem_of_elem_eq_true (by kernel_rfl))
            have q := (HF.out w hw).1
            rw [e1]
            go_wp2_with fail
            exact RelPost.mk (Nx.refl _) _ rfl rfl rfl
          · go_wp2_with fail
            exact RelPost.own ((Below.refl _ _).alloc (Nat.le_refl _) _) _ rfl ⟨w.heap.size, rfl, Own.new w _ _, hVw⟩ (fun b hb => .inl (by injection hb with hb; simp only at hb; omega))
          · go_wp2_with fail
            exact RelPost.mk (Nx.refl _) _ rfl rfl rfl
          · have e1 : xs 28 = .pointer (some ⟨W.heap.size, 3, none⟩) := hdep 28 (List.mem_of_elem_eq_true (by kernel_rfl))
            have q := (HF.out w hw).2.1
            rw [e1]
            go_wp2_with fail
            exact RelPost.mk (Nx.refl _) _ rfl rfl rfl
          · go_wp2_with fail
            exact RelPost.mk (Nx.refl _) _ rfl rfl rfl
          · have e1 : xs 29 = .slice (some ⟨bj, oj, none⟩) s.buf.length c4 := hdep 29 (List.mem_of_elem_eq_true (by kernel_rfl))
            have e2 : xs 30 = .int .i64 i := hdep 30 (List.mem_of_elem_eq_true (by kernel_rfl))
            rw [e1, e2]
            go_wp2_with fail
            exact RelPost.mk (Nx.refl _) _ rfl rfl rfl
          · have e1 : xs 31 = .pointer (some ⟨bj, oj + i, none⟩) := hdep 31 (List.mem_of_elem_eq_true (by kernel_rfl))
            have q := (HF.out w hw).2.2.1
            rw [e1]
            go_wp2_with fail
            exact RelPost.mk (Nx.refl _) _ rfl rfl rfl
          · obtain ⟨g, e1, o1, hg1⟩ : EmpI wo.heap.size w (xs 27) := hdep 27 (List.mem_of_elem_eq_true (by kernel_rfl))
            have e2 : xs 32 = .slice Aj rj.length cj := hdep 32 (List.mem_of_elem_eq_true (by kernel_rfl))
            have hr := (HF.out w hw).2.2.2
            have e3 := e1
            rw [e1, e2]
            go_wp2_with (at_builtin; refine wpList_append_emp (o := ⟨some 33, _, _, _, _, _⟩) (by rfl) _ _ _ (by rfl) qint_congr (R := RInt) wo.heap.size 3 i0 _ 8 Tryz.underlying24 hi0 hz0 hz1 hz2 rfl (by omega) g (by rfl) o1 hg1 Aj cj rj (by rfl) hr (fun cs y h => h) qint_one (by simp [maxLen]; omega) (by omega) ?_; intro A' c' w' hrow hnx hbk)
            exact RelPost.own hnx _ rfl ⟨A', c', rfl, hrow⟩ (fun b hb => by
              rcases hbk b hb with h | h
              · exact .inr ⟨27, (List.mem_of_elem_eq_true (by kernel_rfl)), rfl, by rw [e3, h]; rfl⟩
              · exact .inl h)
          · obtain ⟨A', c', e1, h1'⟩ : HasI wo.heap.size rj w (xs 33) := hdep 33 (List.mem_of_elem_eq_true (by kernel_rfl))
            rw [e1]
            go_wp2_with fail
            exact RelPost.own ((Below.refl _ _).alloc (Nat.le_refl _) _) _ rfl ⟨w.heap.size, _, rfl, Own.new w _ _, HasI.nx ((Below.refl _ _).alloc (Nat.le_refl _) _) ⟨A', c', rfl, h1'⟩, hVw⟩ (fun b hb => .inl (by injection hb with hb; simp only at hb; omega))
        · intro xs w7 hw7 hT hsep
          have e26 : xs 26 = .slice Av xs0.length cv := hT 26 (List.mem_of_elem_eq_true (by kernel_rfl))
          obtain ⟨gb, u, e34, ob, ⟨A', c', rfl, hru⟩, hgb⟩ : BoxI wo.heap.size rj w7 (xs 34) := hT 34 (List.mem_of_elem_eq_true (by kernel_rfl))
          have hb7 : Below wo.heap.size wo w7 := (Below.refl wo.heap.size wo).drew.trans hw7
          show wpList _ _ _ [_, _, _] _ _
          simp only [shpA, fillL, List.contains_cons, List.contains_nil, Nat.reduceAdd, Nat.reduceBEq, Bool.or_false, Bool.or_true, Bool.false_eq_true, ↓reduceIte]
          rw [e26, e34]
          clear e26 e34 hT hsep
          have hs7 := hb7.size
          have Hown := Lib.hid (owns_of_block hrow.out.own (w' := w7) fun g _ _ hl => hb7.block g hl)
          have Hob := Lib.hid ob
          have Hru := Lib.hid hru
          have hl0 : xs0.length ≤ 1000 := by rw [Hl0.out]; omega
          clear ob hru hw7
          go_wp2_with (at_builtin; refine wpList_append_lies (o := ⟨some 35, _, _, _, _, _⟩) _ (by rfl) _ _ _ (by rfl) K 24 i1 _ 1 24 Tryz.underlying31 hi1 hy0 hy1 hy2 rfl (by omega) (.slice Av xs0.length cv) xs0.length cs (by rfl) Hown.out ⟨gb, 0, none⟩ 1 1 [.slice A' rj.length c'] (by rfl) (by rfl) (World.news_of_block (cs := #[.slice A' rj.length c']) (t := 24) (fr := (0, 0)) Hob.out) (by simp [Value.oneCell']) (by omega) (by simp [maxLen]; omega) (by omega) (by have := HK.out; omega) w7.heap.size rfl ?_; intro gg cap w8 hown8 hgrow8 hat8 hlt8; have oT8 := (hoT.out.under hb7).of_block (World.grownBy.block hgrow8 T (by omega) (fun e => by have := (owns_base hrow.out.own e.symm).1; omega)); have q8 := oT8.cell (i := 3) rfl; have f8 := oT8.frozen 3)
          have hN : Hid (MvO [T] w3 (w8.setCell ⟨T, 3, none⟩ (.slice (some ⟨gg, 0, none⟩) (xs0.length + 1) cap))) := ((hmv.out.trans (.of_below hb7)).grown'' hgrow8 (fun g e => by have := (owns_base hrow.out.own e).1; have := HK.out; exact .inr (by omega))).set (by simp) _
          have hO : Hid (Own (w8.setCell ⟨T, 3, none⟩ (.slice (some ⟨gg, 0, none⟩) (xs0.length + 1) cap)) T 70 #[.slice A8 s.at_.length c8, .slice A12 s.regs.length c12, .slice A16 s.mem.length c16, .slice (some ⟨gg, 0, none⟩) (xs0.length + 1) cap]) := oT8.set 3 _
          have hP := RowW.push (rowP_loc 1 3 QInt) hrow.out (X := w7) (w1 := w8) (gg := gg) (cap' := cap) (H := w7.heap.size) (x := rj) (F := (Value.slice A' rj.length c').ownBlock.toList) (news := [.slice A' rj.length c']) hs7 (fun b _ hl => hb7.block b hl) hgrow8 rfl (RowOf.rowP Hru.out) (fun b hb => (Hru.out.blk (mem_own.1 hb)).1) (own_nodup _) (by have := HK.out; omega) hown8 hat8 rfl
          have hP' := Lib.hid (hP.move (w' := w8.setCell ⟨T, 3, none⟩ (.slice (some ⟨gg, 0, none⟩) (xs0.length + 1) cap)) (rowP_loc 1 3 QInt) (fun b hb _ => Go.Deep.blk_setCell_other _ _ _ _ (by show b ≠ T; omega)))
          clear hP hown8 hgrow8 hat8 oT8 q8 f8
          go_wp2_with fail
          go_roundg (s.buf.length - (i + 1))
          case measure => omega
          case rel => exact ⟨i + 1, _, _, _, by omega, rfl, by go_num, by rw [Htk.out]; exact hP'.out, hO.out, hN.out⟩
      · obtain rfl : i = s.buf.length := by omega
        rw [List.take_length] at hrow
        obtain ⟨A9, c9, rfl, _⟩ := hrow.out.intss
        have q0 := hoT.out.cell (i := 0) rfl
        have q1 := hoT.out.cell (i := 1) rfl
        have q2 := hoT.out.cell (i := 2) rfl
        have q3 := hoT.out.cell (i := 3) rfl
        have hTl' := hoT.out.lt
        have oRr : Own wo (W.heap.size + 1) 70 #[.slice none 0 0, .slice none 0 0, .slice none 0 0, .slice none 0 0] := OR.out.of_block (hmv.out.block _ OR.out.lt (by simp; omega))
        have p0 := oRr.cell (i := 0) rfl
        have p1 := oRr.cell (i := 1) rfl
        have p2 := oRr.cell (i := 2) rfl
        have p3 := oRr.cell (i := 3) rfl
        have f0 := oRr.frozen 0
        have f1 := oRr.frozen 1
        have f2 := oRr.frozen 2
        have f3 := oRr.frozen 3
        have hWl := oRr.lt
        have hmT : ∀ g, ¬ g = T → g < w3.heap.size → wo.heap[g]? = w3.heap[g]? := fun g hn hl => hmv.out.block g hl (by simpa using hn)
        have S8 : Hid (RowI wo V.heap.size (.slice A8 s.at_.length c8) s.at_) := R8.out.of_block fun g _ hg hl => hmT g (fun e => N8.out (by rw [hg, e])) hl
        have S12 : Hid (RowI wo V.heap.size (.slice A12 s.regs.length c12) s.regs) := R12.out.of_block fun g _ hg hl => hmT g (fun e => N12.out (by rw [hg, e])) hl
        have S16 : Hid (RowI wo V.heap.size (.slice A16 s.mem.length c16) s.mem) := R16.out.of_block fun g _ hg hl => hmT g (fun e => N16.out (by rw [hg, e])) hl
        have HBn : Hid (Below W.heap.size W wo) := HB3.out.trans (hmv.out.below (fun x hx => by simp at hx; omega) HB3.out.size)
        have HVs := Lib.hid hVs
        have Hlt : Hid (∀ A n c xs, RowI w3 V.heap.size (.slice A n c) xs → ∀ b, blkV (.slice A n c) = some b → b < K) := fun A n c xs h b hb => by
          rw [HK.out]
          exact HasI.blk (B := V.heap.size) (xs := xs) ⟨A, c, by obtain ⟨A', c', e, _⟩ := h.slice; injection e with e1 e2 e3; rw [e2], by obtain ⟨A', c', e, _⟩ := h.slice; injection e with e1 e2 e3; rw [e2] at h; exact h⟩ hb
        clear oRr hmT hVs
        go_wp2_with fail
        refine bodyPost_ret (v := .agg #[.slice A8 s.at_.length c8, .slice A12 s.regs.length c12, .slice A16 s.mem.length c16, .slice A9 s.buf.length c9]) (by simp [results, Tryz.results118, go_sem, p0, p1, p2, p3]) rfl ?_
        have hfar : ∀ b, b ≠ W.heap.size + 1 → ((((wo.setCell ⟨W.heap.size + 1, 0, none⟩ (.slice A8 s.at_.length c8)).setCell ⟨W.heap.size + 1, 1, none⟩ (.slice A12 s.regs.length c12)).setCell ⟨W.heap.size + 1, 2, none⟩ (.slice A16 s.mem.length c16)).setCell ⟨W.heap.size + 1, 3, none⟩ (.slice A9 s.buf.length c9)).heap[b]? = wo.heap[b]? := fun b hb => by
          rw [Go.Deep.blk_setCell_other _ _ _ _ hb, Go.Deep.blk_setCell_other _ _ _ _ hb, Go.Deep.blk_setCell_other _ _ _ _ hb, Go.Deep.blk_setCell_other _ _ _ _ hb]
        have hrowk : ∀ v xs, RowI wo V.heap.size v xs → RowI ((((wo.setCell ⟨W.heap.size + 1, 0, none⟩ (.slice A8 s.at_.length c8)).setCell ⟨W.heap.size + 1, 1, none⟩ (.slice A12 s.regs.length c12)).setCell ⟨W.heap.size + 1, 2, none⟩ (.slice A16 s.mem.length c16)).setCell ⟨W.heap.size + 1, 3, none⟩ (.slice A9 s.buf.length c9)) W.heap.size v xs := fun v xs h =>
          (h.of_block fun g _ hg _ => hfar g (by have := (h.blk hg).1; have := HVs.out; omega)).rebase (fun g hg => by have := (h.blk hg).1; have := HVs.out; omega)
        refine ⟨A8, A12, A16, A9, c8, c12, c16, c9, K, cs, Fs, rfl, hKW, by simp; have := HK.out; omega, ⟨hrowk _ _ S8.out, hrowk _ _ S12.out, hrowk _ _ S16.out⟩, Hs.out, fun b hb => ?_, hrow.out.move (rowP_loc 1 3 QInt) (fun b hb _ => hfar b (by omega)), (((HBn.out.setCell (by simp) _).setCell (by simp) _).setCell (by simp) _).setCell (by simp) _⟩
        rcases hb with hb | hb | hb
        · exact Hlt.out _ _ _ _ R8.out b hb
        · exact Hlt.out _ _ _ _ R12.out b hb
        · exact Hlt.out _ _ _ _ R16.out b hb

end Go.Proofs.YtahegjofooahkaaGreat
