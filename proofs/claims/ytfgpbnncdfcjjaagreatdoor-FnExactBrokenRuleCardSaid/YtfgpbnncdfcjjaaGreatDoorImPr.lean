/-
  The walk of impl.isPair.
-/
import Derived.Test.YtfgpbnncdfcjjaaGreatDoorRelFG
import Derived.Test.YtfgpbnncdfcjjaaGreatDoorSpRel
import Derived.StillTailTactics
namespace Go.Proofs.YtfgpbnncdfcjjaaGreatDoor
open Go.RowKit
set_option linter.unusedVariables false
set_option maxRecDepth 100000

/-- What a pair of events is, on their data alone. -/
def pairI (j : Nat) (a b : Ev) (i k : Nat) (fi fk : Int) (o : List Int) (fen : Bool) : Bool :=
  match j with
  | 0 => poB a b
  | 1 => decide (a.loc = b.loc)
  | 2 => !sameT a b
  | 3 => decide (fk = (i : Int))
  | 4 => befB o i k
  | 5 => a.rd && b.wr && !decide (i = k) && befB o fi k
  | 6 => poB a b && fen
  | 7 => a.wr && !a.rd && b.rd && !b.wr
  | 8 => a.wr && !a.rd && b.wr && !b.rd
  | _ => decide (i = k)
theorem pairI_eq {p : Prg} {x : Ex} {i k : Nat} (hi : i < (evs p).length) (hk : k < (evs p).length) {j : Nat} (hj : j < 10) :
    pairI j (evs p)[i] (evs p)[k] i k (x.from_.getD i 0) (x.from_.getD k 0) (ordAt x (evs p)[i].loc) (fenB p (evs p)[i] (evs p)[k]) = pairB p x (evs p) j i k := by
  have e1 := getE hi
  have e2 := getE hk
  match j, hj with
  | 0, _ => unfold pairI pairB; rw [e1, e2]; rfl
  | 1, _ => unfold pairI pairB; rw [e1, e2]; rfl
  | 2, _ => unfold pairI pairB; rw [e1, e2]; rfl
  | 3, _ => rfl
  | 4, _ => unfold pairI pairB; rw [e1]; rfl
  | 5, _ => unfold pairI pairB; rw [e1, e2]; rfl
  | 6, _ => unfold pairI pairB; rw [e1, e2]; rfl
  | 7, _ => unfold pairI pairB; rw [e1, e2]; rfl
  | 8, _ => unfold pairI pairB; rw [e1, e2]; rfl
  | 9, _ => rfl
structure Two (w0 : World) (a b : Ev) (s t : Value) (w : World) : Prop where
  h : ∃ g h : Nat, s = .pointer (some ⟨g, 0, none⟩) ∧ t = .pointer (some ⟨h, 0, none⟩) ∧ Own w g 94 #[.int .i64 a.thr, .int .i64 a.idx, .int .i64 a.loc, .bool a.rd, .bool a.wr] ∧ Own w h 94 #[.int .i64 b.thr, .int .i64 b.idx, .int .i64 b.loc, .bool b.rd, .bool b.wr] ∧ Below w0.heap.size w0 w

set_option maxHeartbeats 8000000 in
theorem imPair0_any (nP nF nO : Nat) (fi fk : Int) (a b : Ev) (i k : Nat) (w : World) (AL Ap A B : Option Addr) (cL cp c d n bL oL : Nat) (hL : AL = some ⟨bL, oL, none⟩) (hin : i < n) (hkn : k < n) (hn : n ≤ 16) (hbL : bL < w.heap.size)
    (a0 : w.cell? ⟨bL, oL + i * 5, none⟩ = some (.int .i64 a.thr)) (a1 : w.cell? ⟨bL, oL + i * 5 + 1, none⟩ = some (.int .i64 a.idx)) (a2 : w.cell? ⟨bL, oL + i * 5 + 2, none⟩ = some (.int .i64 a.loc)) (a3 : w.cell? ⟨bL, oL + i * 5 + 3, none⟩ = some (.bool a.rd)) (a4 : w.cell? ⟨bL, oL + i * 5 + 4, none⟩ = some (.bool a.wr))
    (b0 : w.cell? ⟨bL, oL + k * 5, none⟩ = some (.int .i64 b.thr)) (b1 : w.cell? ⟨bL, oL + k * 5 + 1, none⟩ = some (.int .i64 b.idx)) (b2 : w.cell? ⟨bL, oL + k * 5 + 2, none⟩ = some (.int .i64 b.loc)) (b3 : w.cell? ⟨bL, oL + k * 5 + 3, none⟩ = some (.bool b.rd)) (b4 : w.cell? ⟨bL, oL + k * 5 + 4, none⟩ = some (.bool b.wr))
    (bf of : Nat) (hA : A = some ⟨bf, of, none⟩) (hfi : i < nF) (hfk : k < nF) (fi0 : w.cell? ⟨bf, of + i, none⟩ = some (.int .i64 fi)) (fk0 : w.cell? ⟨bf, of + k, none⟩ = some (.int .i64 fk))
    (fen : Bool) (o : List Int)
    (hbef : ∀ (s t : Int) (W : World), Below w.heap.size w W → Calls Tryz.prog 176 #[.agg #[.slice A nF c, .slice B nO d], .int .i64 a.loc, .int .i64 s, .int .i64 t] W (RetB W (befB o s t)))
    (hfen : poB a b = true → ∃ (t bp op' bq oq c' m i' j' : Nat), a.thr = (t : Int) ∧ a.idx = (i' : Int) ∧ b.idx = (j' : Int) ∧ i' < j' ∧ j' ≤ c' ∧ Ap = some ⟨bp, op', none⟩ ∧ t < nP ∧ bp < w.heap.size ∧ w.cell? ⟨bp, op' + t, none⟩ = some (.slice (some ⟨bq, oq, none⟩) m c') ∧ ∀ W c'', Below w.heap.size w W → Calls Tryz.prog 177 #[.slice (some ⟨bq, oq + i' * 4, none⟩) (j' - i') c'', .func (.func 178) #[] #[]] W (RetB W fen))
    (j : Nat) (hj : j < 10) :
    Calls Tryz.prog 123 #[.slice Ap nP cp, .agg #[.slice A nF c, .slice B nO d], .slice AL n cL, .string (nmAt j), .int .i64 i, .int .i64 k] w (RetB w (pairI j a b i k fi fk o fen)) := by
  obtain ⟨at_, ai, al, ar, aw⟩ := a
  obtain ⟨bt, bi, bl, br, bw⟩ := b
  simp only at a0 a1 a2 a3 a4 b0 b1 b2 b3 b4 hbef hfen
  subst hL hA
  obtain ⟨W, hW⟩ : ∃ W, W = w.alloc (.cells #[.slice (some ⟨bf, of, none⟩) nF c, .slice B nO d] 27) := ⟨_, rfl⟩
  have hb0 : Below w.heap.size w W := by rw [hW]; exact (Below.refl _ _).alloc (Nat.le_refl _) _
  have hx0 : Own W w.heap.size 27 #[.slice (some ⟨bf, of, none⟩) nF c, .slice B nO d] := by rw [hW]; exact Own.new _ _ _
  have hlW : w.heap.size < W.heap.size := hx0.lt
  have hbW : bL < W.heap.size := by omega
  replace a0 := Le.below hb0 _ _ a0
  replace a1 := Le.below hb0 _ _ a1
  replace a2 := Le.below hb0 _ _ a2
  replace a3 := Le.below hb0 _ _ a3
  replace a4 := Le.below hb0 _ _ a4
  replace b0 := Le.below hb0 _ _ b0
  replace b1 := Le.below hb0 _ _ b1
  replace b2 := Le.below hb0 _ _ b2
  replace b3 := Le.below hb0 _ _ b3
  replace b4 := Le.below hb0 _ _ b4
  go_enter Tryz.func123, Tryz.ntmps123
  go_upto_region 1 with fail
  rw [← hW]
  clear hW
  go_cut [13, 14] from 16 to 24 (fun s13 s14 wx => Two W ⟨at_, ai, al, ar, aw⟩ ⟨bt, bi, bl, br, bw⟩ s13 s14 wx)
  case first =>
    go_region_with (fail)
    go_wp2_with fail
    all_goals first
      | (go_meet; exact ⟨W.heap.size, W.heap.size + 1, rfl, rfl, ((Own.new _ _ _).alloc _).drew, (by simpa using Own.new (W.alloc (.cells #[.int .i64 at_, .int .i64 ai, .int .i64 al, .bool ar, .bool aw] 94)) 94 #[.int .i64 bt, .int .i64 bi, .int .i64 bl, .bool br, .bool bw] : Own _ (W.heap.size + 1) _ _).drew, (((Below.refl _ _).alloc (Nat.le_refl _) _).alloc (by simp) _).drew⟩)
      | (go_meet; exact ⟨W.heap.size + 1, W.heap.size, rfl, rfl, (by simpa using Own.new (W.alloc (.cells #[.int .i64 bt, .int .i64 bi, .int .i64 bl, .bool br, .bool bw] 94)) 94 #[.int .i64 at_, .int .i64 ai, .int .i64 al, .bool ar, .bool aw] : Own _ (W.heap.size + 1) _ _).drew, ((Own.new _ _ _).alloc _).drew, (((Below.refl _ _).alloc (Nat.le_refl _) _).alloc (by simp) _).drew⟩)
  case rest =>
  obtain ⟨gA, gB, rfl, rfl, he0, hg0, hbw⟩ := hcut.h
  have hb := hb0.trans (hbw.mono hb0.size)
  have hx1 := hx0.under hbw
  have x0 := hx1.cell (i := 0) (v := .slice (some ⟨bf, of, none⟩) nF c) rfl
  have x1 := hx1.cell (i := 1) (v := .slice B nO d) rfl
  have e0 := he0.cell (i := 0) (v := .int .i64 at_) rfl
  have e1 := he0.cell (i := 1) (v := .int .i64 ai) rfl
  have e2 := he0.cell (i := 2) (v := .int .i64 al) rfl
  have e3 := he0.cell (i := 3) (v := .bool ar) rfl
  have e4 := he0.cell (i := 4) (v := .bool aw) rfl
  have g0 := hg0.cell (i := 0) (v := .int .i64 bt) rfl
  have g1 := hg0.cell (i := 1) (v := .int .i64 bi) rfl
  have g2 := hg0.cell (i := 2) (v := .int .i64 bl) rfl
  have g3 := hg0.cell (i := 3) (v := .bool br) rfl
  have g4 := hg0.cell (i := 4) (v := .bool bw) rfl
  replace fi0 := Le.below hb _ _ fi0
  replace fk0 := Le.below hb _ _ fk0
  clear hcut he0 hg0 hx0 hx1 a0 a1 a2 a3 a4 b0 b1 b2 b3 b4
  go_upto_region 2 with fail
  go_cut [15] from 24 to 41 (fun s15 wx => s15 = .bool (poB ⟨at_, ai, al, ar, aw⟩ ⟨bt, bi, bl, br, bw⟩) ∧ wc = wx)
  case first =>
    by_cases h0 : 0 ≤ at_
    · have t0 : decide (0 ≤ at_) = true := decide_eq_true h0
      by_cases h1 : at_ = bt
      · have t1 : ((at_ : Int) == bt) = true := by rw [beq_iff_eq]; exact h1
        have H1 := Lib.hid h1
        have H0 := Lib.hid h0
        clear h1
        go_wp2_with fail
        go_meet
        exact ⟨congrArg Value.bool (by show _ = (decide (at_ = bt) && decide (0 ≤ at_) && decide (ai < bi)); rw [decide_eq_true H1.out, decide_eq_true H0.out]; rfl), rfl⟩
      · have t1 : ((at_ : Int) == bt) = false := by rw [beq_eq_false_iff_ne]; exact h1
        have H1 := Lib.hid h1
        clear h1
        go_wp2_with fail
        go_meet
        exact ⟨congrArg Value.bool (by show _ = (decide (at_ = bt) && decide (0 ≤ at_) && decide (ai < bi)); rw [decide_eq_false H1.out]; rfl), rfl⟩
    · have t0 : decide (0 ≤ at_) = false := decide_eq_false h0
      have H0 := Lib.hid h0
      go_wp2_with fail
      go_meet
      exact ⟨congrArg Value.bool (by show _ = (decide (at_ = bt) && decide (0 ≤ at_) && decide (ai < bi)); rw [t0]; simp), rfl⟩
  case rest =>
  obtain ⟨rfl, rfl⟩ := hcut
  match j, hj with -- GEN
  | 0, _ =>
    have s0 : ((nmAt 0).toList == [112, 111]) = true := by rw [Go.ByteArray.toList_eq]; rfl
    go_wp2_with fail
    go_ret
    exact ⟨ret_bool (by rfl), hb⟩
  | 1, _ =>
    have s0 : ((nmAt 1).toList == [112, 111]) = false := by rw [Go.ByteArray.toList_eq]; rfl
    have s1 : ((nmAt 1).toList == [108, 111, 99]) = true := by rw [Go.ByteArray.toList_eq]; rfl
    go_wp2_with fail
    go_ret
    exact ⟨ret_bool (by rfl), hb⟩
  | 2, _ =>
    have s0 : ((nmAt 2).toList == [112, 111]) = false := by rw [Go.ByteArray.toList_eq]; rfl
    have s1 : ((nmAt 2).toList == [108, 111, 99]) = false := by rw [Go.ByteArray.toList_eq]; rfl
    have s2 : ((nmAt 2).toList == [101, 120, 116]) = true := by rw [Go.ByteArray.toList_eq]; rfl
    by_cases h1 : at_ = bt
    · have t1 : ((at_ : Int) != bt) = false := by simp [h1]
      have H1 := Lib.hid h1
      clear h1
      go_wp2_with fail
      go_ret
      exact ⟨ret_bool (by show _ = !(decide (at_ = bt) && decide (0 ≤ at_)); rw [decide_eq_true H1.out, Bool.true_and, ← decide_not]; exact decide_eq_decide.2 (Int.not_le).symm), hb⟩
    · have t1 : ((at_ : Int) != bt) = true := by simpa using h1
      have H1 := Lib.hid h1
      clear h1
      go_wp2_with fail
      go_ret
      exact ⟨ret_bool (by show _ = !(decide (at_ = bt) && decide (0 ≤ at_)); rw [decide_eq_false H1.out]; rfl), hb⟩
  | 3, _ =>
    have s0 : ((nmAt 3).toList == [112, 111]) = false := by rw [Go.ByteArray.toList_eq]; rfl
    have s1 : ((nmAt 3).toList == [108, 111, 99]) = false := by rw [Go.ByteArray.toList_eq]; rfl
    have s2 : ((nmAt 3).toList == [101, 120, 116]) = false := by rw [Go.ByteArray.toList_eq]; rfl
    have s3 : ((nmAt 3).toList == [114, 102]) = true := by rw [Go.ByteArray.toList_eq]; rfl
    go_wp2_with fail
    go_ret
    exact ⟨ret_bool (by rfl), hb⟩
  | 4, _ =>
    have s0 : ((nmAt 4).toList == [112, 111]) = false := by rw [Go.ByteArray.toList_eq]; rfl
    have s1 : ((nmAt 4).toList == [108, 111, 99]) = false := by rw [Go.ByteArray.toList_eq]; rfl
    have s2 : ((nmAt 4).toList == [101, 120, 116]) = false := by rw [Go.ByteArray.toList_eq]; rfl
    have s3 : ((nmAt 4).toList == [114, 102]) = false := by rw [Go.ByteArray.toList_eq]; rfl
    have s4 : ((nmAt 4).toList == [99, 111]) = true := by rw [Go.ByteArray.toList_eq]; rfl
    go_wp2_with fail
    refine (hbef i k wc hb).mono ?_
    rintro e' w' ⟨rfl, hb'⟩
    go_wp2_with fail
    go_ret
    exact ⟨rfl, hb.trans (hb'.mono hb.size)⟩
  | 5, _ =>
    have s0 : ((nmAt 5).toList == [112, 111]) = false := by rw [Go.ByteArray.toList_eq]; rfl
    have s1 : ((nmAt 5).toList == [108, 111, 99]) = false := by rw [Go.ByteArray.toList_eq]; rfl
    have s2 : ((nmAt 5).toList == [101, 120, 116]) = false := by rw [Go.ByteArray.toList_eq]; rfl
    have s3 : ((nmAt 5).toList == [114, 102]) = false := by rw [Go.ByteArray.toList_eq]; rfl
    have s4 : ((nmAt 5).toList == [99, 111]) = false := by rw [Go.ByteArray.toList_eq]; rfl
    have s5 : ((nmAt 5).toList == [102, 114]) = true := by rw [Go.ByteArray.toList_eq]; rfl
    have E0 := fun n : Ext wc => n.le _ _ e0
    have E1 := fun n : Ext wc => n.le _ _ e1
    have E2 := fun n : Ext wc => n.le _ _ e2
    have E3 := fun n : Ext wc => n.le _ _ e3
    have E4 := fun n : Ext wc => n.le _ _ e4
    have G0 := fun n : Ext wc => n.le _ _ g0
    have G1 := fun n : Ext wc => n.le _ _ g1
    have G2 := fun n : Ext wc => n.le _ _ g2
    have G4 := fun n : Ext wc => n.le _ _ g4
    have X0 := fun n : Ext wc => n.le _ _ x0
    have X1 := fun n : Ext wc => n.le _ _ x1
    have FI := fun n : Ext wc => n.le _ _ fi0
    cases ar
    · go_wp2_with fail
      refine wp_region_ext wc (by kernel_rfl) (by kernel_rfl) (Below.refl _ _) ?_
      repeat (go_big_quiet_step ((go_at_call 176; exact Ext.call _ fun W' hW' => hbef _ _ W' (hb.trans (hW'.mono hb.size)))))
      refine wpQuiet_nil ?_
      rintro wn ⟨⟨_, hbn⟩, rfl⟩
      go_wp2_with fail
      go_ret
      exact ⟨ret_bool (by rfl), hb.trans (hbn.mono hb.size)⟩
    cases bw
    · go_wp2_with fail
      refine wp_region_ext wc (by kernel_rfl) (by kernel_rfl) (Below.refl _ _) ?_
      repeat (go_big_quiet_step ((go_at_call 176; exact Ext.call _ fun W' hW' => hbef _ _ W' (hb.trans (hW'.mono hb.size)))))
      refine wpQuiet_nil ?_
      rintro wn ⟨⟨_, hbn⟩, rfl⟩
      go_wp2_with fail
      go_ret
      exact ⟨ret_bool (by rfl), hb.trans (hbn.mono hb.size)⟩
    by_cases hik : i = k
    · have bik : ((i : Int) != (k : Int)) = false := by simp [hik]
      have Hik := Lib.hid hik
      clear hik
      go_wp2_with fail
      refine wp_region_ext wc (by kernel_rfl) (by kernel_rfl) (Below.refl _ _) ?_
      repeat (go_big_quiet_step ((go_at_call 176; exact Ext.call _ fun W' hW' => hbef _ _ W' (hb.trans (hW'.mono hb.size)))))
      refine wpQuiet_nil ?_
      rintro wn ⟨⟨_, hbn⟩, rfl⟩
      go_wp2_with fail
      go_ret
      exact ⟨ret_bool (by show _ = (true && true && !decide (i = k) && _); rw [decide_eq_true Hik.out]; rfl), hb.trans (hbn.mono hb.size)⟩
    · have bik : ((i : Int) != (k : Int)) = true := by simp; omega
      have Hik := Lib.hid hik
      clear hik
      go_wp2_with fail
      refine wp_region_ext wc (by kernel_rfl) (by kernel_rfl) (Below.refl _ _) ?_
      repeat (go_big_quiet_step ((go_at_call 176; exact Ext.call _ fun W' hW' => hbef _ _ W' (hb.trans (hW'.mono hb.size)))))
      refine wpQuiet_nil ?_
      rintro wn ⟨⟨_, hbn⟩, rfl⟩
      go_wp2_with fail
      go_ret
      exact ⟨ret_bool (by show _ = (true && true && !decide (i = k) && _); rw [decide_eq_false Hik.out]; simp), hb.trans (hbn.mono hb.size)⟩
  | 6, _ =>
    have s0 : ((nmAt 6).toList == [112, 111]) = false := by rw [Go.ByteArray.toList_eq]; rfl
    have s1 : ((nmAt 6).toList == [108, 111, 99]) = false := by rw [Go.ByteArray.toList_eq]; rfl
    have s2 : ((nmAt 6).toList == [101, 120, 116]) = false := by rw [Go.ByteArray.toList_eq]; rfl
    have s3 : ((nmAt 6).toList == [114, 102]) = false := by rw [Go.ByteArray.toList_eq]; rfl
    have s4 : ((nmAt 6).toList == [99, 111]) = false := by rw [Go.ByteArray.toList_eq]; rfl
    have s5 : ((nmAt 6).toList == [102, 114]) = false := by rw [Go.ByteArray.toList_eq]; rfl
    have s6 : ((nmAt 6).toList == [102, 101, 110, 99, 101]) = true := by rw [Go.ByteArray.toList_eq]; rfl
    have E0 := fun n : Ext wc => n.le _ _ e0
    have E1 := fun n : Ext wc => n.le _ _ e1
    have E2 := fun n : Ext wc => n.le _ _ e2
    have E3 := fun n : Ext wc => n.le _ _ e3
    have E4 := fun n : Ext wc => n.le _ _ e4
    have G0 := fun n : Ext wc => n.le _ _ g0
    have G1 := fun n : Ext wc => n.le _ _ g1
    have G2 := fun n : Ext wc => n.le _ _ g2
    have G4 := fun n : Ext wc => n.le _ _ g4
    have X0 := fun n : Ext wc => n.le _ _ x0
    have X1 := fun n : Ext wc => n.le _ _ x1
    cases hpo : poB ⟨at_, ai, al, ar, aw⟩ ⟨bt, bi, bl, br, bw⟩
    · have Hv := Lib.hid hpo
      clear hfen hpo
      go_wp2_with fail
      refine wp_region_ext wc (by kernel_rfl) (by kernel_rfl) (Below.refl _ _) ?_
      repeat (go_big_quiet_step (fail))
      refine wpQuiet_nil ?_
      rintro wn ⟨⟨_, hbn⟩, rfl⟩
      go_wp2_with fail
      go_ret
      exact ⟨ret_bool (by show _ = (_ && fen); rw [Hv.out]; rfl), hb.trans (hbn.mono hb.size)⟩
    have Hv := Lib.hid hpo
    obtain ⟨t, bp, op', bq, oq, c', m, i', j', rfl, rfl, rfl, hij, hjc, rfl, ht, hbp, hcp, hfc⟩ := hfen hpo
    clear hfen hpo
    have P0 := fun n : Ext wc => n.le _ _ (Le.below hb _ _ hcp)
    have hij' : i' ≤ j' := by omega
    have hic : i' < c' := by omega
    go_wp2_with fail
    refine wp_region_ext wc (by kernel_rfl) (by kernel_rfl) (Below.refl _ _) ?_
    repeat (go_big_quiet_step ((go_at_call 177; exact Ext.call _ fun W' hW' => hfc W' _ (hb.trans (hW'.mono hb.size)))))
    refine wpQuiet_nil ?_
    rintro wn ⟨⟨_, hbn⟩, rfl⟩
    go_wp2_with fail
    go_ret
    exact ⟨ret_bool (by show _ = (_ && fen); rw [Hv.out]; simp), hb.trans (hbn.mono hb.size)⟩
  | 7, _ =>
    have s0 : ((nmAt 7).toList == [112, 111]) = false := by rw [Go.ByteArray.toList_eq]; rfl
    have s1 : ((nmAt 7).toList == [108, 111, 99]) = false := by rw [Go.ByteArray.toList_eq]; rfl
    have s2 : ((nmAt 7).toList == [101, 120, 116]) = false := by rw [Go.ByteArray.toList_eq]; rfl
    have s3 : ((nmAt 7).toList == [114, 102]) = false := by rw [Go.ByteArray.toList_eq]; rfl
    have s4 : ((nmAt 7).toList == [99, 111]) = false := by rw [Go.ByteArray.toList_eq]; rfl
    have s5 : ((nmAt 7).toList == [102, 114]) = false := by rw [Go.ByteArray.toList_eq]; rfl
    have s6 : ((nmAt 7).toList == [102, 101, 110, 99, 101]) = false := by rw [Go.ByteArray.toList_eq]; rfl
    have s7 : ((nmAt 7).toList == [119, 114]) = true := by rw [Go.ByteArray.toList_eq]; rfl
    cases ar <;> cases aw
    case' false.true =>
      go_wp2_with fail
      refine (pure_any ⟨at_, ai, al, false, true⟩ true _).mono ?_
      rintro e1 w1 ⟨rfl, hb1⟩
      replace g0 := Le.below hb1 _ _ g0
      replace g1 := Le.below hb1 _ _ g1
      replace g2 := Le.below hb1 _ _ g2
      replace g3 := Le.below hb1 _ _ g3
      replace g4 := Le.below hb1 _ _ g4
      go_wp2_with fail
      refine (pure_any ⟨bt, bi, bl, br, bw⟩ false _).mono ?_
      rintro e2 w2 ⟨rfl, hb2⟩
      go_wp2_with fail
      go_ret
      exact ⟨ret_bool (by cases br <;> cases bw <;> rfl), hb.trans ((hb1.trans (hb2.mono hb1.size)).mono hb.size)⟩
    all_goals
      go_wp2_with fail
      refine (pure_any ⟨at_, ai, al, _, _⟩ true _).mono ?_
      rintro e1 w1 ⟨rfl, hb1⟩
      go_wp2_with fail
      go_ret
      exact ⟨ret_bool (by rfl), hb.trans (hb1.mono hb.size)⟩
  | 8, _ =>
    have s0 : ((nmAt 8).toList == [112, 111]) = false := by rw [Go.ByteArray.toList_eq]; rfl
    have s1 : ((nmAt 8).toList == [108, 111, 99]) = false := by rw [Go.ByteArray.toList_eq]; rfl
    have s2 : ((nmAt 8).toList == [101, 120, 116]) = false := by rw [Go.ByteArray.toList_eq]; rfl
    have s3 : ((nmAt 8).toList == [114, 102]) = false := by rw [Go.ByteArray.toList_eq]; rfl
    have s4 : ((nmAt 8).toList == [99, 111]) = false := by rw [Go.ByteArray.toList_eq]; rfl
    have s5 : ((nmAt 8).toList == [102, 114]) = false := by rw [Go.ByteArray.toList_eq]; rfl
    have s6 : ((nmAt 8).toList == [102, 101, 110, 99, 101]) = false := by rw [Go.ByteArray.toList_eq]; rfl
    have s7 : ((nmAt 8).toList == [119, 114]) = false := by rw [Go.ByteArray.toList_eq]; rfl
    have s8 : ((nmAt 8).toList == [119, 119]) = true := by rw [Go.ByteArray.toList_eq]; rfl
    cases ar <;> cases aw
    case' false.true =>
      go_wp2_with fail
      refine (pure_any ⟨at_, ai, al, false, true⟩ true _).mono ?_
      rintro e1 w1 ⟨rfl, hb1⟩
      replace g0 := Le.below hb1 _ _ g0
      replace g1 := Le.below hb1 _ _ g1
      replace g2 := Le.below hb1 _ _ g2
      replace g3 := Le.below hb1 _ _ g3
      replace g4 := Le.below hb1 _ _ g4
      go_wp2_with fail
      refine (pure_any ⟨bt, bi, bl, br, bw⟩ true _).mono ?_
      rintro e2 w2 ⟨rfl, hb2⟩
      go_wp2_with fail
      go_ret
      exact ⟨ret_bool (by cases br <;> cases bw <;> rfl), hb.trans ((hb1.trans (hb2.mono hb1.size)).mono hb.size)⟩
    all_goals
      go_wp2_with fail
      refine (pure_any ⟨at_, ai, al, _, _⟩ true _).mono ?_
      rintro e1 w1 ⟨rfl, hb1⟩
      go_wp2_with fail
      go_ret
      exact ⟨ret_bool (by rfl), hb.trans (hb1.mono hb.size)⟩
  | 9, _ =>
    have s0 : ((nmAt 9).toList == [112, 111]) = false := by rw [Go.ByteArray.toList_eq]; rfl
    have s1 : ((nmAt 9).toList == [108, 111, 99]) = false := by rw [Go.ByteArray.toList_eq]; rfl
    have s2 : ((nmAt 9).toList == [101, 120, 116]) = false := by rw [Go.ByteArray.toList_eq]; rfl
    have s3 : ((nmAt 9).toList == [114, 102]) = false := by rw [Go.ByteArray.toList_eq]; rfl
    have s4 : ((nmAt 9).toList == [99, 111]) = false := by rw [Go.ByteArray.toList_eq]; rfl
    have s5 : ((nmAt 9).toList == [102, 114]) = false := by rw [Go.ByteArray.toList_eq]; rfl
    have s6 : ((nmAt 9).toList == [102, 101, 110, 99, 101]) = false := by rw [Go.ByteArray.toList_eq]; rfl
    have s7 : ((nmAt 9).toList == [119, 114]) = false := by rw [Go.ByteArray.toList_eq]; rfl
    have s8 : ((nmAt 9).toList == [119, 119]) = false := by rw [Go.ByteArray.toList_eq]; rfl
    go_wp2_with fail
    go_ret
    exact ⟨ret_bool (by show decide ((i : Int) = (k : Int)) = decide (i = k); exact decide_eq_decide.2 Int.natCast_inj), hb⟩
  -- END GEN

end Go.Proofs.YtfgpbnncdfcjjaaGreatDoor
