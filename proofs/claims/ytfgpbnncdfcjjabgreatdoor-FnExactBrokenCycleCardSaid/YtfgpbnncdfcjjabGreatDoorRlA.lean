/-
  The walk of spec.l6Pair. The walks of spec.l6Rel, spec.RelOf. The walk of impl.isPair. The walks of relOf$1, impl.pairsOf with it, impl.relOf, impl.RelOf.
-/
import Derived.Test.YtfgpbnncdfcjjabGreatDoorRelFG
import Derived.Test.YtfgpbnncdfcjjabGreatDoorRel1
import Derived.Test.YtfgpbnncdfcjjabGreatDoorNm
import Derived.Test.YtfgpbnncdfcjjabGreatDoorWrCV
import Derived.Test.YtfgpbnncdfcjjabGreatDoorRelA
import Derived.Test.YtfgpbnncdfcjjabGreatDoorThr2
import Derived.Test.YtfgpbnncdfcjjabGreatDoorImCV
import Derived.Deep.CutRange
import Derived.StillTailTactics

/-! The walk of spec.l6Pair. The walks of spec.l6Rel, spec.RelOf. -/
/-! The walk of spec.l6Pair. -/
namespace Go.Proofs.YtfgpbnncdfcjjabGreatDoor
open Go.RowKit
set_option linter.unusedVariables false
set_option maxRecDepth 100000

/-- What a pair of events is, on their data alone. -/
def pairE (j : Nat) (a b : Ev) (i k : Nat) (fi fk : Int) (o : List Int) (fen : Bool) : Bool :=
  match j with
  | 0 => poB a b
  | 1 => decide (a.loc = b.loc)
  | 2 => !sameT a b
  | 3 => b.rd && decide (fk = (i : Int))
  | 4 => a.wr && b.wr && decide (a.loc = b.loc) && decide (plI o i < plI o k)
  | 5 => a.rd && b.wr && decide (a.loc = b.loc) && !decide (i = k) && decide (plI o fi < plI o k)
  | 6 => poB a b && fen
  | 7 => a.wr && !a.rd && b.rd && !b.wr
  | 8 => a.wr && !a.rd && b.wr && !b.rd
  | _ => decide (i = k)
theorem pairE_eq {p : Prg} {x : Ex} (h : CandOk p x) {i k : Nat} (hi : i < (evs p).length) (hk : k < (evs p).length) {j : Nat} (hj : j < 10) :
    pairE j (evs p)[i] (evs p)[k] i k (x.from_.getD i 0) (x.from_.getD k 0) (ordAt x (evs p)[i].loc) (fenB p (evs p)[i] (evs p)[k]) = pairB p x (evs p) j i k := by
  have e1 := getE hi
  have e2 := getE hk
  match j, hj with
  | 0, _ => unfold pairE pairB; rw [e1, e2]; rfl
  | 1, _ => unfold pairE pairB; rw [e1, e2]; rfl
  | 2, _ => unfold pairE pairB; rw [e1, e2]; rfl
  | 3, _ => exact spec_rf h hi hk
  | 4, _ => unfold pairE pairB; rw [e1]; exact spec_co h hi hk
  | 5, _ => unfold pairE pairB; rw [e1, e2]; exact spec_fr h hi hk
  | 6, _ => unfold pairE pairB; rw [e1, e2]; rfl
  | 7, _ => unfold pairE pairB; rw [e1, e2]; rfl
  | 8, _ => unfold pairE pairB; rw [e1, e2]; rfl
  | 9, _ => rfl
/-- Name number j. -/
def nmAt (j : Nat) : ByteArray := nm.getD j ⟨#[]⟩

set_option maxHeartbeats 8000000 in
theorem spPair0_any (nP nF nO : Nat) (fi fk : Int) (a b : Ev) (i k : Nat) (w : World) (AL Ap A B : Option Addr) (cL cp c d n bL oL : Nat) (hL : AL = some ⟨bL, oL, none⟩) (hin : i < n) (hkn : k < n) (hn : n ≤ 16) (hbL : bL < w.heap.size)
    (a0 : w.cell? ⟨bL, oL + i * 5, none⟩ = some (.int .i64 a.thr)) (a1 : w.cell? ⟨bL, oL + i * 5 + 1, none⟩ = some (.int .i64 a.idx)) (a2 : w.cell? ⟨bL, oL + i * 5 + 2, none⟩ = some (.int .i64 a.loc)) (a3 : w.cell? ⟨bL, oL + i * 5 + 3, none⟩ = some (.bool a.rd)) (a4 : w.cell? ⟨bL, oL + i * 5 + 4, none⟩ = some (.bool a.wr))
    (b0 : w.cell? ⟨bL, oL + k * 5, none⟩ = some (.int .i64 b.thr)) (b1 : w.cell? ⟨bL, oL + k * 5 + 1, none⟩ = some (.int .i64 b.idx)) (b2 : w.cell? ⟨bL, oL + k * 5 + 2, none⟩ = some (.int .i64 b.loc)) (b3 : w.cell? ⟨bL, oL + k * 5 + 3, none⟩ = some (.bool b.rd)) (b4 : w.cell? ⟨bL, oL + k * 5 + 4, none⟩ = some (.bool b.wr))
    (bf of : Nat) (hA : A = some ⟨bf, of, none⟩) (hfi : i < nF) (hfk : k < nF) (fi0 : w.cell? ⟨bf, of + i, none⟩ = some (.int .i64 (fi))) (fk0 : w.cell? ⟨bf, of + k, none⟩ = some (.int .i64 (fk)))
    (fen : Bool) (o : List Int)
    (hbef : ∀ (s t : Int) (W : World), Below w.heap.size w W → Calls Tryz.prog 175 #[.agg #[.slice A nF c, .slice B nO d], .int .i64 a.loc, .int .i64 s, .int .i64 t] W (RetB W (decide (plI o s < plI o t))))
    (hfen : poB a b = true → ∃ (t bp op' : Nat) (A' : Option Addr) (c' m : Nat), a.thr = (t : Int) ∧ Ap = some ⟨bp, op', none⟩ ∧ t < nP ∧ bp < w.heap.size ∧ w.cell? ⟨bp, op' + t, none⟩ = some (.slice A' m c') ∧ ∀ W, Below w.heap.size w W → Calls Tryz.prog 176 #[.slice A' m c', .int .i64 a.idx, .int .i64 b.idx] W (RetQ W fen))
    (j : Nat) (hj : j < 10) :
    Calls Tryz.prog 125 #[.slice Ap nP cp, .agg #[.slice A nF c, .slice B nO d], .slice AL n cL, .string (nmAt j), .int .i64 i, .int .i64 k] w (RetB w (pairE j a b i k (fi) (fk) o fen)) := by
  obtain ⟨at_, ai, al, ar, aw⟩ := a
  obtain ⟨bt, bi, bl, br, bw⟩ := b
  simp only at a0 a1 a2 a3 a4 b0 b1 b2 b3 b4 hbef hfen
  subst hL hA
  obtain ⟨W, hW⟩ : ∃ W, W = ((w.alloc (.cells #[.slice (some ⟨bf, of, none⟩) nF c, .slice B nO d] 34)).alloc (.cells #[.int .i64 at_, .int .i64 ai, .int .i64 al, .bool ar, .bool aw] 95)).alloc (.cells #[.int .i64 bt, .int .i64 bi, .int .i64 bl, .bool br, .bool bw] 95) := ⟨_, rfl⟩
  have hb : Below w.heap.size w W := by rw [hW]; exact (((Below.refl _ _).alloc (Nat.le_refl _) _).alloc (by simp) _).alloc (by simp; omega) _
  have hx0 : Own W w.heap.size 34 #[.slice (some ⟨bf, of, none⟩) nF c, .slice B nO d] := by rw [hW]; exact ((Own.new _ _ _).alloc _).alloc _
  have he0 : Own W (w.heap.size + 1) 95 #[.int .i64 at_, .int .i64 ai, .int .i64 al, .bool ar, .bool aw] := by rw [hW]; simpa using (Own.new (w.alloc (.cells #[.slice (some ⟨bf, of, none⟩) nF c, .slice B nO d] 34)) 95 #[.int .i64 at_, .int .i64 ai, .int .i64 al, .bool ar, .bool aw]).alloc _
  have hg0 : Own W (w.heap.size + 1 + 1) 95 #[.int .i64 bt, .int .i64 bi, .int .i64 bl, .bool br, .bool bw] := by rw [hW]; simpa using Own.new ((w.alloc (.cells #[.slice (some ⟨bf, of, none⟩) nF c, .slice B nO d] 34)).alloc (.cells #[.int .i64 at_, .int .i64 ai, .int .i64 al, .bool ar, .bool aw] 95)) 95 #[.int .i64 bt, .int .i64 bi, .int .i64 bl, .bool br, .bool bw]
  have x0 := hx0.cell (i := 0) (v := .slice (some ⟨bf, of, none⟩) nF c) rfl
  have x1 := hx0.cell (i := 1) (v := .slice B nO d) rfl
  have e0 := he0.cell (i := 0) (v := .int .i64 at_) rfl
  have e1 := he0.cell (i := 1) (v := .int .i64 ai) rfl
  have e2 := he0.cell (i := 2) (v := .int .i64 al) rfl
  have e3 := he0.cell (i := 3) (v := .bool ar) rfl
  have e4 := he0.cell (i := 4) (v := .bool aw) rfl
  have g0 := hg0.cell (i := 0) (v := .int .i64 bt) rfl
  have g1 := hg0.cell (i := 1) (v := .int .i64 bi) rfl
  have g2 := hg0.cell (i := 2) (v := .int .i64 bl) rfl
  have g3 := hg0.cell (i := 3) (v := .bool br) rfl
  have g4 := hg0.cell (i := 4) (v := .bool bw) rfl
  clear hx0 he0 hg0
  go_enter Tryz.func125, Tryz.ntmps125
  go_upto_region 3 with fail
  rw [← hW]
  clear hW a0 a1 a2 a3 a4 b0 b1 b2 b3 b4
  replace fi0 := Le.below hb _ _ fi0
  replace fk0 := Le.below hb _ _ fk0
  go_cut [15] from 24 to 34 (fun s15 wx => s15 = .bool (sameT ⟨at_, ai, al, ar, aw⟩ ⟨bt, bi, bl, br, bw⟩) ∧ W = wx)
  case first =>
    by_cases h1 : at_ = bt
    · have t1 : ((at_ : Int) == bt) = true := by rw [beq_iff_eq]; exact h1
      have H1 := Lib.hid h1
      clear h1
      go_wp2_with fail
      go_meet
      exact ⟨congrArg Value.bool (by show _ = (decide (at_ = bt) && decide (0 ≤ at_)); rw [decide_eq_true H1.out, Bool.true_and]), rfl⟩
    · have t1 : ((at_ : Int) == bt) = false := by rw [beq_eq_false_iff_ne]; exact h1
      have H1 := Lib.hid h1
      clear h1
      go_wp2_with fail
      go_meet
      exact ⟨congrArg Value.bool (by show _ = (decide (at_ = bt) && decide (0 ≤ at_)); rw [decide_eq_false H1.out]; rfl), rfl⟩
  case rest =>
  obtain ⟨rfl, rfl⟩ := hcut
  match j, hj with -- GEN
  | 0, _ =>
    have s0 : ((nmAt 0).toList == [112, 111]) = true := by rw [Go.ByteArray.toList_eq]; rfl
    cases hs : sameT ⟨at_, ai, al, ar, aw⟩ ⟨bt, bi, bl, br, bw⟩
    · have Hv : Hid (poB ⟨at_, ai, al, ar, aw⟩ ⟨bt, bi, bl, br, bw⟩ = false) := by show _ = _; unfold poB; rw [hs]; rfl
      clear hs
      go_wp2_with fail
      go_ret
      exact ⟨ret_bool Hv.out.symm, hb⟩
    · have Hv : Hid (poB ⟨at_, ai, al, ar, aw⟩ ⟨bt, bi, bl, br, bw⟩ = decide (ai < bi)) := by show _ = _; unfold poB; rw [hs]; rfl
      clear hs
      go_wp2_with fail
      go_ret
      exact ⟨ret_bool Hv.out.symm, hb⟩
  | 1, _ =>
    have s0 : ((nmAt 1).toList == [112, 111]) = false := by rw [Go.ByteArray.toList_eq]; rfl
    have s1 : ((nmAt 1).toList == [108, 111, 99]) = true := by rw [Go.ByteArray.toList_eq]; rfl
    go_wp2_with fail
    go_ret
    exact ⟨ret_bool (by rfl), hb⟩
  | 2, _ =>
    have s0 : ((nmAt 2).toList == [112, 111]) = false := by rw [Go.ByteArray.toList_eq]; rfl
    have s1 : ((nmAt 2).toList == [108, 111, 99]) = false := by rw [Go.ByteArray.toList_eq]; rfl
    have s2 : ((nmAt 2).toList == [101, 120, 116]) = true := by rw [Go.ByteArray.toList_eq]; rfl
    go_wp2_with fail
    go_ret
    exact ⟨ret_bool (by rfl), hb⟩
  | 3, _ =>
    have s0 : ((nmAt 3).toList == [112, 111]) = false := by rw [Go.ByteArray.toList_eq]; rfl
    have s1 : ((nmAt 3).toList == [108, 111, 99]) = false := by rw [Go.ByteArray.toList_eq]; rfl
    have s2 : ((nmAt 3).toList == [101, 120, 116]) = false := by rw [Go.ByteArray.toList_eq]; rfl
    have s3 : ((nmAt 3).toList == [114, 102]) = true := by rw [Go.ByteArray.toList_eq]; rfl
    cases br
    · go_wp2_with fail
      go_ret
      exact ⟨ret_bool (by rfl), hb⟩
    · go_wp2_with fail
      go_ret
      exact ⟨ret_bool (by show _ = (true && _); rw [Bool.true_and]; rfl), hb⟩
  | 4, _ =>
    have s0 : ((nmAt 4).toList == [112, 111]) = false := by rw [Go.ByteArray.toList_eq]; rfl
    have s1 : ((nmAt 4).toList == [108, 111, 99]) = false := by rw [Go.ByteArray.toList_eq]; rfl
    have s2 : ((nmAt 4).toList == [101, 120, 116]) = false := by rw [Go.ByteArray.toList_eq]; rfl
    have s3 : ((nmAt 4).toList == [114, 102]) = false := by rw [Go.ByteArray.toList_eq]; rfl
    have s4 : ((nmAt 4).toList == [99, 111]) = true := by rw [Go.ByteArray.toList_eq]; rfl
    cases aw
    · go_wp2_with fail
      go_ret
      exact ⟨ret_bool (by rfl), hb⟩
    cases bw
    · go_wp2_with fail
      go_ret
      exact ⟨ret_bool (by rfl), hb⟩
    by_cases hl : al = bl
    · have bl' : ((al : Int) == bl) = true := by rw [beq_iff_eq]; exact hl
      have Hl := Lib.hid hl
      clear hl
      go_wp2_with fail
      refine (hbef i k W hb).mono ?_
      rintro e' w' ⟨rfl, hb'⟩
      go_wp2_with fail
      go_ret
      exact ⟨ret_bool (by show _ = (true && true && decide (al = bl) && _); rw [decide_eq_true Hl.out]; simp), hb.trans (hb'.mono hb.size)⟩
    · have bl' : ((al : Int) == bl) = false := by rw [beq_eq_false_iff_ne]; exact hl
      have Hl := Lib.hid hl
      clear hl
      go_wp2_with fail
      go_ret
      exact ⟨ret_bool (by show _ = (true && true && decide (al = bl) && _); rw [decide_eq_false Hl.out]; rfl), hb⟩
  | 5, _ =>
    have s0 : ((nmAt 5).toList == [112, 111]) = false := by rw [Go.ByteArray.toList_eq]; rfl
    have s1 : ((nmAt 5).toList == [108, 111, 99]) = false := by rw [Go.ByteArray.toList_eq]; rfl
    have s2 : ((nmAt 5).toList == [101, 120, 116]) = false := by rw [Go.ByteArray.toList_eq]; rfl
    have s3 : ((nmAt 5).toList == [114, 102]) = false := by rw [Go.ByteArray.toList_eq]; rfl
    have s4 : ((nmAt 5).toList == [99, 111]) = false := by rw [Go.ByteArray.toList_eq]; rfl
    have s5 : ((nmAt 5).toList == [102, 114]) = true := by rw [Go.ByteArray.toList_eq]; rfl
    have E0 := fun n : Ext W => n.le _ _ e0
    have E1 := fun n : Ext W => n.le _ _ e1
    have E2 := fun n : Ext W => n.le _ _ e2
    have E3 := fun n : Ext W => n.le _ _ e3
    have E4 := fun n : Ext W => n.le _ _ e4
    have G0 := fun n : Ext W => n.le _ _ g0
    have G1 := fun n : Ext W => n.le _ _ g1
    have G2 := fun n : Ext W => n.le _ _ g2
    have G4 := fun n : Ext W => n.le _ _ g4
    have X0 := fun n : Ext W => n.le _ _ x0
    have X1 := fun n : Ext W => n.le _ _ x1
    have FI := fun n : Ext W => n.le _ _ fi0
    cases ar
    · go_wp2_with fail
      refine wp_region_ext W (by kernel_rfl) (by kernel_rfl) (Below.refl _ _) ?_
      repeat (go_big_quiet_step ((go_at_call 175; exact Ext.call _ fun W' hW' => hbef _ _ W' (hb.trans (hW'.mono hb.size)))))
      refine wpQuiet_nil ?_
      rintro wn ⟨⟨_, hbn⟩, rfl⟩
      go_wp2_with fail
      go_ret
      exact ⟨ret_bool (by rfl), hb.trans (hbn.mono hb.size)⟩
    cases bw
    · go_wp2_with fail
      refine wp_region_ext W (by kernel_rfl) (by kernel_rfl) (Below.refl _ _) ?_
      repeat (go_big_quiet_step ((go_at_call 175; exact Ext.call _ fun W' hW' => hbef _ _ W' (hb.trans (hW'.mono hb.size)))))
      refine wpQuiet_nil ?_
      rintro wn ⟨⟨_, hbn⟩, rfl⟩
      go_wp2_with fail
      go_ret
      exact ⟨ret_bool (by rfl), hb.trans (hbn.mono hb.size)⟩
    by_cases hl : al = bl
    case neg =>
      have bl' : ((al : Int) == bl) = false := by rw [beq_eq_false_iff_ne]; exact hl
      have Hl := Lib.hid hl
      clear hl
      go_wp2_with fail
      refine wp_region_ext W (by kernel_rfl) (by kernel_rfl) (Below.refl _ _) ?_
      repeat (go_big_quiet_step ((go_at_call 175; exact Ext.call _ fun W' hW' => hbef _ _ W' (hb.trans (hW'.mono hb.size)))))
      refine wpQuiet_nil ?_
      rintro wn ⟨⟨_, hbn⟩, rfl⟩
      go_wp2_with fail
      go_ret
      exact ⟨ret_bool (by show _ = (true && true && decide (al = bl) && _ && _); rw [decide_eq_false Hl.out]; rfl), hb.trans (hbn.mono hb.size)⟩
    have bl' : ((al : Int) == bl) = true := by rw [beq_iff_eq]; exact hl
    have Hl := Lib.hid hl
    clear hl
    by_cases hik : i = k
    · have bik : ((i : Int) != (k : Int)) = false := by simp [hik]
      have Hik := Lib.hid hik
      clear hik
      go_wp2_with fail
      refine wp_region_ext W (by kernel_rfl) (by kernel_rfl) (Below.refl _ _) ?_
      repeat (go_big_quiet_step ((go_at_call 175; exact Ext.call _ fun W' hW' => hbef _ _ W' (hb.trans (hW'.mono hb.size)))))
      refine wpQuiet_nil ?_
      rintro wn ⟨⟨_, hbn⟩, rfl⟩
      go_wp2_with fail
      go_ret
      exact ⟨ret_bool (by show _ = (true && true && decide (al = bl) && !decide (i = k) && _); rw [decide_eq_true Hl.out, decide_eq_true Hik.out]; rfl), hb.trans (hbn.mono hb.size)⟩
    · have bik : ((i : Int) != (k : Int)) = true := by simp; omega
      have Hik := Lib.hid hik
      clear hik
      go_wp2_with fail
      refine wp_region_ext W (by kernel_rfl) (by kernel_rfl) (Below.refl _ _) ?_
      repeat (go_big_quiet_step ((go_at_call 175; exact Ext.call _ fun W' hW' => hbef _ _ W' (hb.trans (hW'.mono hb.size)))))
      refine wpQuiet_nil ?_
      rintro wn ⟨⟨_, hbn⟩, rfl⟩
      go_wp2_with fail
      go_ret
      exact ⟨ret_bool (by show _ = (true && true && decide (al = bl) && !decide (i = k) && _); rw [decide_eq_true Hl.out, decide_eq_false Hik.out]; simp), hb.trans (hbn.mono hb.size)⟩
  | 6, _ =>
    have s0 : ((nmAt 6).toList == [112, 111]) = false := by rw [Go.ByteArray.toList_eq]; rfl
    have s1 : ((nmAt 6).toList == [108, 111, 99]) = false := by rw [Go.ByteArray.toList_eq]; rfl
    have s2 : ((nmAt 6).toList == [101, 120, 116]) = false := by rw [Go.ByteArray.toList_eq]; rfl
    have s3 : ((nmAt 6).toList == [114, 102]) = false := by rw [Go.ByteArray.toList_eq]; rfl
    have s4 : ((nmAt 6).toList == [99, 111]) = false := by rw [Go.ByteArray.toList_eq]; rfl
    have s5 : ((nmAt 6).toList == [102, 114]) = false := by rw [Go.ByteArray.toList_eq]; rfl
    have s6 : ((nmAt 6).toList == [102, 101, 110, 99, 101]) = true := by rw [Go.ByteArray.toList_eq]; rfl
    have E0 := fun n : Ext W => n.le _ _ e0
    have E1 := fun n : Ext W => n.le _ _ e1
    have E2 := fun n : Ext W => n.le _ _ e2
    have E3 := fun n : Ext W => n.le _ _ e3
    have E4 := fun n : Ext W => n.le _ _ e4
    have G0 := fun n : Ext W => n.le _ _ g0
    have G1 := fun n : Ext W => n.le _ _ g1
    have G2 := fun n : Ext W => n.le _ _ g2
    have G4 := fun n : Ext W => n.le _ _ g4
    have X0 := fun n : Ext W => n.le _ _ x0
    have X1 := fun n : Ext W => n.le _ _ x1
    cases hs : sameT ⟨at_, ai, al, ar, aw⟩ ⟨bt, bi, bl, br, bw⟩
    · have Hv : Hid (poB ⟨at_, ai, al, ar, aw⟩ ⟨bt, bi, bl, br, bw⟩ = false) := by show _ = _; unfold poB; rw [hs]; rfl
      clear hs
      go_wp2_with fail
      refine wp_region_ext W (by kernel_rfl) (by kernel_rfl) (Below.refl _ _) ?_
      repeat (go_big_quiet_step (fail))
      refine wpQuiet_nil ?_
      rintro wn ⟨⟨_, hbn⟩, rfl⟩
      go_wp2_with fail
      go_ret
      exact ⟨ret_bool (by show _ = (_ && fen); rw [Hv.out]; rfl), hb.trans (hbn.mono hb.size)⟩
    have hpo : poB ⟨at_, ai, al, ar, aw⟩ ⟨bt, bi, bl, br, bw⟩ = decide (ai < bi) := by unfold poB; rw [hs]; rfl
    clear hs
    by_cases hab : ai < bi
    case neg =>
      have bab : decide (ai < bi) = false := decide_eq_false hab
      have Hv : Hid (poB ⟨at_, ai, al, ar, aw⟩ ⟨bt, bi, bl, br, bw⟩ = false) := by show _ = _; rw [hpo, bab]
      clear hpo hab
      go_wp2_with fail
      refine wp_region_ext W (by kernel_rfl) (by kernel_rfl) (Below.refl _ _) ?_
      repeat (go_big_quiet_step (fail))
      refine wpQuiet_nil ?_
      rintro wn ⟨⟨_, hbn⟩, rfl⟩
      go_wp2_with fail
      go_ret
      exact ⟨ret_bool (by show _ = (_ && fen); rw [Hv.out]; rfl), hb.trans (hbn.mono hb.size)⟩
    have bab : decide (ai < bi) = true := decide_eq_true hab
    have Hv : Hid (poB ⟨at_, ai, al, ar, aw⟩ ⟨bt, bi, bl, br, bw⟩ = true) := by show _ = _; rw [hpo, bab]
    clear hpo hab
    obtain ⟨t, bp, op', A', c', m, rfl, rfl, ht, hbp, hcp, hfc⟩ := hfen Hv.out
    have P0 := fun n : Ext W => n.le _ _ (Le.below hb _ _ hcp)
    go_wp2_with fail
    refine wp_region_ext W (by kernel_rfl) (by kernel_rfl) (Below.refl _ _) ?_
    repeat (go_big_quiet_step ((go_at_call 176; exact Ext.callQ _ fun W' hW' => hfc W' (hb.trans (hW'.mono hb.size)))))
    refine wpQuiet_nil ?_
    rintro wn ⟨⟨_, hbn⟩, rfl⟩
    go_wp2_with fail
    go_ret
    exact ⟨ret_bool (by show _ = (_ && fen); rw [Hv.out]; simp), hb.trans (hbn.mono hb.size)⟩
  | 7, _ =>
    have s0 : ((nmAt 7).toList == [112, 111]) = false := by rw [Go.ByteArray.toList_eq]; rfl
    have s1 : ((nmAt 7).toList == [108, 111, 99]) = false := by rw [Go.ByteArray.toList_eq]; rfl
    have s2 : ((nmAt 7).toList == [101, 120, 116]) = false := by rw [Go.ByteArray.toList_eq]; rfl
    have s3 : ((nmAt 7).toList == [114, 102]) = false := by rw [Go.ByteArray.toList_eq]; rfl
    have s4 : ((nmAt 7).toList == [99, 111]) = false := by rw [Go.ByteArray.toList_eq]; rfl
    have s5 : ((nmAt 7).toList == [102, 114]) = false := by rw [Go.ByteArray.toList_eq]; rfl
    have s6 : ((nmAt 7).toList == [102, 101, 110, 99, 101]) = false := by rw [Go.ByteArray.toList_eq]; rfl
    have s7 : ((nmAt 7).toList == [119, 114]) = true := by rw [Go.ByteArray.toList_eq]; rfl
    cases ar <;> cases aw <;> cases br <;> cases bw <;> (go_wp2_with fail; go_ret; exact ⟨ret_bool (by rfl), hb⟩)
  | 8, _ =>
    have s0 : ((nmAt 8).toList == [112, 111]) = false := by rw [Go.ByteArray.toList_eq]; rfl
    have s1 : ((nmAt 8).toList == [108, 111, 99]) = false := by rw [Go.ByteArray.toList_eq]; rfl
    have s2 : ((nmAt 8).toList == [101, 120, 116]) = false := by rw [Go.ByteArray.toList_eq]; rfl
    have s3 : ((nmAt 8).toList == [114, 102]) = false := by rw [Go.ByteArray.toList_eq]; rfl
    have s4 : ((nmAt 8).toList == [99, 111]) = false := by rw [Go.ByteArray.toList_eq]; rfl
    have s5 : ((nmAt 8).toList == [102, 114]) = false := by rw [Go.ByteArray.toList_eq]; rfl
    have s6 : ((nmAt 8).toList == [102, 101, 110, 99, 101]) = false := by rw [Go.ByteArray.toList_eq]; rfl
    have s7 : ((nmAt 8).toList == [119, 114]) = false := by rw [Go.ByteArray.toList_eq]; rfl
    have s8 : ((nmAt 8).toList == [119, 119]) = true := by rw [Go.ByteArray.toList_eq]; rfl
    cases ar <;> cases aw <;> cases br <;> cases bw <;> (go_wp2_with fail; go_ret; exact ⟨ret_bool (by rfl), hb⟩)
  | 9, _ =>
    have s0 : ((nmAt 9).toList == [112, 111]) = false := by rw [Go.ByteArray.toList_eq]; rfl
    have s1 : ((nmAt 9).toList == [108, 111, 99]) = false := by rw [Go.ByteArray.toList_eq]; rfl
    have s2 : ((nmAt 9).toList == [101, 120, 116]) = false := by rw [Go.ByteArray.toList_eq]; rfl
    have s3 : ((nmAt 9).toList == [114, 102]) = false := by rw [Go.ByteArray.toList_eq]; rfl
    have s4 : ((nmAt 9).toList == [99, 111]) = false := by rw [Go.ByteArray.toList_eq]; rfl
    have s5 : ((nmAt 9).toList == [102, 114]) = false := by rw [Go.ByteArray.toList_eq]; rfl
    have s6 : ((nmAt 9).toList == [102, 101, 110, 99, 101]) = false := by rw [Go.ByteArray.toList_eq]; rfl
    have s7 : ((nmAt 9).toList == [119, 114]) = false := by rw [Go.ByteArray.toList_eq]; rfl
    have s8 : ((nmAt 9).toList == [119, 119]) = false := by rw [Go.ByteArray.toList_eq]; rfl
    have s9 : ((nmAt 9).toList == [105, 100]) = true := by rw [Go.ByteArray.toList_eq]; rfl
    go_wp2_with fail
    go_ret
    exact ⟨ret_bool (by show decide ((i : Int) = (k : Int)) = decide (i = k); exact decide_eq_decide.2 Int.natCast_inj), hb⟩
  -- END GEN

end Go.Proofs.YtfgpbnncdfcjjabGreatDoor

/-! The walks of spec.l6Rel, spec.RelOf. -/
namespace Go.Proofs.YtfgpbnncdfcjjabGreatDoor
open Go.RowKit
set_option linter.unusedVariables false
set_option maxRecDepth 100000

theorem spPair_any (p : Prg) (x : Ex) (hok : CandOk p x) (i k : Nat) (hi : i < (evs p).length) (hk : k < (evs p).length) (j : Nat) (hj : j < 10) (w : World) (vp : Value) (A B AL : Option Addr) (c d cL : Nat) (hp : PrgS w vp p) (hx : RepX w A c B d x) (hL : EvS w (.slice AL (evs p).length cL) (evs p)) :
    Calls Tryz.prog 125 #[vp, .agg #[.slice A x.from_.length c, .slice B x.order.length d], .slice AL (evs p).length cL, .string (nmAt j), .int .i64 i, .int .i64 k] w (RetB w (pairB p x (evs p) j i k)) := by
  have hn := cand_len hok.1
  have hlf := hok.2.1.1
  have hlo := hok.2.2.1
  obtain ⟨Ap, cp, rfl, _⟩ := SlR.slice hp
  obtain ⟨bL, oL, hAL, hbL, a0, a1, a2, a3, a4⟩ := EvS.get hL hi
  obtain ⟨bL', oL', hAL', _, b0, b1, b2, b3, b4⟩ := EvS.get hL hk
  obtain ⟨rfl, rfl⟩ : bL = bL' ∧ oL = oL' := by rw [hAL] at hAL'; injection hAL' with h; injection h with h1 h2; exact ⟨h1, h2⟩
  obtain ⟨bf, of, hA, _, fi0⟩ := hx.1.get (show i < x.from_.length by omega)
  obtain ⟨bf', of', hA', _, fk0⟩ := hx.1.get (show k < x.from_.length by omega)
  obtain ⟨rfl, rfl⟩ : bf = bf' ∧ of = of' := by rw [hA] at hA'; injection hA' with h; injection h with h1 h2; exact ⟨h1, h2⟩
  obtain ⟨l, hl2, hloc, _⟩ := cand_loc hok hi
  have e1 : x.from_[i]'(by omega) = x.from_.getD i 0 := by simp [show i < x.from_.length by omega]
  have e2 : x.from_[k]'(by omega) = x.from_.getD k 0 := by simp [show k < x.from_.length by omega]
  rw [e1] at fi0
  rw [e2] at fk0
  rw [← pairE_eq hok hi hk hj]
  refine spPair0_any p.length x.from_.length x.order.length _ _ _ _ i k w AL Ap A B cL cp c d (evs p).length bL oL hAL hi hk (by omega) hbL a0 a1 a2 a3 a4 b0 b1 b2 b3 b4 bf of hA (by omega) (by omega) fi0 fk0 _ _ ?_ ?_ j hj
  · intro s t W hW
    have h := before6_any x l s t W A B c d (hx.le (Le.below hW)) (by omega)
    rw [hloc]
    have e : ordAt x (l : Int) = x.order.getD l [] := by unfold ordAt; rw [Int.toNat_natCast]
    rw [e]
    exact h
  · intro hpo
    obtain ⟨t, ht, e1, i', j', hij, e2, e3, hj', e4, _⟩ := po_at (List.getElem_mem hi) (List.getElem_mem hk) hpo
    obtain ⟨bp, op', A', c', h1, h2, h3, _, h4⟩ := SlR.getSub hp ht
    refine ⟨t, bp, op', A', c', p[t].length, e1, h1, ht, h2, h3, fun W hW => ?_⟩
    rw [e2, e3, e4]
    exact fence6_any p[t] i' j' (by omega) hij W A' c' (InsS.le h4 (Le.below hW))

set_option maxHeartbeats 4000000 in
theorem specRel_any (p : Prg) (x : Ex) (hok : CandOk p x) (j : Nat) (hj : j < 10) (w : World) (vp : Value) (A B : Option Addr) (c d : Nat) (hp : PrgS w vp p) (hx : RepX w A c B d x) :
    Calls Tryz.prog 76 #[vp, .agg #[.slice A x.from_.length c, .slice B x.order.length d], .string (nmAt j)] w (RetRowI w (relO p x j)) := by
  obtain ⟨i0, hi0, hz0, hz1, hz2⟩ := info_parts Tryz.infoInt
  obtain ⟨Ap, cp, rfl, _⟩ := SlR.slice hp
  have hn := cand_len hok.1
  obtain ⟨w0, hw0⟩ : ∃ w0, w0 = w.alloc (.cells #[.slice A x.from_.length c, .slice B x.order.length d] 34) := ⟨_, rfl⟩
  have bx0 : Own w0 w.heap.size 34 #[.slice A x.from_.length c, .slice B x.order.length d] := by rw [hw0]; exact Own.new _ _ _
  have hB0 : Below w.heap.size w w0 := by rw [hw0]; exact (Below.refl _ _).alloc (Nat.le_refl _) _
  have hp0 : PrgS w0 (.slice Ap p.length cp) p := by rw [hw0]; exact PrgS.le hp (Le.alloc _ _)
  have hx0 : RepX w0 A c B d x := by rw [hw0]; exact hx.le (Le.alloc _ _)
  have hev := l6Events_any p hok.1.1 w0 _ hp0
  clear hp hx
  go_enter Tryz.func76, Tryz.ntmps76
  go_wp2_with fail
  rw [← hw0]
  clear hw0
  refine hev.mono ?_
  rintro e1 w1 ⟨u, rfl, hrow, hb1⟩
  have hL : EvS w1 u (evs p) := EvS.le hrow.evS (Le.above _ _)
  have hB1 := hB0.trans (hb1.mono hB0.size)
  have hp1 := PrgS.le hp0 (Le.below hb1)
  have hx1 := hx0.le (Le.below hb1)
  have bx1 := bx0.under hb1
  obtain ⟨Au, cu, rfl, _⟩ := SlR.slice hL
  have hpair : ∀ i k : Nat, i < (evs p).length → k < (evs p).length → ∀ W, Below w1.heap.size w1 W → Calls Tryz.prog 125 #[.slice Ap p.length cp, .agg #[.slice A x.from_.length c, .slice B x.order.length d], .slice Au (evs p).length cu, .string (nmAt j), .int .i64 i, .int .i64 k] W (RetB W (pairB p x (evs p) j i k)) := fun i k hi hk W hW =>
    spPair_any p x hok i k hi hk j hj W _ A B Au c d cu (PrgS.le hp1 (Le.below hW)) (hx1.le (Le.below hW)) (EvS.le hL (Le.below hW))
  have q0 := bx1.cell (i := 0) (v := .slice A x.from_.length c) rfl
  have q1 := bx1.cell (i := 1) (v := .slice B x.order.length d) rfl
  have hbw := bx1.lt
  have hlf := hx1.1.len
  have hlo := hx1.2.len
  have Hfin : Hid (relO p x j = relN (pairB p x (evs p) j) (evs p).length) := rfl
  clear hev hrow hL hp0 hp1 hx0 hx1 bx0 bx1 hb1
  generalize pairB p x (evs p) j = R at hpair Hfin
  generalize (evs p).length = n at hpair Hfin hn
  have Hpair := Lib.hid hpair
  clear hpair
  have hrow0 : RowI (w1.alloc (.cells #[] 3)) w1.heap.size (.slice (some ⟨w1.heap.size, 0, none⟩) 0 0) ((relN R n).take 0) := RowOf.made _ (Own.new _ _ _) (Nat.le_refl _)
  have Hrow0 := Lib.hid hrow0
  clear hrow0
  go_wp2_with fail
  go_loopg [8, 9, 10, 11] n (fun g s8 s9 s10 s11 wr => ∃ (i : Nat) (v : Value), i ≤ n ∧ g = n - i ∧ v = s8 ∧ s9 = .int .i64 i ∧ Hid (RowI wr w1.heap.size v ((relN R n).take i)) ∧ Below w1.heap.size w1 wr)
  case atStart => exact ⟨0, _, Nat.zero_le _, rfl, rfl, rfl, Hrow0.out, (Below.refl _ _).alloc (Nat.le_refl _) _⟩
  case round =>
    obtain ⟨i, v, hin, rfl, rfl, rfl, hrow, hb⟩ := hrel
    have hsb := hb.size
    by_cases hlt : i < n
    · have r0 := Le.below hb _ _ q0
      have r1 := Le.below hb _ _ q1
      have hbr : w.heap.size < wr.heap.size := World.block_lt_of_cell? _ _ r0
      go_wp2_with fail
      go_loopg [10, 11] n (fun g s10 s11 wq => ∃ k : Nat, k ≤ n ∧ g = n - k ∧ s10 = .int .i64 ((bitN (R i) k : Nat) : Int) ∧ s11 = .int .i64 k ∧ Below wr.heap.size wr wq)
      case atStart => exact ⟨0, Nat.zero_le _, rfl, rfl, rfl, Below.refl _ _⟩
      case round =>
        obtain ⟨k, hkn, rfl, rfl, rfl, hbq⟩ := hrel
        by_cases hltk : k < n
        · have t0 := Le.below hbq _ _ r0
          have t1 := Le.below hbq _ _ r1
          have hc := Hpair.out i k hlt hltk _ (hb.trans (hbq.mono hb.size))
          cases hR : R i k
          · rw [hR] at hc
            have Hn : Hid (bitN (R i) (k + 1) = bitN (R i) k) := by show _ = _; rw [bitN, if_neg (by rw [hR]; decide), Nat.or_zero]
            clear hR
            go_wp2_with fail
            refine hc.mono ?_
            rintro e5 w5 ⟨rfl, hb5⟩
            have hb5' := hbq.trans (hb5.mono hbq.size)
            clear hc t0 t1 hb5
            go_wp2_with fail
            go_roundg (n - (k + 1))
            case measure => omega
            case rel => exact ⟨k + 1, by omega, rfl, by rw [Hn.out], by go_num, hb5'⟩
          · rw [hR] at hc
            have Hn := Lib.hid (bitN_step (R i) k (by omega) hR)
            clear hR
            go_wp2_with fail
            refine hc.mono ?_
            rintro e5 w5 ⟨rfl, hb5⟩
            have hb5' := hbq.trans (hb5.mono hbq.size)
            clear hc t0 t1 hb5
            go_wp2_with fail
            go_roundg (n - (k + 1))
            case measure => omega
            case rel => exact ⟨k + 1, by omega, rfl, by rw [← Hn.out, IntWalk.i64_left], by go_num, hb5'⟩
        · obtain rfl : k = n := by omega
          have hbb := hb.trans (hbq.mono hb.size)
          have hrow' := hrow.out.below hbq
          have hxl : ((relN R k).take i).length = i := by rw [List.length_take, relN_length]; omega
          have Hxl := Lib.hid hxl
          have Hn : Hid ((relN R k).take (i + 1) = (relN R k).take i ++ [((bitN (R i) k : Nat) : Int)]) := by
            show _ = _
            rw [List.take_succ_eq_append_getElem (by rw [relN_length]; exact hlt), relN_get]
          obtain ⟨cs, hown, hqq⟩ := hrow'
          rw [hxl] at hown
          have Hown := Lib.hid hown
          have Hq := Lib.hid hqq
          have hsq := hbb.size
          clear hown hqq hrow hxl
          go_wp2_with (at_builtin; refine wpList_append_lies _ (by rfl) _ _ _ (by rfl) w1.heap.size 3 i0 _ 1 8 Tryz.underlying23 hi0 hz0 hz1 hz2 rfl (by omega) v i cs (by rfl) (owns_alloc Hown.out _) ⟨wr.heap.size, 0, none⟩ 1 1 [.int .i64 ((bitN (R i) k : Nat) : Int)] (by rfl) (by rfl) (World.news_of_block (cs := #[.int .i64 ((bitN (R i) k : Nat) : Int)]) (t := 3) (fr := (0, 0)) (heap_alloc_new _ _)) (by simp [Value.oneCell']) (by omega) (by simp [maxLen]; omega) (by omega) (by simp; omega) (wr.heap.size + 1) (by simp) ?_; intro gg cap w5 hown1 hgrow hat1 hlt1)
          go_roundg (k - (i + 1))
          case measure => omega
          case rel => exact ⟨i + 1, _, by omega, rfl, rfl, by go_num, by rw [Hn.out]; exact RowOf.snoc (news := [.int .i64 ((bitN (R i) k : Nat) : Int)]) qint_congr (by rw [Hxl.out]; exact Hown.out) Hq.out rfl rfl (by rw [Hxl.out]; exact hown1), below_grown (hbb.alloc hsq _) hgrow (Nat.le_refl _) (fun g hg => owns_base' Hown.out hg)⟩
    · obtain rfl : i = n := by omega
      rw [List.take_of_length_le (by rw [relN_length]; omega)] at hrow
      go_wp2_with fail
      go_ret
      have hr : RowI wr w.heap.size v (relN R i) := hrow.out.rebase fun g hg => Nat.le_trans hB1.size (hrow.out.blk hg).1
      rw [Hfin.out]
      exact RetRowI.mk hr (hB1.trans (hb.mono hB1.size))

/-- Which name a text is. -/
def nmI (s : ByteArray) : Nat := nm.findIdx (fun t => decide (t = s))
theorem nmI_at {s : ByteArray} (h : s ∈ nm) : nmI s < 10 ∧ s = nmAt (nmI s) := by
  have h1 : nmI s < nm.length := List.findIdx_lt_length_of_exists ⟨s, h, by simp⟩
  refine ⟨h1, ?_⟩
  have h2 := List.findIdx_getElem (p := fun t => decide (t = s)) (xs := nm) (w := h1)
  have h3 := of_decide_eq_true h2
  unfold nmAt
  rw [List.getD_eq_getElem?_getD, List.getElem?_eq_getElem h1]
  exact h3.symm
/-- What RelOf answers. -/
noncomputable def relB (p : Prg) (x : Ex) (s : ByteArray) : List Int := if candB p x = true ∧ memB nm s = true then relO p x (nmI s) else []
theorem relB_not {p : Prg} {x : Ex} {s : ByteArray} (h : ¬ (candB p x = true ∧ memB nm s = true)) : relB p x s = [] := if_neg h
theorem relB_at {p : Prg} {x : Ex} (h : CandOk p x) {j : Nat} (hj : j < 10) : relB p x (nmAt j) = relO p x j := by
  have hm : nmAt j ∈ nm := by
    unfold nmAt
    rw [List.getD_eq_getElem?_getD, List.getElem?_eq_getElem (show j < nm.length from hj)]
    exact List.getElem_mem _
  unfold relB
  rw [if_pos ⟨candB_iff.2 h, memB_iff.2 hm⟩]
  congr 1
  match j, hj with
  | 0, _ => decide
  | 1, _ => decide
  | 2, _ => decide
  | 3, _ => decide
  | 4, _ => decide
  | 5, _ => decide
  | 6, _ => decide
  | 7, _ => decide
  | 8, _ => decide
  | 9, _ => decide

end Go.Proofs.YtfgpbnncdfcjjabGreatDoor

/-! The walk of impl.isPair. -/
namespace Go.Proofs.YtfgpbnncdfcjjabGreatDoor
open Go.RowKit
set_option linter.unusedVariables false
set_option maxRecDepth 100000

/-- What a pair of events is, on their data alone. -/
def pairI (j : Nat) (a b : Ev) (i k : Nat) (fi fk : Int) (o : List Int) (fen : Bool) : Bool :=
  match j with
  | 0 => poB a b
  | 1 => decide (a.loc = b.loc)
  | 2 => !sameT a b
  | 3 => decide (fk = (i : Int))
  | 4 => befB o i k
  | 5 => a.rd && b.wr && !decide (i = k) && befB o fi k
  | 6 => poB a b && fen
  | 7 => a.wr && !a.rd && b.rd && !b.wr
  | 8 => a.wr && !a.rd && b.wr && !b.rd
  | _ => decide (i = k)
theorem pairI_eq {p : Prg} {x : Ex} {i k : Nat} (hi : i < (evs p).length) (hk : k < (evs p).length) {j : Nat} (hj : j < 10) :
    pairI j (evs p)[i] (evs p)[k] i k (x.from_.getD i 0) (x.from_.getD k 0) (ordAt x (evs p)[i].loc) (fenB p (evs p)[i] (evs p)[k]) = pairB p x (evs p) j i k := by
  have e1 := getE hi
  have e2 := getE hk
  match j, hj with
  | 0, _ => unfold pairI pairB; rw [e1, e2]; rfl
  | 1, _ => unfold pairI pairB; rw [e1, e2]; rfl
  | 2, _ => unfold pairI pairB; rw [e1, e2]; rfl
  | 3, _ => rfl
  | 4, _ => unfold pairI pairB; rw [e1]; rfl
  | 5, _ => unfold pairI pairB; rw [e1, e2]; rfl
  | 6, _ => unfold pairI pairB; rw [e1, e2]; rfl
  | 7, _ => unfold pairI pairB; rw [e1, e2]; rfl
  | 8, _ => unfold pairI pairB; rw [e1, e2]; rfl
  | 9, _ => rfl
structure Two (w0 : World) (a b : Ev) (s t : Value) (w : World) : Prop where
  h : ∃ g h : Nat, s = .pointer (some ⟨g, 0, none⟩) ∧ t = .pointer (some ⟨h, 0, none⟩) ∧ Own w g 95 #[.int .i64 a.thr, .int .i64 a.idx, .int .i64 a.loc, .bool a.rd, .bool a.wr] ∧ Own w h 95 #[.int .i64 b.thr, .int .i64 b.idx, .int .i64 b.loc, .bool b.rd, .bool b.wr] ∧ Below w0.heap.size w0 w

set_option maxHeartbeats 8000000 in
theorem imPair0_any (nP nF nO : Nat) (fi fk : Int) (a b : Ev) (i k : Nat) (w : World) (AL Ap A B : Option Addr) (cL cp c d n bL oL : Nat) (hL : AL = some ⟨bL, oL, none⟩) (hin : i < n) (hkn : k < n) (hn : n ≤ 16) (hbL : bL < w.heap.size)
    (a0 : w.cell? ⟨bL, oL + i * 5, none⟩ = some (.int .i64 a.thr)) (a1 : w.cell? ⟨bL, oL + i * 5 + 1, none⟩ = some (.int .i64 a.idx)) (a2 : w.cell? ⟨bL, oL + i * 5 + 2, none⟩ = some (.int .i64 a.loc)) (a3 : w.cell? ⟨bL, oL + i * 5 + 3, none⟩ = some (.bool a.rd)) (a4 : w.cell? ⟨bL, oL + i * 5 + 4, none⟩ = some (.bool a.wr))
    (b0 : w.cell? ⟨bL, oL + k * 5, none⟩ = some (.int .i64 b.thr)) (b1 : w.cell? ⟨bL, oL + k * 5 + 1, none⟩ = some (.int .i64 b.idx)) (b2 : w.cell? ⟨bL, oL + k * 5 + 2, none⟩ = some (.int .i64 b.loc)) (b3 : w.cell? ⟨bL, oL + k * 5 + 3, none⟩ = some (.bool b.rd)) (b4 : w.cell? ⟨bL, oL + k * 5 + 4, none⟩ = some (.bool b.wr))
    (bf of : Nat) (hA : A = some ⟨bf, of, none⟩) (hfi : i < nF) (hfk : k < nF) (fi0 : w.cell? ⟨bf, of + i, none⟩ = some (.int .i64 fi)) (fk0 : w.cell? ⟨bf, of + k, none⟩ = some (.int .i64 fk))
    (fen : Bool) (o : List Int)
    (hbef : ∀ (s t : Int) (W : World), Below w.heap.size w W → Calls Tryz.prog 195 #[.agg #[.slice A nF c, .slice B nO d], .int .i64 a.loc, .int .i64 s, .int .i64 t] W (RetB W (befB o s t)))
    (hfen : poB a b = true → ∃ (t bp op' bq oq c' m i' j' : Nat), a.thr = (t : Int) ∧ a.idx = (i' : Int) ∧ b.idx = (j' : Int) ∧ i' < j' ∧ j' ≤ c' ∧ Ap = some ⟨bp, op', none⟩ ∧ t < nP ∧ bp < w.heap.size ∧ w.cell? ⟨bp, op' + t, none⟩ = some (.slice (some ⟨bq, oq, none⟩) m c') ∧ ∀ W c'', Below w.heap.size w W → Calls Tryz.prog 196 #[.slice (some ⟨bq, oq + i' * 4, none⟩) (j' - i') c'', .func (.func 197) #[] #[]] W (RetB W fen))
    (j : Nat) (hj : j < 10) :
    Calls Tryz.prog 167 #[.slice Ap nP cp, .agg #[.slice A nF c, .slice B nO d], .slice AL n cL, .string (nmAt j), .int .i64 i, .int .i64 k] w (RetB w (pairI j a b i k fi fk o fen)) := by
  obtain ⟨at_, ai, al, ar, aw⟩ := a
  obtain ⟨bt, bi, bl, br, bw⟩ := b
  simp only at a0 a1 a2 a3 a4 b0 b1 b2 b3 b4 hbef hfen
  subst hL hA
  obtain ⟨W, hW⟩ : ∃ W, W = w.alloc (.cells #[.slice (some ⟨bf, of, none⟩) nF c, .slice B nO d] 34) := ⟨_, rfl⟩
  have hb0 : Below w.heap.size w W := by rw [hW]; exact (Below.refl _ _).alloc (Nat.le_refl _) _
  have hx0 : Own W w.heap.size 34 #[.slice (some ⟨bf, of, none⟩) nF c, .slice B nO d] := by rw [hW]; exact Own.new _ _ _
  have hlW : w.heap.size < W.heap.size := hx0.lt
  have hbW : bL < W.heap.size := by omega
  replace a0 := Le.below hb0 _ _ a0
  replace a1 := Le.below hb0 _ _ a1
  replace a2 := Le.below hb0 _ _ a2
  replace a3 := Le.below hb0 _ _ a3
  replace a4 := Le.below hb0 _ _ a4
  replace b0 := Le.below hb0 _ _ b0
  replace b1 := Le.below hb0 _ _ b1
  replace b2 := Le.below hb0 _ _ b2
  replace b3 := Le.below hb0 _ _ b3
  replace b4 := Le.below hb0 _ _ b4
  go_enter Tryz.func167, Tryz.ntmps167
  go_upto_region 1 with fail
  rw [← hW]
  clear hW
  go_cut [13, 14] from 16 to 24 (fun s13 s14 wx => Two W ⟨at_, ai, al, ar, aw⟩ ⟨bt, bi, bl, br, bw⟩ s13 s14 wx)
  case first =>
    go_region_with (fail)
    go_wp2_with fail
    all_goals first
      | (go_meet; exact ⟨W.heap.size, W.heap.size + 1, rfl, rfl, ((Own.new _ _ _).alloc _).drew, (by simpa using Own.new (W.alloc (.cells #[.int .i64 at_, .int .i64 ai, .int .i64 al, .bool ar, .bool aw] 95)) 95 #[.int .i64 bt, .int .i64 bi, .int .i64 bl, .bool br, .bool bw] : Own _ (W.heap.size + 1) _ _).drew, (((Below.refl _ _).alloc (Nat.le_refl _) _).alloc (by simp) _).drew⟩)
      | (go_meet; exact ⟨W.heap.size + 1, W.heap.size, rfl, rfl, (by simpa using Own.new (W.alloc (.cells #[.int .i64 bt, .int .i64 bi, .int .i64 bl, .bool br, .bool bw] 95)) 95 #[.int .i64 at_, .int .i64 ai, .int .i64 al, .bool ar, .bool aw] : Own _ (W.heap.size + 1) _ _).drew, ((Own.new _ _ _).alloc _).drew, (((Below.refl _ _).alloc (Nat.le_refl _) _).alloc (by simp) _).drew⟩)
  case rest =>
  obtain ⟨gA, gB, rfl, rfl, he0, hg0, hbw⟩ := hcut.h
  have hb := hb0.trans (hbw.mono hb0.size)
  have hx1 := hx0.under hbw
  have x0 := hx1.cell (i := 0) (v := .slice (some ⟨bf, of, none⟩) nF c) rfl
  have x1 := hx1.cell (i := 1) (v := .slice B nO d) rfl
  have e0 := he0.cell (i := 0) (v := .int .i64 at_) rfl
  have e1 := he0.cell (i := 1) (v := .int .i64 ai) rfl
  have e2 := he0.cell (i := 2) (v := .int .i64 al) rfl
  have e3 := he0.cell (i := 3) (v := .bool ar) rfl
  have e4 := he0.cell (i := 4) (v := .bool aw) rfl
  have g0 := hg0.cell (i := 0) (v := .int .i64 bt) rfl
  have g1 := hg0.cell (i := 1) (v := .int .i64 bi) rfl
  have g2 := hg0.cell (i := 2) (v := .int .i64 bl) rfl
  have g3 := hg0.cell (i := 3) (v := .bool br) rfl
  have g4 := hg0.cell (i := 4) (v := .bool bw) rfl
  replace fi0 := Le.below hb _ _ fi0
  replace fk0 := Le.below hb _ _ fk0
  clear hcut he0 hg0 hx0 hx1 a0 a1 a2 a3 a4 b0 b1 b2 b3 b4
  go_upto_region 2 with fail
  go_cut [15] from 24 to 41 (fun s15 wx => s15 = .bool (poB ⟨at_, ai, al, ar, aw⟩ ⟨bt, bi, bl, br, bw⟩) ∧ wc = wx)
  case first =>
    by_cases h0 : 0 ≤ at_
    · have t0 : decide (0 ≤ at_) = true := decide_eq_true h0
      by_cases h1 : at_ = bt
      · have t1 : ((at_ : Int) == bt) = true := by rw [beq_iff_eq]; exact h1
        have H1 := Lib.hid h1
        have H0 := Lib.hid h0
        clear h1
        go_wp2_with fail
        go_meet
        exact ⟨congrArg Value.bool (by show _ = (decide (at_ = bt) && decide (0 ≤ at_) && decide (ai < bi)); rw [decide_eq_true H1.out, decide_eq_true H0.out]; rfl), rfl⟩
      · have t1 : ((at_ : Int) == bt) = false := by rw [beq_eq_false_iff_ne]; exact h1
        have H1 := Lib.hid h1
        clear h1
        go_wp2_with fail
        go_meet
        exact ⟨congrArg Value.bool (by show _ = (decide (at_ = bt) && decide (0 ≤ at_) && decide (ai < bi)); rw [decide_eq_false H1.out]; rfl), rfl⟩
    · have t0 : decide (0 ≤ at_) = false := decide_eq_false h0
      have H0 := Lib.hid h0
      go_wp2_with fail
      go_meet
      exact ⟨congrArg Value.bool (by show _ = (decide (at_ = bt) && decide (0 ≤ at_) && decide (ai < bi)); rw [t0]; simp), rfl⟩
  case rest =>
  obtain ⟨rfl, rfl⟩ := hcut
  match j, hj with -- GEN
  | 0, _ =>
    have s0 : ((nmAt 0).toList == [112, 111]) = true := by rw [Go.ByteArray.toList_eq]; rfl
    go_wp2_with fail
    go_ret
    exact ⟨ret_bool (by rfl), hb⟩
  | 1, _ =>
    have s0 : ((nmAt 1).toList == [112, 111]) = false := by rw [Go.ByteArray.toList_eq]; rfl
    have s1 : ((nmAt 1).toList == [108, 111, 99]) = true := by rw [Go.ByteArray.toList_eq]; rfl
    go_wp2_with fail
    go_ret
    exact ⟨ret_bool (by rfl), hb⟩
  | 2, _ =>
    have s0 : ((nmAt 2).toList == [112, 111]) = false := by rw [Go.ByteArray.toList_eq]; rfl
    have s1 : ((nmAt 2).toList == [108, 111, 99]) = false := by rw [Go.ByteArray.toList_eq]; rfl
    have s2 : ((nmAt 2).toList == [101, 120, 116]) = true := by rw [Go.ByteArray.toList_eq]; rfl
    by_cases h1 : at_ = bt
    · have t1 : ((at_ : Int) != bt) = false := by simp [h1]
      have H1 := Lib.hid h1
      clear h1
      go_wp2_with fail
      go_ret
      exact ⟨ret_bool (by show _ = !(decide (at_ = bt) && decide (0 ≤ at_)); rw [decide_eq_true H1.out, Bool.true_and, ← decide_not]; exact decide_eq_decide.2 (Int.not_le).symm), hb⟩
    · have t1 : ((at_ : Int) != bt) = true := by simpa using h1
      have H1 := Lib.hid h1
      clear h1
      go_wp2_with fail
      go_ret
      exact ⟨ret_bool (by show _ = !(decide (at_ = bt) && decide (0 ≤ at_)); rw [decide_eq_false H1.out]; rfl), hb⟩
  | 3, _ =>
    have s0 : ((nmAt 3).toList == [112, 111]) = false := by rw [Go.ByteArray.toList_eq]; rfl
    have s1 : ((nmAt 3).toList == [108, 111, 99]) = false := by rw [Go.ByteArray.toList_eq]; rfl
    have s2 : ((nmAt 3).toList == [101, 120, 116]) = false := by rw [Go.ByteArray.toList_eq]; rfl
    have s3 : ((nmAt 3).toList == [114, 102]) = true := by rw [Go.ByteArray.toList_eq]; rfl
    go_wp2_with fail
    go_ret
    exact ⟨ret_bool (by rfl), hb⟩
  | 4, _ =>
    have s0 : ((nmAt 4).toList == [112, 111]) = false := by rw [Go.ByteArray.toList_eq]; rfl
    have s1 : ((nmAt 4).toList == [108, 111, 99]) = false := by rw [Go.ByteArray.toList_eq]; rfl
    have s2 : ((nmAt 4).toList == [101, 120, 116]) = false := by rw [Go.ByteArray.toList_eq]; rfl
    have s3 : ((nmAt 4).toList == [114, 102]) = false := by rw [Go.ByteArray.toList_eq]; rfl
    have s4 : ((nmAt 4).toList == [99, 111]) = true := by rw [Go.ByteArray.toList_eq]; rfl
    go_wp2_with fail
    refine (hbef i k wc hb).mono ?_
    rintro e' w' ⟨rfl, hb'⟩
    go_wp2_with fail
    go_ret
    exact ⟨rfl, hb.trans (hb'.mono hb.size)⟩
  | 5, _ =>
    have s0 : ((nmAt 5).toList == [112, 111]) = false := by rw [Go.ByteArray.toList_eq]; rfl
    have s1 : ((nmAt 5).toList == [108, 111, 99]) = false := by rw [Go.ByteArray.toList_eq]; rfl
    have s2 : ((nmAt 5).toList == [101, 120, 116]) = false := by rw [Go.ByteArray.toList_eq]; rfl
    have s3 : ((nmAt 5).toList == [114, 102]) = false := by rw [Go.ByteArray.toList_eq]; rfl
    have s4 : ((nmAt 5).toList == [99, 111]) = false := by rw [Go.ByteArray.toList_eq]; rfl
    have s5 : ((nmAt 5).toList == [102, 114]) = true := by rw [Go.ByteArray.toList_eq]; rfl
    have E0 := fun n : Ext wc => n.le _ _ e0
    have E1 := fun n : Ext wc => n.le _ _ e1
    have E2 := fun n : Ext wc => n.le _ _ e2
    have E3 := fun n : Ext wc => n.le _ _ e3
    have E4 := fun n : Ext wc => n.le _ _ e4
    have G0 := fun n : Ext wc => n.le _ _ g0
    have G1 := fun n : Ext wc => n.le _ _ g1
    have G2 := fun n : Ext wc => n.le _ _ g2
    have G4 := fun n : Ext wc => n.le _ _ g4
    have X0 := fun n : Ext wc => n.le _ _ x0
    have X1 := fun n : Ext wc => n.le _ _ x1
    have FI := fun n : Ext wc => n.le _ _ fi0
    cases ar
    · go_wp2_with fail
      refine wp_region_ext wc (by kernel_rfl) (by kernel_rfl) (Below.refl _ _) ?_
      repeat (go_big_quiet_step ((go_at_call 195; exact Ext.call _ fun W' hW' => hbef _ _ W' (hb.trans (hW'.mono hb.size)))))
      refine wpQuiet_nil ?_
      rintro wn ⟨⟨_, hbn⟩, rfl⟩
      go_wp2_with fail
      go_ret
      exact ⟨ret_bool (by rfl), hb.trans (hbn.mono hb.size)⟩
    cases bw
    · go_wp2_with fail
      refine wp_region_ext wc (by kernel_rfl) (by kernel_rfl) (Below.refl _ _) ?_
      repeat (go_big_quiet_step ((go_at_call 195; exact Ext.call _ fun W' hW' => hbef _ _ W' (hb.trans (hW'.mono hb.size)))))
      refine wpQuiet_nil ?_
      rintro wn ⟨⟨_, hbn⟩, rfl⟩
      go_wp2_with fail
      go_ret
      exact ⟨ret_bool (by rfl), hb.trans (hbn.mono hb.size)⟩
    by_cases hik : i = k
    · have bik : ((i : Int) != (k : Int)) = false := by simp [hik]
      have Hik := Lib.hid hik
      clear hik
      go_wp2_with fail
      refine wp_region_ext wc (by kernel_rfl) (by kernel_rfl) (Below.refl _ _) ?_
      repeat (go_big_quiet_step ((go_at_call 195; exact Ext.call _ fun W' hW' => hbef _ _ W' (hb.trans (hW'.mono hb.size)))))
      refine wpQuiet_nil ?_
      rintro wn ⟨⟨_, hbn⟩, rfl⟩
      go_wp2_with fail
      go_ret
      exact ⟨ret_bool (by show _ = (true && true && !decide (i = k) && _); rw [decide_eq_true Hik.out]; rfl), hb.trans (hbn.mono hb.size)⟩
    · have bik : ((i : Int) != (k : Int)) = true := by simp; omega
      have Hik := Lib.hid hik
      clear hik
      go_wp2_with fail
      refine wp_region_ext wc (by kernel_rfl) (by kernel_rfl) (Below.refl _ _) ?_
      repeat (go_big_quiet_step ((go_at_call 195; exact Ext.call _ fun W' hW' => hbef _ _ W' (hb.trans (hW'.mono hb.size)))))
      refine wpQuiet_nil ?_
      rintro wn ⟨⟨_, hbn⟩, rfl⟩
      go_wp2_with fail
      go_ret
      exact ⟨ret_bool (by show _ = (true && true && !decide (i = k) && _); rw [decide_eq_false Hik.out]; simp), hb.trans (hbn.mono hb.size)⟩
  | 6, _ =>
    have s0 : ((nmAt 6).toList == [112, 111]) = false := by rw [Go.ByteArray.toList_eq]; rfl
    have s1 : ((nmAt 6).toList == [108, 111, 99]) = false := by rw [Go.ByteArray.toList_eq]; rfl
    have s2 : ((nmAt 6).toList == [101, 120, 116]) = false := by rw [Go.ByteArray.toList_eq]; rfl
    have s3 : ((nmAt 6).toList == [114, 102]) = false := by rw [Go.ByteArray.toList_eq]; rfl
    have s4 : ((nmAt 6).toList == [99, 111]) = false := by rw [Go.ByteArray.toList_eq]; rfl
    have s5 : ((nmAt 6).toList == [102, 114]) = false := by rw [Go.ByteArray.toList_eq]; rfl
    have s6 : ((nmAt 6).toList == [102, 101, 110, 99, 101]) = true := by rw [Go.ByteArray.toList_eq]; rfl
    have E0 := fun n : Ext wc => n.le _ _ e0
    have E1 := fun n : Ext wc => n.le _ _ e1
    have E2 := fun n : Ext wc => n.le _ _ e2
    have E3 := fun n : Ext wc => n.le _ _ e3
    have E4 := fun n : Ext wc => n.le _ _ e4
    have G0 := fun n : Ext wc => n.le _ _ g0
    have G1 := fun n : Ext wc => n.le _ _ g1
    have G2 := fun n : Ext wc => n.le _ _ g2
    have G4 := fun n : Ext wc => n.le _ _ g4
    have X0 := fun n : Ext wc => n.le _ _ x0
    have X1 := fun n : Ext wc => n.le _ _ x1
    cases hpo : poB ⟨at_, ai, al, ar, aw⟩ ⟨bt, bi, bl, br, bw⟩
    · have Hv := Lib.hid hpo
      clear hfen hpo
      go_wp2_with fail
      refine wp_region_ext wc (by kernel_rfl) (by kernel_rfl) (Below.refl _ _) ?_
      repeat (go_big_quiet_step (fail))
      refine wpQuiet_nil ?_
      rintro wn ⟨⟨_, hbn⟩, rfl⟩
      go_wp2_with fail
      go_ret
      exact ⟨ret_bool (by show _ = (_ && fen); rw [Hv.out]; rfl), hb.trans (hbn.mono hb.size)⟩
    have Hv := Lib.hid hpo
    obtain ⟨t, bp, op', bq, oq, c', m, i', j', rfl, rfl, rfl, hij, hjc, rfl, ht, hbp, hcp, hfc⟩ := hfen hpo
    clear hfen hpo
    have P0 := fun n : Ext wc => n.le _ _ (Le.below hb _ _ hcp)
    have hij' : i' ≤ j' := by omega
    have hic : i' < c' := by omega
    go_wp2_with fail
    refine wp_region_ext wc (by kernel_rfl) (by kernel_rfl) (Below.refl _ _) ?_
    repeat (go_big_quiet_step ((go_at_call 196; exact Ext.call _ fun W' hW' => hfc W' _ (hb.trans (hW'.mono hb.size)))))
    refine wpQuiet_nil ?_
    rintro wn ⟨⟨_, hbn⟩, rfl⟩
    go_wp2_with fail
    go_ret
    exact ⟨ret_bool (by show _ = (_ && fen); rw [Hv.out]; simp), hb.trans (hbn.mono hb.size)⟩
  | 7, _ =>
    have s0 : ((nmAt 7).toList == [112, 111]) = false := by rw [Go.ByteArray.toList_eq]; rfl
    have s1 : ((nmAt 7).toList == [108, 111, 99]) = false := by rw [Go.ByteArray.toList_eq]; rfl
    have s2 : ((nmAt 7).toList == [101, 120, 116]) = false := by rw [Go.ByteArray.toList_eq]; rfl
    have s3 : ((nmAt 7).toList == [114, 102]) = false := by rw [Go.ByteArray.toList_eq]; rfl
    have s4 : ((nmAt 7).toList == [99, 111]) = false := by rw [Go.ByteArray.toList_eq]; rfl
    have s5 : ((nmAt 7).toList == [102, 114]) = false := by rw [Go.ByteArray.toList_eq]; rfl
    have s6 : ((nmAt 7).toList == [102, 101, 110, 99, 101]) = false := by rw [Go.ByteArray.toList_eq]; rfl
    have s7 : ((nmAt 7).toList == [119, 114]) = true := by rw [Go.ByteArray.toList_eq]; rfl
    cases ar <;> cases aw
    case' false.true =>
      go_wp2_with fail
      refine (pure_any ⟨at_, ai, al, false, true⟩ true _).mono ?_
      rintro e1 w1 ⟨rfl, hb1⟩
      replace g0 := Le.below hb1 _ _ g0
      replace g1 := Le.below hb1 _ _ g1
      replace g2 := Le.below hb1 _ _ g2
      replace g3 := Le.below hb1 _ _ g3
      replace g4 := Le.below hb1 _ _ g4
      go_wp2_with fail
      refine (pure_any ⟨bt, bi, bl, br, bw⟩ false _).mono ?_
      rintro e2 w2 ⟨rfl, hb2⟩
      go_wp2_with fail
      go_ret
      exact ⟨ret_bool (by cases br <;> cases bw <;> rfl), hb.trans ((hb1.trans (hb2.mono hb1.size)).mono hb.size)⟩
    all_goals
      go_wp2_with fail
      refine (pure_any ⟨at_, ai, al, _, _⟩ true _).mono ?_
      rintro e1 w1 ⟨rfl, hb1⟩
      go_wp2_with fail
      go_ret
      exact ⟨ret_bool (by rfl), hb.trans (hb1.mono hb.size)⟩
  | 8, _ =>
    have s0 : ((nmAt 8).toList == [112, 111]) = false := by rw [Go.ByteArray.toList_eq]; rfl
    have s1 : ((nmAt 8).toList == [108, 111, 99]) = false := by rw [Go.ByteArray.toList_eq]; rfl
    have s2 : ((nmAt 8).toList == [101, 120, 116]) = false := by rw [Go.ByteArray.toList_eq]; rfl
    have s3 : ((nmAt 8).toList == [114, 102]) = false := by rw [Go.ByteArray.toList_eq]; rfl
    have s4 : ((nmAt 8).toList == [99, 111]) = false := by rw [Go.ByteArray.toList_eq]; rfl
    have s5 : ((nmAt 8).toList == [102, 114]) = false := by rw [Go.ByteArray.toList_eq]; rfl
    have s6 : ((nmAt 8).toList == [102, 101, 110, 99, 101]) = false := by rw [Go.ByteArray.toList_eq]; rfl
    have s7 : ((nmAt 8).toList == [119, 114]) = false := by rw [Go.ByteArray.toList_eq]; rfl
    have s8 : ((nmAt 8).toList == [119, 119]) = true := by rw [Go.ByteArray.toList_eq]; rfl
    cases ar <;> cases aw
    case' false.true =>
      go_wp2_with fail
      refine (pure_any ⟨at_, ai, al, false, true⟩ true _).mono ?_
      rintro e1 w1 ⟨rfl, hb1⟩
      replace g0 := Le.below hb1 _ _ g0
      replace g1 := Le.below hb1 _ _ g1
      replace g2 := Le.below hb1 _ _ g2
      replace g3 := Le.below hb1 _ _ g3
      replace g4 := Le.below hb1 _ _ g4
      go_wp2_with fail
      refine (pure_any ⟨bt, bi, bl, br, bw⟩ true _).mono ?_
      rintro e2 w2 ⟨rfl, hb2⟩
      go_wp2_with fail
      go_ret
      exact ⟨ret_bool (by cases br <;> cases bw <;> rfl), hb.trans ((hb1.trans (hb2.mono hb1.size)).mono hb.size)⟩
    all_goals
      go_wp2_with fail
      refine (pure_any ⟨at_, ai, al, _, _⟩ true _).mono ?_
      rintro e1 w1 ⟨rfl, hb1⟩
      go_wp2_with fail
      go_ret
      exact ⟨ret_bool (by rfl), hb.trans (hb1.mono hb.size)⟩
  | 9, _ =>
    have s0 : ((nmAt 9).toList == [112, 111]) = false := by rw [Go.ByteArray.toList_eq]; rfl
    have s1 : ((nmAt 9).toList == [108, 111, 99]) = false := by rw [Go.ByteArray.toList_eq]; rfl
    have s2 : ((nmAt 9).toList == [101, 120, 116]) = false := by rw [Go.ByteArray.toList_eq]; rfl
    have s3 : ((nmAt 9).toList == [114, 102]) = false := by rw [Go.ByteArray.toList_eq]; rfl
    have s4 : ((nmAt 9).toList == [99, 111]) = false := by rw [Go.ByteArray.toList_eq]; rfl
    have s5 : ((nmAt 9).toList == [102, 114]) = false := by rw [Go.ByteArray.toList_eq]; rfl
    have s6 : ((nmAt 9).toList == [102, 101, 110, 99, 101]) = false := by rw [Go.ByteArray.toList_eq]; rfl
    have s7 : ((nmAt 9).toList == [119, 114]) = false := by rw [Go.ByteArray.toList_eq]; rfl
    have s8 : ((nmAt 9).toList == [119, 119]) = false := by rw [Go.ByteArray.toList_eq]; rfl
    go_wp2_with fail
    go_ret
    exact ⟨ret_bool (by show decide ((i : Int) = (k : Int)) = decide (i = k); exact decide_eq_decide.2 Int.natCast_inj), hb⟩
  -- END GEN

end Go.Proofs.YtfgpbnncdfcjjabGreatDoor

/-! The walks of relOf$1, impl.pairsOf with it, impl.relOf, impl.RelOf. -/
namespace Go.Proofs.YtfgpbnncdfcjjabGreatDoor
open Go.RowKit
set_option linter.unusedVariables false
set_option maxRecDepth 100000

theorem imPair_any (p : Prg) (x : Ex) (hok : CandOk p x) (i k : Nat) (hi : i < (evs p).length) (hk : k < (evs p).length) (j : Nat) (hj : j < 10) (w : World) (vp : Value) (A B AL : Option Addr) (c d cL : Nat) (hp : PrgS w vp p) (hr : Room w vp p) (hx : RepX w A c B d x) (hL : EvS w (.slice AL (evs p).length cL) (evs p)) :
    Calls Tryz.prog 167 #[vp, .agg #[.slice A x.from_.length c, .slice B x.order.length d], .slice AL (evs p).length cL, .string (nmAt j), .int .i64 i, .int .i64 k] w (RetB w (pairB p x (evs p) j i k)) := by
  have hn := cand_len hok.1
  have hlf := hok.2.1.1
  have hlo := hok.2.2.1
  obtain ⟨Ap, cp, rfl, _⟩ := SlR.slice hp
  obtain ⟨bL, oL, hAL, hbL, a0, a1, a2, a3, a4⟩ := EvS.get hL hi
  obtain ⟨bL', oL', hAL', _, b0, b1, b2, b3, b4⟩ := EvS.get hL hk
  obtain ⟨rfl, rfl⟩ : bL = bL' ∧ oL = oL' := by rw [hAL] at hAL'; injection hAL' with h; injection h with h1 h2; exact ⟨h1, h2⟩
  obtain ⟨bf, of, hA, _, fi0⟩ := hx.1.get (show i < x.from_.length by omega)
  obtain ⟨bf', of', hA', _, fk0⟩ := hx.1.get (show k < x.from_.length by omega)
  obtain ⟨rfl, rfl⟩ : bf = bf' ∧ of = of' := by rw [hA] at hA'; injection hA' with h; injection h with h1 h2; exact ⟨h1, h2⟩
  obtain ⟨l, hl2, hloc, _⟩ := cand_loc hok hi
  have e1 : x.from_[i]'(by omega) = x.from_.getD i 0 := by simp [show i < x.from_.length by omega]
  have e2 : x.from_[k]'(by omega) = x.from_.getD k 0 := by simp [show k < x.from_.length by omega]
  rw [e1] at fi0
  rw [e2] at fk0
  rw [← pairI_eq hi hk hj]
  refine imPair0_any p.length x.from_.length x.order.length _ _ _ _ i k w AL Ap A B cL cp c d (evs p).length bL oL hAL hi hk (by omega) hbL a0 a1 a2 a3 a4 b0 b1 b2 b3 b4 bf of hA (by omega) (by omega) fi0 fk0 _ _ ?_ ?_ j hj
  · intro s t W hW
    have h := isBef_any x l s t W A B c d (hx.le (Le.below hW)) (by omega)
    rw [hloc]
    have e : ordAt x (l : Int) = x.order.getD l [] := by unfold ordAt; rw [Int.toNat_natCast]
    rw [e]
    exact h
  · intro hpo
    obtain ⟨t, ht, e1, i', j', hij, e2, e3, hj', e4, e5⟩ := po_at (List.getElem_mem hi) (List.getElem_mem hk) hpo
    obtain ⟨bp, op', A', c', rfl, h2, h3, _, h4⟩ := SlR.getSub hp ht
    have hroom := hr _ _ _ _ rfl t ht _ _ _ h3
    obtain ⟨bq, oq, rfl, _⟩ := InsS.get h4 (show i' < p[t].length by omega)
    refine ⟨t, bp, op', bq, oq, c', p[t].length, i', j', e1, e2, e3, hij, by omega, rfl, ht, h2, h3, fun W c'' hW => ?_⟩
    rw [e4, ← e5]
    have hs : InsS W (.slice (some ⟨bq, oq, none⟩) j' c') (p[t].take j') := InsS.take (InsS.le h4 (Le.below hW)) j' c' (by omega)
    have hl : (p[t].take j').length = j' := by rw [List.length_take]; omega
    have hd := InsS.drop hs i' (j' - i') c'' (by rw [hl]; omega)
    have := conF_any ((p[t].take j').drop i') W _ c'' (by rw [List.length_drop, hl]; exact hd)
    rw [List.length_drop, hl] at this
    exact this

/-- What relOf$1 finds in the boxes that it captures. -/
structure Cap4 (W : World) (P X L S : Nat) (vp : Value) (A : Option Addr) (nF c : Nat) (B : Option Addr) (nO d : Nat) (vL : Value) (s : ByteArray) : Prop where
  hp : W.cell? ⟨P, 0, none⟩ = some vp
  x0 : W.cell? ⟨X, 0, none⟩ = some (.slice A nF c)
  x1 : W.cell? ⟨X, 1, none⟩ = some (.slice B nO d)
  hL : W.cell? ⟨L, 0, none⟩ = some vL
  hs : W.cell? ⟨S, 0, none⟩ = some (.string s)
theorem Cap4.le {W W' : World} {P X L S : Nat} {vp : Value} {A : Option Addr} {nF c : Nat} {B : Option Addr} {nO d : Nat} {vL : Value} {s : ByteArray} (h : Cap4 W P X L S vp A nF c B nO d vL s) (hl : Le W W') : Cap4 W' P X L S vp A nF c B nO d vL s :=
  ⟨hl _ _ h.hp, hl _ _ h.x0, hl _ _ h.x1, hl _ _ h.hL, hl _ _ h.hs⟩

theorem relF_any (p : Prg) (x : Ex) (hok : CandOk p x) (i k : Nat) (hi : i < (evs p).length) (hk : k < (evs p).length) (j : Nat) (hj : j < 10) (w : World) (vp : Value) (A B AL : Option Addr) (c d cL : Nat) (hp : PrgS w vp p) (hr : Room w vp p) (hx : RepX w A c B d x) (hL : EvS w (.slice AL (evs p).length cL) (evs p))
    (bP bX bL bS : Nat) (hc : Cap4 w bP bX bL bS vp A x.from_.length c B x.order.length d (.slice AL (evs p).length cL) (nmAt j)) :
    Calls Tryz.prog 166 #[.int .i64 i, .int .i64 k, .pointer (some ⟨bP, 0, none⟩), .pointer (some ⟨bX, 0, none⟩), .pointer (some ⟨bL, 0, none⟩), .pointer (some ⟨bS, 0, none⟩)] w (RetB w (pairB p x (evs p) j i k)) := by
  obtain ⟨Ap, cp, rfl, _⟩ := SlR.slice hp
  have hcall := imPair_any p x hok i k hi hk j hj w _ A B AL c d cL hp hr hx hL
  obtain ⟨c0, c1, c2, c3, c4⟩ := hc
  have l0 := World.block_lt_of_cell? _ _ c0
  clear hp hr hx hL
  go_enter Tryz.func166, Tryz.ntmps166
  go_wp2_with fail
  refine hcall.mono ?_
  rintro e1 w1 ⟨rfl, hb1⟩
  go_wp2_with fail
  go_ret
  exact ⟨rfl, hb1⟩

set_option maxHeartbeats 4000000 in
theorem pairsRel_any (R : Rel) (n : Nat) (hn : n ≤ 16) (w : World) (bP bX bL bS : Nat)
    (hcall : ∀ i k : Nat, i < n → k < n → ∀ W, Below w.heap.size w W → Calls Tryz.prog 166 #[.int .i64 i, .int .i64 k, .pointer (some ⟨bP, 0, none⟩), .pointer (some ⟨bX, 0, none⟩), .pointer (some ⟨bL, 0, none⟩), .pointer (some ⟨bS, 0, none⟩)] W (RetB W (R i k))) :
    Calls Tryz.prog 165 #[.int .i64 n, .func (.func 166) #[] #[.pointer (some ⟨bP, 0, none⟩), .pointer (some ⟨bX, 0, none⟩), .pointer (some ⟨bL, 0, none⟩), .pointer (some ⟨bS, 0, none⟩)]] w (RetRowI w (relN R n)) := by
  have hmk := run_make_any (P := Tryz.prog) 23 3 _ 1 8 Tryz.underlying23 Tryz.infoInt n (by omega) (by omega)
  have Hcall := Lib.hid hcall
  clear hcall
  go_enter Tryz.func165, Tryz.ntmps165
  go_wp2_with fail
  clear hmk
  go_loopg [6, 7, 11, 15] n (fun g s6 s7 s11 s15 wr => ∃ i : Nat, i ≤ n ∧ g = n - i ∧ s11 = .int .i64 i ∧ BitR wr w.heap.size n (midR R n i 0) ∧ Below w.heap.size w wr)
  case atStart => exact ⟨0, Nat.zero_le _, rfl, rfl, by rw [midR_zero]; simpa using BitR.made w n, (Below.refl _ _).alloc (Nat.le_refl _) _⟩
  case round =>
    obtain ⟨i, hin, rfl, rfl, hrow, hb⟩ := hrel
    by_cases hlt : i < n
    · go_wp2_with fail
      go_loopg [7, 15] n (fun g s7 s15 wq => ∃ k : Nat, k ≤ n ∧ g = n - k ∧ s15 = .int .i64 k ∧ BitR wq w.heap.size n (midR R n i k) ∧ Below w.heap.size w wq)
      case atStart => exact ⟨0, Nat.zero_le _, rfl, rfl, hrow, hb⟩
      case round =>
        obtain ⟨k, hkn, rfl, rfl, hrow2, hbq⟩ := hrel
        by_cases hltk : k < n
        · have hc := Hcall.out i k hlt hltk _ hbq
          cases hR : R i k
          · rw [hR] at hc
            have Hn := Lib.hid (midR_same R n i k hR)
            clear hR
            go_wp2_with fail
            refine hc.mono ?_
            rintro e5 w5 ⟨rfl, hb5⟩
            have hb5' := hbq.trans (hb5.mono hbq.size)
            have hrow5 := hrow2.under hb5
            clear hc hb5
            go_wp2_with fail
            go_roundg (n - (k + 1))
            case measure => omega
            case rel => exact ⟨k + 1, by omega, rfl, by go_num, by rw [Hn.out]; exact hrow5, hb5'⟩
          · rw [hR] at hc
            have Hs := Lib.hid (midR_set R n i k)
            have Hn := Lib.hid (bitN_step (R i) k (by omega) hR)
            clear hR
            go_wp2_with fail
            refine hc.mono ?_
            rintro e5 w5 ⟨rfl, hb5⟩
            have hb5' := hbq.trans (hb5.mono hbq.size)
            have hrow5 := hrow2.under hb5
            have q0 := hrow5.cell hlt
            have hg : (midR R n i k).getD i 0 = ((bitN (R i) k : Nat) : Int) := by
              have h1 : i < (midR R n i k).length := by rw [midR_length]; exact hlt
              rw [List.getD_eq_getElem?_getD, List.getElem?_eq_getElem h1]
              exact midR_get R n i k h1
            rw [hg] at q0
            have hfz := hrow5.frozen i
            clear hc hb5 hg
            go_wp2_with fail
            go_region_with (fail)
            all_goals (go_wp2_with fail)
            go_roundg (n - (k + 1))
            case measure => omega
            case rel => exact ⟨k + 1, by omega, rfl, by go_num, by rw [← IntWalk.i64_left, Hn.out, ← Hs.out]; exact (hrow5.set i _).of_block rfl, (hb5'.setCell (p := ⟨w.heap.size, i, none⟩) (Nat.le_refl _) _).drew⟩
        · obtain rfl : k = n := by omega
          go_wp2_with fail
          go_roundg (k - (i + 1))
          case measure => omega
          case rel => exact ⟨i + 1, by omega, rfl, by go_num, by rw [← midR_next]; exact hrow2, hbq⟩
    · obtain rfl : i = n := by omega
      rw [midR_all] at hrow
      go_wp2_with fail
      go_ret
      exact hrow.ret (Nat.le_refl _) (by omega) hb

set_option maxHeartbeats 4000000 in
theorem relOf_any (p : Prg) (x : Ex) (hok : CandOk p x) (j : Nat) (hj : j < 10) (w : World) (vp : Value) (A B : Option Addr) (c d : Nat) (hp : PrgS w vp p) (hr : Room w vp p) (hx : RepX w A c B d x) :
    Calls Tryz.prog 113 #[vp, .agg #[.slice A x.from_.length c, .slice B x.order.length d], .string (nmAt j)] w (RetRowI w (relO p x j)) := by
  have hn := cand_len hok.1
  obtain ⟨Ap, cp, rfl, _⟩ := SlR.slice hp
  obtain ⟨w0, hw0⟩ : ∃ w0, w0 = ((w.alloc (.cells #[.slice Ap p.length cp] 32)).alloc (.cells #[.slice A x.from_.length c, .slice B x.order.length d] 34)).alloc (.cells #[.string (nmAt j)] 9) := ⟨_, rfl⟩
  have oP : Own w0 w.heap.size 32 #[.slice Ap p.length cp] := by rw [hw0]; exact ((Own.new _ _ _).alloc _).alloc _
  have oX : Own w0 (w.heap.size + 1) 34 #[.slice A x.from_.length c, .slice B x.order.length d] := by rw [hw0]; simpa using (Own.new (w.alloc (.cells #[.slice Ap p.length cp] 32)) 34 #[.slice A x.from_.length c, .slice B x.order.length d]).alloc _
  have oS : Own w0 (w.heap.size + 1 + 1) 9 #[.string (nmAt j)] := by rw [hw0]; simpa using Own.new ((w.alloc (.cells #[.slice Ap p.length cp] 32)).alloc (.cells #[.slice A x.from_.length c, .slice B x.order.length d] 34)) 9 #[.string (nmAt j)]
  have hB0 : Below w.heap.size w w0 := by rw [hw0]; exact (((Below.refl _ _).alloc (Nat.le_refl _) _).alloc (by simp) _).alloc (by simp; omega) _
  have hp0 := PrgS.le hp (Le.below hB0)
  have hr0 := hr.le hp (Le.below hB0)
  have hx0 := hx.le (Le.below hB0)
  have hev := events_any p hok.1.1 w0 _ hp0
  have q0 := oP.cell (i := 0) (v := .slice Ap p.length cp) rfl
  clear hp hr hx
  go_enter Tryz.func113, Tryz.ntmps113
  go_wp2_with fail
  rw [← hw0]
  clear hw0
  refine hev.mono ?_
  rintro e1 w1 ⟨u, rfl, hrow, hb1⟩
  have hL : EvS w1 u (evs p) := EvS.le hrow.evS (Le.above _ _)
  have hB1 := hB0.trans (hb1.mono hB0.size)
  obtain ⟨Au, cu, rfl, _⟩ := SlR.slice hL
  obtain ⟨w2, hw2⟩ : ∃ w2, w2 = w1.alloc (.cells #[.slice Au (evs p).length cu] 92) := ⟨_, rfl⟩
  have hb2 : Below w1.heap.size w1 w2 := by rw [hw2]; exact (Below.refl _ _).alloc (Nat.le_refl _) _
  have oL : Own w2 w1.heap.size 92 #[.slice Au (evs p).length cu] := by rw [hw2]; exact Own.new _ _ _
  have hB2 := hB1.trans (hb2.mono hB1.size)
  have hl12 := (Le.below hb1).trans (Le.below hb2)
  have hc : Cap4 w2 w.heap.size (w.heap.size + 1) w1.heap.size (w.heap.size + 1 + 1) (.slice Ap p.length cp) A x.from_.length c B x.order.length d (.slice Au (evs p).length cu) (nmAt j) :=
    ⟨hl12 _ _ q0, hl12 _ _ (oX.cell (i := 0) (v := .slice A x.from_.length c) rfl), hl12 _ _ (oX.cell (i := 1) (v := .slice B x.order.length d) rfl), oL.cell (i := 0) (v := .slice Au (evs p).length cu) rfl, hl12 _ _ (oS.cell (i := 0) (v := .string (nmAt j)) rfl)⟩
  have hp2 := PrgS.le hp0 hl12
  have hr2 := hr0.le hp0 hl12
  have hx2 := hx0.le hl12
  have hL2 := EvS.le hL (Le.below hb2)
  have hcl := pairsRel_any (pairB p x (evs p) j) (evs p).length (by omega) w2 w.heap.size (w.heap.size + 1) w1.heap.size (w.heap.size + 1 + 1) fun i k hi hk W hW =>
    relF_any p x hok i k hi hk j hj W _ A B Au c d cu (PrgS.le hp2 (Le.below hW)) (hr2.le hp2 (Le.below hW)) (hx2.le (Le.below hW)) (EvS.le hL2 (Le.below hW)) _ _ _ _ (hc.le (Le.below hW))
  have Hr : Hid (relO p x j = relN (pairB p x (evs p) j) (evs p).length) := rfl
  have z0 := hc.hL
  clear hev hrow hL hp0 hr0 hx0 hp2 hr2 hx2 hL2 hc oP oX oS oL q0 hb1 hl12
  generalize (evs p).length = n at hcl Hr hn hw2 z0
  generalize pairB p x (evs p) j = R at hcl Hr
  go_wp2_with fail
  rw [← hw2]
  clear hw2
  go_wp2_with fail
  refine hcl.mono ?_
  rintro e3 w3 ⟨A3, c3, rfl, hrow3, hb3⟩
  go_wp2_with fail
  go_ret
  rw [Hr.out]
  exact ⟨A3, c3, rfl, hrow3.rebase fun g hg => Nat.le_trans hB2.size (hrow3.blk hg).1, hB2.trans (hb3.mono hB2.size)⟩

end Go.Proofs.YtfgpbnncdfcjjabGreatDoor
