/-
  The walk of spec.l6Pair.
-/
import Derived.Test.YtfgpbnncdfcjjaaDoorRelF
import Derived.Test.YtfgpbnncdfcjjaaDoorRelL
import Derived.Test.YtfgpbnncdfcjjaaDoorNm
import Derived.Test.YtfgpbnncdfcjjaaDoorSpCV
import Derived.Deep.CutRange
namespace Go.Proofs.YtfgpbnncdfcjjaaDoor
open Go.RowKit
set_option linter.unusedVariables false
set_option maxRecDepth 100000

/-- What a pair of events is, on their data alone. -/
def pairE (j : Nat) (a b : Ev) (i k : Nat) (fi fk : Int) (o : List Int) (fen : Bool) : Bool :=
  match j with
  | 0 => poB a b
  | 1 => decide (a.loc = b.loc)
  | 2 => !sameT a b
  | 3 => b.rd && decide (fk = (i : Int))
  | 4 => a.wr && b.wr && decide (a.loc = b.loc) && decide (plI o i < plI o k)
  | 5 => a.rd && b.wr && decide (a.loc = b.loc) && !decide (i = k) && decide (plI o fi < plI o k)
  | 6 => poB a b && fen
  | 7 => a.wr && !a.rd && b.rd && !b.wr
  | 8 => a.wr && !a.rd && b.wr && !b.rd
  | _ => decide (i = k)
theorem pairE_eq {p : Prg} {x : Ex} (h : CandOk p x) {i k : Nat} (hi : i < (evs p).length) (hk : k < (evs p).length) {j : Nat} (hj : j < 10) :
    pairE j (evs p)[i] (evs p)[k] i k (x.from_.getD i 0) (x.from_.getD k 0) (ordAt x (evs p)[i].loc) (fenB p (evs p)[i] (evs p)[k]) = pairB p x (evs p) j i k := by
  have e1 := getE hi
  have e2 := getE hk
  match j, hj with
  | 0, _ => unfold pairE pairB; rw [e1, e2]; rfl
  | 1, _ => unfold pairE pairB; rw [e1, e2]; rfl
  | 2, _ => unfold pairE pairB; rw [e1, e2]; rfl
  | 3, _ => exact spec_rf h hi hk
  | 4, _ => unfold pairE pairB; rw [e1]; exact spec_co h hi hk
  | 5, _ => unfold pairE pairB; rw [e1, e2]; exact spec_fr h hi hk
  | 6, _ => unfold pairE pairB; rw [e1, e2]; rfl
  | 7, _ => unfold pairE pairB; rw [e1, e2]; rfl
  | 8, _ => unfold pairE pairB; rw [e1, e2]; rfl
  | 9, _ => rfl
/-- Name number j. -/
def nmAt (j : Nat) : ByteArray := nm.getD j ⟨#[]⟩

set_option maxHeartbeats 8000000 in
theorem spPair0_any (nP nF nO : Nat) (fi fk : Int) (a b : Ev) (i k : Nat) (w : World) (AL Ap A B : Option Addr) (cL cp c d n bL oL : Nat) (hL : AL = some ⟨bL, oL, none⟩) (hin : i < n) (hkn : k < n) (hn : n ≤ 16) (hbL : bL < w.heap.size)
    (a0 : w.cell? ⟨bL, oL + i * 5, none⟩ = some (.int .i64 a.thr)) (a1 : w.cell? ⟨bL, oL + i * 5 + 1, none⟩ = some (.int .i64 a.idx)) (a2 : w.cell? ⟨bL, oL + i * 5 + 2, none⟩ = some (.int .i64 a.loc)) (a3 : w.cell? ⟨bL, oL + i * 5 + 3, none⟩ = some (.bool a.rd)) (a4 : w.cell? ⟨bL, oL + i * 5 + 4, none⟩ = some (.bool a.wr))
    (b0 : w.cell? ⟨bL, oL + k * 5, none⟩ = some (.int .i64 b.thr)) (b1 : w.cell? ⟨bL, oL + k * 5 + 1, none⟩ = some (.int .i64 b.idx)) (b2 : w.cell? ⟨bL, oL + k * 5 + 2, none⟩ = some (.int .i64 b.loc)) (b3 : w.cell? ⟨bL, oL + k * 5 + 3, none⟩ = some (.bool b.rd)) (b4 : w.cell? ⟨bL, oL + k * 5 + 4, none⟩ = some (.bool b.wr))
    (bf of : Nat) (hA : A = some ⟨bf, of, none⟩) (hfi : i < nF) (hfk : k < nF) (fi0 : w.cell? ⟨bf, of + i, none⟩ = some (.int .i64 (fi))) (fk0 : w.cell? ⟨bf, of + k, none⟩ = some (.int .i64 (fk)))
    (fen : Bool) (o : List Int)
    (hbef : ∀ (s t : Int) (W : World), Below w.heap.size w W → Calls Tryd.prog 103 #[.agg #[.slice A nF c, .slice B nO d], .int .i64 a.loc, .int .i64 s, .int .i64 t] W (RetB W (decide (plI o s < plI o t))))
    (hfen : poB a b = true → ∃ (t bp op' : Nat) (A' : Option Addr) (c' m : Nat), a.thr = (t : Int) ∧ Ap = some ⟨bp, op', none⟩ ∧ t < nP ∧ bp < w.heap.size ∧ w.cell? ⟨bp, op' + t, none⟩ = some (.slice A' m c') ∧ ∀ W, Below w.heap.size w W → Calls Tryd.prog 104 #[.slice A' m c', .int .i64 a.idx, .int .i64 b.idx] W (RetQ W fen))
    (j : Nat) (hj : j < 10) :
    Calls Tryd.prog 71 #[.slice Ap nP cp, .agg #[.slice A nF c, .slice B nO d], .slice AL n cL, .string (nmAt j), .int .i64 i, .int .i64 k] w (RetB w (pairE j a b i k (fi) (fk) o fen)) := by
  obtain ⟨at_, ai, al, ar, aw⟩ := a
  obtain ⟨bt, bi, bl, br, bw⟩ := b
  simp only at a0 a1 a2 a3 a4 b0 b1 b2 b3 b4 hbef hfen
  subst hL hA
  obtain ⟨W, hW⟩ : ∃ W, W = ((w.alloc (.cells #[.slice (some ⟨bf, of, none⟩) nF c, .slice B nO d] 32)).alloc (.cells #[.int .i64 at_, .int .i64 ai, .int .i64 al, .bool ar, .bool aw] 48)).alloc (.cells #[.int .i64 bt, .int .i64 bi, .int .i64 bl, .bool br, .bool bw] 48) := ⟨_, rfl⟩
  have hb : Below w.heap.size w W := by rw [hW]; exact (((Below.refl _ _).alloc (Nat.le_refl _) _).alloc (by simp) _).alloc (by simp; omega) _
  have hx0 : Own W w.heap.size 32 #[.slice (some ⟨bf, of, none⟩) nF c, .slice B nO d] := by rw [hW]; exact ((Own.new _ _ _).alloc _).alloc _
  have he0 : Own W (w.heap.size + 1) 48 #[.int .i64 at_, .int .i64 ai, .int .i64 al, .bool ar, .bool aw] := by rw [hW]; simpa using (Own.new (w.alloc (.cells #[.slice (some ⟨bf, of, none⟩) nF c, .slice B nO d] 32)) 48 #[.int .i64 at_, .int .i64 ai, .int .i64 al, .bool ar, .bool aw]).alloc _
  have hg0 : Own W (w.heap.size + 1 + 1) 48 #[.int .i64 bt, .int .i64 bi, .int .i64 bl, .bool br, .bool bw] := by rw [hW]; simpa using Own.new ((w.alloc (.cells #[.slice (some ⟨bf, of, none⟩) nF c, .slice B nO d] 32)).alloc (.cells #[.int .i64 at_, .int .i64 ai, .int .i64 al, .bool ar, .bool aw] 48)) 48 #[.int .i64 bt, .int .i64 bi, .int .i64 bl, .bool br, .bool bw]
  have x0 := hx0.cell (i := 0) (v := .slice (some ⟨bf, of, none⟩) nF c) rfl
  have x1 := hx0.cell (i := 1) (v := .slice B nO d) rfl
  have e0 := he0.cell (i := 0) (v := .int .i64 at_) rfl
  have e1 := he0.cell (i := 1) (v := .int .i64 ai) rfl
  have e2 := he0.cell (i := 2) (v := .int .i64 al) rfl
  have e3 := he0.cell (i := 3) (v := .bool ar) rfl
  have e4 := he0.cell (i := 4) (v := .bool aw) rfl
  have g0 := hg0.cell (i := 0) (v := .int .i64 bt) rfl
  have g1 := hg0.cell (i := 1) (v := .int .i64 bi) rfl
  have g2 := hg0.cell (i := 2) (v := .int .i64 bl) rfl
  have g3 := hg0.cell (i := 3) (v := .bool br) rfl
  have g4 := hg0.cell (i := 4) (v := .bool bw) rfl
  clear hx0 he0 hg0
  go_enter Tryd.func71, Tryd.ntmps71
  go_upto_region 3 with fail
  rw [← hW]
  clear hW a0 a1 a2 a3 a4 b0 b1 b2 b3 b4
  replace fi0 := Le.below hb _ _ fi0
  replace fk0 := Le.below hb _ _ fk0
  go_cut [15] from 24 to 34 (fun s15 wx => s15 = .bool (sameT ⟨at_, ai, al, ar, aw⟩ ⟨bt, bi, bl, br, bw⟩) ∧ W = wx)
  case first =>
    by_cases h1 : at_ = bt
    · have t1 : ((at_ : Int) == bt) = true := by rw [beq_iff_eq]; exact h1
      have H1 := Lib.hid h1
      clear h1
      go_wp2_with fail
      go_meet
      exact ⟨congrArg Value.bool (by show _ = (decide (at_ = bt) && decide (0 ≤ at_)); rw [decide_eq_true H1.out, Bool.true_and]), rfl⟩
    · have t1 : ((at_ : Int) == bt) = false := by rw [beq_eq_false_iff_ne]; exact h1
      have H1 := Lib.hid h1
      clear h1
      go_wp2_with fail
      go_meet
      exact ⟨congrArg Value.bool (by show _ = (decide (at_ = bt) && decide (0 ≤ at_)); rw [decide_eq_false H1.out]; rfl), rfl⟩
  case rest =>
  obtain ⟨rfl, rfl⟩ := hcut
  match j, hj with -- GEN
  | 0, _ =>
    have s0 : ((nmAt 0).toList == [112, 111]) = true := by rw [Go.ByteArray.toList_eq]; rfl
    cases hs : sameT ⟨at_, ai, al, ar, aw⟩ ⟨bt, bi, bl, br, bw⟩
    · have Hv : Hid (poB ⟨at_, ai, al, ar, aw⟩ ⟨bt, bi, bl, br, bw⟩ = false) := by show _ = _; unfold poB; rw [hs]; rfl
      clear hs
      go_wp2_with fail
      go_ret
      exact ⟨ret_bool Hv.out.symm, hb⟩
    · have Hv : Hid (poB ⟨at_, ai, al, ar, aw⟩ ⟨bt, bi, bl, br, bw⟩ = decide (ai < bi)) := by show _ = _; unfold poB; rw [hs]; rfl
      clear hs
      go_wp2_with fail
      go_ret
      exact ⟨ret_bool Hv.out.symm, hb⟩
  | 1, _ =>
    have s0 : ((nmAt 1).toList == [112, 111]) = false := by rw [Go.ByteArray.toList_eq]; rfl
    have s1 : ((nmAt 1).toList == [108, 111, 99]) = true := by rw [Go.ByteArray.toList_eq]; rfl
    go_wp2_with fail
    go_ret
    exact ⟨ret_bool (by rfl), hb⟩
  | 2, _ =>
    have s0 : ((nmAt 2).toList == [112, 111]) = false := by rw [Go.ByteArray.toList_eq]; rfl
    have s1 : ((nmAt 2).toList == [108, 111, 99]) = false := by rw [Go.ByteArray.toList_eq]; rfl
    have s2 : ((nmAt 2).toList == [101, 120, 116]) = true := by rw [Go.ByteArray.toList_eq]; rfl
    go_wp2_with fail
    go_ret
    exact ⟨ret_bool (by rfl), hb⟩
  | 3, _ =>
    have s0 : ((nmAt 3).toList == [112, 111]) = false := by rw [Go.ByteArray.toList_eq]; rfl
    have s1 : ((nmAt 3).toList == [108, 111, 99]) = false := by rw [Go.ByteArray.toList_eq]; rfl
    have s2 : ((nmAt 3).toList == [101, 120, 116]) = false := by rw [Go.ByteArray.toList_eq]; rfl
    have s3 : ((nmAt 3).toList == [114, 102]) = true := by rw [Go.ByteArray.toList_eq]; rfl
    cases br
    · go_wp2_with fail
      go_ret
      exact ⟨ret_bool (by rfl), hb⟩
    · go_wp2_with fail
      go_ret
      exact ⟨ret_bool (by show _ = (true && _); rw [Bool.true_and]; rfl), hb⟩
  | 4, _ =>
    have s0 : ((nmAt 4).toList == [112, 111]) = false := by rw [Go.ByteArray.toList_eq]; rfl
    have s1 : ((nmAt 4).toList == [108, 111, 99]) = false := by rw [Go.ByteArray.toList_eq]; rfl
    have s2 : ((nmAt 4).toList == [101, 120, 116]) = false := by rw [Go.ByteArray.toList_eq]; rfl
    have s3 : ((nmAt 4).toList == [114, 102]) = false := by rw [Go.ByteArray.toList_eq]; rfl
    have s4 : ((nmAt 4).toList == [99, 111]) = true := by rw [Go.ByteArray.toList_eq]; rfl
    cases aw
    · go_wp2_with fail
      go_ret
      exact ⟨ret_bool (by rfl), hb⟩
    cases bw
    · go_wp2_with fail
      go_ret
      exact ⟨ret_bool (by rfl), hb⟩
    by_cases hl : al = bl
    · have bl' : ((al : Int) == bl) = true := by rw [beq_iff_eq]; exact hl
      have Hl := Lib.hid hl
      clear hl
      go_wp2_with fail
      refine (hbef i k W hb).mono ?_
      rintro e' w' ⟨rfl, hb'⟩
      go_wp2_with fail
      go_ret
      exact ⟨ret_bool (by show _ = (true && true && decide (al = bl) && _); rw [decide_eq_true Hl.out]; simp), hb.trans (hb'.mono hb.size)⟩
    · have bl' : ((al : Int) == bl) = false := by rw [beq_eq_false_iff_ne]; exact hl
      have Hl := Lib.hid hl
      clear hl
      go_wp2_with fail
      go_ret
      exact ⟨ret_bool (by show _ = (true && true && decide (al = bl) && _); rw [decide_eq_false Hl.out]; rfl), hb⟩
  | 5, _ =>
    have s0 : ((nmAt 5).toList == [112, 111]) = false := by rw [Go.ByteArray.toList_eq]; rfl
    have s1 : ((nmAt 5).toList == [108, 111, 99]) = false := by rw [Go.ByteArray.toList_eq]; rfl
    have s2 : ((nmAt 5).toList == [101, 120, 116]) = false := by rw [Go.ByteArray.toList_eq]; rfl
    have s3 : ((nmAt 5).toList == [114, 102]) = false := by rw [Go.ByteArray.toList_eq]; rfl
    have s4 : ((nmAt 5).toList == [99, 111]) = false := by rw [Go.ByteArray.toList_eq]; rfl
    have s5 : ((nmAt 5).toList == [102, 114]) = true := by rw [Go.ByteArray.toList_eq]; rfl
    have E0 := fun n : Ext W => n.le _ _ e0
    have E1 := fun n : Ext W => n.le _ _ e1
    have E2 := fun n : Ext W => n.le _ _ e2
    have E3 := fun n : Ext W => n.le _ _ e3
    have E4 := fun n : Ext W => n.le _ _ e4
    have G0 := fun n : Ext W => n.le _ _ g0
    have G1 := fun n : Ext W => n.le _ _ g1
    have G2 := fun n : Ext W => n.le _ _ g2
    have G4 := fun n : Ext W => n.le _ _ g4
    have X0 := fun n : Ext W => n.le _ _ x0
    have X1 := fun n : Ext W => n.le _ _ x1
    have FI := fun n : Ext W => n.le _ _ fi0
    cases ar
    · go_wp2_with fail
      refine wp_region_ext W (by kernel_rfl) (by kernel_rfl) (Below.refl _ _) ?_
      repeat (go_big_quiet_step ((go_at_call 103; exact Ext.call _ fun W' hW' => hbef _ _ W' (hb.trans (hW'.mono hb.size)))))
      refine wpQuiet_nil ?_
      rintro wn ⟨⟨_, hbn⟩, rfl⟩
      go_wp2_with fail
      go_ret
      exact ⟨ret_bool (by rfl), hb.trans (hbn.mono hb.size)⟩
    cases bw
    · go_wp2_with fail
      refine wp_region_ext W (by kernel_rfl) (by kernel_rfl) (Below.refl _ _) ?_
      repeat (go_big_quiet_step ((go_at_call 103; exact Ext.call _ fun W' hW' => hbef _ _ W' (hb.trans (hW'.mono hb.size)))))
      refine wpQuiet_nil ?_
      rintro wn ⟨⟨_, hbn⟩, rfl⟩
      go_wp2_with fail
      go_ret
      exact ⟨ret_bool (by rfl), hb.trans (hbn.mono hb.size)⟩
    by_cases hl : al = bl
    case neg =>
      have bl' : ((al : Int) == bl) = false := by rw [beq_eq_false_iff_ne]; exact hl
      have Hl := Lib.hid hl
      clear hl
      go_wp2_with fail
      refine wp_region_ext W (by kernel_rfl) (by kernel_rfl) (Below.refl _ _) ?_
      repeat (go_big_quiet_step ((go_at_call 103; exact Ext.call _ fun W' hW' => hbef _ _ W' (hb.trans (hW'.mono hb.size)))))
      refine wpQuiet_nil ?_
      rintro wn ⟨⟨_, hbn⟩, rfl⟩
      go_wp2_with fail
      go_ret
      exact ⟨ret_bool (by show _ = (true && true && decide (al = bl) && _ && _); rw [decide_eq_false Hl.out]; rfl), hb.trans (hbn.mono hb.size)⟩
    have bl' : ((al : Int) == bl) = true := by rw [beq_iff_eq]; exact hl
    have Hl := Lib.hid hl
    clear hl
    by_cases hik : i = k
    · have bik : ((i : Int) != (k : Int)) = false := by simp [hik]
      have Hik := Lib.hid hik
      clear hik
      go_wp2_with fail
      refine wp_region_ext W (by kernel_rfl) (by kernel_rfl) (Below.refl _ _) ?_
      repeat (go_big_quiet_step ((go_at_call 103; exact Ext.call _ fun W' hW' => hbef _ _ W' (hb.trans (hW'.mono hb.size)))))
      refine wpQuiet_nil ?_
      rintro wn ⟨⟨_, hbn⟩, rfl⟩
      go_wp2_with fail
      go_ret
      exact ⟨ret_bool (by show _ = (true && true && decide (al = bl) && !decide (i = k) && _); rw [decide_eq_true Hl.out, decide_eq_true Hik.out]; rfl), hb.trans (hbn.mono hb.size)⟩
    · have bik : ((i : Int) != (k : Int)) = true := by simp; omega
      have Hik := Lib.hid hik
      clear hik
      go_wp2_with fail
      refine wp_region_ext W (by kernel_rfl) (by kernel_rfl) (Below.refl _ _) ?_
      repeat (go_big_quiet_step ((go_at_call 103; exact Ext.call _ fun W' hW' => hbef _ _ W' (hb.trans (hW'.mono hb.size)))))
      refine wpQuiet_nil ?_
      rintro wn ⟨⟨_, hbn⟩, rfl⟩
      go_wp2_with fail
      go_ret
      exact ⟨ret_bool (by show _ = (true && true && decide (al = bl) && !decide (i = k) && _); rw [decide_eq_true Hl.out, decide_eq_false Hik.out]; simp), hb.trans (hbn.mono hb.size)⟩
  | 6, _ =>
    have s0 : ((nmAt 6).toList == [112, 111]) = false := by rw [Go.ByteArray.toList_eq]; rfl
    have s1 : ((nmAt 6).toList == [108, 111, 99]) = false := by rw [Go.ByteArray.toList_eq]; rfl
    have s2 : ((nmAt 6).toList == [101, 120, 116]) = false := by rw [Go.ByteArray.toList_eq]; rfl
    have s3 : ((nmAt 6).toList == [114, 102]) = false := by rw [Go.ByteArray.toList_eq]; rfl
    have s4 : ((nmAt 6).toList == [99, 111]) = false := by rw [Go.ByteArray.toList_eq]; rfl
    have s5 : ((nmAt 6).toList == [102, 114]) = false := by rw [Go.ByteArray.toList_eq]; rfl
    have s6 : ((nmAt 6).toList == [102, 101, 110, 99, 101]) = true := by rw [Go.ByteArray.toList_eq]; rfl
    have E0 := fun n : Ext W => n.le _ _ e0
    have E1 := fun n : Ext W => n.le _ _ e1
    have E2 := fun n : Ext W => n.le _ _ e2
    have E3 := fun n : Ext W => n.le _ _ e3
    have E4 := fun n : Ext W => n.le _ _ e4
    have G0 := fun n : Ext W => n.le _ _ g0
    have G1 := fun n : Ext W => n.le _ _ g1
    have G2 := fun n : Ext W => n.le _ _ g2
    have G4 := fun n : Ext W => n.le _ _ g4
    have X0 := fun n : Ext W => n.le _ _ x0
    have X1 := fun n : Ext W => n.le _ _ x1
    cases hs : sameT ⟨at_, ai, al, ar, aw⟩ ⟨bt, bi, bl, br, bw⟩
    · have Hv : Hid (poB ⟨at_, ai, al, ar, aw⟩ ⟨bt, bi, bl, br, bw⟩ = false) := by show _ = _; unfold poB; rw [hs]; rfl
      clear hs
      go_wp2_with fail
      refine wp_region_ext W (by kernel_rfl) (by kernel_rfl) (Below.refl _ _) ?_
      repeat (go_big_quiet_step (fail))
      refine wpQuiet_nil ?_
      rintro wn ⟨⟨_, hbn⟩, rfl⟩
      go_wp2_with fail
      go_ret
      exact ⟨ret_bool (by show _ = (_ && fen); rw [Hv.out]; rfl), hb.trans (hbn.mono hb.size)⟩
    have hpo : poB ⟨at_, ai, al, ar, aw⟩ ⟨bt, bi, bl, br, bw⟩ = decide (ai < bi) := by unfold poB; rw [hs]; rfl
    clear hs
    by_cases hab : ai < bi
    case neg =>
      have bab : decide (ai < bi) = false := decide_eq_false hab
      have Hv : Hid (poB ⟨at_, ai, al, ar, aw⟩ ⟨bt, bi, bl, br, bw⟩ = false) := by show _ = _; rw [hpo, bab]
      clear hpo hab
      go_wp2_with fail
      refine wp_region_ext W (by kernel_rfl) (by kernel_rfl) (Below.refl _ _) ?_
      repeat (go_big_quiet_step (fail))
      refine wpQuiet_nil ?_
      rintro wn ⟨⟨_, hbn⟩, rfl⟩
      go_wp2_with fail
      go_ret
      exact ⟨ret_bool (by show _ = (_ && fen); rw [Hv.out]; rfl), hb.trans (hbn.mono hb.size)⟩
    have bab : decide (ai < bi) = true := decide_eq_true hab
    have Hv : Hid (poB ⟨at_, ai, al, ar, aw⟩ ⟨bt, bi, bl, br, bw⟩ = true) := by show _ = _; rw [hpo, bab]
    clear hpo hab
    obtain ⟨t, bp, op', A', c', m, rfl, rfl, ht, hbp, hcp, hfc⟩ := hfen Hv.out
    have P0 := fun n : Ext W => n.le _ _ (Le.below hb _ _ hcp)
    go_wp2_with fail
    refine wp_region_ext W (by kernel_rfl) (by kernel_rfl) (Below.refl _ _) ?_
    repeat (go_big_quiet_step ((go_at_call 104; exact Ext.callQ _ fun W' hW' => hfc W' (hb.trans (hW'.mono hb.size)))))
    refine wpQuiet_nil ?_
    rintro wn ⟨⟨_, hbn⟩, rfl⟩
    go_wp2_with fail
    go_ret
    exact ⟨ret_bool (by show _ = (_ && fen); rw [Hv.out]; simp), hb.trans (hbn.mono hb.size)⟩
  | 7, _ =>
    have s0 : ((nmAt 7).toList == [112, 111]) = false := by rw [Go.ByteArray.toList_eq]; rfl
    have s1 : ((nmAt 7).toList == [108, 111, 99]) = false := by rw [Go.ByteArray.toList_eq]; rfl
    have s2 : ((nmAt 7).toList == [101, 120, 116]) = false := by rw [Go.ByteArray.toList_eq]; rfl
    have s3 : ((nmAt 7).toList == [114, 102]) = false := by rw [Go.ByteArray.toList_eq]; rfl
    have s4 : ((nmAt 7).toList == [99, 111]) = false := by rw [Go.ByteArray.toList_eq]; rfl
    have s5 : ((nmAt 7).toList == [102, 114]) = false := by rw [Go.ByteArray.toList_eq]; rfl
    have s6 : ((nmAt 7).toList == [102, 101, 110, 99, 101]) = false := by rw [Go.ByteArray.toList_eq]; rfl
    have s7 : ((nmAt 7).toList == [119, 114]) = true := by rw [Go.ByteArray.toList_eq]; rfl
    cases ar <;> cases aw <;> cases br <;> cases bw <;> (go_wp2_with fail; go_ret; exact ⟨ret_bool (by rfl), hb⟩)
  | 8, _ =>
    have s0 : ((nmAt 8).toList == [112, 111]) = false := by rw [Go.ByteArray.toList_eq]; rfl
    have s1 : ((nmAt 8).toList == [108, 111, 99]) = false := by rw [Go.ByteArray.toList_eq]; rfl
    have s2 : ((nmAt 8).toList == [101, 120, 116]) = false := by rw [Go.ByteArray.toList_eq]; rfl
    have s3 : ((nmAt 8).toList == [114, 102]) = false := by rw [Go.ByteArray.toList_eq]; rfl
    have s4 : ((nmAt 8).toList == [99, 111]) = false := by rw [Go.ByteArray.toList_eq]; rfl
    have s5 : ((nmAt 8).toList == [102, 114]) = false := by rw [Go.ByteArray.toList_eq]; rfl
    have s6 : ((nmAt 8).toList == [102, 101, 110, 99, 101]) = false := by rw [Go.ByteArray.toList_eq]; rfl
    have s7 : ((nmAt 8).toList == [119, 114]) = false := by rw [Go.ByteArray.toList_eq]; rfl
    have s8 : ((nmAt 8).toList == [119, 119]) = true := by rw [Go.ByteArray.toList_eq]; rfl
    cases ar <;> cases aw <;> cases br <;> cases bw <;> (go_wp2_with fail; go_ret; exact ⟨ret_bool (by rfl), hb⟩)
  | 9, _ =>
    have s0 : ((nmAt 9).toList == [112, 111]) = false := by rw [Go.ByteArray.toList_eq]; rfl
    have s1 : ((nmAt 9).toList == [108, 111, 99]) = false := by rw [Go.ByteArray.toList_eq]; rfl
    have s2 : ((nmAt 9).toList == [101, 120, 116]) = false := by rw [Go.ByteArray.toList_eq]; rfl
    have s3 : ((nmAt 9).toList == [114, 102]) = false := by rw [Go.ByteArray.toList_eq]; rfl
    have s4 : ((nmAt 9).toList == [99, 111]) = false := by rw [Go.ByteArray.toList_eq]; rfl
    have s5 : ((nmAt 9).toList == [102, 114]) = false := by rw [Go.ByteArray.toList_eq]; rfl
    have s6 : ((nmAt 9).toList == [102, 101, 110, 99, 101]) = false := by rw [Go.ByteArray.toList_eq]; rfl
    have s7 : ((nmAt 9).toList == [119, 114]) = false := by rw [Go.ByteArray.toList_eq]; rfl
    have s8 : ((nmAt 9).toList == [119, 119]) = false := by rw [Go.ByteArray.toList_eq]; rfl
    have s9 : ((nmAt 9).toList == [105, 100]) = true := by rw [Go.ByteArray.toList_eq]; rfl
    go_wp2_with fail
    go_ret
    exact ⟨ret_bool (by show decide ((i : Int) = (k : Int)) = decide (i = k); exact decide_eq_decide.2 Int.natCast_inj), hb⟩
  -- END GEN

end Go.Proofs.YtfgpbnncdfcjjaaDoor
