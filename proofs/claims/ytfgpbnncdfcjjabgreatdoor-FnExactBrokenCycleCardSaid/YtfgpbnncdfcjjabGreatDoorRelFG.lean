/-
  Fences between events, plainly; the walks of spec.l6Fence, spec.l6Before, and of the program's own: slices.ContainsFunc over instructions, Exec.isBefore, Event.pure. The walks of isPair$1, slices.IndexFunc and ContainsFunc over instructions with it, Exec.isBefore, Event.pure.
-/
import Derived.Test.YtfgpbnncdfcjjabGreatDoorRel1
import Derived.Test.YtfgpbnncdfcjjabGreatDoorInts
import Derived.Test.YtfgpbnncdfcjjabGreatDoorSl

/-! Fences between events, plainly; the walks of spec.l6Fence, spec.l6Before, and of the program's own: slices.ContainsFunc over instructions, Exec.isBefore, Event.pure. -/
namespace Go.Proofs.YtfgpbnncdfcjjabGreatDoor
open Go.RowKit
set_option linter.unusedVariables false
set_option maxRecDepth 100000

theorem mem_evT_at {ti : Nat} {e : Ev} : ∀ {t : List Ins} {i : Nat}, e ∈ evT ti i t → e.thr = (ti : Int) ∧ ∃ k, ∃ h : k < t.length, e.idx = ((i + k : Nat) : Int) ∧ t[k].op ≠ 4
  | [], _, h => by cases h
  | x :: t, i, h => by
    rw [evT] at h
    rcases List.mem_append.1 h with h | h
    · unfold evI at h
      by_cases h4 : x.op = 4
      · rw [if_pos h4] at h; cases h
      · rw [if_neg h4] at h
        rw [List.mem_singleton.1 h]
        exact ⟨rfl, 0, by simp, rfl, h4⟩
    · obtain ⟨h1, k, hk, h2, h3⟩ := mem_evT_at h
      exact ⟨h1, k + 1, by simpa using hk, by rw [h2]; congr 1; omega, by simpa using h3⟩
theorem mem_evP_at {e : Ev} : ∀ {p : Prg} {ti : Nat}, e ∈ evP ti p → ∃ k, ∃ h : k < p.length, e.thr = ((ti + k : Nat) : Int) ∧ ∃ i, ∃ hi : i < p[k].length, e.idx = (i : Int) ∧ p[k][i].op ≠ 4
  | [], _, h => by cases h
  | t :: p, ti, h => by
    rw [evP] at h
    rcases List.mem_append.1 h with h | h
    · obtain ⟨h1, k, hk, h2, h3⟩ := mem_evT_at h
      exact ⟨0, by simp, by rw [h1]; rfl, k, hk, by rw [h2, Nat.zero_add], h3⟩
    · obtain ⟨k, hk, h1, i, hi, h2, h3⟩ := mem_evP_at h
      exact ⟨k + 1, by simpa using hk, by rw [h1]; congr 1; omega, i, hi, h2, h3⟩
theorem evs_at {p : Prg} {e : Ev} (he : e ∈ evs p) (h0 : 0 ≤ e.thr) : ∃ k, ∃ h : k < p.length, e.thr = (k : Int) ∧ ∃ i, ∃ hi : i < p[k].length, e.idx = (i : Int) ∧ p[k][i].op ≠ 4 := by
  unfold evs at he
  rcases List.mem_append.1 he with he | he
  · exfalso
    simp [ini] at he
    rcases he with rfl | rfl | rfl <;> simp at h0
  · obtain ⟨k, hk, h1, i, hi, h2⟩ := mem_evP_at he
    exact ⟨k, hk, by rw [h1, Nat.zero_add], i, hi, h2⟩
def fnc (xs : List Ins) : Bool := xs.any fun y => decide (y.op = 4)
/-- Two events of one thread, the one before the other. -/
theorem po_at {p : Prg} {a b : Ev} (ha : a ∈ evs p) (hb : b ∈ evs p) (h : poB a b = true) : ∃ k, ∃ h : k < p.length, a.thr = (k : Int) ∧ ∃ i j : Nat, i < j ∧ a.idx = (i : Int) ∧ b.idx = (j : Int) ∧ j < p[k].length ∧ fenB p a b = fnc ((p[k].take j).drop (i + 1)) ∧ fnc ((p[k].take j).drop i) = fnc ((p[k].take j).drop (i + 1)) := by
  unfold poB sameT at h
  simp only [Bool.and_eq_true, decide_eq_true_iff] at h
  obtain ⟨k, hk, e1, i, hi, e2, h4⟩ := evs_at ha h.1.2
  obtain ⟨k', hk', e1', j, hj, e2', _⟩ := evs_at hb (by rw [← h.1.1]; exact h.1.2)
  obtain rfl : k = k' := by have := h.1.1; omega
  have hij : i < j := by have := h.2; omega
  refine ⟨k, hk, e1, i, j, hij, e2, e2', hj, ?_, ?_⟩
  · unfold fenB fnc
    rw [e1, e2, e2', Int.toNat_natCast, Int.toNat_natCast, Int.toNat_natCast]
    simp [hk]
  · unfold fnc
    rw [List.drop_eq_getElem_cons (by rw [List.length_take]; omega), List.any_cons]
    simp [h4]

theorem InsS.take {w : World} {A : Option Addr} {c n : Nat} {xs : List Ins} (h : InsS w (.slice A n c) xs) (j c' : Nat) (hj : j ≤ xs.length) : InsS w (.slice A j c') (xs.take j) := by
  obtain ⟨A', c0, e, hl, h⟩ := h
  injection e with e1 e2 e3
  subst e1
  refine ⟨A, c', by rw [List.length_take, Nat.min_eq_left hj], by rw [List.length_take]; omega, fun i hi => ?_⟩
  rw [List.length_take] at hi
  obtain ⟨b, o, h1, cs, h2, h3⟩ := h i (by omega)
  exact ⟨b, o, h1, cs, h2, by rw [List.getElem_take]; exact h3⟩
theorem InsS.drop {w : World} {b o c n : Nat} {xs : List Ins} (h : InsS w (.slice (some ⟨b, o, none⟩) n c) xs) (i m c' : Nat) (hi : i + m = xs.length) : InsS w (.slice (some ⟨b, o + i * 4, none⟩) m c') (xs.drop i) := by
  obtain ⟨A', c0, e, hl, h⟩ := h
  injection e with e1 e2 e3
  subst e1
  refine ⟨_, c', by rw [List.length_drop]; congr 1; omega, by rw [List.length_drop]; omega, fun j hj => ?_⟩
  rw [List.length_drop] at hj
  obtain ⟨b', o', h1, cs, h2, h3⟩ := h (i + j) (by omega)
  injection h1 with h1
  injection h1 with h1 h1'
  subst h1 h1'
  exact ⟨b, o + i * 4, rfl, cs, fun k hk => by rw [← h2 k hk]; congr 2; rw [Nat.add_mul]; omega, by rw [List.getElem_drop]; exact h3⟩

/-! ### The reference -/
set_option maxHeartbeats 1000000 in
theorem fence6_any (xs : List Ins) (a b : Nat) (hb : b ≤ xs.length) (hab : a < b) (w : World) (A : Option Addr) (c : Nat) (h : InsS w (.slice A xs.length c) xs) :
    Calls Tryz.prog 176 #[.slice A xs.length c, .int .i64 a, .int .i64 b] w (RetQ w (fnc ((xs.take b).drop (a + 1)))) := by
  have hlen : xs.length ≤ 9223372036854775807 := by obtain ⟨_, _, _, h, _⟩ := h; exact h
  go_enter Tryz.func176, Tryz.ntmps176
  go_wp2_with fail
  go_loopg [7] (b - (a + 1)) (fun g s7 wr => ∃ k : Nat, a + 1 ≤ k ∧ k ≤ b ∧ g = b - k ∧ s7 = .int .i64 k ∧ Hid (fnc ((xs.take k).drop (a + 1)) = false) ∧ w = wr)
  case atStart => exact ⟨a + 1, Nat.le_refl _, hab, rfl, by go_num, (by show fnc _ = false; rw [List.drop_of_length_le (by rw [List.length_take]; omega)]; rfl), rfl⟩
  case round =>
    obtain ⟨k, hak, hk, rfl, rfl, hpre, rfl⟩ := hrel
    by_cases hlt : k < b
    · have hkx : k < xs.length := by omega
      have hbl : decide ((k : Int) < (b : Int)) = true := by rw [decide_eq_true_iff]; omega
      obtain ⟨bb, o, rfl, hbb, c0, c1, c2, c3⟩ := InsS.get h hkx
      have Ht : Hid (fnc ((xs.take (k + 1)).drop (a + 1)) = (fnc ((xs.take k).drop (a + 1)) || decide (xs[k].op = 4))) := by
        show _ = _
        unfold fnc
        rw [List.take_succ_eq_append_getElem hkx, List.drop_append_of_le_length (by rw [List.length_take]; omega), List.any_append]
        simp
      have Hall : Hid (decide (xs[k].op = 4) = true → fnc ((xs.take b).drop (a + 1)) = true) := fun hd => by
        unfold fnc
        rw [List.any_eq_true]
        refine ⟨xs[k], List.mem_iff_getElem.2 ⟨k - (a + 1), by rw [List.length_drop, List.length_take]; omega, ?_⟩, hd⟩
        rw [List.getElem_drop, List.getElem_take]
        congr 1
        omega
      generalize xs[k] = e at c0 c1 c2 c3 Ht Hall
      obtain ⟨op, lc, rg, vl⟩ := e
      simp only at c0 c1 c2 c3 Ht Hall
      by_cases h4 : op = 4
      · have b4 : ((op : Int) == 4) = true := by rw [beq_iff_eq]; exact h4
        have Hv := Lib.hid (Hall.out (decide_eq_true h4))
        clear h4
        go_wp2_with fail
        go_ret
        exact ⟨ret_bool Hv.out.symm, rfl⟩
      · have b4 : ((op : Int) == 4) = false := by rw [beq_eq_false_iff_ne]; exact h4
        have Hn : Hid (fnc ((xs.take (k + 1)).drop (a + 1)) = false) := by show _ = _; rw [Ht.out, hpre.out, decide_eq_false h4]; rfl
        clear h4
        go_wp2_with fail
        go_roundg (b - (k + 1))
        case measure => omega
        case rel => exact ⟨k + 1, by omega, by omega, rfl, by go_num, Hn.out, rfl⟩
    · obtain rfl : k = b := by omega
      have hbl : decide ((k : Int) < (k : Int)) = false := by rw [decide_eq_false_iff_not]; omega
      go_wp2_with fail
      go_ret
      exact ⟨ret_bool hpre.out.symm, rfl⟩

set_option maxHeartbeats 1000000 in
theorem before6_any (x : Ex) (l : Nat) (i k : Int) (w : World) (A B : Option Addr) (c d : Nat) (hx : RepX w A c B d x) (hl : l < x.order.length) :
    Calls Tryz.prog 175 #[.agg #[.slice A x.from_.length c, .slice B x.order.length d], .int .i64 l, .int .i64 i, .int .i64 k] w (RetB w (decide (plI (x.order.getD l []) i < plI (x.order.getD l []) k))) := by
  have hlo := hx.2.len
  obtain ⟨W, hW⟩ : ∃ W, W = w.alloc (.cells #[.slice A x.from_.length c, .slice B x.order.length d] 34) := ⟨_, rfl⟩
  have hb : Below w.heap.size w W := by rw [hW]; exact (Below.refl _ _).alloc (Nat.le_refl _) _
  have hbx : Own W w.heap.size 34 #[.slice A x.from_.length c, .slice B x.order.length d] := by rw [hW]; exact Own.new _ _ _
  have q1 := hbx.cell (i := 1) (v := .slice B x.order.length d) rfl
  obtain ⟨bo, oo, Ao, co, rfl, hblo, k0, hio⟩ := (hx.2.le (Le.below hb)).get hl
  have hlk : x.order[l] = x.order.getD l [] := by simp [hl]
  rw [hlk] at k0 hio
  generalize x.order.getD l [] = od at k0 hio
  have f1 := fun n : Ext W => n.le _ _ q1
  have f2 := fun n : Ext W => n.le _ _ k0
  have f3 := fun n : Ext W => hio.le n.le
  go_enter Tryz.func175, Tryz.ntmps175
  go_wp2_with fail
  rw [← hW]
  refine wp_region_ext W (by kernel_rfl) (by kernel_rfl) (Below.refl _ _) ?_
  repeat (go_big_quiet_step ((go_at_call 99; exact Ext.callQ _ fun W' hW' => place6_any od _ W' Ao co (hio.le (Le.below hW')))))
  refine wpQuiet_nil ?_
  rintro wn ⟨⟨_, hbn⟩, rfl⟩
  go_wp2_with fail
  go_ret
  exact ⟨rfl, hb.trans (hbn.mono hb.size)⟩

end Go.Proofs.YtfgpbnncdfcjjabGreatDoor

/-! The walks of isPair$1, slices.IndexFunc and ContainsFunc over instructions with it, Exec.isBefore, Event.pure. -/
namespace Go.Proofs.YtfgpbnncdfcjjabGreatDoor
open Go.RowKit
set_option linter.unusedVariables false
set_option maxRecDepth 100000

theorem isF_any (e : Ins) (w : World) : Calls Tryz.prog 197 #[.agg #[.int .i64 e.op, .int .i64 e.loc, .int .i64 e.reg, .int .i64 e.val]] w (RetB w (decide (e.op = 4))) := by
  go_enter Tryz.func197, Tryz.ntmps197
  go_wp2_with fail
  go_ret
  exact ⟨ret_bool (by rfl), (Below.refl _ _).alloc (Nat.le_refl _) _⟩

def RetIdxF (w : World) (xs : List Ins) (e : Ending) (w' : World) : Prop := ∃ i : Int, e = .returned (.int .i64 i) ∧ decide (0 ≤ i) = fnc xs ∧ Below w.heap.size w w'
set_option maxHeartbeats 1000000 in
theorem idxF_any (xs : List Ins) (w : World) (A : Option Addr) (c : Nat) (h : InsS w (.slice A xs.length c) xs) :
    Calls Tryz.prog 211 #[.slice A xs.length c, .func (.func 197) #[] #[]] w (RetIdxF w xs) := by
  have hlen : xs.length ≤ 9223372036854775807 := by obtain ⟨_, _, _, h, _⟩ := h; exact h
  go_enter Tryz.func211, Tryz.ntmps211
  go_wp2_with fail
  go_loopg [8] xs.length (fun g s8 wr => ∃ k : Nat, k ≤ xs.length ∧ g = xs.length - k ∧ s8 = .int .i64 k ∧ Hid (fnc (xs.take k) = false) ∧ Below w.heap.size w wr)
  case atStart => exact ⟨0, Nat.zero_le _, rfl, rfl, (by show fnc _ = false; rfl), Below.refl _ _⟩
  case round =>
    obtain ⟨k, hk, rfl, rfl, hpre, hb⟩ := hrel
    by_cases hlt : k < xs.length
    · obtain ⟨bb, o, rfl, hbb, c0, c1, c2, c3⟩ := InsS.get (InsS.le h (Le.below hb)) hlt
      have Ht : Hid (fnc (xs.take (k + 1)) = (fnc (xs.take k) || decide (xs[k].op = 4))) := by
        show _ = _
        unfold fnc
        rw [List.take_succ_eq_append_getElem hlt, List.any_append]
        simp
      have Hall : Hid (decide (xs[k].op = 4) = true → fnc xs = true) := fun hd => by
        unfold fnc
        rw [List.any_eq_true]
        exact ⟨xs[k], List.getElem_mem hlt, hd⟩
      have hcall := fun W => isF_any xs[k] W
      generalize xs[k] = e at c0 c1 c2 c3 Ht Hall hcall
      go_wp2_with fail
      refine (hcall _).mono ?_
      rintro e' w' ⟨rfl, hb'⟩
      have hb'' : Below w.heap.size w w' := hb.trans (hb'.mono hb.size)
      clear hcall c0 c1 c2 c3 hb'
      cases hd : decide (e.op = 4)
      · have Hn : Hid (fnc (xs.take (k + 1)) = false) := by show _ = _; rw [Ht.out, hpre.out, hd]; rfl
        clear hd
        go_wp2_with fail
        go_roundg (xs.length - (k + 1))
        case measure => omega
        case rel => exact ⟨k + 1, by omega, rfl, by go_num, Hn.out, hb''⟩
      · have Hv := Lib.hid (Hall.out hd)
        clear hd
        go_wp2_with fail
        go_ret
        exact ⟨_, rfl, by rw [Hv.out, decide_eq_true_iff]; omega, hb''⟩
    · obtain rfl : k = xs.length := by omega
      rw [List.take_length] at hpre
      go_wp2_with fail
      go_ret
      exact ⟨_, rfl, by rw [hpre.out]; rfl, hb⟩
set_option maxHeartbeats 1000000 in
theorem conF_any (xs : List Ins) (w : World) (A : Option Addr) (c : Nat) (h : InsS w (.slice A xs.length c) xs) :
    Calls Tryz.prog 196 #[.slice A xs.length c, .func (.func 197) #[] #[]] w (RetB w (fnc xs)) := by
  go_enter Tryz.func196, Tryz.ntmps196
  go_wp2_with fail
  refine (idxF_any xs _ A c h).mono ?_
  rintro e' w' ⟨i, rfl, hi, hb⟩
  have Hi := Lib.hid hi
  clear hi
  go_wp2_with fail
  go_ret
  exact ⟨ret_bool (by rw [← Hi.out]), hb⟩

theorem pure_any (e : Ev) (b : Bool) (w : World) : Calls Tryz.prog 198 #[.agg #[.int .i64 e.thr, .int .i64 e.idx, .int .i64 e.loc, .bool e.rd, .bool e.wr], .bool b] w (RetB w (if b = true then e.wr && !e.rd else !e.wr && e.rd)) := by
  obtain ⟨t, i, l, r, wr⟩ := e
  simp only
  go_enter Tryz.func198, Tryz.ntmps198
  cases b <;> cases r <;> cases wr <;> (go_wp2_with fail; go_ret; exact ⟨rfl, (Below.refl _ _).alloc (Nat.le_refl _) _⟩)

theorem idxFrom_pl (n : Int) : ∀ (xs : List Int) (i : Nat), Lib.idxFrom xs n i = plF i xs n
  | [], _ => rfl
  | x :: xs, i => by
    rw [Lib.idxFrom, plF]
    by_cases h : x = n
    · rw [if_pos h]; simp [h]
    · rw [if_neg h]; simp [h, idxFrom_pl n xs (i + 1)]
theorem idxOf_pl (xs : List Int) (n : Int) : Lib.idxOf xs n = plI xs n := idxFrom_pl n xs 0
theorem idxP_any (xs : List Int) (n : Int) (w : World) (A : Option Addr) (c : Nat) (h : Ints w A c xs) : Calls Tryz.prog 108 #[.slice A xs.length c, .int .i64 n] w (RetQI w (plI xs n)) :=
  (idxI_any xs n w A c h).mono fun e w' h => by rw [← idxOf_pl]; exact h

set_option maxHeartbeats 1000000 in
theorem isBef_any (x : Ex) (l : Nat) (i k : Int) (w : World) (A B : Option Addr) (c d : Nat) (hx : RepX w A c B d x) (hl : l < x.order.length) :
    Calls Tryz.prog 195 #[.agg #[.slice A x.from_.length c, .slice B x.order.length d], .int .i64 l, .int .i64 i, .int .i64 k] w (RetB w (befB (x.order.getD l []) i k)) := by
  have hlo := hx.2.len
  obtain ⟨W, hW⟩ : ∃ W, W = w.alloc (.cells #[.slice A x.from_.length c, .slice B x.order.length d] 34) := ⟨_, rfl⟩
  have hb : Below w.heap.size w W := by rw [hW]; exact (Below.refl _ _).alloc (Nat.le_refl _) _
  have hbx : Own W w.heap.size 34 #[.slice A x.from_.length c, .slice B x.order.length d] := by rw [hW]; exact Own.new _ _ _
  have q1 := hbx.cell (i := 1) (v := .slice B x.order.length d) rfl
  obtain ⟨bo, oo, Ao, co, rfl, hblo, k0, hio⟩ := (hx.2.le (Le.below hb)).get hl
  have hlk : x.order[l] = x.order.getD l [] := by simp [hl]
  rw [hlk] at k0 hio
  generalize x.order.getD l [] = od at k0 hio
  have f1 := fun n : Ext W => n.le _ _ q1
  have f2 := fun n : Ext W => n.le _ _ k0
  have f3 := fun n : Ext W => hio.le n.le
  have Hp : Hid (befB od i k = (decide (0 ≤ plI od i) && decide (0 ≤ plI od k) && decide (plI od i < plI od k))) := rfl
  go_enter Tryz.func195, Tryz.ntmps195
  go_wp2_with fail
  rw [← hW]
  refine wp_region_ext W (by kernel_rfl) (by kernel_rfl) (Below.refl _ _) ?_
  repeat (go_big_quiet_step ((go_at_call 108; exact Ext.callQ _ fun W' hW' => idxP_any od _ W' Ao co (hio.le (Le.below hW')))))
  refine wpQuiet_nil ?_
  rintro wn ⟨⟨_, hbn⟩, rfl⟩
  by_cases h1 : 0 ≤ plI od i
  · by_cases h2 : 0 ≤ plI od k
    · go_wp2_with fail
      go_ret
      refine ⟨ret_bool ?_, hb.trans (hbn.mono hb.size)⟩
      rw [Hp.out, decide_eq_true h1, decide_eq_true h2]; rfl
    · go_wp2_with fail
      go_ret
      refine ⟨ret_bool ?_, hb.trans (hbn.mono hb.size)⟩
      rw [Hp.out, decide_eq_true h1, decide_eq_false (Int.not_le.2 h2)]; rfl
  · go_wp2_with fail
    go_ret
    refine ⟨ret_bool ?_, hb.trans (hbn.mono hb.size)⟩
    rw [Hp.out, decide_eq_false (Int.not_le.2 h1)]; rfl

end Go.Proofs.YtfgpbnncdfcjjabGreatDoor
