/-
  The walks of isPair$1, slices.IndexFunc and ContainsFunc over instructions with it, Exec.isBefore, Event.pure.
-/
import Derived.Test.YtfgpbnncdfcjjaaDoorRelF
import Derived.Test.YtfgpbnncdfcjjaaDoorSl
namespace Go.Proofs.YtfgpbnncdfcjjaaDoor
open Go.RowKit
set_option linter.unusedVariables false
set_option maxRecDepth 100000

theorem isF_any (e : Ins) (w : World) : Calls Tryd.prog 108 #[.agg #[.int .i64 e.op, .int .i64 e.loc, .int .i64 e.reg, .int .i64 e.val]] w (RetB w (decide (e.op = 4))) := by
  go_enter Tryd.func108, Tryd.ntmps108
  go_wp2_with fail
  go_ret
  exact ⟨ret_bool (by rfl), (Below.refl _ _).alloc (Nat.le_refl _) _⟩

def RetIdxF (w : World) (xs : List Ins) (e : Ending) (w' : World) : Prop := ∃ i : Int, e = .returned (.int .i64 i) ∧ decide (0 ≤ i) = fnc xs ∧ Below w.heap.size w w'
set_option maxHeartbeats 1000000 in
theorem idxF_any (xs : List Ins) (w : World) (A : Option Addr) (c : Nat) (h : InsS w (.slice A xs.length c) xs) :
    Calls Tryd.prog 134 #[.slice A xs.length c, .func (.func 108) #[] #[]] w (RetIdxF w xs) := by
  have hlen : xs.length ≤ 9223372036854775807 := by obtain ⟨_, _, _, h, _⟩ := h; exact h
  go_enter Tryd.func134, Tryd.ntmps134
  go_wp2_with fail
  go_loopg [8] xs.length (fun g s8 wr => ∃ k : Nat, k ≤ xs.length ∧ g = xs.length - k ∧ s8 = .int .i64 k ∧ Hid (fnc (xs.take k) = false) ∧ Below w.heap.size w wr)
  case atStart => exact ⟨0, Nat.zero_le _, rfl, rfl, (by show fnc _ = false; rfl), Below.refl _ _⟩
  case round =>
    obtain ⟨k, hk, rfl, rfl, hpre, hb⟩ := hrel
    by_cases hlt : k < xs.length
    · obtain ⟨bb, o, rfl, hbb, c0, c1, c2, c3⟩ := InsS.get (InsS.le h (Le.below hb)) hlt
      have Ht : Hid (fnc (xs.take (k + 1)) = (fnc (xs.take k) || decide (xs[k].op = 4))) := by
        show _ = _
        unfold fnc
        rw [List.take_succ_eq_append_getElem hlt, List.any_append]
        simp
      have Hall : Hid (decide (xs[k].op = 4) = true → fnc xs = true) := fun hd => by
        unfold fnc
        rw [List.any_eq_true]
        exact ⟨xs[k], List.getElem_mem hlt, hd⟩
      have hcall := fun W => isF_any xs[k] W
      generalize xs[k] = e at c0 c1 c2 c3 Ht Hall hcall
      go_wp2_with fail
      refine (hcall _).mono ?_
      rintro e' w' ⟨rfl, hb'⟩
      have hb'' : Below w.heap.size w w' := hb.trans (hb'.mono hb.size)
      clear hcall c0 c1 c2 c3 hb'
      cases hd : decide (e.op = 4)
      · have Hn : Hid (fnc (xs.take (k + 1)) = false) := by show _ = _; rw [Ht.out, hpre.out, hd]; rfl
        clear hd
        go_wp2_with fail
        go_roundg (xs.length - (k + 1))
        case measure => omega
        case rel => exact ⟨k + 1, by omega, rfl, by go_num, Hn.out, hb''⟩
      · have Hv := Lib.hid (Hall.out hd)
        clear hd
        go_wp2_with fail
        go_ret
        exact ⟨_, rfl, by rw [Hv.out, decide_eq_true_iff]; omega, hb''⟩
    · obtain rfl : k = xs.length := by omega
      rw [List.take_length] at hpre
      go_wp2_with fail
      go_ret
      exact ⟨_, rfl, by rw [hpre.out]; rfl, hb⟩
set_option maxHeartbeats 1000000 in
theorem conF_any (xs : List Ins) (w : World) (A : Option Addr) (c : Nat) (h : InsS w (.slice A xs.length c) xs) :
    Calls Tryd.prog 107 #[.slice A xs.length c, .func (.func 108) #[] #[]] w (RetB w (fnc xs)) := by
  go_enter Tryd.func107, Tryd.ntmps107
  go_wp2_with fail
  refine (idxF_any xs _ A c h).mono ?_
  rintro e' w' ⟨i, rfl, hi, hb⟩
  have Hi := Lib.hid hi
  clear hi
  go_wp2_with fail
  go_ret
  exact ⟨ret_bool (by rw [← Hi.out]), hb⟩

theorem pure_any (e : Ev) (b : Bool) (w : World) : Calls Tryd.prog 109 #[.agg #[.int .i64 e.thr, .int .i64 e.idx, .int .i64 e.loc, .bool e.rd, .bool e.wr], .bool b] w (RetB w (if b = true then e.wr && !e.rd else !e.wr && e.rd)) := by
  obtain ⟨t, i, l, r, wr⟩ := e
  simp only
  go_enter Tryd.func109, Tryd.ntmps109
  cases b <;> cases r <;> cases wr <;> (go_wp2_with fail; go_ret; exact ⟨rfl, (Below.refl _ _).alloc (Nat.le_refl _) _⟩)

theorem idxFrom_pl (n : Int) : ∀ (xs : List Int) (i : Nat), Lib.idxFrom xs n i = plF i xs n
  | [], _ => rfl
  | x :: xs, i => by
    rw [Lib.idxFrom, plF]
    by_cases h : x = n
    · rw [if_pos h]; simp [h]
    · rw [if_neg h]; simp [h, idxFrom_pl n xs (i + 1)]
theorem idxOf_pl (xs : List Int) (n : Int) : Lib.idxOf xs n = plI xs n := idxFrom_pl n xs 0
theorem idxP_any (xs : List Int) (n : Int) (w : World) (A : Option Addr) (c : Nat) (h : Ints w A c xs) : Calls Tryd.prog 88 #[.slice A xs.length c, .int .i64 n] w (RetQI w (plI xs n)) :=
  (idxI_any xs n w A c h).mono fun e w' h => by rw [← idxOf_pl]; exact h

set_option maxHeartbeats 1000000 in
theorem isBef_any (x : Ex) (l : Nat) (i k : Int) (w : World) (A B : Option Addr) (c d : Nat) (hx : RepX w A c B d x) (hl : l < x.order.length) :
    Calls Tryd.prog 106 #[.agg #[.slice A x.from_.length c, .slice B x.order.length d], .int .i64 l, .int .i64 i, .int .i64 k] w (RetB w (befB (x.order.getD l []) i k)) := by
  have hlo := hx.2.len
  obtain ⟨W, hW⟩ : ∃ W, W = w.alloc (.cells #[.slice A x.from_.length c, .slice B x.order.length d] 32) := ⟨_, rfl⟩
  have hb : Below w.heap.size w W := by rw [hW]; exact (Below.refl _ _).alloc (Nat.le_refl _) _
  have hbx : Own W w.heap.size 32 #[.slice A x.from_.length c, .slice B x.order.length d] := by rw [hW]; exact Own.new _ _ _
  have q1 := hbx.cell (i := 1) (v := .slice B x.order.length d) rfl
  obtain ⟨bo, oo, Ao, co, rfl, hblo, k0, hio⟩ := (hx.2.le (Le.below hb)).get hl
  have hlk : x.order[l] = x.order.getD l [] := by simp [hl]
  rw [hlk] at k0 hio
  generalize x.order.getD l [] = od at k0 hio
  have f1 := fun n : Ext W => n.le _ _ q1
  have f2 := fun n : Ext W => n.le _ _ k0
  have f3 := fun n : Ext W => hio.le n.le
  have Hp : Hid (befB od i k = (decide (0 ≤ plI od i) && decide (0 ≤ plI od k) && decide (plI od i < plI od k))) := rfl
  go_enter Tryd.func106, Tryd.ntmps106
  go_wp2_with fail
  rw [← hW]
  refine wp_region_ext W (by kernel_rfl) (by kernel_rfl) (Below.refl _ _) ?_
  repeat (go_big_quiet_step ((go_at_call 88; exact Ext.callQ _ fun W' hW' => idxP_any od _ W' Ao co (hio.le (Le.below hW')))))
  refine wpQuiet_nil ?_
  rintro wn ⟨⟨_, hbn⟩, rfl⟩
  by_cases h1 : 0 ≤ plI od i
  · by_cases h2 : 0 ≤ plI od k
    · go_wp2_with fail
      go_ret
      refine ⟨ret_bool ?_, hb.trans (hbn.mono hb.size)⟩
      rw [Hp.out, decide_eq_true h1, decide_eq_true h2]; rfl
    · go_wp2_with fail
      go_ret
      refine ⟨ret_bool ?_, hb.trans (hbn.mono hb.size)⟩
      rw [Hp.out, decide_eq_true h1, decide_eq_false (Int.not_le.2 h2)]; rfl
  · go_wp2_with fail
    go_ret
    refine ⟨ret_bool ?_, hb.trans (hbn.mono hb.size)⟩
    rw [Hp.out, decide_eq_false (Int.not_le.2 h1)]; rfl

end Go.Proofs.YtfgpbnncdfcjjaaDoor
