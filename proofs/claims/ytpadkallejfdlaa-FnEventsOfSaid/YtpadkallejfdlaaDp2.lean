/-
  The walks of l1Letter, l17Dec (one digit), l1Text, l1Program: of the texts only their sizes are told.
-/
import Derived.Test.YtpadkallejfdlaaDp1
import Derived.Test.YtpadkallejfdlaaSpEv
import Derived.Laws.BytesArg
namespace Go.Proofs.Ytpadkallejfdlaa
open Go.RowKit
set_option linter.unusedVariables false
set_option maxRecDepth 100000

/-- A text of so many bytes at most. -/
def RetTx (w : World) (n : Nat) (e : Ending) (w' : World) : Prop := ∃ s : ByteArray, e = .returned (.string s) ∧ s.size ≤ n ∧ Below w.heap.size w w'

/-- 'string([]byte{v})'. -/
theorem one_byte (v : Int) (b : Nat) (W : World) (hb : W.heap.size = b) : (convert 33 9 (.slice (some ⟨b, 0, none⟩) 1 1)).run Try.prog (W.alloc (.cells #[.int .u8 v] 5)) = .ok (.string (strOfNums [v])) (W.alloc (.cells #[.int .u8 v] 5)) := by
  subst hb
  exact run_convert_bytes_arg (P := Try.prog) _ 33 5 Try.underlying33 Try.underlying5 W.heap.size 0 1 1 [v] rfl (fun i hi => by
    obtain rfl : i = 0 := by omega
    simp) 9 Try.underlying9
theorem size_one (v : Int) : (strOfNums [v]).size = 1 := strOfNums_size [v]

set_option maxHeartbeats 400000 in
theorem letter_any (frm n : Int) (w : World) (h0 : 0 ≤ frm) (h1 : frm ≤ 200) (n0 : 0 ≤ n) (n1 : n ≤ 10) :
    Calls Try.prog 131 #[.int .u8 frm, .int .i64 n] w (RetTx w 1) := by
  have kc := fun (v : Int) (W : World) => one_byte v _ W rfl
  go_enter Try.func131, Try.ntmps131
  go_wp2_with fail
  go_ret
  exact ⟨_, rfl, by rw [size_one]; omega, (Below.refl _ _).alloc (Nat.le_refl _) _⟩

/-- A text of just these bytes. -/
def RetS (w : World) (s : ByteArray) (e : Ending) (w' : World) : Prop := e = .returned (.string s) ∧ Below w.heap.size w w'
theorem app_nil (s : ByteArray) : s ++ (⟨#[]⟩ : ByteArray) = s := by
  cases s
  show ByteArray.append _ _ = _
  simp [ByteArray.append]
theorem ret_str {a b : ByteArray} (h : a = b) : Ending.returned (.string a) = .returned (.string b) := by rw [h]
/-- The decimal text of a small number. -/
def decS (n : Int) : ByteArray := if n ≤ 9 then strOfNums [48 + n] else strOfNums [48 + n / 10] ++ strOfNums [48 + n % 10]
theorem decS_size (n : Int) : (decS n).size ≤ 2 := by
  unfold decS
  by_cases h : n ≤ 9
  · rw [if_pos h, size_one]; omega
  · rw [if_neg h, ByteArray.size_append, size_one, size_one]; omega
theorem decS_one {n : Int} (h : n ≤ 9) : decS n = strOfNums [48 + n] ++ (⟨#[]⟩ : ByteArray) := by rw [app_nil]; exact if_pos h
theorem decS_two {n : Int} (h : ¬ n ≤ 9) : decS n = strOfNums [48 + n / 10] ++ (strOfNums [48 + n % 10] ++ (⟨#[]⟩ : ByteArray)) := by rw [app_nil]; exact if_neg h

set_option maxHeartbeats 400000 in
theorem dec_any (n : Int) (w : World) (n0 : 0 ≤ n) (n1 : n ≤ 99) :
    Calls Try.prog 132 #[.int .i64 n] w (RetS w (decS n)) := by
  have kc := fun (v : Int) (W : World) => one_byte v _ W rfl
  have b1 : decide (n < -9223372036854775807) = false := by rw [decide_eq_false_iff_not]; omega
  have b2 : decide (n < 0) = false := by rw [decide_eq_false_iff_not]; omega
  by_cases h9 : n ≤ 9
  · have hd := Lib.hid (decS_one h9)
    have b3 : decide (n > 9) = false := by rw [decide_eq_false_iff_not]; omega
    go_enter Try.func132, Try.ntmps132
    go_wp2_with fail
    refine wp_loop_rounds 1 ?_
    rw [rounds_succ]
    go_wp2_with fail
    go_ret
    exact ⟨ret_str hd.out.symm, (Below.refl _ _).alloc (Nat.le_refl _) _⟩
  · have hd := Lib.hid (decS_two h9)
    have kc2 := fun (v : Int) (W : World) (o : Obj) => one_byte v (W.heap.size + 1) (W.alloc o) (by simp)
    have b3 : decide (n > 9) = true := by rw [decide_eq_true_iff]; omega
    have b4 : decide (n / 10 > 9) = false := by rw [decide_eq_false_iff_not]; omega
    have hm0 : 0 ≤ n % 10 := by omega
    have hm1 : n % 10 ≤ 9 := by omega
    have hq0 : 0 ≤ n / 10 := by omega
    have hq1 : n / 10 ≤ 9 := by omega
    go_enter Try.func132, Try.ntmps132
    go_wp2_with fail
    refine wp_loop_rounds 2 ?_
    rw [rounds_succ]
    go_wp2_with fail
    rw [rounds_succ]
    go_wp2_with fail
    go_ret
    exact ⟨ret_str hd.out.symm, ((Below.refl _ _).alloc (Nat.le_refl _) _).alloc (by simp) _⟩

set_option maxHeartbeats 1000000 in
theorem text1_any (x : Ins) (w : World) (hx : InsOk x) : Calls Try.prog 129 #[.agg #[.int .i64 x.op, .int .i64 x.loc, .int .i64 x.reg, .int .i64 x.val]] w (RetTx w 10) := by
  have hl := hx.loc
  have hr := hx.reg
  have hv := hx.val
  have ho := hx.op
  obtain ⟨op, loc, reg, val⟩ := x
  simp only at hl hr hv ho
  clear hx
  obtain ⟨l0, l1⟩ := hl
  obtain ⟨r0, r1⟩ := hr
  obtain ⟨v0, v1⟩ := hv
  have bx := Own.new w 65 #[.int .i64 op, .int .i64 loc, .int .i64 reg, .int .i64 val]
  have hB : Below w.heap.size w (w.alloc (.cells #[.int .i64 op, .int .i64 loc, .int .i64 reg, .int .i64 val] 65)) := (Below.refl _ _).alloc (Nat.le_refl _) _
  go_enter Try.func129, Try.ntmps129
  go_wp2_with fail
  refine (letter_any 120 loc _ (by omega) (by omega) l0 (by omega)).mono ?_
  rintro e1 w1 ⟨a, rfl, ha, hb1⟩
  have bx1 := bx.under hb1
  have hB1 := hB.trans (hb1.mono hB.size)
  obtain ⟨c0, c1, c2, c3⟩ := bx1.all4
  clear hb1 hB bx
  go_wp2_with fail
  refine (letter_any 97 reg _ (by omega) (by omega) r0 (by omega)).mono ?_
  rintro e2 w2 ⟨b, rfl, hb, hb2⟩
  have bx2 := bx1.under hb2
  have hB2 := hB1.trans (hb2.mono hB1.size)
  clear c0 c1 c2 c3
  obtain ⟨c0, c1, c2, c3⟩ := bx2.all4
  clear hb2 hB1 bx1
  have hcase : op = 1 ∨ op = 2 ∨ op = 3 ∨ op = 4 ∨ op = 5 := by omega
  rcases hcase with rfl | rfl | rfl | rfl | rfl
  · go_wp2_with fail
    go_ret
    exact ⟨_, rfl, by simp only [ByteArray.size_append]; show b.size + 1 + a.size ≤ 10; omega, hB2⟩
  · go_wp2_with fail
    refine (dec_any val _ v0 (by omega)).mono ?_
    rintro e3 w3 ⟨rfl, hb3⟩
    have hd := decS_size val
    go_wp2_with fail
    go_ret
    exact ⟨_, rfl, by simp only [ByteArray.size_append]; show a.size + 1 + (decS val).size ≤ 10; omega, hB2.trans (hb3.mono hB2.size)⟩
  · go_wp2_with fail
    go_ret
    exact ⟨_, rfl, by simp only [ByteArray.size_append]; show a.size + 1 + b.size ≤ 10; omega, hB2⟩
  · go_wp2_with fail
    go_ret
    exact ⟨_, rfl, by decide, hB2⟩
  · go_wp2_with fail
    refine (dec_any val _ v0 (by omega)).mono ?_
    rintro e3 w3 ⟨rfl, hb3⟩
    have hd := decS_size val
    go_wp2_with fail
    go_ret
    exact ⟨_, rfl, by simp only [ByteArray.size_append]; show b.size + 1 + a.size + 1 + (decS val).size ≤ 10; omega, hB2.trans (hb3.mono hB2.size)⟩

theorem size_app (a b : ByteArray) (n m : Nat) (ha : a.size ≤ n) (hb : b.size ≤ m) : (a ++ b).size ≤ n + m := by rw [ByteArray.size_append]; omega

set_option maxHeartbeats 2000000 in
theorem text_any (p : Prg) (hp : ShapeOk p) (w : World) (v : Value) (hr : PrgS w v p) : Calls Try.prog 121 #[v] w (RetTx w 1000) := by
  obtain ⟨A, c, rfl, hlen⟩ := hr.slice
  have hl3 := hp.1
  go_enter Try.func121, Try.ntmps121
  go_wp2_with fail
  go_loopg [3, 4] p.length (fun g s3 s4 wr => ∃ (i : Nat) (s : ByteArray), i ≤ p.length ∧ g = p.length - i ∧ s4 = .int .i64 i ∧ s3 = .string s ∧ s.size ≤ 100 * i ∧ Below w.heap.size w wr)
  case atStart => exact ⟨0, _, Nat.zero_le _, rfl, rfl, rfl, by decide, Below.refl _ _⟩
  case round =>
    obtain ⟨wo, rfl⟩ : ∃ wo : World, wo = wr := ⟨_, rfl⟩
    obtain ⟨i, s, hi, rfl, rfl, rfl, hs, hb⟩ := hrel
    by_cases hlt : i < p.length
    · obtain ⟨bb, o, A1, c1, rfl, hbl, k0, hlm, hx⟩ := SlR.getSub (PrgS.le hr (Le.below hb)) hlt
      have hmem := List.getElem_mem hlt
      have h7 := (hp.2.1 _ hmem).1
      have Hok : Hid (∀ x ∈ p[i], InsOk x) := (hp.2.1 _ hmem).2
      generalize htt : p[i] = t at hx hlm k0 h7 Hok
      clear hr htt hmem hp
      by_cases h0 : 0 < i
      all_goals
        go_wp2_with fail
        go_loopg [3, 5] t.length (fun g s3 s5 wr => ∃ (k : Nat) (s' : ByteArray), k ≤ t.length ∧ g = t.length - k ∧ s5 = .int .i64 k ∧ s3 = .string s' ∧ s'.size ≤ 100 * i + 1 + 12 * k ∧ Below wo.heap.size wo wr)
        case atStart => exact ⟨0, _, Nat.zero_le _, rfl, rfl, rfl, by first | (rw [ByteArray.size_append]; show s.size + 1 ≤ _; omega) | omega, Below.refl _ _⟩
        case round =>
          obtain ⟨k, s', hk, rfl, rfl, rfl, hs', hbk⟩ := hrel
          have k1 := Le.below hbk _ _ k0
          by_cases hkt : k < t.length
          · obtain ⟨b2, o2, rfl, hbl2, d0, d1, d2, d3⟩ := (InsS.le hx (Le.below hbk)).get hkt
            have hmem := List.getElem_mem hkt
            have hxok := Lib.hid (Hok.out _ hmem)
            generalize hxx : t[k] = x at d0 d1 d2 d3 hxok
            clear hxx hmem k0
            by_cases hk0 : 0 < k
            all_goals
              go_wp2_with fail
              refine (text1_any x _ hxok.out).mono ?_
              rintro e5 w5 ⟨tx, rfl, htx, hb5⟩
              have hB5 := hbk.trans (hb5.mono hbk.size)
              have k5 := Le.below hb5 _ _ k1
              clear k1 d0 d1 d2 d3 hb5 hbk
              go_wp2_with fail
              go_roundg (t.length - (k + 1))
              case measure => omega
              case rel => exact ⟨k + 1, _, by omega, rfl, by go_num, rfl, by first | (simp only [ByteArray.size_append]; show s'.size + 1 + tx.size ≤ _; omega) | (simp only [ByteArray.size_append]; omega), hB5⟩
          · obtain rfl : k = t.length := by omega
            go_wp2_with fail
            go_roundg (p.length - (i + 1))
            case measure => omega
            case rel => exact ⟨i + 1, _, by omega, rfl, by go_num, rfl, by omega, hb.trans (hbk.mono hb.size)⟩
    · obtain rfl : i = p.length := by omega
      go_wp2_with fail
      go_ret
      exact ⟨_, rfl, by omega, hb⟩

end Go.Proofs.Ytpadkallejfdlaa
