/-
  The walks of l1Place, l1Parse, l1Letter, l17Dec (one digit), l1Text, l1Program: the reference's own reading and writing of programs; of the texts only their sizes are told. The walks of l1Letter, l17Dec (one digit), l1Text, l1Program: of the texts only their sizes are told. The walks of l1Tests and l17Cut (the pieces of a text are no longer than it), as far as draws of programs want them.
-/
import Derived.Test.YtahegjofooahkaaGreatSpPa
import Derived.Test.YtahegjofooahkaaGreatStr
import Derived.Test.YtahegjofooahkaaGreatRwS
import Derived.Test.YtahegjofooahkaaGreatOwA
import Derived.Laws.BytesArg

/-! The walks of l1Place, l1Parse, l1Letter, l17Dec (one digit), l1Text, l1Program: the reference's own reading and writing of programs; of the texts only their sizes are told. -/
namespace Go.Proofs.YtahegjofooahkaaGreat
open Go.RowKit
set_option linter.unusedVariables false
set_option maxRecDepth 100000

def RetSomeInt (w : World) (e : Ending) (w' : World) : Prop := ∃ v : Int, e = .returned (.int .i64 v) ∧ -1 ≤ v ∧ v ≤ 255 ∧ w = w'

set_option maxHeartbeats 400000 in
theorem place_any (s : ByteArray) (at' : Nat) (frm most : Int) (w : World) (hs : s.size ≤ 2000000) (ha : at' ≤ 100) (h0 : 0 ≤ frm) (h1 : frm ≤ 255) (hm : 0 ≤ most) (hm' : most ≤ 255) :
    Calls Tryz.prog 142 #[.string s, .int .i64 at', .int .u8 frm, .int .i64 most] w (RetSomeInt w) := by
  go_enter Tryz.func142, Tryz.ntmps142
  by_cases hlt : at' < s.size
  · have hu : (s[at'].toNat : Int) ≤ 255 := by have := s[at'].toNat_lt; omega
    by_cases hf : (s[at'].toNat : Int) < frm
    · go_wp2_with fail
      go_ret
      exact ⟨-1, rfl, by omega, by omega, rfl⟩
    · by_cases hm2 : (s[at'].toNat : Int) - frm > most
      · go_wp2_with fail
        go_ret
        exact ⟨-1, rfl, by omega, by omega, rfl⟩
      · go_wp2_with fail
        go_ret
        exact ⟨_, rfl, by omega, by omega, rfl⟩
  · go_wp2_with fail
    go_ret
    exact ⟨-1, rfl, by omega, by omega, rfl⟩

def RetSomeIns (w : World) (e : Ending) (w' : World) : Prop := ∃ x : Ins, e = .returned (.agg #[.int .i64 x.op, .int .i64 x.loc, .int .i64 x.reg, .int .i64 x.val]) ∧ Below w.heap.size w w'

set_option maxHeartbeats 1000000 in
theorem parseI_any (s : ByteArray) (w : World) (hs : s.size ≤ 2000000) : Calls Tryz.prog 114 #[.string s] w (RetSomeIns w) := by
  go_enter Tryz.func114, Tryz.ntmps114
  cases hf : (s.toList == [102, 101, 110, 99, 101])
  · go_wp2_with fail
    refine (place_any s 0 97 2 _ hs (by omega) (by omega) (by omega) (by omega) (by omega)).mono ?_
    rintro e1 w1 ⟨reg, rfl, hreg0, hreg1, rfl⟩
    go_wp2_with fail
    refine (place_any s 0 120 2 _ hs (by omega) (by omega) (by omega) (by omega) (by omega)).mono ?_
    rintro e1 w1 ⟨loc, rfl, hloc0, hloc1, rfl⟩
    by_cases hreg : 0 ≤ reg
    · by_cases h3 : s.size = 3
      · go_wp2_with fail
        refine (place_any s 2 120 2 _ hs (by omega) (by omega) (by omega) (by omega) (by omega)).mono ?_
        rintro e1 w1 ⟨a, rfl, ha0, ha1, rfl⟩
        go_wp2_with fail
        refine bodyPost_ret (v := .agg #[.int .i64 1, .int .i64 a, .int .i64 reg, .int .i64 0]) (by simp [results, Tryz.results114, go_sem]) rfl ?_
        exact ⟨⟨1, a, reg, 0⟩, rfl, (Below.refl _ _).alloc (Nat.le_refl _) _⟩
      · by_cases h5 : s.size = 5
        · go_wp2_with fail
          refine (place_any s 2 120 2 _ hs (by omega) (by omega) (by omega) (by omega) (by omega)).mono ?_
          rintro e1 w1 ⟨a, rfl, ha0, ha1, rfl⟩
          go_wp2_with fail
          refine (place_any s 4 48 3 _ hs (by omega) (by omega) (by omega) (by omega) (by omega)).mono ?_
          rintro e1 w1 ⟨b, rfl, hb0, hb1, rfl⟩
          go_wp2_with fail
          refine bodyPost_ret (v := .agg #[.int .i64 5, .int .i64 a, .int .i64 reg, .int .i64 b]) (by simp [results, Tryz.results114, go_sem]) rfl ?_
          exact ⟨⟨5, a, reg, b⟩, rfl, (Below.refl _ _).alloc (Nat.le_refl _) _⟩
        · by_cases hloc : 0 ≤ loc
          · go_wp2_with fail
            refine (place_any s 2 97 2 _ hs (by omega) (by omega) (by omega) (by omega) (by omega)).mono ?_
            rintro e1 w1 ⟨a, rfl, ha0, ha1, rfl⟩
            by_cases ha : 0 ≤ a
            · go_wp2_with fail
              refine (place_any s 2 97 2 _ hs (by omega) (by omega) (by omega) (by omega) (by omega)).mono ?_
              rintro e1 w1 ⟨b, rfl, hb0, hb1, rfl⟩
              go_wp2_with fail
              refine bodyPost_ret (v := .agg #[.int .i64 3, .int .i64 loc, .int .i64 b, .int .i64 0]) (by simp [results, Tryz.results114, go_sem]) rfl ?_
              exact ⟨⟨3, loc, b, 0⟩, rfl, (Below.refl _ _).alloc (Nat.le_refl _) _⟩
            · go_wp2_with fail
              refine (place_any s 2 48 3 _ hs (by omega) (by omega) (by omega) (by omega) (by omega)).mono ?_
              rintro e1 w1 ⟨b, rfl, hb0, hb1, rfl⟩
              go_wp2_with fail
              refine bodyPost_ret (v := .agg #[.int .i64 2, .int .i64 loc, .int .i64 0, .int .i64 b]) (by simp [results, Tryz.results114, go_sem]) rfl ?_
              exact ⟨⟨2, loc, 0, b⟩, rfl, (Below.refl _ _).alloc (Nat.le_refl _) _⟩
          · go_wp2_with fail
            refine (place_any s 2 48 3 _ hs (by omega) (by omega) (by omega) (by omega) (by omega)).mono ?_
            rintro e1 w1 ⟨b, rfl, hb0, hb1, rfl⟩
            go_wp2_with fail
            refine bodyPost_ret (v := .agg #[.int .i64 2, .int .i64 loc, .int .i64 0, .int .i64 b]) (by simp [results, Tryz.results114, go_sem]) rfl ?_
            exact ⟨⟨2, loc, 0, b⟩, rfl, (Below.refl _ _).alloc (Nat.le_refl _) _⟩
    · by_cases hloc : 0 ≤ loc
      · go_wp2_with fail
        refine (place_any s 2 97 2 _ hs (by omega) (by omega) (by omega) (by omega) (by omega)).mono ?_
        rintro e1 w1 ⟨a, rfl, ha0, ha1, rfl⟩
        by_cases ha : 0 ≤ a
        · go_wp2_with fail
          refine (place_any s 2 97 2 _ hs (by omega) (by omega) (by omega) (by omega) (by omega)).mono ?_
          rintro e1 w1 ⟨b, rfl, hb0, hb1, rfl⟩
          go_wp2_with fail
          refine bodyPost_ret (v := .agg #[.int .i64 3, .int .i64 loc, .int .i64 b, .int .i64 0]) (by simp [results, Tryz.results114, go_sem]) rfl ?_
          exact ⟨⟨3, loc, b, 0⟩, rfl, (Below.refl _ _).alloc (Nat.le_refl _) _⟩
        · go_wp2_with fail
          refine (place_any s 2 48 3 _ hs (by omega) (by omega) (by omega) (by omega) (by omega)).mono ?_
          rintro e1 w1 ⟨b, rfl, hb0, hb1, rfl⟩
          go_wp2_with fail
          refine bodyPost_ret (v := .agg #[.int .i64 2, .int .i64 loc, .int .i64 0, .int .i64 b]) (by simp [results, Tryz.results114, go_sem]) rfl ?_
          exact ⟨⟨2, loc, 0, b⟩, rfl, (Below.refl _ _).alloc (Nat.le_refl _) _⟩
      · go_wp2_with fail
        refine (place_any s 2 48 3 _ hs (by omega) (by omega) (by omega) (by omega) (by omega)).mono ?_
        rintro e1 w1 ⟨b, rfl, hb0, hb1, rfl⟩
        go_wp2_with fail
        refine bodyPost_ret (v := .agg #[.int .i64 2, .int .i64 loc, .int .i64 0, .int .i64 b]) (by simp [results, Tryz.results114, go_sem]) rfl ?_
        exact ⟨⟨2, loc, 0, b⟩, rfl, (Below.refl _ _).alloc (Nat.le_refl _) _⟩
  · go_wp2_with fail
    refine bodyPost_ret (v := .agg #[.int .i64 4, .int .i64 0, .int .i64 0, .int .i64 0]) (by simp [results, Tryz.results114, go_sem]) rfl ?_
    exact ⟨⟨4, 0, 0, 0⟩, rfl, (Below.refl _ _).alloc (Nat.le_refl _) _⟩

end Go.Proofs.YtahegjofooahkaaGreat

/-! The walks of l1Letter, l17Dec (one digit), l1Text, l1Program: of the texts only their sizes are told. -/
namespace Go.Proofs.YtahegjofooahkaaGreat
open Go.RowKit
set_option linter.unusedVariables false
set_option maxRecDepth 100000

/-- A text of so many bytes at most. -/
def RetTx (w : World) (n : Nat) (e : Ending) (w' : World) : Prop := ∃ s : ByteArray, e = .returned (.string s) ∧ s.size ≤ n ∧ Below w.heap.size w w'

/-- 'string([]byte{v})'. -/
theorem one_byte (v : Int) (b : Nat) (W : World) (hb : W.heap.size = b) : (convert 22 9 (.slice (some ⟨b, 0, none⟩) 1 1)).run Tryz.prog (W.alloc (.cells #[.int .u8 v] 5)) = .ok (.string (strOfNums [v])) (W.alloc (.cells #[.int .u8 v] 5)) := by
  subst hb
  exact run_convert_bytes_arg (P := Tryz.prog) _ 22 5 Tryz.underlying22 Tryz.underlying5 W.heap.size 0 1 1 [v] rfl (fun i hi => by
    obtain rfl : i = 0 := by omega
    simp) 9 Tryz.underlying9
theorem size_one (v : Int) : (strOfNums [v]).size = 1 := strOfNums_size [v]

set_option maxHeartbeats 400000 in
theorem letter_any (frm n : Int) (w : World) (h0 : 0 ≤ frm) (h1 : frm ≤ 200) (n0 : 0 ≤ n) (n1 : n ≤ 10) :
    Calls Tryz.prog 154 #[.int .u8 frm, .int .i64 n] w (RetTx w 1) := by
  have kc := fun (v : Int) (W : World) => one_byte v _ W rfl
  go_enter Tryz.func154, Tryz.ntmps154
  go_wp2_with fail
  go_ret
  exact ⟨_, rfl, by rw [size_one]; omega, (Below.refl _ _).alloc (Nat.le_refl _) _⟩

/-- A text of just these bytes. -/
def RetS (w : World) (s : ByteArray) (e : Ending) (w' : World) : Prop := e = .returned (.string s) ∧ Below w.heap.size w w'
theorem app_nil (s : ByteArray) : s ++ (⟨#[]⟩ : ByteArray) = s := by
  cases s
  show ByteArray.append _ _ = _
  simp [ByteArray.append]
theorem ret_str {a b : ByteArray} (h : a = b) : Ending.returned (.string a) = .returned (.string b) := by rw [h]
/-- The decimal text of a small number. -/
def decS (n : Int) : ByteArray := if n ≤ 9 then strOfNums [48 + n] else strOfNums [48 + n / 10] ++ strOfNums [48 + n % 10]
theorem decS_size (n : Int) : (decS n).size ≤ 2 := by
  unfold decS
  by_cases h : n ≤ 9
  · rw [if_pos h, size_one]; omega
  · rw [if_neg h, ByteArray.size_append, size_one, size_one]; omega
theorem decS_one {n : Int} (h : n ≤ 9) : decS n = strOfNums [48 + n] ++ (⟨#[]⟩ : ByteArray) := by rw [app_nil]; exact if_pos h
theorem decS_two {n : Int} (h : ¬ n ≤ 9) : decS n = strOfNums [48 + n / 10] ++ (strOfNums [48 + n % 10] ++ (⟨#[]⟩ : ByteArray)) := by rw [app_nil]; exact if_neg h

set_option maxHeartbeats 400000 in
theorem dec_any (n : Int) (w : World) (n0 : 0 ≤ n) (n1 : n ≤ 99) :
    Calls Tryz.prog 155 #[.int .i64 n] w (RetS w (decS n)) := by
  have kc := fun (v : Int) (W : World) => one_byte v _ W rfl
  have b1 : decide (n < -9223372036854775807) = false := by rw [decide_eq_false_iff_not]; omega
  have b2 : decide (n < 0) = false := by rw [decide_eq_false_iff_not]; omega
  by_cases h9 : n ≤ 9
  · have hd := Lib.hid (decS_one h9)
    have b3 : decide (n > 9) = false := by rw [decide_eq_false_iff_not]; omega
    go_enter Tryz.func155, Tryz.ntmps155
    go_wp2_with fail
    refine wp_loop_rounds 1 ?_
    rw [rounds_succ]
    go_wp2_with fail
    go_ret
    exact ⟨ret_str hd.out.symm, (Below.refl _ _).alloc (Nat.le_refl _) _⟩
  · have hd := Lib.hid (decS_two h9)
    have kc2 := fun (v : Int) (W : World) (o : Obj) => one_byte v (W.heap.size + 1) (W.alloc o) (by simp)
    have b3 : decide (n > 9) = true := by rw [decide_eq_true_iff]; omega
    have b4 : decide (n / 10 > 9) = false := by rw [decide_eq_false_iff_not]; omega
    have hm0 : 0 ≤ n % 10 := by omega
    have hm1 : n % 10 ≤ 9 := by omega
    have hq0 : 0 ≤ n / 10 := by omega
    have hq1 : n / 10 ≤ 9 := by omega
    go_enter Tryz.func155, Tryz.ntmps155
    go_wp2_with fail
    refine wp_loop_rounds 2 ?_
    rw [rounds_succ]
    go_wp2_with fail
    rw [rounds_succ]
    go_wp2_with fail
    go_ret
    exact ⟨ret_str hd.out.symm, ((Below.refl _ _).alloc (Nat.le_refl _) _).alloc (by simp) _⟩

theorem Own.all4 {W : World} {B : Nat} {t : TypeId} {v0 v1 v2 v3 : Value} (h : Own W B t #[v0, v1, v2, v3]) : W.cell? ⟨B, 0, none⟩ = some v0 ∧ W.cell? ⟨B, 1, none⟩ = some v1 ∧ W.cell? ⟨B, 2, none⟩ = some v2 ∧ W.cell? ⟨B, 3, none⟩ = some v3 :=
  ⟨h.cell rfl, h.cell rfl, h.cell rfl, h.cell rfl⟩

set_option maxHeartbeats 1000000 in
theorem text1_any (x : Ins) (w : World) (hx : InsOk x) : Calls Tryz.prog 143 #[.agg #[.int .i64 x.op, .int .i64 x.loc, .int .i64 x.reg, .int .i64 x.val]] w (RetTx w 10) := by
  have hl := hx.loc
  have hr := hx.reg
  have hv := hx.val
  have ho := hx.op
  obtain ⟨op, loc, reg, val⟩ := x
  simp only at hl hr hv ho
  clear hx
  obtain ⟨l0, l1⟩ := hl
  obtain ⟨r0, r1⟩ := hr
  obtain ⟨v0, v1⟩ := hv
  have bx := Own.new w 52 #[.int .i64 op, .int .i64 loc, .int .i64 reg, .int .i64 val]
  have hB : Below w.heap.size w (w.alloc (.cells #[.int .i64 op, .int .i64 loc, .int .i64 reg, .int .i64 val] 52)) := (Below.refl _ _).alloc (Nat.le_refl _) _
  go_enter Tryz.func143, Tryz.ntmps143
  go_wp2_with fail
  refine (letter_any 120 loc _ (by omega) (by omega) l0 (by omega)).mono ?_
  rintro e1 w1 ⟨a, rfl, ha, hb1⟩
  have bx1 := bx.under hb1
  have hB1 := hB.trans (hb1.mono hB.size)
  obtain ⟨c0, c1, c2, c3⟩ := bx1.all4
  clear hb1 hB bx
  go_wp2_with fail
  refine (letter_any 97 reg _ (by omega) (by omega) r0 (by omega)).mono ?_
  rintro e2 w2 ⟨b, rfl, hb, hb2⟩
  have bx2 := bx1.under hb2
  have hB2 := hB1.trans (hb2.mono hB1.size)
  clear c0 c1 c2 c3
  obtain ⟨c0, c1, c2, c3⟩ := bx2.all4
  clear hb2 hB1 bx1
  have hcase : op = 1 ∨ op = 2 ∨ op = 3 ∨ op = 4 ∨ op = 5 := by omega
  rcases hcase with rfl | rfl | rfl | rfl | rfl
  · go_wp2_with fail
    go_ret
    exact ⟨_, rfl, by simp only [ByteArray.size_append]; show b.size + 1 + a.size ≤ 10; omega, hB2⟩
  · go_wp2_with fail
    refine (dec_any val _ v0 (by omega)).mono ?_
    rintro e3 w3 ⟨rfl, hb3⟩
    have hd := decS_size val
    go_wp2_with fail
    go_ret
    exact ⟨_, rfl, by simp only [ByteArray.size_append]; show a.size + 1 + (decS val).size ≤ 10; omega, hB2.trans (hb3.mono hB2.size)⟩
  · go_wp2_with fail
    go_ret
    exact ⟨_, rfl, by simp only [ByteArray.size_append]; show a.size + 1 + b.size ≤ 10; omega, hB2⟩
  · go_wp2_with fail
    go_ret
    exact ⟨_, rfl, by decide, hB2⟩
  · go_wp2_with fail
    refine (dec_any val _ v0 (by omega)).mono ?_
    rintro e3 w3 ⟨rfl, hb3⟩
    have hd := decS_size val
    go_wp2_with fail
    go_ret
    exact ⟨_, rfl, by simp only [ByteArray.size_append]; show b.size + 1 + a.size + 1 + (decS val).size ≤ 10; omega, hB2.trans (hb3.mono hB2.size)⟩

set_option maxHeartbeats 2000000 in
theorem textD_any (p : Prg) (hp : ShapeOk p) (w : World) (v : Value) (hr : PrgS w v p) : Calls Tryz.prog 115 #[v] w (RetTx w 1000) := by
  obtain ⟨A, c, rfl, hlen⟩ := hr.slice
  have hl3 := hp.1
  go_enter Tryz.func115, Tryz.ntmps115
  go_wp2_with fail
  go_loopg [3, 4] p.length (fun g s3 s4 wr => ∃ (i : Nat) (s : ByteArray), i ≤ p.length ∧ g = p.length - i ∧ s4 = .int .i64 i ∧ s3 = .string s ∧ s.size ≤ 100 * i ∧ Below w.heap.size w wr)
  case atStart => exact ⟨0, _, Nat.zero_le _, rfl, rfl, rfl, by decide, Below.refl _ _⟩
  case round =>
    obtain ⟨wo, rfl⟩ : ∃ wo : World, wo = wr := ⟨_, rfl⟩
    obtain ⟨i, s, hi, rfl, rfl, rfl, hs, hb⟩ := hrel
    by_cases hlt : i < p.length
    · obtain ⟨bb, o, A1, c1, rfl, hbl, k0, hlm, hx⟩ := SlR.getSub (PrgS.le hr (Le.below hb)) hlt
      have hmem := List.getElem_mem hlt
      have h7 := (hp.2.1 _ hmem).1
      have Hok : Hid (∀ x ∈ p[i], InsOk x) := (hp.2.1 _ hmem).2
      generalize htt : p[i] = t at hx hlm k0 h7 Hok
      clear hr htt hmem hp
      by_cases h0 : 0 < i
      all_goals
        go_wp2_with fail
        go_loopg [3, 5] t.length (fun g s3 s5 wr => ∃ (k : Nat) (s' : ByteArray), k ≤ t.length ∧ g = t.length - k ∧ s5 = .int .i64 k ∧ s3 = .string s' ∧ s'.size ≤ 100 * i + 1 + 12 * k ∧ Below wo.heap.size wo wr)
        case atStart => exact ⟨0, _, Nat.zero_le _, rfl, rfl, rfl, by first | (rw [ByteArray.size_append]; show s.size + 1 ≤ _; omega) | omega, Below.refl _ _⟩
        case round =>
          obtain ⟨k, s', hk, rfl, rfl, rfl, hs', hbk⟩ := hrel
          have k1 := Le.below hbk _ _ k0
          by_cases hkt : k < t.length
          · obtain ⟨b2, o2, rfl, hbl2, d0, d1, d2, d3⟩ := (InsS.le hx (Le.below hbk)).get hkt
            have hmem := List.getElem_mem hkt
            have hxok := Lib.hid (Hok.out _ hmem)
            generalize hxx : t[k] = x at d0 d1 d2 d3 hxok
            clear hxx hmem k0
            by_cases hk0 : 0 < k
            all_goals
              go_wp2_with fail
              refine (text1_any x _ hxok.out).mono ?_
              rintro e5 w5 ⟨tx, rfl, htx, hb5⟩
              have hB5 := hbk.trans (hb5.mono hbk.size)
              have k5 := Le.below hb5 _ _ k1
              clear k1 d0 d1 d2 d3 hb5 hbk
              go_wp2_with fail
              go_roundg (t.length - (k + 1))
              case measure => omega
              case rel => exact ⟨k + 1, _, by omega, rfl, by go_num, rfl, by first | (simp only [ByteArray.size_append]; show s'.size + 1 + tx.size ≤ _; omega) | (simp only [ByteArray.size_append]; omega), hB5⟩
          · obtain rfl : k = t.length := by omega
            go_wp2_with fail
            go_roundg (p.length - (i + 1))
            case measure => omega
            case rel => exact ⟨i + 1, _, by omega, rfl, by go_num, rfl, by omega, hb.trans (hbk.mono hb.size)⟩
    · obtain rfl : i = p.length := by omega
      go_wp2_with fail
      go_ret
      exact ⟨_, rfl, by omega, hb⟩

end Go.Proofs.YtahegjofooahkaaGreat

/-! The walks of l1Tests and l17Cut (the pieces of a text are no longer than it), as far as draws of programs want them. -/
namespace Go.Proofs.YtahegjofooahkaaGreat
open Go.RowKit
set_option linter.unusedVariables false
set_option maxRecDepth 100000

theorem Tryz.infoStr : (Tryz.prog.info? 9).map (fun i => (i.zero, i.size, i.bytes)) = some (some (.string ⟨#[]⟩), 1, 16) := by kernel_rfl
def QStr (cs : Nat → Value) (s : ByteArray) : Prop := cs 0 = .string s
theorem qstr_congr : ∀ (f g : Nat → Value) (x : ByteArray), (∀ j, j < 1 → f j = g j) → QStr f x → QStr g x := fun f g x h hq => (h 0 (by omega)).symm.trans hq

def RetCutX (w : World) (s : ByteArray) (e : Ending) (w' : World) : Prop := ∃ (ss : List ByteArray) (A : Option Addr) (c : Nat), e = .returned (.slice A ss.length c) ∧ ss.length ≤ s.size + 2 ∧ (∀ y ∈ ss, y.size ≤ s.size) ∧ Strs (above w.heap.size w') A c ss ∧ Below w.heap.size w w'
theorem ext_le (s : ByteArray) (i j : Nat) : (s.extract i j).size ≤ s.size := by rw [ByteArray.size_extract]; omega
theorem cutx_more {s : ByteArray} {P : List ByteArray} (f i : Nat) (h : ∀ y ∈ P, y.size ≤ s.size) : ∀ y ∈ P ++ [s.extract f i], y.size ≤ s.size := fun y hy => by
  rcases List.mem_append.1 hy with hy | hy
  · exact h y hy
  · rw [List.mem_singleton.1 hy]; exact ext_le s f i

set_option maxHeartbeats 2000000 in
theorem cutx_any (s : ByteArray) (c : UInt8) (w : World) (hs : s.size ≤ 2000000) : Calls Tryz.prog 113 #[.string s, .int .u8 c.toNat] w (RetCutX w s) := by
  obtain ⟨i0, hi0, hz0, hz1, hz2⟩ := info_parts Tryz.infoStr
  go_enter Tryz.func113, Tryz.ntmps113
  go_wp2_with fail
  go_loopg [5, 6, 7] (s.size + 2) (fun g s5 s6 s7 wr => ∃ (i f : Nat) (P : List ByteArray) (v : Value), i ≤ s.size + 1 ∧ f ≤ i ∧ g = s.size + 2 - i ∧ v = s5 ∧ s6 = .int .i64 f ∧ s7 = .int .i64 i ∧ P.length ≤ i ∧ RowOf 1 QStr wr w.heap.size 9 v P ∧ Hid (∀ y ∈ P, y.size ≤ s.size) ∧ Below w.heap.size w wr)
  case atStart => exact ⟨0, 0, [], _, by omega, by omega, rfl, rfl, rfl, rfl, by simp, RowOf.made _ (Own.new _ _ _) (Nat.le_refl _), (fun y hy => by cases hy), (Below.refl _ _).alloc (Nat.le_refl _) _⟩
  case round =>
    obtain ⟨i, f, P, v, hi, hf, rfl, rfl, rfl, rfl, hP, hrow, hat, hb⟩ := hrel
    by_cases hle : i ≤ s.size
    · have bl : decide ((i : Int) ≤ (s.size : Int)) = true := by rw [decide_eq_true_iff]; omega
      obtain ⟨cs, hown, hq⟩ := hrow
      have hsb := hb.size
      have Hq := Lib.hid hq
      have Hown := Lib.hid hown
      clear hown hq
      by_cases hlt : i < s.size
      · have bne : ((i : Int) == (s.size : Int)) = false := by rw [beq_eq_false_iff_ne]; omega
        by_cases hc : s[i] = c
        · have hcb : ((s[i].toNat : Int) == (c.toNat : Int)) = true := by rw [hc]; simp
          have Hat := Lib.hid (cutx_more f i hat.out)
          clear hc hat
          go_wp2_with (at_builtin; refine wpList_append_lies _ (by rfl) _ _ _ (by rfl) w.heap.size 9 i0 _ 1 16 Tryz.underlying99 hi0 hz0 hz1 hz2 rfl (by omega) v P.length cs (by rfl) (owns_alloc Hown.out _) ⟨wr.heap.size, 0, none⟩ 1 1 [.string (s.extract f i)] (by rfl) (by rfl) (World.news_of_block (cs := #[.string (s.extract f i)]) (t := 9) (fr := (0, 0)) (heap_alloc_new wr _)) (by simp [Value.oneCell']) (by omega) (by simp [maxLen]; omega) (by omega) (by simp; omega) (wr.heap.size + 1) (by simp) ?_; intro gg cap w1 hown1 hgrow hat1 hlt1)
          go_roundg (s.size + 2 - (i + 1))
          case measure => omega
          case rel =>
            exact ⟨i + 1, i + 1, P ++ [s.extract f i], _, by omega, by omega, rfl, rfl, by go_num, by go_num, by simp; omega, RowOf.snoc (news := [.string (s.extract f i)]) qstr_congr Hown.out Hq.out rfl rfl hown1, Hat.out, below_grown (hb.alloc hsb _) hgrow (Nat.le_refl _) (fun g hg => owns_base' Hown.out hg)⟩
        · have hcb : ((s[i].toNat : Int) == (c.toNat : Int)) = false := by
            rw [beq_eq_false_iff_ne]
            intro e
            exact hc (UInt8.toNat_inj.1 (by omega))
          have Hat := hat
          clear hc
          go_wp2_with fail
          go_roundg (s.size + 2 - (i + 1))
          case measure => omega
          case rel => exact ⟨i + 1, f, P, v, by omega, by omega, rfl, rfl, rfl, by go_num, by omega, ⟨cs, Hown.out, Hq.out⟩, Hat.out, hb⟩
      · obtain rfl : i = s.size := by omega
        have bne : ((s.size : Int) == (s.size : Int)) = true := by simp
        have Hat := Lib.hid (cutx_more f s.size hat.out)
        clear hat
        go_wp2_with (at_builtin; refine wpList_append_lies _ (by rfl) _ _ _ (by rfl) w.heap.size 9 i0 _ 1 16 Tryz.underlying99 hi0 hz0 hz1 hz2 rfl (by omega) v P.length cs (by rfl) (owns_alloc Hown.out _) ⟨wr.heap.size, 0, none⟩ 1 1 [.string (s.extract f s.size)] (by rfl) (by rfl) (World.news_of_block (cs := #[.string (s.extract f s.size)]) (t := 9) (fr := (0, 0)) (heap_alloc_new wr _)) (by simp [Value.oneCell']) (by omega) (by simp [maxLen]; omega) (by omega) (by simp; omega) (wr.heap.size + 1) (by simp) ?_; intro gg cap w1 hown1 hgrow hat1 hlt1)
        go_roundg (s.size + 2 - (s.size + 1))
        case measure => omega
        case rel =>
          exact ⟨s.size + 1, s.size + 1, P ++ [s.extract f s.size], _, by omega, by omega, rfl, rfl, by go_num, by go_num, by simp; omega, RowOf.snoc (news := [.string (s.extract f s.size)]) qstr_congr Hown.out Hq.out rfl rfl hown1, Hat.out, below_grown (hb.alloc hsb _) hgrow (Nat.le_refl _) (fun g hg => owns_base' Hown.out hg)⟩
    · have bl : decide ((i : Int) ≤ (s.size : Int)) = false := by rw [decide_eq_false_iff_not]; omega
      have hsl := hrow.slR (k := 1) (R := RStr) (by omega) (a := above w.heap.size wr) (fun cs x h => h) (Le.refl _)
      obtain ⟨A9, c9, rfl, _⟩ := hsl.slice
      have Hsl := Lib.hid hsl
      have Hat := hat
      clear hsl hrow
      go_wp2_with fail
      go_ret
      exact ⟨P, A9, c9, rfl, by omega, Hat.out, Hsl.out, hb⟩


/-- The texts that the reference draws programs from. -/
def tests : List ByteArray := [⟨#[120, 61, 49, 59, 97, 61, 121, 124, 121, 61, 49, 59, 97, 61, 120]⟩, ⟨#[120, 61, 49, 59, 102, 101, 110, 99, 101, 59, 97, 61, 121, 124, 121, 61, 49, 59, 102, 101, 110, 99, 101, 59, 97, 61, 120]⟩, ⟨#[120, 61, 49, 59, 121, 61, 49, 124, 97, 61, 121, 59, 98, 61, 120]⟩, ⟨#[120, 61, 49, 59, 121, 61, 49, 124, 97, 61, 121, 59, 102, 101, 110, 99, 101, 59, 98, 61, 120]⟩, ⟨#[120, 61, 49, 59, 102, 101, 110, 99, 101, 59, 121, 61, 49, 124, 97, 61, 121, 59, 98, 61, 120]⟩, ⟨#[97, 61, 120, 59, 121, 61, 49, 124, 97, 61, 121, 59, 120, 61, 49]⟩, ⟨#[97, 61, 120, 59, 121, 61, 97, 124, 97, 61, 121, 59, 120, 61, 97]⟩, ⟨#[120, 61, 49, 124, 120, 61, 50, 124, 97, 61, 120, 59, 98, 61, 120]⟩, ⟨#[120, 61, 49, 124, 121, 61, 49, 124, 97, 61, 120, 59, 98, 61, 121, 124, 97, 61, 121, 59, 98, 61, 120]⟩, ⟨#[120, 61, 49, 124, 97, 61, 120, 59, 121, 61, 49, 124, 97, 61, 121, 59, 98, 61, 120]⟩, ⟨#[120, 61, 49, 124, 121, 61, 49, 124, 97, 61, 120, 59, 98, 61, 121]⟩, ⟨#[97, 61, 120, 58, 49, 124, 97, 61, 120, 58, 50, 124, 120, 61, 51]⟩, ⟨#[120, 61, 49, 59, 97, 61, 120, 59, 98, 61, 121, 124, 121, 61, 49, 59, 97, 61, 121, 59, 98, 61, 120]⟩, ⟨#[120, 61, 50, 59, 121, 61, 49, 124, 121, 61, 50, 59, 120, 61, 49]⟩, ⟨#[97, 61, 120, 58, 49, 59, 98, 61, 121, 124, 97, 61, 121, 58, 49, 59, 98, 61, 120]⟩, ⟨#[120, 61, 49, 59, 120, 61, 50, 124, 97, 61, 120, 59, 98, 61, 120]⟩, ⟨#[120, 61, 49, 59, 121, 61, 49, 59, 97, 61, 122, 124, 122, 61, 49, 59, 97, 61, 121, 59, 98, 61, 120]⟩, ⟨#[97, 61, 120, 58, 49, 124, 98, 61, 120, 58, 49]⟩, ⟨#[102, 101, 110, 99, 101]⟩, ⟨#[]⟩, ⟨#[120, 61, 49, 59, 97, 61, 121, 124, 121, 61, 49, 59, 102, 101, 110, 99, 101, 59, 97, 61, 120]⟩]
theorem tests_small : ∀ y ∈ tests, y.size ≤ 100 := by
  unfold tests
  simp only [List.forall_mem_cons, List.not_mem_nil, false_implies, implies_true, and_true]
  decide

set_option maxHeartbeats 400000 in
theorem tests_any (w : World) : Calls Tryz.prog 83 #[] w (RetStrs w tests) := by
  go_enter Tryz.func83, Tryz.ntmps83
  go_wp2_with fail
  go_ret
  refine ⟨_, _, rfl, Strs.mk (by simp [tests]) fun i hi => cell_above_of (Nat.le_refl _) ?_, (Below.refl _ _).alloc (Nat.le_refl _) _⟩
  rw [Nat.zero_add]
  simp only [World.cell?_alloc_new]
  match i, hi with
  | 0, _ => rfl
  | 1, _ => rfl
  | 2, _ => rfl
  | 3, _ => rfl
  | 4, _ => rfl
  | 5, _ => rfl
  | 6, _ => rfl
  | 7, _ => rfl
  | 8, _ => rfl
  | 9, _ => rfl
  | 10, _ => rfl
  | 11, _ => rfl
  | 12, _ => rfl
  | 13, _ => rfl
  | 14, _ => rfl
  | 15, _ => rfl
  | 16, _ => rfl
  | 17, _ => rfl
  | 18, _ => rfl
  | 19, _ => rfl
  | 20, _ => rfl
  | n + 21, h => exact absurd (show n + 21 < 21 from h) (by omega)

end Go.Proofs.YtahegjofooahkaaGreat
