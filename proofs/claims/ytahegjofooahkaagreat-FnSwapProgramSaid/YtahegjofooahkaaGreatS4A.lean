/-
  The reference's states with buffers: l4Buffers, l4Place, l4Empty, l4Seen, l4Done, l4Start. The reference's states with buffers: l4Done, l4Start, l4Can.
-/
import Derived.Test.YtahegjofooahkaaGreatS3X
import Derived.Test.YtahegjofooahkaaGreatBufA

/-! The reference's states with buffers: l4Buffers, l4Place, l4Empty, l4Seen, l4Done, l4Start. -/
namespace Go.Proofs.YtahegjofooahkaaGreat
open Go.RowKit
set_option linter.unusedVariables false
set_option maxRecDepth 100000

/-- A state with buffers, as the reference has it. -/
def s3B (b : BSt) : S3 := ⟨b.s.pc.map (fun n => ((n : Nat) : Int)), b.s.regs, b.s.mem, b.bufs.map flatW⟩
theorem s3B_len (b : BSt) : (s3B b).buf.length = b.bufs.length := by simp [s3B]
theorem s3B_buf {b : BSt} {k : Nat} (h : k < b.bufs.length) (h' : k < (s3B b).buf.length) : (s3B b).buf[k] = flatW (bufB b k) := by
  simp only [s3B, List.getElem_map]
  unfold bufB
  rw [List.getD_eq_getElem?_getD, List.getElem?_eq_getElem h]
  rfl
theorem s3B_at (b : BSt) (t : Nat) : (s3B b).at_.getD t 0 = ((pcS b.s t : Nat) : Int) := by
  unfold s3B pcS
  simp only [List.getD_eq_getElem?_getD, List.getElem?_map]
  cases b.s.pc[t]? <;> rfl
theorem flat_len : ∀ bf : List (Int × Int), (flatW bf).length = 2 * bf.length
  | [] => rfl
  | w :: bf => by
    have := flat_len bf
    unfold flatW at this ⊢
    simp only [List.flatMap_cons, List.length_append, List.length_cons, List.length_nil]
    omega
theorem flat_get : ∀ (bf : List (Int × Int)) (i : Nat) (h : i < bf.length), (flatW bf)[2 * i]? = some bf[i].1 ∧ (flatW bf)[2 * i + 1]? = some bf[i].2
  | w :: bf, 0, h => ⟨rfl, rfl⟩
  | w :: bf, i + 1, h => by
    have h1 := flat_get bf i (by simpa using h)
    rw [show 2 * (i + 1) = 2 * i + 1 + 1 by omega, show 2 * i + 1 + 1 + 1 = (2 * i + 1) + 1 + 1 by omega]
    exact h1
theorem flat_nil {bf : List (Int × Int)} : flatW bf = [] ↔ bf = [] := by
  rw [← List.length_eq_zero_iff, ← List.length_eq_zero_iff, flat_len]
  omega
theorem s4_lens {p : Prg} {sp : Bool} (hp : PrgOk p) {b : BSt} (hb : BOk p sp b) : (s3B b).at_.length = p.length ∧ (s3B b).regs.length = p.length * 3 ∧ (s3B b).mem.length = 3 ∧ (s3B b).buf.length ≤ 9 ∧ ∀ xs ∈ (s3B b).buf, xs.length ≤ 14 := by
  refine ⟨by show (b.s.pc.map _).length = _; rw [List.length_map]; exact hb.ok.pcl, hb.ok.regl, hb.ok.meml, by rw [s3B_len, hb.len]; exact nBf_le hp sp, fun xs hx => ?_⟩
  obtain ⟨bf, h1, rfl⟩ := List.mem_map.1 hx
  have := bufs_sum hp hb bf h1
  rw [flat_len]
  omega
def nB (sp : Bool) : Nat := if sp = true then 3 else 1

theorem l4Buf_any (sp : Bool) (W : World) : Calls Tryz.prog 99 #[.bool sp] W (fun e w' => e = .returned (.int .i64 ((nB sp : Nat) : Int)) ∧ Below W.heap.size W w') := by
  go_enter Tryz.func99, Tryz.ntmps99
  cases sp
  · go_wp2_with fail
    go_ret
    exact ⟨rfl, Below.refl _ _⟩
  · go_wp2_with fail
    go_ret
    exact ⟨rfl, Below.refl _ _⟩
theorem l4Place_any (sp : Bool) (t l : Nat) (ht : t < 100) (hl : l < 3) (W : World) : Calls Tryz.prog 122 #[.int .i64 t, .int .i64 l, .bool sp] W (fun e w' => e = .returned (.int .i64 ((plB sp t l : Nat) : Int)) ∧ Below W.heap.size W w') := by
  go_enter Tryz.func122, Tryz.ntmps122
  cases sp
  · go_wp2_with fail
    go_ret
    exact ⟨by rw [show plB false t l = t from if_neg (by decide)]; rfl, Below.refl _ _⟩
  · go_wp2_with fail
    go_ret
    refine ⟨?_, Below.refl _ _⟩
    rw [show plB true t l = 3 * t + l from if_pos rfl]
    go_num

theorem pl_nB {sp : Bool} {t l : Nat} (hl : l < 3) : ∃ i, i < nB sp ∧ plB sp t l = t * nB sp + i := by
  cases sp
  · exact ⟨0, by decide, by rw [show plB false t l = t from if_neg (by decide)]; show t = t * 1 + 0; omega⟩
  · exact ⟨l, hl, by rw [show plB true t l = 3 * t + l from if_pos rfl]; show 3 * t + l = t * 3 + l; omega⟩
theorem nB_pl {sp : Bool} {t i : Nat} (hi : i < nB sp) : ∃ l, l < 3 ∧ plB sp t l = t * nB sp + i := by
  cases sp
  · have hi : i < 1 := hi
    exact ⟨0, by decide, by rw [show plB false t 0 = t from if_neg (by decide)]; show t = t * 1 + i; omega⟩
  · exact ⟨i, hi, by rw [show plB true t i = 3 * t + i from if_pos rfl]; show 3 * t + i = t * 3 + i; omega⟩

set_option maxHeartbeats 1500000 in
theorem l4Empty_any (p : Prg) (hp : PrgOk p) (sp : Bool) (b : BSt) (hb : BOk p sp b) (t : Nat) (ht : t < p.length) (W : World) (A1 A2 A3 A4 : Option Addr) (c1 c2 c3 c4 : Nat) (hr : Rep4 W A1 A2 A3 A4 c1 c2 c3 c4 (s3B b)) :
    Calls Tryz.prog 117 #[.agg #[.slice A1 (s3B b).at_.length c1, .slice A2 (s3B b).regs.length c2, .slice A3 (s3B b).mem.length c3, .slice A4 (s3B b).buf.length c4], .int .i64 t, .bool sp] W (RetB W (empB sp b t)) := by
  have h3 := hp.1.1
  have hb9 := (s4_lens hp hb).2.2.2.1
  obtain ⟨n1, hn1⟩ : ∃ n, n = (s3B b).at_.length := ⟨_, rfl⟩
  obtain ⟨n2, hn2⟩ : ∃ n, n = (s3B b).regs.length := ⟨_, rfl⟩
  obtain ⟨n3, hn3⟩ : ∃ n, n = (s3B b).mem.length := ⟨_, rfl⟩
  obtain ⟨n4, hn4⟩ : ∃ n, n = (s3B b).buf.length := ⟨_, rfl⟩
  rw [← hn1, ← hn2, ← hn3, ← hn4]
  obtain ⟨V, hV⟩ : ∃ V, V = W.alloc (.cells #[.slice A1 n1 c1, .slice A2 n2 c2, .slice A3 n3 c3, .slice A4 n4 c4] 70) := ⟨_, rfl⟩
  have hB : Below W.heap.size W V := by rw [hV]; exact (Below.refl _ _).alloc (Nat.le_refl _) _
  have oV : Own V W.heap.size 70 #[.slice A1 n1 c1, .slice A2 n2 c2, .slice A3 n3 c3, .slice A4 n4 c4] := by rw [hV]; exact Own.new _ _ _
  have q3 := oV.cell (i := 3) rfl
  have R4 := Lib.hid (hr.buf.le (Le.below hB))
  have hcl := l4Buf_any sp V
  obtain ⟨n, hn⟩ : ∃ n, n = nB sp := ⟨_, rfl⟩
  have hn13 : n ≤ 3 := by rw [hn]; unfold nB; split <;> omega
  have hnt : (t + 1) * n ≤ b.bufs.length := by
    rw [hb.len, hn]
    unfold nB nBf
    cases sp
    · rw [if_neg (by decide), if_neg (by decide)]; omega
    · rw [if_pos rfl, if_pos rfl]; omega
  rw [← hn] at hcl
  have HT : Hid ((∀ i, i < n → bufB b (t * n + i) = []) → empB sp b t = true) := fun h => buf_emp fun l hl => by
    obtain ⟨i, h1, h2⟩ := pl_nB (sp := sp) (t := t) hl
    rw [h2, ← hn]
    exact h i (by rw [hn]; exact h1)
  have HF : Hid (∀ i, i < n → bufB b (t * n + i) ≠ [] → empB sp b t = false) := fun i hi h => by
    obtain ⟨l, h1, h2⟩ := nB_pl (sp := sp) (t := t) (i := i) (by rw [← hn]; exact hi)
    cases he : empB sp b t with
    | false => rfl
    | true => exact absurd (emp_buf he h1) (by rw [h2, ← hn]; exact h)
  have Hn4 : Hid (n4 = b.bufs.length) := by show _ = _; rw [hn4, s3B_len]
  have Hbl : Hid (∀ k (h : k < b.bufs.length) (h' : k < (s3B b).buf.length), (s3B b).buf[k] = flatW (bufB b k)) := fun k h h' => s3B_buf h h'
  have hnt' : (t + 1) * n ≤ n4 := by rw [Hn4.out]; exact hnt
  have hb9' : n4 ≤ 9 := by rw [hn4]; exact hb9
  rw [Nat.add_mul, Nat.one_mul] at hnt'
  clear hr hn1 hn2 hn3 hn4 hn hnt oV hb9
  obtain ⟨m, hm⟩ : ∃ m, m = t * n := ⟨_, rfl⟩
  rw [← hm] at HT HF hnt'
  have hmul : (t : Int) * (n : Int) = (m : Int) := by rw [hm]; simp
  clear hm
  go_enter Tryz.func117, Tryz.ntmps117
  go_upto_region 1 with (fail)
  rw [← hV]
  clear hV
  go_wp2_with fail
  refine hcl.mono ?_
  rintro e1 w1 ⟨rfl, hb1⟩
  clear hcl
  go_wp2_with fail
  go_loopg [8] n (fun g s8 wr => ∃ i : Nat, i ≤ n ∧ g = n - i ∧ s8 = .int .i64 i ∧ Hid (∀ j, j < i → bufB b (m + j) = []) ∧ Below V.heap.size V wr)
  case atStart => exact ⟨0, Nat.zero_le _, rfl, rfl, fun j h => absurd h (Nat.not_lt_zero _), hb1⟩
  case round =>
    obtain ⟨wo, rfl⟩ : ∃ wo : World, wo = wr := ⟨_, rfl⟩
    clear hb1
    obtain ⟨i, hi, rfl, rfl, hall, hb1⟩ := hrel
    by_cases hlt : i < n
    · have hk : m + i < (s3B b).buf.length := by rw [s3B_len, ← Hn4.out]; omega
      obtain ⟨bb, oo, Aj, cj, e4, hbb, hc0, -⟩ := R4.out.get hk
      subst e4
      rw [Hbl.out (m + i) (by rw [← Hn4.out]; omega) hk, flat_len] at hc0
      have hc0 := Le.below hb1 _ _ hc0
      have p3 := Le.below hb1 _ _ q3
      have Hb : Hid (bufB b (m + i) ≠ [] → empB sp b t = false) := HF.out i hlt
      have Hnext : Hid (bufB b (m + i) = [] → ∀ j, j < i + 1 → bufB b (m + j) = []) := fun h j hj => by
        rcases Nat.lt_succ_iff_lt_or_eq.1 hj with h' | h'
        · exact hall.out j h'
        · rw [h']; exact h
      have hki : ((m + i : Nat) : Int) < (n4 : Int) := by omega
      have hcast : (m : Int) + (i : Int) = ((m + i : Nat) : Int) := by omega
      have hi3 : ((i : Int) < (n : Int)) := by omega
      obtain ⟨k, hkk⟩ : ∃ k, k = m + i := ⟨_, rfl⟩
      rw [← hkk] at hc0 Hb Hnext hki hcast
      have hc0' : wo.cell? ⟨bb, oo + k, none⟩ = some (.slice Aj (2 * (bufB b k).length) cj) := by rw [hkk]; rw [hkk] at hc0; exact hc0
      have Hlen : Hid ((bufB b k).length = 0 → bufB b k = []) := List.length_eq_zero_iff.1
      have Hlen' : Hid (0 < (bufB b k).length → bufB b k ≠ []) := fun h e => by rw [e] at h; exact Nat.lt_irrefl 0 h
      generalize (bufB b k).length = q at hc0' Hlen Hlen'
      clear hc0 hkk hk
      by_cases hq : 0 < q
      · have hd : decide ((0 : Int) < ((2 * q : Nat) : Int)) = true := by rw [decide_eq_true_iff]; omega
        have Hr : Hid (empB sp b t = false) := Hb.out (Hlen'.out hq)
        go_wp2_with fail
        go_ret
        exact ⟨by rw [Hr.out]; rfl, hB.trans (hb1.mono hB.size)⟩
      · have hd : decide ((0 : Int) < ((2 * q : Nat) : Int)) = false := by rw [decide_eq_false_iff_not]; omega
        have Hall : Hid (∀ j, j < i + 1 → bufB b (m + j) = []) := Hnext.out (Hlen.out (by omega))
        go_wp2_with fail
        go_roundg (n - (i + 1))
        case measure => omega
        case rel => exact ⟨i + 1, by omega, rfl, by go_num, Hall.out, hb1⟩
    · obtain rfl : i = n := by omega
      have Hd : Hid (empB sp b t = true) := HT.out hall.out
      clear hall
      go_wp2_with fail
      go_ret
      exact ⟨by rw [Hd.out]; rfl, hB.trans (hb1.mono hB.size)⟩

theorem seen_take {bf : List (Int × Int)} {l m : Int} {j : Nat} (hj : j < bf.length) : seenB (bf.take (j + 1)) l m = if bf[j].1 = l then bf[j].2 else seenB (bf.take j) l m := by
  rw [List.take_succ_eq_append_getElem hj, seen_snoc]

set_option maxHeartbeats 1500000 in
theorem l4Seen_any (p : Prg) (hp : PrgOk p) (sp : Bool) (b : BSt) (hb : BOk p sp b) (t l : Nat) (ht : t < p.length) (hl : l < 3) (W : World) (A1 A2 A3 A4 : Option Addr) (c1 c2 c3 c4 : Nat) (hr : Rep4 W A1 A2 A3 A4 c1 c2 c3 c4 (s3B b)) :
    Calls Tryz.prog 120 #[.agg #[.slice A1 (s3B b).at_.length c1, .slice A2 (s3B b).regs.length c2, .slice A3 (s3B b).mem.length c3, .slice A4 (s3B b).buf.length c4], .int .i64 t, .int .i64 l, .bool sp] W (fun e W' => e = .returned (.int .i64 (seenB (bufB b (plB sp t l)) (l : Int) (b.s.mem.getD l 0))) ∧ Below W.heap.size W W') := by
  have h3 := hp.1.1
  obtain ⟨n1, hn1⟩ : ∃ n, n = (s3B b).at_.length := ⟨_, rfl⟩
  obtain ⟨n2, hn2⟩ : ∃ n, n = (s3B b).regs.length := ⟨_, rfl⟩
  obtain ⟨n4, hn4⟩ : ∃ n, n = (s3B b).buf.length := ⟨_, rfl⟩
  have hn3 : (s3B b).mem.length = 3 := (s4_lens hp hb).2.2.1
  have hk : plB sp t l < (s3B b).buf.length := by rw [s3B_len, hb.len]; exact pl_lt ht hl
  have hkb : plB sp t l < b.bufs.length := by rw [hb.len]; exact pl_lt ht hl
  rw [← hn1, ← hn2, hn3, ← hn4]
  obtain ⟨V, hV⟩ : ∃ V, V = W.alloc (.cells #[.slice A1 n1 c1, .slice A2 n2 c2, .slice A3 3 c3, .slice A4 n4 c4] 70) := ⟨_, rfl⟩
  have hB : Below W.heap.size W V := by rw [hV]; exact (Below.refl _ _).alloc (Nat.le_refl _) _
  have oV : Own V W.heap.size 70 #[.slice A1 n1 c1, .slice A2 n2 c2, .slice A3 3 c3, .slice A4 n4 c4] := by rw [hV]; exact Own.new _ _ _
  have q2 := oV.cell (i := 2) rfl
  have q3 := oV.cell (i := 3) rfl
  have hWV := oV.lt
  obtain ⟨bb, oo, Aj, cj, e4, hbb, hc0, hrow⟩ := (hr.buf.le (Le.below hB)).get hk
  subst e4
  obtain ⟨bm, om, e3, hbm, hm0⟩ := (hr.mem.le (Le.below hB)).get (i := l) (by rw [hn3]; exact hl)
  subst e3
  rw [s3B_buf hkb hk] at hc0 hrow
  rw [flat_len] at hc0
  have hmv : (s3B b).mem[l]'(by rw [hn3]; exact hl) = b.s.mem.getD l 0 := by
    show b.s.mem[l]'_ = _
    rw [List.getD_eq_getElem?_getD, List.getElem?_eq_getElem (by rw [hb.ok.meml]; exact hl)]
    rfl
  rw [hmv] at hm0
  have hki : ((plB sp t l : Nat) : Int) < (n4 : Int) := by omega
  have Hc : Hid (∀ U, Below V.heap.size V U → Calls Tryz.prog 122 #[.int .i64 t, .int .i64 l, .bool sp] U (fun e U' => e = .returned (.int .i64 ((plB sp t l : Nat) : Int)) ∧ Below U.heap.size U U')) := fun U hU => l4Place_any sp t l (by omega) hl U
  generalize plB sp t l = k at hc0 hrow hki Hc
  generalize b.s.mem.getD l 0 = mv at hm0
  have hbf7 : (bufB b k).length ≤ 7 := hb.short7 hp k
  generalize hbf : bufB b k = bf at hc0 hrow hbf7
  have Hrow := Lib.hid hrow
  obtain ⟨N, hN⟩ : ∃ N, N = 2 * bf.length := ⟨_, rfl⟩
  rw [← hN] at hc0
  have hN14 : N ≤ 14 := by omega
  have HN := Lib.hid hN
  have hli : (l : Int) < 3 := by omega
  clear hr hn1 hn2 hn4 hn3 hk hkb oV hrow hmv hbf hN
  have f0 := fun n : Ext V => n.le _ _ q3
  have f1 := fun n : Ext V => n.le _ _ hc0
  go_enter Tryz.func120, Tryz.ntmps120
  go_upto_region 1 with (fail)
  rw [← hV]
  clear hV
  refine wp_region_ext _ (by kernel_rfl) (by kernel_rfl) (Below.refl _ _) ?_
  repeat (go_big_quiet_step ((go_at_call 122; with_reducible exact Ext.call _ Hc.out)))
  refine wpQuiet_nil ?_
  rintro wn ⟨⟨_, hbn⟩, rfl⟩
  clear f0 f1
  have q2n := Le.below hbn _ _ q2
  have m0n := Le.below hbn _ _ hm0
  have Hrown : Hid (Ints wn Aj cj (flatW bf)) := Hrow.out.le (Le.below hbn)
  have hBn := hB.trans (hbn.mono hB.size)
  have hsn := hbn.size
  clear q2 q3 hm0 hc0 Hrow
  go_wp2_with fail
  go_loopg [10] bf.length (fun g s10 wr => ∃ j : Nat, j ≤ bf.length ∧ g = 0 + j ∧ ((j = 0 ∧ s10 = .int .i64 (-2)) ∨ ∃ q : Nat, q + 2 = 2 * j ∧ s10 = .int .i64 (q : Int)) ∧ Hid (seenB bf (l : Int) mv = seenB (bf.take j) (l : Int) mv) ∧ wn = wr)
  case atStart =>
    refine ⟨bf.length, Nat.le_refl _, (Nat.zero_add _).symm, ?_, by show _ = _; rw [List.take_length], rfl⟩
    rcases Nat.eq_zero_or_pos bf.length with h0 | h0
    · left
      refine ⟨h0, ?_⟩
      have : N = 0 := by rw [HN.out, h0]
      rw [this]
      rfl
    · right
      refine ⟨N - 2, by have := HN.out; omega, congrArg (Value.int .i64) ?_⟩
      have := HN.out
      omega
  case round =>
    obtain ⟨j, hj, rfl, hs, hseen, rfl⟩ := hrel
    rcases hs with ⟨rfl, rfl⟩ | ⟨q, hq, rfl⟩
    · have Hv : Hid (seenB bf (l : Int) mv = mv) := by show _ = _; rw [hseen.out]; rfl
      clear hseen
      go_wp2_with fail
      go_ret
      exact ⟨by rw [Hv.out]; rfl, hBn⟩
    · obtain ⟨j', rfl⟩ : ∃ j', j = j' + 1 := ⟨j - 1, by omega⟩
      have hq2 : q = 2 * j' := by omega
      have hjl : j' < bf.length := by omega
      have Hst := Lib.hid (seen_take (l := (l : Int)) (m := mv) hjl)
      have hg := flat_get bf j' hjl
      rw [← hq2] at hg
      have hql : q + 1 < (flatW bf).length := by rw [flat_len]; omega
      obtain ⟨b1, o1, e1, hb1, hcq⟩ := Hrown.out.get (i := q) (by omega)
      subst e1
      obtain ⟨b1', o1', e1, _, hcq1⟩ := Hrown.out.get (i := q + 1) hql
      injection e1 with e1
      injection e1 with e1 e2
      subst e1 e2
      have g1 : (flatW bf)[q] = bf[j'].1 := by have h := hg.1; rw [List.getElem?_eq_getElem (by omega)] at h; injection h
      have g2 : (flatW bf)[q + 1] = bf[j'].2 := by have h := hg.2; rw [List.getElem?_eq_getElem hql] at h; injection h
      rw [g1] at hcq
      rw [g2] at hcq1
      have hqN : (q : Int) + 1 < (N : Int) := by have := HN.out; omega
      have hqN0 : (q : Int) < (N : Int) := by omega
      have Hs0 := Lib.hid hseen.out
      clear hseen hg g1 g2 hql
      generalize bf[j'].1 = x1 at hcq Hst
      generalize bf[j'].2 = x2 at hcq1 Hst
      by_cases he : x1 = (l : Int)
      · have hd : (x1 == (l : Int)) = true := by rw [beq_iff_eq]; exact he
        have Hv : Hid (seenB bf (l : Int) mv = x2) := by show _ = _; rw [Hs0.out, Hst.out, if_pos he]
        clear he hq2
        go_wp2_with fail
        go_ret
        exact ⟨by rw [Hv.out]; rfl, hBn⟩
      · have hd : (x1 == (l : Int)) = false := by rw [beq_eq_false_iff_ne]; exact he
        have Hv : Hid (seenB bf (l : Int) mv = seenB (bf.take j') (l : Int) mv) := by show _ = _; rw [Hs0.out, Hst.out, if_neg he]
        have Hq2 := Lib.hid hq2
        clear he hq2 hq
        go_wp2_with fail
        go_roundg j'
        case measure => omega
        case rel =>
          refine ⟨j', by omega, (Nat.zero_add _).symm, ?_, Hv.out, rfl⟩
          rcases Nat.eq_zero_or_pos j' with h0 | h0
          · left
            refine ⟨h0, congrArg (Value.int .i64) ?_⟩
            have := Hq2.out
            omega
          · right
            refine ⟨q - 2, by have := Hq2.out; omega, congrArg (Value.int .i64) ?_⟩
            have := Hq2.out
            omega

end Go.Proofs.YtahegjofooahkaaGreat

/-! The reference's states with buffers: l4Done, l4Start, l4Can. -/
namespace Go.Proofs.YtahegjofooahkaaGreat
open Go.RowKit
set_option linter.unusedVariables false
set_option maxRecDepth 100000

theorem on3_B {p : Prg} {b : BSt} {t : Nat} : on3 p (s3B b) t = onS p b.s t := by
  unfold on3 onS
  rw [s3B_at]
  by_cases h : pcS b.s t < (thrP p t).length
  · rw [decide_eq_true h, decide_eq_true (by omega)]
  · rw [decide_eq_false h, decide_eq_false (by omega)]
theorem done3_B {p : Prg} {b : BSt} : done3 p (s3B b) = doneS p b.s := by
  unfold done3 doneS
  congr 1
  funext t
  rw [on3_B]
theorem doneB_of {p : Prg} {b : BSt} (h : ∀ k, k < b.bufs.length → bufB b k = []) : doneB p b = doneS p b.s := by
  have : b.bufs.all List.isEmpty = true := by
    rw [List.all_eq_true]
    intro x hx
    obtain ⟨k, hk, rfl⟩ := List.getElem_of_mem hx
    have := h k hk
    unfold bufB at this
    rw [List.getD_eq_getElem?_getD, List.getElem?_eq_getElem hk] at this
    exact List.isEmpty_iff.2 this
  unfold doneB
  rw [this, Bool.and_true]
theorem doneB_not {p : Prg} {b : BSt} {k : Nat} (h : bufB b k ≠ []) : doneB p b = false := by
  cases hd : doneB p b with
  | false => rfl
  | true => exact absurd (done_bufs hd k) h

set_option maxHeartbeats 1500000 in
theorem l4Done_any (p : Prg) (hp : PrgOk p) (sp : Bool) (b : BSt) (hb : BOk p sp b) (W : World) (vp : Value) (hpr : PrgS W vp p) (A1 A2 A3 A4 : Option Addr) (c1 c2 c3 c4 : Nat) (hr : Rep4 W A1 A2 A3 A4 c1 c2 c3 c4 (s3B b)) :
    Calls Tryz.prog 73 #[vp, .agg #[.slice A1 (s3B b).at_.length c1, .slice A2 (s3B b).regs.length c2, .slice A3 (s3B b).mem.length c3, .slice A4 (s3B b).buf.length c4]] W (RetB W (doneB p b)) := by
  obtain ⟨Ap, cp, rfl, hpl⟩ := SlR.slice hpr
  have hb9 := (s4_lens hp hb).2.2.2.1
  have hl1 := (s4_lens hp hb).1
  obtain ⟨n1, hn1⟩ : ∃ n, n = (s3B b).at_.length := ⟨_, rfl⟩
  obtain ⟨n2, hn2⟩ : ∃ n, n = (s3B b).regs.length := ⟨_, rfl⟩
  obtain ⟨n3, hn3⟩ : ∃ n, n = (s3B b).mem.length := ⟨_, rfl⟩
  obtain ⟨n4, hn4⟩ : ∃ n, n = (s3B b).buf.length := ⟨_, rfl⟩
  have HD : Hid (∀ U, Le W U → Calls Tryz.prog 105 #[.slice Ap p.length cp, .agg #[.slice A1 n1 c1, .slice A2 n2 c2, .slice A3 n3 c3, .slice A4 n4 c4]] U (RetB U (doneS p b.s))) := fun U hU => by
    have h := l3Done_any p (s3B b) hl1 U _ (PrgS.le hpr hU) A1 A2 A3 A4 c1 c2 c3 c4 (hr.le hU)
    rw [done3_B] at h
    rw [hn1, hn2, hn3, hn4]
    exact h
  rw [← hn1, ← hn2, ← hn3, ← hn4]
  obtain ⟨V, hV⟩ : ∃ V, V = W.alloc (.cells #[.slice A1 n1 c1, .slice A2 n2 c2, .slice A3 n3 c3, .slice A4 n4 c4] 70) := ⟨_, rfl⟩
  have hB : Below W.heap.size W V := by rw [hV]; exact (Below.refl _ _).alloc (Nat.le_refl _) _
  have oV : Own V W.heap.size 70 #[.slice A1 n1 c1, .slice A2 n2 c2, .slice A3 n3 c3, .slice A4 n4 c4] := by rw [hV]; exact Own.new _ _ _
  have q0 := oV.cell (i := 0) rfl
  have q1 := oV.cell (i := 1) rfl
  have q2 := oV.cell (i := 2) rfl
  have q3 := oV.cell (i := 3) rfl
  have R4 := Lib.hid (hr.buf.le (Le.below hB))
  have Hn4 : Hid (n4 = b.bufs.length) := by show _ = _; rw [hn4, s3B_len]
  have Hbl : Hid (∀ k (h : k < b.bufs.length) (h' : k < (s3B b).buf.length), (s3B b).buf[k] = flatW (bufB b k)) := fun k h h' => s3B_buf h h'
  have HT : Hid ((∀ i, i < n4 → bufB b i = []) → doneB p b = doneS p b.s) := fun h => doneB_of fun k hk => h k (by rw [Hn4.out]; exact hk)
  have HF : Hid (∀ i, i < n4 → bufB b i ≠ [] → doneB p b = false) := fun i hi h => doneB_not h
  have hb9' : n4 ≤ 9 := by rw [hn4]; exact hb9
  clear hr hn1 hn2 hn3 hn4 oV hb9 hpr hl1
  go_enter Tryz.func73, Tryz.ntmps73
  go_upto_region 1 with (fail)
  rw [← hV]
  clear hV
  go_wp2_with fail
  go_loopg [5] n4 (fun g s5 wr => ∃ i : Nat, i ≤ n4 ∧ g = n4 - i ∧ s5 = .int .i64 i ∧ Hid (∀ j, j < i → bufB b j = []) ∧ V = wr)
  case atStart => exact ⟨0, Nat.zero_le _, rfl, rfl, fun j h => absurd h (Nat.not_lt_zero _), rfl⟩
  case round =>
    obtain ⟨i, hi, rfl, rfl, hall, rfl⟩ := hrel
    by_cases hlt : i < n4
    · have hk : i < (s3B b).buf.length := by rw [s3B_len, ← Hn4.out]; omega
      obtain ⟨bb, oo, Aj, cj, e4, hbb, hc0, -⟩ := R4.out.get hk
      subst e4
      rw [Hbl.out i (by rw [← Hn4.out]; omega) hk, flat_len] at hc0
      have Hb : Hid (bufB b i ≠ [] → doneB p b = false) := HF.out i hlt
      have Hnext : Hid (bufB b i = [] → ∀ j, j < i + 1 → bufB b j = []) := fun h j hj => by
        rcases Nat.lt_succ_iff_lt_or_eq.1 hj with h' | h'
        · exact hall.out j h'
        · rw [h']; exact h
      have hki : (i : Int) < (n4 : Int) := by omega
      have Hlen : Hid ((bufB b i).length = 0 → bufB b i = []) := List.length_eq_zero_iff.1
      have Hlen' : Hid (0 < (bufB b i).length → bufB b i ≠ []) := fun h e => by rw [e] at h; exact Nat.lt_irrefl 0 h
      generalize (bufB b i).length = q at hc0 Hlen Hlen'
      by_cases hq : 0 < q
      · have hd : decide ((0 : Int) < ((2 * q : Nat) : Int)) = true := by rw [decide_eq_true_iff]; omega
        have Hr : Hid (doneB p b = false) := Hb.out (Hlen'.out hq)
        go_wp2_with fail
        go_ret
        exact ⟨by rw [Hr.out]; rfl, hB⟩
      · have hd : decide ((0 : Int) < ((2 * q : Nat) : Int)) = false := by rw [decide_eq_false_iff_not]; omega
        have Hall : Hid (∀ j, j < i + 1 → bufB b j = []) := Hnext.out (Hlen.out (by omega))
        go_wp2_with fail
        go_roundg (n4 - (i + 1))
        case measure => omega
        case rel => exact ⟨i + 1, by omega, rfl, by go_num, Hall.out, rfl⟩
    · obtain rfl : i = n4 := by omega
      have Hd : Hid (doneB p b = doneS p b.s) := HT.out hall.out
      have hdn := HD.out V (Le.below hB)
      clear hall
      go_wp2_with fail
      refine hdn.mono ?_
      rintro e5 w5 ⟨rfl, hb5⟩
      go_wp2_with fail
      go_ret
      exact ⟨by rw [Hd.out]; rfl, hB.trans (hb5.mono hB.size)⟩

theorem s30_B (p : Prg) (sp : Bool) : s30 p.length (nBf p sp) = s3B (bt0 p sp) := by
  unfold s30 s3B bt0 st0
  simp [flatW]
theorem Rep4.setR {B R : Nat} {w : World} {A1 A2 A3 A4 : Option Addr} {c1 c2 c3 c4 : Nat} {s : S3} (h : Rep4 (above B w) A1 A2 A3 A4 c1 c2 c3 c4 s) (hR : R < B) (v0 v1 v2 v3 : Value) : Rep4 (above B ((((w.setCell ⟨R, 0, none⟩ v0).setCell ⟨R, 1, none⟩ v1).setCell ⟨R, 2, none⟩ v2).setCell ⟨R, 3, none⟩ v3)) A1 A2 A3 A4 c1 c2 c3 c4 s :=
  h.le (((((Le.refl _).to_above_setCell (by exact hR)).to_above_setCell (by exact hR)).to_above_setCell (by exact hR)).to_above_setCell (by exact hR))

set_option maxHeartbeats 1500000 in
theorem l4Start_any (p : Prg) (hp : PrgOk p) (sp : Bool) (W : World) (vp : Value) (hpr : PrgS W vp p) :
    Calls Tryz.prog 57 #[vp, .bool sp] W (RetS4 W (s3B (bt0 p sp))) := by
  obtain ⟨Ap, cp, rfl, hpl⟩ := SlR.slice hpr
  have h3 := hp.1.1
  obtain ⟨V, hV⟩ : ∃ V, V = W.alloc (.cells #[.slice none 0 0, .slice none 0 0, .slice none 0 0, .slice none 0 0] 70) := ⟨_, rfl⟩
  have hB : Below W.heap.size W V := by rw [hV]; exact (Below.refl _ _).alloc (Nat.le_refl _) _
  have hVs : V.heap.size = W.heap.size + 1 := by rw [hV]; simp
  have oV : Own V W.heap.size 70 #[.slice none 0 0, .slice none 0 0, .slice none 0 0, .slice none 0 0] := by rw [hV]; exact Own.new _ _ _
  have hcl := l4Buf_any sp V
  have Hst : Hid (∀ U, Le W U → Calls Tryz.prog 98 #[.slice Ap p.length cp, .int .i64 ((nBf p sp : Nat) : Int)] U (RetS4 U (s3B (bt0 p sp)))) := fun U hU => by
    have h := l3Start_any p (by omega) (nBf p sp) (by have := nBf_le hp sp; omega) U _ (PrgS.le hpr hU)
    rw [s30_B] at h
    exact h
  have hmul : (p.length : Int) * ((nB sp : Nat) : Int) = ((nBf p sp : Nat) : Int) := by
    unfold nB nBf
    cases sp
    · rw [if_neg (by decide), if_neg (by decide)]; omega
    · rw [if_pos rfl, if_pos rfl]; omega
  have HV := Lib.hid (And.intro hVs oV)
  have hnb9 := nBf_le hp sp
  generalize nB sp = nb at hcl hmul
  generalize nBf p sp = nf at Hst hmul hnb9
  clear hpr hVs oV
  go_enter Tryz.func57, Tryz.ntmps57
  go_upto_region 1 with (fail)
  rw [← hV]
  clear hV
  go_wp2_with fail
  refine hcl.mono ?_
  rintro e1 w1 ⟨rfl, hb1⟩
  have hst := Hst.out w1 ((Le.below hB).trans (Le.below hb1))
  have hB1 := hB.trans (hb1.mono hB.size)
  clear hcl
  go_wp2_with fail
  refine hst.mono ?_
  rintro e2 w2 ⟨A1, A2, A3, A4, c1, c2, c3, c4, rfl, hr2, hb2⟩
  have hB2 := hB1.trans (hb2.mono hB1.size)
  have hbV2 : Below V.heap.size V w2 := hb1.trans (hb2.mono hb1.size)
  have oR := HV.out.2.under hbV2
  have p0 := oR.cell (i := 0) rfl
  have p1 := oR.cell (i := 1) rfl
  have p2 := oR.cell (i := 2) rfl
  have p3 := oR.cell (i := 3) rfl
  have g0 := oR.frozen 0
  have g1 := oR.frozen 1
  have g2 := oR.frozen 2
  have g3 := oR.frozen 3
  have hR := oR.lt
  have Hr2 := Lib.hid hr2
  have Hs1 : Hid (W.heap.size < w1.heap.size) := by have h1 := hb1.size; have h2 := HV.out.1; show _ < _; omega
  clear hst hr2 oR
  go_wp2_with fail
  refine bodyPost_ret (v := .agg #[.slice A1 (s3B (bt0 p sp)).at_.length c1, .slice A2 (s3B (bt0 p sp)).regs.length c2, .slice A3 (s3B (bt0 p sp)).mem.length c3, .slice A4 (s3B (bt0 p sp)).buf.length c4]) (by simp [results, Tryz.results57, go_sem, p0, p1, p2, p3]) rfl ?_
  exact ⟨A1, A2, A3, A4, c1, c2, c3, c4, rfl, (Hr2.out.setR Hs1.out _ _ _ _).le (Le.above_mono hB1.size _), (((hB2.setCell (Nat.le_refl _) _).setCell (Nat.le_refl _) _).setCell (Nat.le_refl _) _).setCell (Nat.le_refl _) _⟩

/-- May a move be made? Any number. -/
def can4 (p : Prg) (sp : Bool) (b : BSt) (m : Int) : Bool := decide (0 ≤ m) && canB p sp b m.toNat
theorem can4_neg {p : Prg} {sp : Bool} {b : BSt} {m : Int} (h : m < 0) : can4 p sp b m = false := by
  unfold can4
  rw [decide_eq_false (by omega), Bool.false_and]
theorem can4_nat (p : Prg) (sp : Bool) (b : BSt) (m : Nat) : can4 p sp b (m : Int) = canB p sp b m := by
  unfold can4
  rw [decide_eq_true (by omega), Bool.true_and]
  rfl
theorem canB_big {p : Prg} {sp : Bool} {b : BSt} {m : Nat} (h : p.length + b.bufs.length ≤ m) : canB p sp b m = false := by
  unfold canB
  rw [if_neg (by omega), buf_out (by omega)]
  rfl
theorem canB_buf {p : Prg} {sp : Bool} {b : BSt} {k : Nat} : canB p sp b (p.length + k) = decide (0 < (bufB b k).length) := by
  unfold canB
  rw [if_neg (by omega), Nat.add_sub_cancel_left]
  cases bufB b k <;> simp
theorem canB_off {p : Prg} {sp : Bool} {b : BSt} {m : Nat} (hm : m < p.length) (h : ¬ pcS b.s m < (thrP p m).length) : canB p sp b m = false := by
  unfold canB onS
  rw [if_pos hm, decide_eq_false h, Bool.false_and]
theorem canB_on {p : Prg} {sp : Bool} {b : BSt} {m : Nat} (hm : m < p.length) (h : pcS b.s m < (thrP p m).length) : canB p sp b m = (!blkI (insS p b.s m) || empB sp b m) := by
  unfold canB onS
  rw [if_pos hm, decide_eq_true h, Bool.true_and]

set_option maxHeartbeats 3000000 in
theorem l4Can_any (p : Prg) (hp : PrgOk p) (sp : Bool) (b : BSt) (hb : BOk p sp b) (mi : Int) (W : World) (vp : Value) (hpr : PrgS W vp p) (A1 A2 A3 A4 : Option Addr) (c1 c2 c3 c4 : Nat) (hr : Rep4 W A1 A2 A3 A4 c1 c2 c3 c4 (s3B b)) :
    Calls Tryz.prog 89 #[vp, .agg #[.slice A1 (s3B b).at_.length c1, .slice A2 (s3B b).regs.length c2, .slice A3 (s3B b).mem.length c3, .slice A4 (s3B b).buf.length c4], .bool sp, .int .i64 mi] W (RetB W (can4 p sp b mi)) := by
  obtain ⟨Ap, cp, rfl, hpl⟩ := SlR.slice hpr
  have h3 := hp.1.1
  have hb9 := (s4_lens hp hb).2.2.2.1
  have hl1 := (s4_lens hp hb).1
  obtain ⟨n2, hn2⟩ : ∃ n, n = (s3B b).regs.length := ⟨_, rfl⟩
  obtain ⟨n3, hn3⟩ : ∃ n, n = (s3B b).mem.length := ⟨_, rfl⟩
  have hn4 := s3B_len b
  have HE : Hid (∀ (t : Nat) U, t < p.length → Le W U → Calls Tryz.prog 117 #[.agg #[.slice A1 p.length c1, .slice A2 n2 c2, .slice A3 n3 c3, .slice A4 b.bufs.length c4], .int .i64 t, .bool sp] U (RetB U (empB sp b t))) := fun t U ht hU => by
    have h := l4Empty_any p hp sp b hb t ht U A1 A2 A3 A4 c1 c2 c3 c4 (hr.le hU)
    rw [hl1, ← hn2, ← hn3, hn4] at h
    exact h
  rw [hl1, ← hn2, ← hn3, hn4]
  obtain ⟨V, hV⟩ : ∃ V, V = W.alloc (.cells #[.slice A1 p.length c1, .slice A2 n2 c2, .slice A3 n3 c3, .slice A4 b.bufs.length c4] 70) := ⟨_, rfl⟩
  have hB : Below W.heap.size W V := by rw [hV]; exact (Below.refl _ _).alloc (Nat.le_refl _) _
  have oV : Own V W.heap.size 70 #[.slice A1 p.length c1, .slice A2 n2 c2, .slice A3 n3 c3, .slice A4 b.bufs.length c4] := by rw [hV]; exact Own.new _ _ _
  have q0 := oV.cell (i := 0) rfl
  have q1 := oV.cell (i := 1) rfl
  have q2 := oV.cell (i := 2) rfl
  have q3 := oV.cell (i := 3) rfl
  have hWV := oV.lt
  have R1 := Lib.hid (hr.at_.le (Le.below hB))
  have R4 := Lib.hid (hr.buf.le (Le.below hB))
  have RP := Lib.hid (PrgS.le hpr (Le.below hB))
  have HL1 := Lib.hid hl1
  have HL4 := Lib.hid hn4
  have OV := Lib.hid oV
  rw [hn4] at hb9
  clear hr hpr hl1 hn2 hn3 hn4 oV
  go_enter Tryz.func89, Tryz.ntmps89
  go_upto_region 1 with (fail)
  rw [← hV]
  clear hV
  by_cases hneg : mi < 0
  · have hd : decide (mi < 0) = true := by rw [decide_eq_true_iff]; exact hneg
    have Hc : Hid (can4 p sp b mi = false) := can4_neg hneg
    go_wp2_with fail
    go_ret
    exact ⟨by rw [Hc.out]; rfl, hB⟩
  obtain ⟨m, rfl⟩ : ∃ m : Nat, mi = (m : Int) := ⟨mi.toNat, by omega⟩
  clear hneg
  by_cases hbig : p.length + b.bufs.length ≤ m
  · have Hc : Hid (canB p sp b m = false) := canB_big hbig
    have hd : decide ((p.length : Int) + (b.bufs.length : Int) ≤ (m : Int)) = true := by rw [decide_eq_true_iff]; omega
    have hd2 : decide (p.length + b.bufs.length ≤ m) = true := by rw [decide_eq_true_iff]; omega
    go_wp2_with fail
    go_ret
    exact ⟨by rw [can4_nat, Hc.out]; rfl, hB⟩
  have hd : decide ((p.length : Int) + (b.bufs.length : Int) ≤ (m : Int)) = false := by rw [decide_eq_false_iff_not]; omega
  have hd2 : decide (p.length + b.bufs.length ≤ m) = false := by rw [decide_eq_false_iff_not]; omega
  by_cases hml : p.length ≤ m
  · obtain ⟨k, rfl⟩ : ∃ k, m = p.length + k := ⟨m - p.length, by omega⟩
    have Hcn : Hid (can4 p sp b ((p.length + k : Nat) : Int) = decide (0 < (bufB b k).length)) := by show _ = _; rw [can4_nat, canB_buf]
    have hk : k < (s3B b).buf.length := by rw [s3B_len]; omega
    obtain ⟨bb, oo, Aj, cj, e4, hbb, hc0, -⟩ := R4.out.get hk
    subst e4
    rw [s3B_buf (by omega) hk, flat_len] at hc0
    have hki : (k : Int) < (b.bufs.length : Int) := by omega
    have hsub : ((p.length + k : Nat) : Int) - (p.length : Int) = (k : Int) := by omega
    have hd3 : decide ((p.length : Int) ≤ ((p.length + k : Nat) : Int)) = true := by rw [decide_eq_true_iff]; omega
    have hd4 : decide ((0 : Int) < 2 * (((bufB b k).length : Nat) : Int)) = decide (0 < (bufB b k).length) := by
      rcases Nat.eq_zero_or_pos (bufB b k).length with h | h
      · rw [decide_eq_false (by omega), decide_eq_false (by omega)]
      · rw [decide_eq_true (by omega), decide_eq_true (by omega)]
    obtain ⟨m, hm⟩ : ∃ m : Int, m = ((p.length + k : Nat) : Int) := ⟨_, rfl⟩
    have hm0 : decide (m < 0) = false := by rw [decide_eq_false_iff_not]; omega
    rw [← hm] at hd hsub hd3 ⊢
    have Hd4 := Lib.hid hd4
    generalize (bufB b k).length = q at hc0 hd4 Hd4 Hcn
    clear hm hd2 hbig hml hk hd4
    go_wp2_with fail
    go_ret
    exact ⟨by rw [Hcn.out, ← Hd4.out]; rfl, hB⟩
  have hmp : m < p.length := by omega
  have hmi : ¬ (p.length : Int) ≤ (m : Int) := by omega
  have hd3 : decide (p.length ≤ m) = false := by rw [decide_eq_false_iff_not]; omega
  obtain ⟨b1, o1, e1, hb1, k1⟩ := R1.out.get (i := m) (by rw [HL1.out]; exact hmp)
  subst e1
  obtain ⟨b2, o2, A5, c5, e2, hb2, k2, hm2, hins⟩ := SlR.getSub RP.out hmp
  subst e2
  have hat : (s3B b).at_[m]'(by rw [HL1.out]; exact hmp) = ((pcS b.s m : Nat) : Int) := by
    have h := s3B_at b m
    rw [List.getD_eq_getElem?_getD, List.getElem?_eq_getElem (by rw [HL1.out]; exact hmp)] at h
    exact h
  rw [hat] at k1
  have hth := thrP_get hmp
  obtain ⟨th, hthe⟩ : ∃ th, th = p[m] := ⟨_, rfl⟩
  rw [← hthe] at k2 hins hth hm2
  have Hth := Lib.hid hth
  have f0 := fun n : Ext V => n.le _ _ q0
  have f1 := fun n : Ext V => n.le _ _ k1
  have f2 := fun n : Ext V => n.le _ _ k2
  have htl : (m : Int) < (p.length : Int) := by omega
  have hpc7 : pcS b.s m ≤ th.length := by have h := hb.ok.pcb m; rw [hth] at h; exact h
  have hth7 : th.length ≤ 7 := by have h := (thr_ok hp m).1; rw [hth] at h; exact h
  have HH := Lib.hid hins
  have HK := Lib.hid (And.intro q0 (And.intro k1 k2))
  obtain ⟨pc, hpc⟩ : ∃ pc, pc = pcS b.s m := ⟨_, rfl⟩
  rw [← hpc] at k1 f1 hpc7 HK
  have Hpc := Lib.hid hpc
  clear hins hat hthe hth k1 k2 hpc
  go_upto_region 5 with (fail)
  refine wp_region_ext _ (by kernel_rfl) (by kernel_rfl) (Below.refl _ _) ?_
  repeat (go_big_quiet_step (fail))
  refine wpQuiet_nil ?_
  rintro wn ⟨⟨_, hbn⟩, rfl⟩
  have hBn := hB.trans (hbn.mono hB.size)
  clear f0 f1 f2
  by_cases hon : pc < th.length
  case neg =>
    have hpe : pc = th.length := by omega
    have hd5 : ((pc : Int) == (th.length : Int)) = true := by rw [beq_iff_eq, hpe]
    have Hc : Hid (canB p sp b m = false) := canB_off hmp (by rw [Hth.out, ← Hpc.out]; omega)
    clear hpe
    go_wp2_with fail
    go_ret
    exact ⟨by rw [can4_nat, Hc.out]; rfl, hBn⟩
  have hd5 : ((pc : Int) == (th.length : Int)) = false := by rw [beq_eq_false_iff_ne]; omega
  have hix := ins_ok hp (s := b.s) (t := m) (by rw [Hth.out, ← Hpc.out]; exact hon)
  have hx : th[pc]'hon = insS p b.s m := by
    have h := ins_get (p := p) (s := b.s) (t := m) (by rw [Hth.out, ← Hpc.out]; exact hon)
    rw [h]
    simp only [Hth.out, ← Hpc.out]
  have Hcan : Hid (canB p sp b m = (!blkI (insS p b.s m) || empB sp b m)) := canB_on hmp (by rw [Hth.out, ← Hpc.out]; exact hon)
  obtain ⟨b6, o6, e6, hb6, i0, i1, i2, i3⟩ := InsS.get HH.out hon
  subst e6
  rw [hx] at i0 i1 i2 i3
  generalize insS p b.s m = x at i0 i1 i2 i3 Hcan hix
  have Hix := Lib.hid hix
  have hpi : (pc : Int) < (th.length : Int) := by omega
  have HI := Lib.hid (And.intro i0 (And.intro i1 (And.intro i2 i3)))
  clear hx hix i0 i1 i2 i3
  go_upto_region 7 with (fail)
  obtain ⟨fc, hfc⟩ : ∃ f : Nat → Value, f = (fun d => match d with | 47 => .slice (some ⟨b2, o2, none⟩) p.length cp | 48 => .int .i64 (m : Int) | 49 => .pointer (some ⟨b2, o2 + m, none⟩) | 50 => .slice (some ⟨b6, o6, none⟩) th.length c5 | 51 => .pointer (some ⟨W.heap.size, 0, none⟩) | 52 => .slice (some ⟨b1, o1, none⟩) p.length c1 | 53 => .int .i64 (m : Int) | 54 => .pointer (some ⟨b1, o1 + m, none⟩) | 55 => .int .i64 (pc : Int) | 56 => .pointer (some ⟨b6, o6 + pc * 4, none⟩) | 57 => .agg #[.int .i64 x.op, .int .i64 x.loc, .int .i64 x.reg, .int .i64 x.val] | _ => undef) := ⟨_, rfl⟩
  have hf47 : fc 47 = .slice (some ⟨b2, o2, none⟩) p.length cp := congrFun hfc 47
  have hf48 : fc 48 = .int .i64 (m : Int) := congrFun hfc 48
  have hf49 : fc 49 = .pointer (some ⟨b2, o2 + m, none⟩) := congrFun hfc 49
  have hf50 : fc 50 = .slice (some ⟨b6, o6, none⟩) th.length c5 := congrFun hfc 50
  have hf51 : fc 51 = .pointer (some ⟨W.heap.size, 0, none⟩) := congrFun hfc 51
  have hf52 : fc 52 = .slice (some ⟨b1, o1, none⟩) p.length c1 := congrFun hfc 52
  have hf53 : fc 53 = .int .i64 (m : Int) := congrFun hfc 53
  have hf54 : fc 54 = .pointer (some ⟨b1, o1 + m, none⟩) := congrFun hfc 54
  have hf55 : fc 55 = .int .i64 (pc : Int) := congrFun hfc 55
  have hf56 : fc 56 = .pointer (some ⟨b6, o6 + pc * 4, none⟩) := congrFun hfc 56
  have hf57 : fc 57 = .agg #[.int .i64 x.op, .int .i64 x.loc, .int .i64 x.reg, .int .i64 x.val] := congrFun hfc 57
  clear hfc
  refine wp_region_rel [0, 1, 2, 3, 4, 5, 6, 7, 8, 9, 10, 11] [12] (TAl fc 9 wn.heap.size 52 #[.int .i64 0, .int .i64 0, .int .i64 0, .int .i64 0]) (fun d => if d = 9 then 1 else 0) [47, 48, 49, 50, 51, 52, 53, 54, 55, 56, 57, 9] (by kernel_rfl) (by kernel_rfl) rfl (by simp) tal_nx tal_blk ?_ ?_
  · refine ⟨?_, ?_, ?_, ?_, ?_, ?_, ?_, ?_, ?_, ?_, ?_, ?_, trivial⟩
    all_goals (intro xs w hw hdep hsep; have hbw := nx_below hw; simp only [shpA, fillL, List.contains_cons, List.contains_nil, Nat.reduceAdd, Nat.reduceBEq, Bool.or_false, Bool.or_true, Bool.false_eq_true, ↓reduceIte])
    · go_wp2_with fail
      exact RelPost.mk (Nx.refl _) _ rfl hf47.symm rfl
    · go_wp2_with fail
      exact RelPost.mk (Nx.refl _) _ rfl hf48.symm rfl
    · have e47 : xs 47 = .slice (some ⟨b2, o2, none⟩) p.length cp := (show xs 47 = fc 47 from hdep 47 (List.mem_of_elem_eq_true (by kernel_rfl))).trans hf47
      have e48 : xs 48 = .int .i64 (m : Int) := (show xs 48 = fc 48 from hdep 48 (List.mem_of_elem_eq_true (by kernel_rfl))).trans hf48
      rw [e47, e48]
      go_wp2_with fail
      exact RelPost.mk (Nx.refl _) _ rfl hf49.symm rfl
    · have e49 : xs 49 = .pointer (some ⟨b2, o2 + m, none⟩) := (show xs 49 = fc 49 from hdep 49 (List.mem_of_elem_eq_true (by kernel_rfl))).trans hf49
      have q0 := Le.below (hbn.trans (hbw.mono hbn.size)) _ _ (HK.out.2.2)
      rw [e49]
      go_wp2_with fail
      exact RelPost.mk (Nx.refl _) _ rfl hf50.symm rfl
    · go_wp2_with fail
      exact RelPost.mk (Nx.refl _) _ rfl hf51.symm rfl
    · have e51 : xs 51 = .pointer (some ⟨W.heap.size, 0, none⟩) := (show xs 51 = fc 51 from hdep 51 (List.mem_of_elem_eq_true (by kernel_rfl))).trans hf51
      have q0 := Le.below (hbn.trans (hbw.mono hbn.size)) _ _ (HK.out.1)
      rw [e51]
      go_wp2_with fail
      exact RelPost.mk (Nx.refl _) _ rfl hf52.symm rfl
    · go_wp2_with fail
      exact RelPost.mk (Nx.refl _) _ rfl hf53.symm rfl
    · have e52 : xs 52 = .slice (some ⟨b1, o1, none⟩) p.length c1 := (show xs 52 = fc 52 from hdep 52 (List.mem_of_elem_eq_true (by kernel_rfl))).trans hf52
      have e53 : xs 53 = .int .i64 (m : Int) := (show xs 53 = fc 53 from hdep 53 (List.mem_of_elem_eq_true (by kernel_rfl))).trans hf53
      rw [e52, e53]
      go_wp2_with fail
      exact RelPost.mk (Nx.refl _) _ rfl hf54.symm rfl
    · have e54 : xs 54 = .pointer (some ⟨b1, o1 + m, none⟩) := (show xs 54 = fc 54 from hdep 54 (List.mem_of_elem_eq_true (by kernel_rfl))).trans hf54
      have q0 := Le.below (hbn.trans (hbw.mono hbn.size)) _ _ (HK.out.2.1)
      rw [e54]
      go_wp2_with fail
      exact RelPost.mk (Nx.refl _) _ rfl hf55.symm rfl
    · have e50 : xs 50 = .slice (some ⟨b6, o6, none⟩) th.length c5 := (show xs 50 = fc 50 from hdep 50 (List.mem_of_elem_eq_true (by kernel_rfl))).trans hf50
      have e55 : xs 55 = .int .i64 (pc : Int) := (show xs 55 = fc 55 from hdep 55 (List.mem_of_elem_eq_true (by kernel_rfl))).trans hf55
      rw [e50, e55]
      go_wp2_with fail
      exact RelPost.mk (Nx.refl _) _ rfl hf56.symm rfl
    · have e56 : xs 56 = .pointer (some ⟨b6, o6 + pc * 4, none⟩) := (show xs 56 = fc 56 from hdep 56 (List.mem_of_elem_eq_true (by kernel_rfl))).trans hf56
      have q0 := Le.below (hbn.trans (hbw.mono hbn.size)) _ _ (HI.out.1)
      have q1 := Le.below (hbn.trans (hbw.mono hbn.size)) _ _ (HI.out.2.1)
      have q2 := Le.below (hbn.trans (hbw.mono hbn.size)) _ _ (HI.out.2.2.1)
      have q3 := Le.below (hbn.trans (hbw.mono hbn.size)) _ _ (HI.out.2.2.2)
      rw [e56]
      go_wp2_with fail
      exact RelPost.mk (Nx.refl _) _ rfl hf57.symm rfl
    · go_wp2_with fail
      exact RelPost.own ((Below.refl _ _).alloc (Nat.le_refl _) _) _ rfl ⟨w.heap.size, rfl, Own.new w _ _, Below.size hbw⟩ (fun b hb => .inl (by injection hb with hb; simp only at hb; omega))
  intro xs w7 hw hT hsep
  have hbw := nx_below hw
  obtain ⟨X, e9, oX7, hX6⟩ : HasB wn.heap.size 52 #[.int .i64 0, .int .i64 0, .int .i64 0, .int .i64 0] w7 (xs 9) := hT 9 (List.mem_of_elem_eq_true (by kernel_rfl))
  have e57 : xs 57 = .agg #[.int .i64 x.op, .int .i64 x.loc, .int .i64 x.reg, .int .i64 x.val] := (show xs 57 = fc 57 from hT 57 (List.mem_of_elem_eq_true (by kernel_rfl))).trans hf57
  show wpList _ _ _ [_] _ _
  simp only [shpA, fillL, List.contains_cons, List.contains_nil, Nat.reduceAdd, Nat.reduceBEq, Bool.or_false, Bool.or_true, Bool.false_eq_true, ↓reduceIte]
  rw [e9, e57]
  clear hT hsep hw e9 e57 hf47 hf48 hf49 hf50 hf51 hf52 hf53 hf54 hf55 hf56 hf57
  generalize xs 47 = u47x
  generalize xs 48 = u48x
  generalize xs 49 = u49x
  generalize xs 50 = u50x
  generalize xs 51 = u51x
  generalize xs 52 = u52x
  generalize xs 53 = u53x
  generalize xs 54 = u54x
  generalize xs 55 = u55x
  generalize xs 56 = u56x
  have z0 := oX7.cell (i := 0) rfl
  have z1 := oX7.cell (i := 1) rfl
  have z2 := oX7.cell (i := 2) rfl
  have z3 := oX7.cell (i := 3) rfl
  have y0 := oX7.frozen 0
  have y1 := oX7.frozen 1
  have y2 := oX7.frozen 2
  have y3 := oX7.frozen 3
  obtain ⟨w8, hw8⟩ : ∃ w8, w8 = (((w7.setCell ⟨X, 0, none⟩ (.int .i64 x.op)).setCell ⟨X, 1, none⟩ (.int .i64 x.loc)).setCell ⟨X, 2, none⟩ (.int .i64 x.reg)).setCell ⟨X, 3, none⟩ (.int .i64 x.val) := ⟨_, rfl⟩
  have oX8 : Own w8 X 52 #[.int .i64 x.op, .int .i64 x.loc, .int .i64 x.reg, .int .i64 x.val] := by rw [hw8]; exact (((oX7.set 0 (.int .i64 x.op)).set 1 (.int .i64 x.loc)).set 2 (.int .i64 x.reg)).set 3 (.int .i64 x.val)
  have hb8 : Below wn.heap.size wn w8 := by rw [hw8]; exact (((hbw.setCell hX6 _).setCell hX6 _).setCell hX6 _).setCell hX6 _
  have hbV8 : Below V.heap.size V w8 := hbn.trans (hb8.mono hbn.size)
  have hB8 := hB.trans (hbV8.mono hB.size)
  have OX8 := Lib.hid oX8
  have hX8 := oX8.lt
  have OV8 := Lib.hid (OV.out.under hbV8)
  go_upto_region 8 with (fail)
  rw [← hw8]
  clear hw8 oX7 oX8 z0 z1 z2 z3 y0 y1 y2 y3 hbw q0 q1 q2 q3
  have x0 := OX8.out.cell (i := 0) rfl
  have q0 := OV8.out.cell (i := 0) rfl
  have q1 := OV8.out.cell (i := 1) rfl
  have q2 := OV8.out.cell (i := 2) rfl
  have q3 := OV8.out.cell (i := 3) rfl
  have hWV8 := OV8.out.lt
  by_cases hblk : blkI x = true
  · have Hr : Hid (canB p sp b m = empB sp b m) := by show _ = _; rw [Hcan.out, hblk]; rfl
    have hem := HE.out m w8 hmp ((Le.below hB).trans (Le.below hbV8))
    have hop : x.op = 4 ∨ x.op = 5 := by
      unfold blkI at hblk
      rw [Bool.or_eq_true, decide_eq_true_iff, decide_eq_true_iff] at hblk
      exact hblk
    rcases hop with hop | hop
    · have o4 : (x.op == (4 : Int)) = true := by rw [beq_iff_eq]; exact hop
      have o4' : (x.op != (4 : Int)) = false := by rw [hop]; rfl
      clear hop hblk
      go_wp2_with fail
      refine hem.mono ?_
      rintro e9 w9 ⟨rfl, hb9'⟩
      go_wp2_with fail
      go_ret
      exact ⟨by rw [can4_nat, Hr.out]; rfl, hB8.trans (hb9'.mono hB8.size)⟩
    · have o4 : (x.op == (4 : Int)) = false := by rw [hop]; rfl
      have o4' : (x.op != (4 : Int)) = true := by rw [hop]; rfl
      have o5 : (x.op == (5 : Int)) = true := by rw [beq_iff_eq]; exact hop
      have o5' : (x.op != (5 : Int)) = false := by rw [hop]; rfl
      clear hop hblk
      go_wp2_with fail
      refine hem.mono ?_
      rintro e9 w9 ⟨rfl, hb9'⟩
      go_wp2_with fail
      go_ret
      exact ⟨by rw [can4_nat, Hr.out]; rfl, hB8.trans (hb9'.mono hB8.size)⟩
  · have hbf : blkI x = false := by cases h : blkI x <;> simp_all
    have Hr : Hid (canB p sp b m = true) := by show _ = _; rw [Hcan.out, hbf]; rfl
    have hop : x.op ≠ 4 ∧ x.op ≠ 5 := by
      unfold blkI at hbf
      rw [Bool.or_eq_false_iff, decide_eq_false_iff_not, decide_eq_false_iff_not] at hbf
      exact hbf
    have o4 : (x.op == (4 : Int)) = false := by rw [beq_eq_false_iff_ne]; exact hop.1
    have o4' : (x.op != (4 : Int)) = true := by rw [bne_iff_ne]; exact hop.1
    have o5 : (x.op == (5 : Int)) = false := by rw [beq_eq_false_iff_ne]; exact hop.2
    have o5' : (x.op != (5 : Int)) = true := by rw [bne_iff_ne]; exact hop.2
    clear hop hblk hbf
    go_wp2_with fail
    go_ret
    exact ⟨by rw [can4_nat, Hr.out]; rfl, hB8⟩

end Go.Proofs.YtahegjofooahkaaGreat
