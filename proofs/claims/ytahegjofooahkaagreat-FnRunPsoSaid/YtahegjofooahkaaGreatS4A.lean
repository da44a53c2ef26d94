/-
  The reference's states with buffers: l4Buffers, l4Place, l4Empty, l4Seen, l4Done, l4Start.
-/
import Derived.Test.YtahegjofooahkaaGreatS3X
import Derived.Test.YtahegjofooahkaaGreatBufA
namespace Go.Proofs.YtahegjofooahkaaGreat
open Go.RowKit
set_option linter.unusedVariables false
set_option maxRecDepth 100000

/-- A state with buffers, as the reference has it. -/
def s3B (b : BSt) : S3 := ⟨b.s.pc.map (fun n => ((n : Nat) : Int)), b.s.regs, b.s.mem, b.bufs.map flatW⟩
theorem s3B_len (b : BSt) : (s3B b).buf.length = b.bufs.length := by simp [s3B]
theorem s3B_buf {b : BSt} {k : Nat} (h : k < b.bufs.length) (h' : k < (s3B b).buf.length) : (s3B b).buf[k] = flatW (bufB b k) := by
  simp only [s3B, List.getElem_map]
  unfold bufB
  rw [List.getD_eq_getElem?_getD, List.getElem?_eq_getElem h]
  rfl
theorem s3B_at (b : BSt) (t : Nat) : (s3B b).at_.getD t 0 = ((pcS b.s t : Nat) : Int) := by
  unfold s3B pcS
  simp only [List.getD_eq_getElem?_getD, List.getElem?_map]
  cases b.s.pc[t]? <;> rfl
theorem flat_len : ∀ bf : List (Int × Int), (flatW bf).length = 2 * bf.length
  | [] => rfl
  | w :: bf => by
    have := flat_len bf
    unfold flatW at this ⊢
    simp only [List.flatMap_cons, List.length_append, List.length_cons, List.length_nil]
    omega
theorem flat_get : ∀ (bf : List (Int × Int)) (i : Nat) (h : i < bf.length), (flatW bf)[2 * i]? = some bf[i].1 ∧ (flatW bf)[2 * i + 1]? = some bf[i].2
  | w :: bf, 0, h => ⟨rfl, rfl⟩
  | w :: bf, i + 1, h => by
    have h1 := flat_get bf i (by simpa using h)
    rw [show 2 * (i + 1) = 2 * i + 1 + 1 by omega, show 2 * i + 1 + 1 + 1 = (2 * i + 1) + 1 + 1 by omega]
    exact h1
theorem flat_nil {bf : List (Int × Int)} : flatW bf = [] ↔ bf = [] := by
  rw [← List.length_eq_zero_iff, ← List.length_eq_zero_iff, flat_len]
  omega
theorem s4_lens {p : Prg} {sp : Bool} (hp : PrgOk p) {b : BSt} (hb : BOk p sp b) : (s3B b).at_.length = p.length ∧ (s3B b).regs.length = p.length * 3 ∧ (s3B b).mem.length = 3 ∧ (s3B b).buf.length ≤ 9 ∧ ∀ xs ∈ (s3B b).buf, xs.length ≤ 14 := by
  refine ⟨by show (b.s.pc.map _).length = _; rw [List.length_map]; exact hb.ok.pcl, hb.ok.regl, hb.ok.meml, by rw [s3B_len, hb.len]; exact nBf_le hp sp, fun xs hx => ?_⟩
  obtain ⟨bf, h1, rfl⟩ := List.mem_map.1 hx
  have := bufs_sum hp hb bf h1
  rw [flat_len]
  omega
def nB (sp : Bool) : Nat := if sp = true then 3 else 1

theorem l4Buf_any (sp : Bool) (W : World) : Calls Tryz.prog 99 #[.bool sp] W (fun e w' => e = .returned (.int .i64 ((nB sp : Nat) : Int)) ∧ Below W.heap.size W w') := by
  go_enter Tryz.func99, Tryz.ntmps99
  cases sp
  · go_wp2_with fail
    go_ret
    exact ⟨rfl, Below.refl _ _⟩
  · go_wp2_with fail
    go_ret
    exact ⟨rfl, Below.refl _ _⟩
theorem l4Place_any (sp : Bool) (t l : Nat) (ht : t < 100) (hl : l < 3) (W : World) : Calls Tryz.prog 122 #[.int .i64 t, .int .i64 l, .bool sp] W (fun e w' => e = .returned (.int .i64 ((plB sp t l : Nat) : Int)) ∧ Below W.heap.size W w') := by
  go_enter Tryz.func122, Tryz.ntmps122
  cases sp
  · go_wp2_with fail
    go_ret
    exact ⟨by rw [show plB false t l = t from if_neg (by decide)]; rfl, Below.refl _ _⟩
  · go_wp2_with fail
    go_ret
    refine ⟨?_, Below.refl _ _⟩
    rw [show plB true t l = 3 * t + l from if_pos rfl]
    go_num

theorem pl_nB {sp : Bool} {t l : Nat} (hl : l < 3) : ∃ i, i < nB sp ∧ plB sp t l = t * nB sp + i := by
  cases sp
  · exact ⟨0, by decide, by rw [show plB false t l = t from if_neg (by decide)]; show t = t * 1 + 0; omega⟩
  · exact ⟨l, hl, by rw [show plB true t l = 3 * t + l from if_pos rfl]; show 3 * t + l = t * 3 + l; omega⟩
theorem nB_pl {sp : Bool} {t i : Nat} (hi : i < nB sp) : ∃ l, l < 3 ∧ plB sp t l = t * nB sp + i := by
  cases sp
  · have hi : i < 1 := hi
    exact ⟨0, by decide, by rw [show plB false t 0 = t from if_neg (by decide)]; show t = t * 1 + i; omega⟩
  · exact ⟨i, hi, by rw [show plB true t i = 3 * t + i from if_pos rfl]; show 3 * t + i = t * 3 + i; omega⟩

set_option maxHeartbeats 1500000 in
theorem l4Empty_any (p : Prg) (hp : PrgOk p) (sp : Bool) (b : BSt) (hb : BOk p sp b) (t : Nat) (ht : t < p.length) (W : World) (A1 A2 A3 A4 : Option Addr) (c1 c2 c3 c4 : Nat) (hr : Rep4 W A1 A2 A3 A4 c1 c2 c3 c4 (s3B b)) :
    Calls Tryz.prog 117 #[.agg #[.slice A1 (s3B b).at_.length c1, .slice A2 (s3B b).regs.length c2, .slice A3 (s3B b).mem.length c3, .slice A4 (s3B b).buf.length c4], .int .i64 t, .bool sp] W (RetB W (empB sp b t)) := by
  have h3 := hp.1.1
  have hb9 := (s4_lens hp hb).2.2.2.1
  obtain ⟨n1, hn1⟩ : ∃ n, n = (s3B b).at_.length := ⟨_, rfl⟩
  obtain ⟨n2, hn2⟩ : ∃ n, n = (s3B b).regs.length := ⟨_, rfl⟩
  obtain ⟨n3, hn3⟩ : ∃ n, n = (s3B b).mem.length := ⟨_, rfl⟩
  obtain ⟨n4, hn4⟩ : ∃ n, n = (s3B b).buf.length := ⟨_, rfl⟩
  rw [← hn1, ← hn2, ← hn3, ← hn4]
  obtain ⟨V, hV⟩ : ∃ V, V = W.alloc (.cells #[.slice A1 n1 c1, .slice A2 n2 c2, .slice A3 n3 c3, .slice A4 n4 c4] 70) := ⟨_, rfl⟩
  have hB : Below W.heap.size W V := by rw [hV]; exact (Below.refl _ _).alloc (Nat.le_refl _) _
  have oV : Own V W.heap.size 70 #[.slice A1 n1 c1, .slice A2 n2 c2, .slice A3 n3 c3, .slice A4 n4 c4] := by rw [hV]; exact Own.new _ _ _
  have q3 := oV.cell (i := 3) rfl
  have R4 := Lib.hid (hr.buf.le (Le.below hB))
  have hcl := l4Buf_any sp V
  obtain ⟨n, hn⟩ : ∃ n, n = nB sp := ⟨_, rfl⟩
  have hn13 : n ≤ 3 := by rw [hn]; unfold nB; split <;> omega
  have hnt : (t + 1) * n ≤ b.bufs.length := by
    rw [hb.len, hn]
    unfold nB nBf
    cases sp
    · rw [if_neg (by decide), if_neg (by decide)]; omega
    · rw [if_pos rfl, if_pos rfl]; omega
  rw [← hn] at hcl
  have HT : Hid ((∀ i, i < n → bufB b (t * n + i) = []) → empB sp b t = true) := fun h => buf_emp fun l hl => by
    obtain ⟨i, h1, h2⟩ := pl_nB (sp := sp) (t := t) hl
    rw [h2, ← hn]
    exact h i (by rw [hn]; exact h1)
  have HF : Hid (∀ i, i < n → bufB b (t * n + i) ≠ [] → empB sp b t = false) := fun i hi h => by
    obtain ⟨l, h1, h2⟩ := nB_pl (sp := sp) (t := t) (i := i) (by rw [← hn]; exact hi)
    cases he : empB sp b t with
    | false => rfl
    | true => exact absurd (emp_buf he h1) (by rw [h2, ← hn]; exact h)
  have Hn4 : Hid (n4 = b.bufs.length) := by show _ = _; rw [hn4, s3B_len]
  have Hbl : Hid (∀ k (h : k < b.bufs.length) (h' : k < (s3B b).buf.length), (s3B b).buf[k] = flatW (bufB b k)) := fun k h h' => s3B_buf h h'
  have hnt' : (t + 1) * n ≤ n4 := by rw [Hn4.out]; exact hnt
  have hb9' : n4 ≤ 9 := by rw [hn4]; exact hb9
  rw [Nat.add_mul, Nat.one_mul] at hnt'
  clear hr hn1 hn2 hn3 hn4 hn hnt oV hb9
  obtain ⟨m, hm⟩ : ∃ m, m = t * n := ⟨_, rfl⟩
  rw [← hm] at HT HF hnt'
  have hmul : (t : Int) * (n : Int) = (m : Int) := by rw [hm]; simp
  clear hm
  go_enter Tryz.func117, Tryz.ntmps117
  go_upto_region 1 with (fail)
  rw [← hV]
  clear hV
  go_wp2_with fail
  refine hcl.mono ?_
  rintro e1 w1 ⟨rfl, hb1⟩
  clear hcl
  go_wp2_with fail
  go_loopg [8] n (fun g s8 wr => ∃ i : Nat, i ≤ n ∧ g = n - i ∧ s8 = .int .i64 i ∧ Hid (∀ j, j < i → bufB b (m + j) = []) ∧ Below V.heap.size V wr)
  case atStart => exact ⟨0, Nat.zero_le _, rfl, rfl, fun j h => absurd h (Nat.not_lt_zero _), hb1⟩
  case round =>
    obtain ⟨wo, rfl⟩ : ∃ wo : World, wo = wr := ⟨_, rfl⟩
    clear hb1
    obtain ⟨i, hi, rfl, rfl, hall, hb1⟩ := hrel
    by_cases hlt : i < n
    · have hk : m + i < (s3B b).buf.length := by rw [s3B_len, ← Hn4.out]; omega
      obtain ⟨bb, oo, Aj, cj, e4, hbb, hc0, -⟩ := R4.out.get hk
      subst e4
      rw [Hbl.out (m + i) (by rw [← Hn4.out]; omega) hk, flat_len] at hc0
      have hc0 := Le.below hb1 _ _ hc0
      have p3 := Le.below hb1 _ _ q3
      have Hb : Hid (bufB b (m + i) ≠ [] → empB sp b t = false) := HF.out i hlt
      have Hnext : Hid (bufB b (m + i) = [] → ∀ j, j < i + 1 → bufB b (m + j) = []) := fun h j hj => by
        rcases Nat.lt_succ_iff_lt_or_eq.1 hj with h' | h'
        · exact hall.out j h'
        · rw [h']; exact h
      have hki : ((m + i : Nat) : Int) < (n4 : Int) := by omega
      have hcast : (m : Int) + (i : Int) = ((m + i : Nat) : Int) := by omega
      have hi3 : ((i : Int) < (n : Int)) := by omega
      obtain ⟨k, hkk⟩ : ∃ k, k = m + i := ⟨_, rfl⟩
      rw [← hkk] at hc0 Hb Hnext hki hcast
      have hc0' : wo.cell? ⟨bb, oo + k, none⟩ = some (.slice Aj (2 * (bufB b k).length) cj) := by rw [hkk]; rw [hkk] at hc0; exact hc0
      have Hlen : Hid ((bufB b k).length = 0 → bufB b k = []) := List.length_eq_zero_iff.1
      have Hlen' : Hid (0 < (bufB b k).length → bufB b k ≠ []) := fun h e => by rw [e] at h; exact Nat.lt_irrefl 0 h
      generalize (bufB b k).length = q at hc0' Hlen Hlen'
      clear hc0 hkk hk
      by_cases hq : 0 < q
      · have hd : decide ((0 : Int) < ((2 * q : Nat) : Int)) = true := by rw [decide_eq_true_iff]; omega
        have Hr : Hid (empB sp b t = false) := Hb.out (Hlen'.out hq)
        go_wp2_with fail
        go_ret
        exact ⟨by rw [Hr.out]; rfl, hB.trans (hb1.mono hB.size)⟩
      · have hd : decide ((0 : Int) < ((2 * q : Nat) : Int)) = false := by rw [decide_eq_false_iff_not]; omega
        have Hall : Hid (∀ j, j < i + 1 → bufB b (m + j) = []) := Hnext.out (Hlen.out (by omega))
        go_wp2_with fail
        go_roundg (n - (i + 1))
        case measure => omega
        case rel => exact ⟨i + 1, by omega, rfl, by go_num, Hall.out, hb1⟩
    · obtain rfl : i = n := by omega
      have Hd : Hid (empB sp b t = true) := HT.out hall.out
      clear hall
      go_wp2_with fail
      go_ret
      exact ⟨by rw [Hd.out]; rfl, hB.trans (hb1.mono hB.size)⟩

theorem seen_take {bf : List (Int × Int)} {l m : Int} {j : Nat} (hj : j < bf.length) : seenB (bf.take (j + 1)) l m = if bf[j].1 = l then bf[j].2 else seenB (bf.take j) l m := by
  rw [List.take_succ_eq_append_getElem hj, seen_snoc]

set_option maxHeartbeats 1500000 in
theorem l4Seen_any (p : Prg) (hp : PrgOk p) (sp : Bool) (b : BSt) (hb : BOk p sp b) (t l : Nat) (ht : t < p.length) (hl : l < 3) (W : World) (A1 A2 A3 A4 : Option Addr) (c1 c2 c3 c4 : Nat) (hr : Rep4 W A1 A2 A3 A4 c1 c2 c3 c4 (s3B b)) :
    Calls Tryz.prog 120 #[.agg #[.slice A1 (s3B b).at_.length c1, .slice A2 (s3B b).regs.length c2, .slice A3 (s3B b).mem.length c3, .slice A4 (s3B b).buf.length c4], .int .i64 t, .int .i64 l, .bool sp] W (fun e W' => e = .returned (.int .i64 (seenB (bufB b (plB sp t l)) (l : Int) (b.s.mem.getD l 0))) ∧ Below W.heap.size W W') := by
  have h3 := hp.1.1
  obtain ⟨n1, hn1⟩ : ∃ n, n = (s3B b).at_.length := ⟨_, rfl⟩
  obtain ⟨n2, hn2⟩ : ∃ n, n = (s3B b).regs.length := ⟨_, rfl⟩
  obtain ⟨n4, hn4⟩ : ∃ n, n = (s3B b).buf.length := ⟨_, rfl⟩
  have hn3 : (s3B b).mem.length = 3 := (s4_lens hp hb).2.2.1
  have hk : plB sp t l < (s3B b).buf.length := by rw [s3B_len, hb.len]; exact pl_lt ht hl
  have hkb : plB sp t l < b.bufs.length := by rw [hb.len]; exact pl_lt ht hl
  rw [← hn1, ← hn2, hn3, ← hn4]
  obtain ⟨V, hV⟩ : ∃ V, V = W.alloc (.cells #[.slice A1 n1 c1, .slice A2 n2 c2, .slice A3 3 c3, .slice A4 n4 c4] 70) := ⟨_, rfl⟩
  have hB : Below W.heap.size W V := by rw [hV]; exact (Below.refl _ _).alloc (Nat.le_refl _) _
  have oV : Own V W.heap.size 70 #[.slice A1 n1 c1, .slice A2 n2 c2, .slice A3 3 c3, .slice A4 n4 c4] := by rw [hV]; exact Own.new _ _ _
  have q2 := oV.cell (i := 2) rfl
  have q3 := oV.cell (i := 3) rfl
  have hWV := oV.lt
  obtain ⟨bb, oo, Aj, cj, e4, hbb, hc0, hrow⟩ := (hr.buf.le (Le.below hB)).get hk
  subst e4
  obtain ⟨bm, om, e3, hbm, hm0⟩ := (hr.mem.le (Le.below hB)).get (i := l) (by rw [hn3]; exact hl)
  subst e3
  rw [s3B_buf hkb hk] at hc0 hrow
  rw [flat_len] at hc0
  have hmv : (s3B b).mem[l]'(by rw [hn3]; exact hl) = b.s.mem.getD l 0 := by
    show b.s.mem[l]'_ = _
    rw [List.getD_eq_getElem?_getD, List.getElem?_eq_getElem (by rw [hb.ok.meml]; exact hl)]
    rfl
  rw [hmv] at hm0
  have hki : ((plB sp t l : Nat) : Int) < (n4 : Int) := by omega
  have Hc : Hid (∀ U, Below V.heap.size V U → Calls Tryz.prog 122 #[.int .i64 t, .int .i64 l, .bool sp] U (fun e U' => e = .returned (.int .i64 ((plB sp t l : Nat) : Int)) ∧ Below U.heap.size U U')) := fun U hU => l4Place_any sp t l (by omega) hl U
  generalize plB sp t l = k at hc0 hrow hki Hc
  generalize b.s.mem.getD l 0 = mv at hm0
  have hbf7 : (bufB b k).length ≤ 7 := hb.short7 hp k
  generalize hbf : bufB b k = bf at hc0 hrow hbf7
  have Hrow := Lib.hid hrow
  obtain ⟨N, hN⟩ : ∃ N, N = 2 * bf.length := ⟨_, rfl⟩
  rw [← hN] at hc0
  have hN14 : N ≤ 14 := by omega
  have HN := Lib.hid hN
  have hli : (l : Int) < 3 := by omega
  clear hr hn1 hn2 hn4 hn3 hk hkb oV hrow hmv hbf hN
  have f0 := fun n : Ext V => n.le _ _ q3
  have f1 := fun n : Ext V => n.le _ _ hc0
  go_enter Tryz.func120, Tryz.ntmps120
  go_upto_region 1 with (fail)
  rw [← hV]
  clear hV
  refine wp_region_ext _ (by kernel_rfl) (by kernel_rfl) (Below.refl _ _) ?_
  repeat (go_big_quiet_step ((go_at_call 122; with_reducible exact Ext.call _ Hc.out)))
  refine wpQuiet_nil ?_
  rintro wn ⟨⟨_, hbn⟩, rfl⟩
  clear f0 f1
  have q2n := Le.below hbn _ _ q2
  have m0n := Le.below hbn _ _ hm0
  have Hrown : Hid (Ints wn Aj cj (flatW bf)) := Hrow.out.le (Le.below hbn)
  have hBn := hB.trans (hbn.mono hB.size)
  have hsn := hbn.size
  clear q2 q3 hm0 hc0 Hrow
  go_wp2_with fail
  go_loopg [10] bf.length (fun g s10 wr => ∃ j : Nat, j ≤ bf.length ∧ g = 0 + j ∧ ((j = 0 ∧ s10 = .int .i64 (-2)) ∨ ∃ q : Nat, q + 2 = 2 * j ∧ s10 = .int .i64 (q : Int)) ∧ Hid (seenB bf (l : Int) mv = seenB (bf.take j) (l : Int) mv) ∧ wn = wr)
  case atStart =>
    refine ⟨bf.length, Nat.le_refl _, (Nat.zero_add _).symm, ?_, by show _ = _; rw [List.take_length], rfl⟩
    rcases Nat.eq_zero_or_pos bf.length with h0 | h0
    · left
      refine ⟨h0, ?_⟩
      have : N = 0 := by rw [HN.out, h0]
      rw [this]
      rfl
    · right
      refine ⟨N - 2, by have := HN.out; omega, congrArg (Value.int .i64) ?_⟩
      have := HN.out
      omega
  case round =>
    obtain ⟨j, hj, rfl, hs, hseen, rfl⟩ := hrel
    rcases hs with ⟨rfl, rfl⟩ | ⟨q, hq, rfl⟩
    · have Hv : Hid (seenB bf (l : Int) mv = mv) := by show _ = _; rw [hseen.out]; rfl
      clear hseen
      go_wp2_with fail
      go_ret
      exact ⟨by rw [Hv.out]; rfl, hBn⟩
    · obtain ⟨j', rfl⟩ : ∃ j', j = j' + 1 := ⟨j - 1, by omega⟩
      have hq2 : q = 2 * j' := by omega
      have hjl : j' < bf.length := by omega
      have Hst := Lib.hid (seen_take (l := (l : Int)) (m := mv) hjl)
      have hg := flat_get bf j' hjl
      rw [← hq2] at hg
      have hql : q + 1 < (flatW bf).length := by rw [flat_len]; omega
      obtain ⟨b1, o1, e1, hb1, hcq⟩ := Hrown.out.get (i := q) (by omega)
      subst e1
      obtain ⟨b1', o1', e1, _, hcq1⟩ := Hrown.out.get (i := q + 1) hql
      injection e1 with e1
      injection e1 with e1 e2
      subst e1 e2
      have g1 : (flatW bf)[q] = bf[j'].1 := by have h := hg.1; rw [List.getElem?_eq_getElem (by omega)] at h; injection h
      have g2 : (flatW bf)[q + 1] = bf[j'].2 := by have h := hg.2; rw [List.getElem?_eq_getElem hql] at h; injection h
      rw [g1] at hcq
      rw [g2] at hcq1
      have hqN : (q : Int) + 1 < (N : Int) := by have := HN.out; omega
      have hqN0 : (q : Int) < (N : Int) := by omega
      have Hs0 := Lib.hid hseen.out
      clear hseen hg g1 g2 hql
      generalize bf[j'].1 = x1 at hcq Hst
      generalize bf[j'].2 = x2 at hcq1 Hst
      by_cases he : x1 = (l : Int)
      · have hd : (x1 == (l : Int)) = true := by rw [beq_iff_eq]; exact he
        have Hv : Hid (seenB bf (l : Int) mv = x2) := by show _ = _; rw [Hs0.out, Hst.out, if_pos he]
        clear he hq2
        go_wp2_with fail
        go_ret
        exact ⟨by rw [Hv.out]; rfl, hBn⟩
      · have hd : (x1 == (l : Int)) = false := by rw [beq_eq_false_iff_ne]; exact he
        have Hv : Hid (seenB bf (l : Int) mv = seenB (bf.take j') (l : Int) mv) := by show _ = _; rw [Hs0.out, Hst.out, if_neg he]
        have Hq2 := Lib.hid hq2
        clear he hq2 hq
        go_wp2_with fail
        go_roundg j'
        case measure => omega
        case rel =>
          refine ⟨j', by omega, (Nat.zero_add _).symm, ?_, Hv.out, rfl⟩
          rcases Nat.eq_zero_or_pos j' with h0 | h0
          · left
            refine ⟨h0, congrArg (Value.int .i64) ?_⟩
            have := Hq2.out
            omega
          · right
            refine ⟨q - 2, by have := Hq2.out; omega, congrArg (Value.int .i64) ?_⟩
            have := Hq2.out
            omega

end Go.Proofs.YtahegjofooahkaaGreat
