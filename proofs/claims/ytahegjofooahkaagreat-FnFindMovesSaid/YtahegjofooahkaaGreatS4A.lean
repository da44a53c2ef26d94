/-
  The reference's states with buffers: l4Buffers, l4Place, l4Empty, l4Seen, l4Done, l4Start. The reference's states with buffers: l4Done, l4Start, l4Can. The reference's states with buffers: l4Do.
-/
import Derived.Test.YtahegjofooahkaaGreatS3X
import Derived.Test.YtahegjofooahkaaGreatBufA
import Derived.Test.YtahegjofooahkaaGreatRegR
import Derived.Test.YtahegjofooahkaaGreatTab

/-! The reference's states with buffers: l4Buffers, l4Place, l4Empty, l4Seen, l4Done, l4Start. The reference's states with buffers: l4Done, l4Start, l4Can. -/
/-! The reference's states with buffers: l4Buffers, l4Place, l4Empty, l4Seen, l4Done, l4Start. -/
namespace Go.Proofs.YtahegjofooahkaaGreat
open Go.RowKit
set_option linter.unusedVariables false
set_option maxRecDepth 100000

/-- A state with buffers, as the reference has it. -/
def s3B (b : BSt) : S3 := ⟨b.s.pc.map (fun n => ((n : Nat) : Int)), b.s.regs, b.s.mem, b.bufs.map flatW⟩
theorem s3B_len (b : BSt) : (s3B b).buf.length = b.bufs.length := by simp [s3B]
theorem s3B_buf {b : BSt} {k : Nat} (h : k < b.bufs.length) (h' : k < (s3B b).buf.length) : (s3B b).buf[k] = flatW (bufB b k) := by
  simp only [s3B, List.getElem_map]
  unfold bufB
  rw [List.getD_eq_getElem?_getD, List.getElem?_eq_getElem h]
  rfl
theorem s3B_at (b : BSt) (t : Nat) : (s3B b).at_.getD t 0 = ((pcS b.s t : Nat) : Int) := by
  unfold s3B pcS
  simp only [List.getD_eq_getElem?_getD, List.getElem?_map]
  cases b.s.pc[t]? <;> rfl
theorem flat_len : ∀ bf : List (Int × Int), (flatW bf).length = 2 * bf.length
  | [] => rfl
  | w :: bf => by
    have := flat_len bf
    unfold flatW at this ⊢
    simp only [List.flatMap_cons, List.length_append, List.length_cons, List.length_nil]
    omega
theorem flat_get : ∀ (bf : List (Int × Int)) (i : Nat) (h : i < bf.length), (flatW bf)[2 * i]? = some bf[i].1 ∧ (flatW bf)[2 * i + 1]? = some bf[i].2
  | w :: bf, 0, h => ⟨rfl, rfl⟩
  | w :: bf, i + 1, h => by
    have h1 := flat_get bf i (by simpa using h)
    rw [show 2 * (i + 1) = 2 * i + 1 + 1 by omega, show 2 * i + 1 + 1 + 1 = (2 * i + 1) + 1 + 1 by omega]
    exact h1
theorem s4_lens {p : Prg} {sp : Bool} (hp : PrgOk p) {b : BSt} (hb : BOk p sp b) : (s3B b).at_.length = p.length ∧ (s3B b).regs.length = p.length * 3 ∧ (s3B b).mem.length = 3 ∧ (s3B b).buf.length ≤ 9 ∧ ∀ xs ∈ (s3B b).buf, xs.length ≤ 14 := by
  refine ⟨by show (b.s.pc.map _).length = _; rw [List.length_map]; exact hb.ok.pcl, hb.ok.regl, hb.ok.meml, by rw [s3B_len, hb.len]; exact nBf_le hp sp, fun xs hx => ?_⟩
  obtain ⟨bf, h1, rfl⟩ := List.mem_map.1 hx
  have := bufs_sum hp hb bf h1
  rw [flat_len]
  omega
def nB (sp : Bool) : Nat := if sp = true then 3 else 1

theorem l4Buf_any (sp : Bool) (W : World) : Calls Tryz.prog 99 #[.bool sp] W (fun e w' => e = .returned (.int .i64 ((nB sp : Nat) : Int)) ∧ Below W.heap.size W w') := by
  go_enter Tryz.func99, Tryz.ntmps99
  cases sp
  · go_wp2_with fail
    go_ret
    exact ⟨rfl, Below.refl _ _⟩
  · go_wp2_with fail
    go_ret
    exact ⟨rfl, Below.refl _ _⟩
theorem l4Place_any (sp : Bool) (t l : Nat) (ht : t < 100) (hl : l < 3) (W : World) : Calls Tryz.prog 122 #[.int .i64 t, .int .i64 l, .bool sp] W (fun e w' => e = .returned (.int .i64 ((plB sp t l : Nat) : Int)) ∧ Below W.heap.size W w') := by
  go_enter Tryz.func122, Tryz.ntmps122
  cases sp
  · go_wp2_with fail
    go_ret
    exact ⟨by rw [show plB false t l = t from if_neg (by decide)]; rfl, Below.refl _ _⟩
  · go_wp2_with fail
    go_ret
    refine ⟨?_, Below.refl _ _⟩
    rw [show plB true t l = 3 * t + l from if_pos rfl]
    go_num

theorem pl_nB {sp : Bool} {t l : Nat} (hl : l < 3) : ∃ i, i < nB sp ∧ plB sp t l = t * nB sp + i := by
  cases sp
  · exact ⟨0, by decide, by rw [show plB false t l = t from if_neg (by decide)]; show t = t * 1 + 0; omega⟩
  · exact ⟨l, hl, by rw [show plB true t l = 3 * t + l from if_pos rfl]; show 3 * t + l = t * 3 + l; omega⟩
theorem nB_pl {sp : Bool} {t i : Nat} (hi : i < nB sp) : ∃ l, l < 3 ∧ plB sp t l = t * nB sp + i := by
  cases sp
  · have hi : i < 1 := hi
    exact ⟨0, by decide, by rw [show plB false t 0 = t from if_neg (by decide)]; show t = t * 1 + i; omega⟩
  · exact ⟨i, hi, by rw [show plB true t i = 3 * t + i from if_pos rfl]; show 3 * t + i = t * 3 + i; omega⟩

set_option maxHeartbeats 1500000 in
theorem l4Empty_any (p : Prg) (hp : PrgOk p) (sp : Bool) (b : BSt) (hb : BOk p sp b) (t : Nat) (ht : t < p.length) (W : World) (A1 A2 A3 A4 : Option Addr) (c1 c2 c3 c4 : Nat) (hr : Rep4 W A1 A2 A3 A4 c1 c2 c3 c4 (s3B b)) :
    Calls Tryz.prog 117 #[.agg #[.slice A1 (s3B b).at_.length c1, .slice A2 (s3B b).regs.length c2, .slice A3 (s3B b).mem.length c3, .slice A4 (s3B b).buf.length c4], .int .i64 t, .bool sp] W (RetB W (empB sp b t)) := by
  have h3 := hp.1.1
  have hb9 := (s4_lens hp hb).2.2.2.1
  obtain ⟨n1, hn1⟩ : ∃ n, n = (s3B b).at_.length := ⟨_, rfl⟩
  obtain ⟨n2, hn2⟩ : ∃ n, n = (s3B b).regs.length := ⟨_, rfl⟩
  obtain ⟨n3, hn3⟩ : ∃ n, n = (s3B b).mem.length := ⟨_, rfl⟩
  obtain ⟨n4, hn4⟩ : ∃ n, n = (s3B b).buf.length := ⟨_, rfl⟩
  rw [← hn1, ← hn2, ← hn3, ← hn4]
  obtain ⟨V, hV⟩ : ∃ V, V = W.alloc (.cells #[.slice A1 n1 c1, .slice A2 n2 c2, .slice A3 n3 c3, .slice A4 n4 c4] 70) := ⟨_, rfl⟩
  have hB : Below W.heap.size W V := by rw [hV]; exact (Below.refl _ _).alloc (Nat.le_refl _) _
  have oV : Own V W.heap.size 70 #[.slice A1 n1 c1, .slice A2 n2 c2, .slice A3 n3 c3, .slice A4 n4 c4] := by rw [hV]; exact Own.new _ _ _
  have q3 := oV.cell (i := 3) rfl
  have R4 := Lib.hid (hr.buf.le (Le.below hB))
  have hcl := l4Buf_any sp V
  obtain ⟨n, hn⟩ : ∃ n, n = nB sp := ⟨_, rfl⟩
  have hn13 : n ≤ 3 := by rw [hn]; unfold nB; split <;> omega
  have hnt : (t + 1) * n ≤ b.bufs.length := by
    rw [hb.len, hn]
    unfold nB nBf
    cases sp
    · rw [if_neg (by decide), if_neg (by decide)]; omega
    · rw [if_pos rfl, if_pos rfl]; omega
  rw [← hn] at hcl
  have HT : Hid ((∀ i, i < n → bufB b (t * n + i) = []) → empB sp b t = true) := fun h => buf_emp fun l hl => by
    obtain ⟨i, h1, h2⟩ := pl_nB (sp := sp) (t := t) hl
    rw [h2, ← hn]
    exact h i (by rw [hn]; exact h1)
  have HF : Hid (∀ i, i < n → bufB b (t * n + i) ≠ [] → empB sp b t = false) := fun i hi h => by
    obtain ⟨l, h1, h2⟩ := nB_pl (sp := sp) (t := t) (i := i) (by rw [← hn]; exact hi)
    cases he : empB sp b t with
    | false => rfl
    | true => exact absurd (emp_buf he h1) (by rw [h2, ← hn]; exact h)
  have Hn4 : Hid (n4 = b.bufs.length) := by show _ = _; rw [hn4, s3B_len]
  have Hbl : Hid (∀ k (h : k < b.bufs.length) (h' : k < (s3B b).buf.length), (s3B b).buf[k] = flatW (bufB b k)) := fun k h h' => s3B_buf h h'
  have hnt' : (t + 1) * n ≤ n4 := by rw [Hn4.out]; exact hnt
  have hb9' : n4 ≤ 9 := by rw [hn4]; exact hb9
  rw [Nat.add_mul, Nat.one_mul] at hnt'
  clear hr hn1 hn2 hn3 hn4 hn hnt oV hb9
  obtain ⟨m, hm⟩ : ∃ m, m = t * n := ⟨_, rfl⟩
  rw [← hm] at HT HF hnt'
  have hmul : (t : Int) * (n : Int) = (m : Int) := by rw [hm]; simp
  clear hm
  go_enter Tryz.func117, Tryz.ntmps117
  go_upto_region 1 with (fail)
  rw [← hV]
  clear hV
  go_wp2_with fail
  refine hcl.mono ?_
  rintro e1 w1 ⟨rfl, hb1⟩
  clear hcl
  go_wp2_with fail
  go_loopg [8] n (fun g s8 wr => ∃ i : Nat, i ≤ n ∧ g = n - i ∧ s8 = .int .i64 i ∧ Hid (∀ j, j < i → bufB b (m + j) = []) ∧ Below V.heap.size V wr)
  case atStart => exact ⟨0, Nat.zero_le _, rfl, rfl, fun j h => absurd h (Nat.not_lt_zero _), hb1⟩
  case round =>
    obtain ⟨wo, rfl⟩ : ∃ wo : World, wo = wr := ⟨_, rfl⟩
    clear hb1
    obtain ⟨i, hi, rfl, rfl, hall, hb1⟩ := hrel
    by_cases hlt : i < n
    · have hk : m + i < (s3B b).buf.length := by rw [s3B_len, ← Hn4.out]; omega
      obtain ⟨bb, oo, Aj, cj, e4, hbb, hc0, -⟩ := R4.out.get hk
      subst e4
      rw [Hbl.out (m + i) (by rw [← Hn4.out]; omega) hk, flat_len] at hc0
      have hc0 := Le.below hb1 _ _ hc0
      have p3 := Le.below hb1 _ _ q3
      have Hb : Hid (bufB b (m + i) ≠ [] → empB sp b t = false) := HF.out i hlt
      have Hnext : Hid (bufB b (m + i) = [] → ∀ j, j < i + 1 → bufB b (m + j) = []) := fun h j hj => by
        rcases Nat.lt_succ_iff_lt_or_eq.1 hj with h' | h'
        · exact hall.out j h'
        · rw [h']; exact h
      have hki : ((m + i : Nat) : Int) < (n4 : Int) := by omega
      have hcast : (m : Int) + (i : Int) = ((m + i : Nat) : Int) := by omega
      have hi3 : ((i : Int) < (n : Int)) := by omega
      obtain ⟨k, hkk⟩ : ∃ k, k = m + i := ⟨_, rfl⟩
      rw [← hkk] at hc0 Hb Hnext hki hcast
      have hc0' : wo.cell? ⟨bb, oo + k, none⟩ = some (.slice Aj (2 * (bufB b k).length) cj) := by rw [hkk]; rw [hkk] at hc0; exact hc0
      have Hlen : Hid ((bufB b k).length = 0 → bufB b k = []) := List.length_eq_zero_iff.1
      have Hlen' : Hid (0 < (bufB b k).length → bufB b k ≠ []) := fun h e => by rw [e] at h; exact Nat.lt_irrefl 0 h
      generalize (bufB b k).length = q at hc0' Hlen Hlen'
      clear hc0 hkk hk
      by_cases hq : 0 < q
      · have hd : decide ((0 : Int) < ((2 * q : Nat) : Int)) = true := by rw [decide_eq_true_iff]; omega
        have Hr : Hid (empB sp b t = false) := Hb.out (Hlen'.out hq)
        go_wp2_with fail
        go_ret
        exact ⟨by rw [Hr.out]; rfl, hB.trans (hb1.mono hB.size)⟩
      · have hd : decide ((0 : Int) < ((2 * q : Nat) : Int)) = false := by rw [decide_eq_false_iff_not]; omega
        have Hall : Hid (∀ j, j < i + 1 → bufB b (m + j) = []) := Hnext.out (Hlen.out (by omega))
        go_wp2_with fail
        go_roundg (n - (i + 1))
        case measure => omega
        case rel => exact ⟨i + 1, by omega, rfl, by go_num, Hall.out, hb1⟩
    · obtain rfl : i = n := by omega
      have Hd : Hid (empB sp b t = true) := HT.out hall.out
      clear hall
      go_wp2_with fail
      go_ret
      exact ⟨by rw [Hd.out]; rfl, hB.trans (hb1.mono hB.size)⟩

theorem seen_take {bf : List (Int × Int)} {l m : Int} {j : Nat} (hj : j < bf.length) : seenB (bf.take (j + 1)) l m = if bf[j].1 = l then bf[j].2 else seenB (bf.take j) l m := by
  rw [List.take_succ_eq_append_getElem hj, seen_snoc]

set_option maxHeartbeats 1500000 in
theorem l4Seen_any (p : Prg) (hp : PrgOk p) (sp : Bool) (b : BSt) (hb : BOk p sp b) (t l : Nat) (ht : t < p.length) (hl : l < 3) (W : World) (A1 A2 A3 A4 : Option Addr) (c1 c2 c3 c4 : Nat) (hr : Rep4 W A1 A2 A3 A4 c1 c2 c3 c4 (s3B b)) :
    Calls Tryz.prog 120 #[.agg #[.slice A1 (s3B b).at_.length c1, .slice A2 (s3B b).regs.length c2, .slice A3 (s3B b).mem.length c3, .slice A4 (s3B b).buf.length c4], .int .i64 t, .int .i64 l, .bool sp] W (fun e W' => e = .returned (.int .i64 (seenB (bufB b (plB sp t l)) (l : Int) (b.s.mem.getD l 0))) ∧ Below W.heap.size W W') := by
  have h3 := hp.1.1
  obtain ⟨n1, hn1⟩ : ∃ n, n = (s3B b).at_.length := ⟨_, rfl⟩
  obtain ⟨n2, hn2⟩ : ∃ n, n = (s3B b).regs.length := ⟨_, rfl⟩
  obtain ⟨n4, hn4⟩ : ∃ n, n = (s3B b).buf.length := ⟨_, rfl⟩
  have hn3 : (s3B b).mem.length = 3 := (s4_lens hp hb).2.2.1
  have hk : plB sp t l < (s3B b).buf.length := by rw [s3B_len, hb.len]; exact pl_lt ht hl
  have hkb : plB sp t l < b.bufs.length := by rw [hb.len]; exact pl_lt ht hl
  rw [← hn1, ← hn2, hn3, ← hn4]
  obtain ⟨V, hV⟩ : ∃ V, V = W.alloc (.cells #[.slice A1 n1 c1, .slice A2 n2 c2, .slice A3 3 c3, .slice A4 n4 c4] 70) := ⟨_, rfl⟩
  have hB : Below W.heap.size W V := by rw [hV]; exact (Below.refl _ _).alloc (Nat.le_refl _) _
  have oV : Own V W.heap.size 70 #[.slice A1 n1 c1, .slice A2 n2 c2, .slice A3 3 c3, .slice A4 n4 c4] := by rw [hV]; exact Own.new _ _ _
  have q2 := oV.cell (i := 2) rfl
  have q3 := oV.cell (i := 3) rfl
  have hWV := oV.lt
  obtain ⟨bb, oo, Aj, cj, e4, hbb, hc0, hrow⟩ := (hr.buf.le (Le.below hB)).get hk
  subst e4
  obtain ⟨bm, om, e3, hbm, hm0⟩ := (hr.mem.le (Le.below hB)).get (i := l) (by rw [hn3]; exact hl)
  subst e3
  rw [s3B_buf hkb hk] at hc0 hrow
  rw [flat_len] at hc0
  have hmv : (s3B b).mem[l]'(by rw [hn3]; exact hl) = b.s.mem.getD l 0 := by
    show b.s.mem[l]'_ = _
    rw [List.getD_eq_getElem?_getD, List.getElem?_eq_getElem (by rw [hb.ok.meml]; exact hl)]
    rfl
  rw [hmv] at hm0
  have hki : ((plB sp t l : Nat) : Int) < (n4 : Int) := by omega
  have Hc : Hid (∀ U, Below V.heap.size V U → Calls Tryz.prog 122 #[.int .i64 t, .int .i64 l, .bool sp] U (fun e U' => e = .returned (.int .i64 ((plB sp t l : Nat) : Int)) ∧ Below U.heap.size U U')) := fun U hU => l4Place_any sp t l (by omega) hl U
  generalize plB sp t l = k at hc0 hrow hki Hc
  generalize b.s.mem.getD l 0 = mv at hm0
  have hbf7 : (bufB b k).length ≤ 7 := hb.short7 hp k
  generalize hbf : bufB b k = bf at hc0 hrow hbf7
  have Hrow := Lib.hid hrow
  obtain ⟨N, hN⟩ : ∃ N, N = 2 * bf.length := ⟨_, rfl⟩
  rw [← hN] at hc0
  have hN14 : N ≤ 14 := by omega
  have HN := Lib.hid hN
  have hli : (l : Int) < 3 := by omega
  clear hr hn1 hn2 hn4 hn3 hk hkb oV hrow hmv hbf hN
  have f0 := fun n : Ext V => n.le _ _ q3
  have f1 := fun n : Ext V => n.le _ _ hc0
  go_enter Tryz.func120, Tryz.ntmps120
  go_upto_region 1 with (fail)
  rw [← hV]
  clear hV
  refine wp_region_ext _ (by kernel_rfl) (by kernel_rfl) (Below.refl _ _) ?_
  repeat (go_big_quiet_step ((go_at_call 122; with_reducible exact Ext.call _ Hc.out)))
  refine wpQuiet_nil ?_
  rintro wn ⟨⟨_, hbn⟩, rfl⟩
  clear f0 f1
  have q2n := Le.below hbn _ _ q2
  have m0n := Le.below hbn _ _ hm0
  have Hrown : Hid (Ints wn Aj cj (flatW bf)) := Hrow.out.le (Le.below hbn)
  have hBn := hB.trans (hbn.mono hB.size)
  have hsn := hbn.size
  clear q2 q3 hm0 hc0 Hrow
  go_wp2_with fail
  go_loopg [10] bf.length (fun g s10 wr => ∃ j : Nat, j ≤ bf.length ∧ g = 0 + j ∧ ((j = 0 ∧ s10 = .int .i64 (-2)) ∨ ∃ q : Nat, q + 2 = 2 * j ∧ s10 = .int .i64 (q : Int)) ∧ Hid (seenB bf (l : Int) mv = seenB (bf.take j) (l : Int) mv) ∧ wn = wr)
  case atStart =>
    refine ⟨bf.length, Nat.le_refl _, (Nat.zero_add _).symm, ?_, by show _ = _; rw [List.take_length], rfl⟩
    rcases Nat.eq_zero_or_pos bf.length with h0 | h0
    · left
      refine ⟨h0, ?_⟩
      have : N = 0 := by rw [HN.out, h0]
      rw [this]
      rfl
    · right
      refine ⟨N - 2, by have := HN.out; omega, congrArg (Value.int .i64) ?_⟩
      have := HN.out
      omega
  case round =>
    obtain ⟨j, hj, rfl, hs, hseen, rfl⟩ := hrel
    rcases hs with ⟨rfl, rfl⟩ | ⟨q, hq, rfl⟩
    · have Hv : Hid (seenB bf (l : Int) mv = mv) := by show _ = _; rw [hseen.out]; rfl
      clear hseen
      go_wp2_with fail
      go_ret
      exact ⟨by rw [Hv.out]; rfl, hBn⟩
    · obtain ⟨j', rfl⟩ : ∃ j', j = j' + 1 := ⟨j - 1, by omega⟩
      have hq2 : q = 2 * j' := by omega
      have hjl : j' < bf.length := by omega
      have Hst := Lib.hid (seen_take (l := (l : Int)) (m := mv) hjl)
      have hg := flat_get bf j' hjl
      rw [← hq2] at hg
      have hql : q + 1 < (flatW bf).length := by rw [flat_len]; omega
      obtain ⟨b1, o1, e1, hb1, hcq⟩ := Hrown.out.get (i := q) (by omega)
      subst e1
      obtain ⟨b1', o1', e1, _, hcq1⟩ := Hrown.out.get (i := q + 1) hql
      injection e1 with e1
      injection e1 with e1 e2
      subst e1 e2
      have g1 : (flatW bf)[q] = bf[j'].1 := by have h := hg.1; rw [List.getElem?_eq_getElem (by omega)] at h; injection h
      have g2 : (flatW bf)[q + 1] = bf[j'].2 := by have h := hg.2; rw [List.getElem?_eq_getElem hql] at h; injection h
      rw [g1] at hcq
      rw [g2] at hcq1
      have hqN : (q : Int) + 1 < (N : Int) := by have := HN.out; omega
      have hqN0 : (q : Int) < (N : Int) := by omega
      have Hs0 := Lib.hid hseen.out
      clear hseen hg g1 g2 hql
      generalize bf[j'].1 = x1 at hcq Hst
      generalize bf[j'].2 = x2 at hcq1 Hst
      by_cases he : x1 = (l : Int)
      · have hd : (x1 == (l : Int)) = true := by rw [beq_iff_eq]; exact he
        have Hv : Hid (seenB bf (l : Int) mv = x2) := by show _ = _; rw [Hs0.out, Hst.out, if_pos he]
        clear he hq2
        go_wp2_with fail
        go_ret
        exact ⟨by rw [Hv.out]; rfl, hBn⟩
      · have hd : (x1 == (l : Int)) = false := by rw [beq_eq_false_iff_ne]; exact he
        have Hv : Hid (seenB bf (l : Int) mv = seenB (bf.take j') (l : Int) mv) := by show _ = _; rw [Hs0.out, Hst.out, if_neg he]
        have Hq2 := Lib.hid hq2
        clear he hq2 hq
        go_wp2_with fail
        go_roundg j'
        case measure => omega
        case rel =>
          refine ⟨j', by omega, (Nat.zero_add _).symm, ?_, Hv.out, rfl⟩
          rcases Nat.eq_zero_or_pos j' with h0 | h0
          · left
            refine ⟨h0, congrArg (Value.int .i64) ?_⟩
            have := Hq2.out
            omega
          · right
            refine ⟨q - 2, by have := Hq2.out; omega, congrArg (Value.int .i64) ?_⟩
            have := Hq2.out
            omega

end Go.Proofs.YtahegjofooahkaaGreat

/-! The reference's states with buffers: l4Done, l4Start, l4Can. -/
namespace Go.Proofs.YtahegjofooahkaaGreat
open Go.RowKit
set_option linter.unusedVariables false
set_option maxRecDepth 100000

theorem on3_B {p : Prg} {b : BSt} {t : Nat} : on3 p (s3B b) t = onS p b.s t := by
  unfold on3 onS
  rw [s3B_at]
  by_cases h : pcS b.s t < (thrP p t).length
  · rw [decide_eq_true h, decide_eq_true (by omega)]
  · rw [decide_eq_false h, decide_eq_false (by omega)]
theorem done3_B {p : Prg} {b : BSt} : done3 p (s3B b) = doneS p b.s := by
  unfold done3 doneS
  congr 1
  funext t
  rw [on3_B]
theorem doneB_of {p : Prg} {b : BSt} (h : ∀ k, k < b.bufs.length → bufB b k = []) : doneB p b = doneS p b.s := by
  have : b.bufs.all List.isEmpty = true := by
    rw [List.all_eq_true]
    intro x hx
    obtain ⟨k, hk, rfl⟩ := List.getElem_of_mem hx
    have := h k hk
    unfold bufB at this
    rw [List.getD_eq_getElem?_getD, List.getElem?_eq_getElem hk] at this
    exact List.isEmpty_iff.2 this
  unfold doneB
  rw [this, Bool.and_true]
theorem doneB_not {p : Prg} {b : BSt} {k : Nat} (h : bufB b k ≠ []) : doneB p b = false := by
  cases hd : doneB p b with
  | false => rfl
  | true => exact absurd (done_bufs hd k) h

set_option maxHeartbeats 1500000 in
theorem l4Done_any (p : Prg) (hp : PrgOk p) (sp : Bool) (b : BSt) (hb : BOk p sp b) (W : World) (vp : Value) (hpr : PrgS W vp p) (A1 A2 A3 A4 : Option Addr) (c1 c2 c3 c4 : Nat) (hr : Rep4 W A1 A2 A3 A4 c1 c2 c3 c4 (s3B b)) :
    Calls Tryz.prog 73 #[vp, .agg #[.slice A1 (s3B b).at_.length c1, .slice A2 (s3B b).regs.length c2, .slice A3 (s3B b).mem.length c3, .slice A4 (s3B b).buf.length c4]] W (RetB W (doneB p b)) := by
  obtain ⟨Ap, cp, rfl, hpl⟩ := SlR.slice hpr
  have hb9 := (s4_lens hp hb).2.2.2.1
  have hl1 := (s4_lens hp hb).1
  obtain ⟨n1, hn1⟩ : ∃ n, n = (s3B b).at_.length := ⟨_, rfl⟩
  obtain ⟨n2, hn2⟩ : ∃ n, n = (s3B b).regs.length := ⟨_, rfl⟩
  obtain ⟨n3, hn3⟩ : ∃ n, n = (s3B b).mem.length := ⟨_, rfl⟩
  obtain ⟨n4, hn4⟩ : ∃ n, n = (s3B b).buf.length := ⟨_, rfl⟩
  have HD : Hid (∀ U, Le W U → Calls Tryz.prog 105 #[.slice Ap p.length cp, .agg #[.slice A1 n1 c1, .slice A2 n2 c2, .slice A3 n3 c3, .slice A4 n4 c4]] U (RetB U (doneS p b.s))) := fun U hU => by
    have h := l3Done_any p (s3B b) hl1 U _ (PrgS.le hpr hU) A1 A2 A3 A4 c1 c2 c3 c4 (hr.le hU)
    rw [done3_B] at h
    rw [hn1, hn2, hn3, hn4]
    exact h
  rw [← hn1, ← hn2, ← hn3, ← hn4]
  obtain ⟨V, hV⟩ : ∃ V, V = W.alloc (.cells #[.slice A1 n1 c1, .slice A2 n2 c2, .slice A3 n3 c3, .slice A4 n4 c4] 70) := ⟨_, rfl⟩
  have hB : Below W.heap.size W V := by rw [hV]; exact (Below.refl _ _).alloc (Nat.le_refl _) _
  have oV : Own V W.heap.size 70 #[.slice A1 n1 c1, .slice A2 n2 c2, .slice A3 n3 c3, .slice A4 n4 c4] := by rw [hV]; exact Own.new _ _ _
  have q0 := oV.cell (i := 0) rfl
  have q1 := oV.cell (i := 1) rfl
  have q2 := oV.cell (i := 2) rfl
  have q3 := oV.cell (i := 3) rfl
  have R4 := Lib.hid (hr.buf.le (Le.below hB))
  have Hn4 : Hid (n4 = b.bufs.length) := by show _ = _; rw [hn4, s3B_len]
  have Hbl : Hid (∀ k (h : k < b.bufs.length) (h' : k < (s3B b).buf.length), (s3B b).buf[k] = flatW (bufB b k)) := fun k h h' => s3B_buf h h'
  have HT : Hid ((∀ i, i < n4 → bufB b i = []) → doneB p b = doneS p b.s) := fun h => doneB_of fun k hk => h k (by rw [Hn4.out]; exact hk)
  have HF : Hid (∀ i, i < n4 → bufB b i ≠ [] → doneB p b = false) := fun i hi h => doneB_not h
  have hb9' : n4 ≤ 9 := by rw [hn4]; exact hb9
  clear hr hn1 hn2 hn3 hn4 oV hb9 hpr hl1
  go_enter Tryz.func73, Tryz.ntmps73
  go_upto_region 1 with (fail)
  rw [← hV]
  clear hV
  go_wp2_with fail
  go_loopg [5] n4 (fun g s5 wr => ∃ i : Nat, i ≤ n4 ∧ g = n4 - i ∧ s5 = .int .i64 i ∧ Hid (∀ j, j < i → bufB b j = []) ∧ V = wr)
  case atStart => exact ⟨0, Nat.zero_le _, rfl, rfl, fun j h => absurd h (Nat.not_lt_zero _), rfl⟩
  case round =>
    obtain ⟨i, hi, rfl, rfl, hall, rfl⟩ := hrel
    by_cases hlt : i < n4
    · have hk : i < (s3B b).buf.length := by rw [s3B_len, ← Hn4.out]; omega
      obtain ⟨bb, oo, Aj, cj, e4, hbb, hc0, -⟩ := R4.out.get hk
      subst e4
      rw [Hbl.out i (by rw [← Hn4.out]; omega) hk, flat_len] at hc0
      have Hb : Hid (bufB b i ≠ [] → doneB p b = false) := HF.out i hlt
      have Hnext : Hid (bufB b i = [] → ∀ j, j < i + 1 → bufB b j = []) := fun h j hj => by
        rcases Nat.lt_succ_iff_lt_or_eq.1 hj with h' | h'
        · exact hall.out j h'
        · rw [h']; exact h
      have hki : (i : Int) < (n4 : Int) := by omega
      have Hlen : Hid ((bufB b i).length = 0 → bufB b i = []) := List.length_eq_zero_iff.1
      have Hlen' : Hid (0 < (bufB b i).length → bufB b i ≠ []) := fun h e => by rw [e] at h; exact Nat.lt_irrefl 0 h
      generalize (bufB b i).length = q at hc0 Hlen Hlen'
      by_cases hq : 0 < q
      · have hd : decide ((0 : Int) < ((2 * q : Nat) : Int)) = true := by rw [decide_eq_true_iff]; omega
        have Hr : Hid (doneB p b = false) := Hb.out (Hlen'.out hq)
        go_wp2_with fail
        go_ret
        exact ⟨by rw [Hr.out]; rfl, hB⟩
      · have hd : decide ((0 : Int) < ((2 * q : Nat) : Int)) = false := by rw [decide_eq_false_iff_not]; omega
        have Hall : Hid (∀ j, j < i + 1 → bufB b j = []) := Hnext.out (Hlen.out (by omega))
        go_wp2_with fail
        go_roundg (n4 - (i + 1))
        case measure => omega
        case rel => exact ⟨i + 1, by omega, rfl, by go_num, Hall.out, rfl⟩
    · obtain rfl : i = n4 := by omega
      have Hd : Hid (doneB p b = doneS p b.s) := HT.out hall.out
      have hdn := HD.out V (Le.below hB)
      clear hall
      go_wp2_with fail
      refine hdn.mono ?_
      rintro e5 w5 ⟨rfl, hb5⟩
      go_wp2_with fail
      go_ret
      exact ⟨by rw [Hd.out]; rfl, hB.trans (hb5.mono hB.size)⟩

theorem s30_B (p : Prg) (sp : Bool) : s30 p.length (nBf p sp) = s3B (bt0 p sp) := by
  unfold s30 s3B bt0 st0
  simp [flatW]
theorem Rep4.setR {B R : Nat} {w : World} {A1 A2 A3 A4 : Option Addr} {c1 c2 c3 c4 : Nat} {s : S3} (h : Rep4 (above B w) A1 A2 A3 A4 c1 c2 c3 c4 s) (hR : R < B) (v0 v1 v2 v3 : Value) : Rep4 (above B ((((w.setCell ⟨R, 0, none⟩ v0).setCell ⟨R, 1, none⟩ v1).setCell ⟨R, 2, none⟩ v2).setCell ⟨R, 3, none⟩ v3)) A1 A2 A3 A4 c1 c2 c3 c4 s :=
  h.le (((((Le.refl _).to_above_setCell (by exact hR)).to_above_setCell (by exact hR)).to_above_setCell (by exact hR)).to_above_setCell (by exact hR))

set_option maxHeartbeats 1500000 in
theorem l4Start_any (p : Prg) (hp : PrgOk p) (sp : Bool) (W : World) (vp : Value) (hpr : PrgS W vp p) :
    Calls Tryz.prog 57 #[vp, .bool sp] W (RetS4 W (s3B (bt0 p sp))) := by
  obtain ⟨Ap, cp, rfl, hpl⟩ := SlR.slice hpr
  have h3 := hp.1.1
  obtain ⟨V, hV⟩ : ∃ V, V = W.alloc (.cells #[.slice none 0 0, .slice none 0 0, .slice none 0 0, .slice none 0 0] 70) := ⟨_, rfl⟩
  have hB : Below W.heap.size W V := by rw [hV]; exact (Below.refl _ _).alloc (Nat.le_refl _) _
  have hVs : V.heap.size = W.heap.size + 1 := by rw [hV]; simp
  have oV : Own V W.heap.size 70 #[.slice none 0 0, .slice none 0 0, .slice none 0 0, .slice none 0 0] := by rw [hV]; exact Own.new _ _ _
  have hcl := l4Buf_any sp V
  have Hst : Hid (∀ U, Le W U → Calls Tryz.prog 98 #[.slice Ap p.length cp, .int .i64 ((nBf p sp : Nat) : Int)] U (RetS4 U (s3B (bt0 p sp)))) := fun U hU => by
    have h := l3Start_any p (by omega) (nBf p sp) (by have := nBf_le hp sp; omega) U _ (PrgS.le hpr hU)
    rw [s30_B] at h
    exact h
  have hmul : (p.length : Int) * ((nB sp : Nat) : Int) = ((nBf p sp : Nat) : Int) := by
    unfold nB nBf
    cases sp
    · rw [if_neg (by decide), if_neg (by decide)]; omega
    · rw [if_pos rfl, if_pos rfl]; omega
  have HV := Lib.hid (And.intro hVs oV)
  have hnb9 := nBf_le hp sp
  generalize nB sp = nb at hcl hmul
  generalize nBf p sp = nf at Hst hmul hnb9
  clear hpr hVs oV
  go_enter Tryz.func57, Tryz.ntmps57
  go_upto_region 1 with (fail)
  rw [← hV]
  clear hV
  go_wp2_with fail
  refine hcl.mono ?_
  rintro e1 w1 ⟨rfl, hb1⟩
  have hst := Hst.out w1 ((Le.below hB).trans (Le.below hb1))
  have hB1 := hB.trans (hb1.mono hB.size)
  clear hcl
  go_wp2_with fail
  refine hst.mono ?_
  rintro e2 w2 ⟨A1, A2, A3, A4, c1, c2, c3, c4, rfl, hr2, hb2⟩
  have hB2 := hB1.trans (hb2.mono hB1.size)
  have hbV2 : Below V.heap.size V w2 := hb1.trans (hb2.mono hb1.size)
  have oR := HV.out.2.under hbV2
  have p0 := oR.cell (i := 0) rfl
  have p1 := oR.cell (i := 1) rfl
  have p2 := oR.cell (i := 2) rfl
  have p3 := oR.cell (i := 3) rfl
  have g0 := oR.frozen 0
  have g1 := oR.frozen 1
  have g2 := oR.frozen 2
  have g3 := oR.frozen 3
  have hR := oR.lt
  have Hr2 := Lib.hid hr2
  have Hs1 : Hid (W.heap.size < w1.heap.size) := by have h1 := hb1.size; have h2 := HV.out.1; show _ < _; omega
  clear hst hr2 oR
  go_wp2_with fail
  refine bodyPost_ret (v := .agg #[.slice A1 (s3B (bt0 p sp)).at_.length c1, .slice A2 (s3B (bt0 p sp)).regs.length c2, .slice A3 (s3B (bt0 p sp)).mem.length c3, .slice A4 (s3B (bt0 p sp)).buf.length c4]) (by simp [results, Tryz.results57, go_sem, p0, p1, p2, p3]) rfl ?_
  exact ⟨A1, A2, A3, A4, c1, c2, c3, c4, rfl, (Hr2.out.setR Hs1.out _ _ _ _).le (Le.above_mono hB1.size _), (((hB2.setCell (Nat.le_refl _) _).setCell (Nat.le_refl _) _).setCell (Nat.le_refl _) _).setCell (Nat.le_refl _) _⟩

/-- May a move be made? Any number. -/
def can4 (p : Prg) (sp : Bool) (b : BSt) (m : Int) : Bool := decide (0 ≤ m) && canB p sp b m.toNat
theorem can4_neg {p : Prg} {sp : Bool} {b : BSt} {m : Int} (h : m < 0) : can4 p sp b m = false := by
  unfold can4
  rw [decide_eq_false (by omega), Bool.false_and]
theorem can4_nat (p : Prg) (sp : Bool) (b : BSt) (m : Nat) : can4 p sp b (m : Int) = canB p sp b m := by
  unfold can4
  rw [decide_eq_true (by omega), Bool.true_and]
  rfl
theorem canB_big {p : Prg} {sp : Bool} {b : BSt} {m : Nat} (h : p.length + b.bufs.length ≤ m) : canB p sp b m = false := by
  unfold canB
  rw [if_neg (by omega), buf_out (by omega)]
  rfl
theorem canB_buf {p : Prg} {sp : Bool} {b : BSt} {k : Nat} : canB p sp b (p.length + k) = decide (0 < (bufB b k).length) := by
  unfold canB
  rw [if_neg (by omega), Nat.add_sub_cancel_left]
  cases bufB b k <;> simp
theorem canB_off {p : Prg} {sp : Bool} {b : BSt} {m : Nat} (hm : m < p.length) (h : ¬ pcS b.s m < (thrP p m).length) : canB p sp b m = false := by
  unfold canB onS
  rw [if_pos hm, decide_eq_false h, Bool.false_and]
theorem canB_on {p : Prg} {sp : Bool} {b : BSt} {m : Nat} (hm : m < p.length) (h : pcS b.s m < (thrP p m).length) : canB p sp b m = (!blkI (insS p b.s m) || empB sp b m) := by
  unfold canB onS
  rw [if_pos hm, decide_eq_true h, Bool.true_and]

set_option maxHeartbeats 3000000 in
theorem l4Can_any (p : Prg) (hp : PrgOk p) (sp : Bool) (b : BSt) (hb : BOk p sp b) (mi : Int) (W : World) (vp : Value) (hpr : PrgS W vp p) (A1 A2 A3 A4 : Option Addr) (c1 c2 c3 c4 : Nat) (hr : Rep4 W A1 A2 A3 A4 c1 c2 c3 c4 (s3B b)) :
    Calls Tryz.prog 89 #[vp, .agg #[.slice A1 (s3B b).at_.length c1, .slice A2 (s3B b).regs.length c2, .slice A3 (s3B b).mem.length c3, .slice A4 (s3B b).buf.length c4], .bool sp, .int .i64 mi] W (RetB W (can4 p sp b mi)) := by
  obtain ⟨Ap, cp, rfl, hpl⟩ := SlR.slice hpr
  have h3 := hp.1.1
  have hb9 := (s4_lens hp hb).2.2.2.1
  have hl1 := (s4_lens hp hb).1
  obtain ⟨n2, hn2⟩ : ∃ n, n = (s3B b).regs.length := ⟨_, rfl⟩
  obtain ⟨n3, hn3⟩ : ∃ n, n = (s3B b).mem.length := ⟨_, rfl⟩
  have hn4 := s3B_len b
  have HE : Hid (∀ (t : Nat) U, t < p.length → Le W U → Calls Tryz.prog 117 #[.agg #[.slice A1 p.length c1, .slice A2 n2 c2, .slice A3 n3 c3, .slice A4 b.bufs.length c4], .int .i64 t, .bool sp] U (RetB U (empB sp b t))) := fun t U ht hU => by
    have h := l4Empty_any p hp sp b hb t ht U A1 A2 A3 A4 c1 c2 c3 c4 (hr.le hU)
    rw [hl1, ← hn2, ← hn3, hn4] at h
    exact h
  rw [hl1, ← hn2, ← hn3, hn4]
  obtain ⟨V, hV⟩ : ∃ V, V = W.alloc (.cells #[.slice A1 p.length c1, .slice A2 n2 c2, .slice A3 n3 c3, .slice A4 b.bufs.length c4] 70) := ⟨_, rfl⟩
  have hB : Below W.heap.size W V := by rw [hV]; exact (Below.refl _ _).alloc (Nat.le_refl _) _
  have oV : Own V W.heap.size 70 #[.slice A1 p.length c1, .slice A2 n2 c2, .slice A3 n3 c3, .slice A4 b.bufs.length c4] := by rw [hV]; exact Own.new _ _ _
  have q0 := oV.cell (i := 0) rfl
  have q1 := oV.cell (i := 1) rfl
  have q2 := oV.cell (i := 2) rfl
  have q3 := oV.cell (i := 3) rfl
  have hWV := oV.lt
  have R1 := Lib.hid (hr.at_.le (Le.below hB))
  have R4 := Lib.hid (hr.buf.le (Le.below hB))
  have RP := Lib.hid (PrgS.le hpr (Le.below hB))
  have HL1 := Lib.hid hl1
  have HL4 := Lib.hid hn4
  have OV := Lib.hid oV
  rw [hn4] at hb9
  clear hr hpr hl1 hn2 hn3 hn4 oV
  go_enter Tryz.func89, Tryz.ntmps89
  go_upto_region 1 with (fail)
  rw [← hV]
  clear hV
  by_cases hneg : mi < 0
  · have hd : decide (mi < 0) = true := by rw [decide_eq_true_iff]; exact hneg
    have Hc : Hid (can4 p sp b mi = false) := can4_neg hneg
    go_wp2_with fail
    go_ret
    exact ⟨by rw [Hc.out]; rfl, hB⟩
  obtain ⟨m, rfl⟩ : ∃ m : Nat, mi = (m : Int) := ⟨mi.toNat, by omega⟩
  clear hneg
  by_cases hbig : p.length + b.bufs.length ≤ m
  · have Hc : Hid (canB p sp b m = false) := canB_big hbig
    have hd : decide ((p.length : Int) + (b.bufs.length : Int) ≤ (m : Int)) = true := by rw [decide_eq_true_iff]; omega
    have hd2 : decide (p.length + b.bufs.length ≤ m) = true := by rw [decide_eq_true_iff]; omega
    go_wp2_with fail
    go_ret
    exact ⟨by rw [can4_nat, Hc.out]; rfl, hB⟩
  have hd : decide ((p.length : Int) + (b.bufs.length : Int) ≤ (m : Int)) = false := by rw [decide_eq_false_iff_not]; omega
  have hd2 : decide (p.length + b.bufs.length ≤ m) = false := by rw [decide_eq_false_iff_not]; omega
  by_cases hml : p.length ≤ m
  · obtain ⟨k, rfl⟩ : ∃ k, m = p.length + k := ⟨m - p.length, by omega⟩
    have Hcn : Hid (can4 p sp b ((p.length + k : Nat) : Int) = decide (0 < (bufB b k).length)) := by show _ = _; rw [can4_nat, canB_buf]
    have hk : k < (s3B b).buf.length := by rw [s3B_len]; omega
    obtain ⟨bb, oo, Aj, cj, e4, hbb, hc0, -⟩ := R4.out.get hk
    subst e4
    rw [s3B_buf (by omega) hk, flat_len] at hc0
    have hki : (k : Int) < (b.bufs.length : Int) := by omega
    have hsub : ((p.length + k : Nat) : Int) - (p.length : Int) = (k : Int) := by omega
    have hd3 : decide ((p.length : Int) ≤ ((p.length + k : Nat) : Int)) = true := by rw [decide_eq_true_iff]; omega
    have hd4 : decide ((0 : Int) < 2 * (((bufB b k).length : Nat) : Int)) = decide (0 < (bufB b k).length) := by
      rcases Nat.eq_zero_or_pos (bufB b k).length with h | h
      · rw [decide_eq_false (by omega), decide_eq_false (by omega)]
      · rw [decide_eq_true (by omega), decide_eq_true (by omega)]
    obtain ⟨m, hm⟩ : ∃ m : Int, m = ((p.length + k : Nat) : Int) := ⟨_, rfl⟩
    have hm0 : decide (m < 0) = false := by rw [decide_eq_false_iff_not]; omega
    rw [← hm] at hd hsub hd3 ⊢
    have Hd4 := Lib.hid hd4
    generalize (bufB b k).length = q at hc0 hd4 Hd4 Hcn
    clear hm hd2 hbig hml hk hd4
    go_wp2_with fail
    go_ret
    exact ⟨by rw [Hcn.out, ← Hd4.out]; rfl, hB⟩
  have hmp : m < p.length := by omega
  have hmi : ¬ (p.length : Int) ≤ (m : Int) := by omega
  have hd3 : decide (p.length ≤ m) = false := by rw [decide_eq_false_iff_not]; omega
  obtain ⟨b1, o1, e1, hb1, k1⟩ := R1.out.get (i := m) (by rw [HL1.out]; exact hmp)
  subst e1
  obtain ⟨b2, o2, A5, c5, e2, hb2, k2, hm2, hins⟩ := SlR.getSub RP.out hmp
  subst e2
  have hat : (s3B b).at_[m]'(by rw [HL1.out]; exact hmp) = ((pcS b.s m : Nat) : Int) := by
    have h := s3B_at b m
    rw [List.getD_eq_getElem?_getD, List.getElem?_eq_getElem (by rw [HL1.out]; exact hmp)] at h
    exact h
  rw [hat] at k1
  have hth := thrP_get hmp
  obtain ⟨th, hthe⟩ : ∃ th, th = p[m] := ⟨_, rfl⟩
  rw [← hthe] at k2 hins hth hm2
  have Hth := Lib.hid hth
  have f0 := fun n : Ext V => n.le _ _ q0
  have f1 := fun n : Ext V => n.le _ _ k1
  have f2 := fun n : Ext V => n.le _ _ k2
  have htl : (m : Int) < (p.length : Int) := by omega
  have hpc7 : pcS b.s m ≤ th.length := by have h := hb.ok.pcb m; rw [hth] at h; exact h
  have hth7 : th.length ≤ 7 := by have h := (thr_ok hp m).1; rw [hth] at h; exact h
  have HH := Lib.hid hins
  have HK := Lib.hid (And.intro q0 (And.intro k1 k2))
  obtain ⟨pc, hpc⟩ : ∃ pc, pc = pcS b.s m := ⟨_, rfl⟩
  rw [← hpc] at k1 f1 hpc7 HK
  have Hpc := Lib.hid hpc
  clear hins hat hthe hth k1 k2 hpc
  go_upto_region 5 with (fail)
  refine wp_region_ext _ (by kernel_rfl) (by kernel_rfl) (Below.refl _ _) ?_
  repeat (go_big_quiet_step (fail))
  refine wpQuiet_nil ?_
  rintro wn ⟨⟨_, hbn⟩, rfl⟩
  have hBn := hB.trans (hbn.mono hB.size)
  clear f0 f1 f2
  by_cases hon : pc < th.length
  case neg =>
    have hpe : pc = th.length := by omega
    have hd5 : ((pc : Int) == (th.length : Int)) = true := by rw [beq_iff_eq, hpe]
    have Hc : Hid (canB p sp b m = false) := canB_off hmp (by rw [Hth.out, ← Hpc.out]; omega)
    clear hpe
    go_wp2_with fail
    go_ret
    exact ⟨by rw [can4_nat, Hc.out]; rfl, hBn⟩
  have hd5 : ((pc : Int) == (th.length : Int)) = false := by rw [beq_eq_false_iff_ne]; omega
  have hix := ins_ok hp (s := b.s) (t := m) (by rw [Hth.out, ← Hpc.out]; exact hon)
  have hx : th[pc]'hon = insS p b.s m := by
    have h := ins_get (p := p) (s := b.s) (t := m) (by rw [Hth.out, ← Hpc.out]; exact hon)
    rw [h]
    simp only [Hth.out, ← Hpc.out]
  have Hcan : Hid (canB p sp b m = (!blkI (insS p b.s m) || empB sp b m)) := canB_on hmp (by rw [Hth.out, ← Hpc.out]; exact hon)
  obtain ⟨b6, o6, e6, hb6, i0, i1, i2, i3⟩ := InsS.get HH.out hon
  subst e6
  rw [hx] at i0 i1 i2 i3
  generalize insS p b.s m = x at i0 i1 i2 i3 Hcan hix
  have Hix := Lib.hid hix
  have hpi : (pc : Int) < (th.length : Int) := by omega
  have HI := Lib.hid (And.intro i0 (And.intro i1 (And.intro i2 i3)))
  clear hx hix i0 i1 i2 i3
  go_upto_region 7 with (fail)
  obtain ⟨fc, hfc⟩ : ∃ f : Nat → Value, f = (fun d => match d with | 47 => .slice (some ⟨b2, o2, none⟩) p.length cp | 48 => .int .i64 (m : Int) | 49 => .pointer (some ⟨b2, o2 + m, none⟩) | 50 => .slice (some ⟨b6, o6, none⟩) th.length c5 | 51 => .pointer (some ⟨W.heap.size, 0, none⟩) | 52 => .slice (some ⟨b1, o1, none⟩) p.length c1 | 53 => .int .i64 (m : Int) | 54 => .pointer (some ⟨b1, o1 + m, none⟩) | 55 => .int .i64 (pc : Int) | 56 => .pointer (some ⟨b6, o6 + pc * 4, none⟩) | 57 => .agg #[.int .i64 x.op, .int .i64 x.loc, .int .i64 x.reg, .int .i64 x.val] | _ => undef) := ⟨_, rfl⟩
  have hf47 : fc 47 = .slice (some ⟨b2, o2, none⟩) p.length cp := congrFun hfc 47
  have hf48 : fc 48 = .int .i64 (m : Int) := congrFun hfc 48
  have hf49 : fc 49 = .pointer (some ⟨b2, o2 + m, none⟩) := congrFun hfc 49
  have hf50 : fc 50 = .slice (some ⟨b6, o6, none⟩) th.length c5 := congrFun hfc 50
  have hf51 : fc 51 = .pointer (some ⟨W.heap.size, 0, none⟩) := congrFun hfc 51
  have hf52 : fc 52 = .slice (some ⟨b1, o1, none⟩) p.length c1 := congrFun hfc 52
  have hf53 : fc 53 = .int .i64 (m : Int) := congrFun hfc 53
  have hf54 : fc 54 = .pointer (some ⟨b1, o1 + m, none⟩) := congrFun hfc 54
  have hf55 : fc 55 = .int .i64 (pc : Int) := congrFun hfc 55
  have hf56 : fc 56 = .pointer (some ⟨b6, o6 + pc * 4, none⟩) := congrFun hfc 56
  have hf57 : fc 57 = .agg #[.int .i64 x.op, .int .i64 x.loc, .int .i64 x.reg, .int .i64 x.val] := congrFun hfc 57
  clear hfc
  refine wp_region_rel [0, 1, 2, 3, 4, 5, 6, 7, 8, 9, 10, 11] [12] (TAl fc 9 wn.heap.size 52 #[.int .i64 0, .int .i64 0, .int .i64 0, .int .i64 0]) (fun d => if d = 9 then 1 else 0) [47, 48, 49, 50, 51, 52, 53, 54, 55, 56, 57, 9] (by kernel_rfl) (by kernel_rfl) rfl (by simp) tal_nx tal_blk ?_ ?_
  · refine ⟨?_, ?_, ?_, ?_, ?_, ?_, ?_, ?_, ?_, ?_, ?_, ?_, trivial⟩
    all_goals (intro xs w hw hdep hsep; have hbw := nx_below hw; simp only [shpA, fillL, List.contains_cons, List.contains_nil, Nat.reduceAdd, Nat.reduceBEq, Bool.or_false, Bool.or_true, Bool.false_eq_true, ↓reduceIte])
    · go_wp2_with fail
      exact RelPost.mk (Nx.refl _) _ rfl hf47.symm rfl
    · go_wp2_with fail
      exact RelPost.mk (Nx.refl _) _ rfl hf48.symm rfl
    · have e47 : xs 47 = .slice (some ⟨b2, o2, none⟩) p.length cp := (show xs 47 = fc 47 from hdep 47 (List.mem_of_elem_eq_true (by kernel_rfl))).trans hf47
      have e48 : xs 48 = .int .i64 (m : Int) := (show xs 48 = fc 48 from hdep 48 (List.mem_of_elem_eq_true (by kernel_rfl))).trans hf48
      rw [e47, e48]
      go_wp2_with fail
      exact RelPost.mk (Nx.refl _) _ rfl hf49.symm rfl
    · have e49 : xs 49 = .pointer (some ⟨b2, o2 + m, none⟩) := (show xs 49 = fc 49 from hdep 49 (List.mem_of_elem_eq_true (by kernel_rfl))).trans hf49
      have q0 := Le.below (hbn.trans (hbw.mono hbn.size)) _ _ (HK.out.2.2)
      rw [e49]
      go_wp2_with fail
      exact RelPost.mk (Nx.refl _) _ rfl hf50.symm rfl
    · go_wp2_with fail
      exact RelPost.mk (Nx.refl _) _ rfl hf51.symm rfl
    · have e51 : xs 51 = .pointer (some ⟨W.heap.size, 0, none⟩) := (show xs 51 = fc 51 from hdep 51 (List.mem_of_elem_eq_true (by kernel_rfl))).trans hf51
      have q0 := Le.below (hbn.trans (hbw.mono hbn.size)) _ _ (HK.out.1)
      rw [e51]
      go_wp2_with fail
      exact RelPost.mk (Nx.refl _) _ rfl hf52.symm rfl
    · go_wp2_with fail
      exact RelPost.mk (Nx.refl _) _ rfl hf53.symm rfl
    · have e52 : xs 52 = .slice (some ⟨b1, o1, none⟩) p.length c1 := (show xs 52 = fc 52 from hdep 52 (List.mem_of_elem_eq_true (by kernel_rfl))).trans hf52
      have e53 : xs 53 = .int .i64 (m : Int) := (show xs 53 = fc 53 from hdep 53 (List.mem_of_elem_eq_true (by kernel_rfl))).trans hf53
      rw [e52, e53]
      go_wp2_with fail
      exact RelPost.mk (Nx.refl _) _ rfl hf54.symm rfl
    · have e54 : xs 54 = .pointer (some ⟨b1, o1 + m, none⟩) := (show xs 54 = fc 54 from hdep 54 (List.mem_of_elem_eq_true (by kernel_rfl))).trans hf54
      have q0 := Le.below (hbn.trans (hbw.mono hbn.size)) _ _ (HK.out.2.1)
      rw [e54]
      go_wp2_with fail
      exact RelPost.mk (Nx.refl _) _ rfl hf55.symm rfl
    · have e50 : xs 50 = .slice (some ⟨b6, o6, none⟩) th.length c5 := (show xs 50 = fc 50 from hdep 50 (List.mem_of_elem_eq_true (by kernel_rfl))).trans hf50
      have e55 : xs 55 = .int .i64 (pc : Int) := (show xs 55 = fc 55 from hdep 55 (List.mem_of_elem_eq_true (by kernel_rfl))).trans hf55
      rw [e50, e55]
      go_wp2_with fail
      exact RelPost.mk (Nx.refl _) _ rfl hf56.symm rfl
    · have e56 : xs 56 = .pointer (some ⟨b6, o6 + pc * 4, none⟩) := (show xs 56 = fc 56 from hdep 56 (List.mem_of_elem_eq_true (by kernel_rfl))).trans hf56
      have q0 := Le.below (hbn.trans (hbw.mono hbn.size)) _ _ (HI.out.1)
      have q1 := Le.below (hbn.trans (hbw.mono hbn.size)) _ _ (HI.out.2.1)
      have q2 := Le.below (hbn.trans (hbw.mono hbn.size)) _ _ (HI.out.2.2.1)
      have q3 := Le.below (hbn.trans (hbw.mono hbn.size)) _ _ (HI.out.2.2.2)
      rw [e56]
      go_wp2_with fail
      exact RelPost.mk (Nx.refl _) _ rfl hf57.symm rfl
    · go_wp2_with fail
      exact RelPost.own ((Below.refl _ _).alloc (Nat.le_refl _) _) _ rfl ⟨w.heap.size, rfl, Own.new w _ _, Below.size hbw⟩ (fun b hb => .inl (by injection hb with hb; simp only at hb; omega))
  intro xs w7 hw hT hsep
  have hbw := nx_below hw
  obtain ⟨X, e9, oX7, hX6⟩ : HasB wn.heap.size 52 #[.int .i64 0, .int .i64 0, .int .i64 0, .int .i64 0] w7 (xs 9) := hT 9 (List.mem_of_elem_eq_true (by kernel_rfl))
  have e57 : xs 57 = .agg #[.int .i64 x.op, .int .i64 x.loc, .int .i64 x.reg, .int .i64 x.val] := (show xs 57 = fc 57 from hT 57 (List.mem_of_elem_eq_true (by kernel_rfl))).trans hf57
  show wpList _ _ _ [_] _ _
  simp only [shpA, fillL, List.contains_cons, List.contains_nil, Nat.reduceAdd, Nat.reduceBEq, Bool.or_false, Bool.or_true, Bool.false_eq_true, ↓reduceIte]
  rw [e9, e57]
  clear hT hsep hw e9 e57 hf47 hf48 hf49 hf50 hf51 hf52 hf53 hf54 hf55 hf56 hf57
  generalize xs 47 = u47x
  generalize xs 48 = u48x
  generalize xs 49 = u49x
  generalize xs 50 = u50x
  generalize xs 51 = u51x
  generalize xs 52 = u52x
  generalize xs 53 = u53x
  generalize xs 54 = u54x
  generalize xs 55 = u55x
  generalize xs 56 = u56x
  have z0 := oX7.cell (i := 0) rfl
  have z1 := oX7.cell (i := 1) rfl
  have z2 := oX7.cell (i := 2) rfl
  have z3 := oX7.cell (i := 3) rfl
  have y0 := oX7.frozen 0
  have y1 := oX7.frozen 1
  have y2 := oX7.frozen 2
  have y3 := oX7.frozen 3
  obtain ⟨w8, hw8⟩ : ∃ w8, w8 = (((w7.setCell ⟨X, 0, none⟩ (.int .i64 x.op)).setCell ⟨X, 1, none⟩ (.int .i64 x.loc)).setCell ⟨X, 2, none⟩ (.int .i64 x.reg)).setCell ⟨X, 3, none⟩ (.int .i64 x.val) := ⟨_, rfl⟩
  have oX8 : Own w8 X 52 #[.int .i64 x.op, .int .i64 x.loc, .int .i64 x.reg, .int .i64 x.val] := by rw [hw8]; exact (((oX7.set 0 (.int .i64 x.op)).set 1 (.int .i64 x.loc)).set 2 (.int .i64 x.reg)).set 3 (.int .i64 x.val)
  have hb8 : Below wn.heap.size wn w8 := by rw [hw8]; exact (((hbw.setCell hX6 _).setCell hX6 _).setCell hX6 _).setCell hX6 _
  have hbV8 : Below V.heap.size V w8 := hbn.trans (hb8.mono hbn.size)
  have hB8 := hB.trans (hbV8.mono hB.size)
  have OX8 := Lib.hid oX8
  have hX8 := oX8.lt
  have OV8 := Lib.hid (OV.out.under hbV8)
  go_upto_region 8 with (fail)
  rw [← hw8]
  clear hw8 oX7 oX8 z0 z1 z2 z3 y0 y1 y2 y3 hbw q0 q1 q2 q3
  have x0 := OX8.out.cell (i := 0) rfl
  have q0 := OV8.out.cell (i := 0) rfl
  have q1 := OV8.out.cell (i := 1) rfl
  have q2 := OV8.out.cell (i := 2) rfl
  have q3 := OV8.out.cell (i := 3) rfl
  have hWV8 := OV8.out.lt
  by_cases hblk : blkI x = true
  · have Hr : Hid (canB p sp b m = empB sp b m) := by show _ = _; rw [Hcan.out, hblk]; rfl
    have hem := HE.out m w8 hmp ((Le.below hB).trans (Le.below hbV8))
    have hop : x.op = 4 ∨ x.op = 5 := by
      unfold blkI at hblk
      rw [Bool.or_eq_true, decide_eq_true_iff, decide_eq_true_iff] at hblk
      exact hblk
    rcases hop with hop | hop
    · have o4 : (x.op == (4 : Int)) = true := by rw [beq_iff_eq]; exact hop
      have o4' : (x.op != (4 : Int)) = false := by rw [hop]; rfl
      clear hop hblk
      go_wp2_with fail
      refine hem.mono ?_
      rintro e9 w9 ⟨rfl, hb9'⟩
      go_wp2_with fail
      go_ret
      exact ⟨by rw [can4_nat, Hr.out]; rfl, hB8.trans (hb9'.mono hB8.size)⟩
    · have o4 : (x.op == (4 : Int)) = false := by rw [hop]; rfl
      have o4' : (x.op != (4 : Int)) = true := by rw [hop]; rfl
      have o5 : (x.op == (5 : Int)) = true := by rw [beq_iff_eq]; exact hop
      have o5' : (x.op != (5 : Int)) = false := by rw [hop]; rfl
      clear hop hblk
      go_wp2_with fail
      refine hem.mono ?_
      rintro e9 w9 ⟨rfl, hb9'⟩
      go_wp2_with fail
      go_ret
      exact ⟨by rw [can4_nat, Hr.out]; rfl, hB8.trans (hb9'.mono hB8.size)⟩
  · have hbf : blkI x = false := by cases h : blkI x <;> simp_all
    have Hr : Hid (canB p sp b m = true) := by show _ = _; rw [Hcan.out, hbf]; rfl
    have hop : x.op ≠ 4 ∧ x.op ≠ 5 := by
      unfold blkI at hbf
      rw [Bool.or_eq_false_iff, decide_eq_false_iff_not, decide_eq_false_iff_not] at hbf
      exact hbf
    have o4 : (x.op == (4 : Int)) = false := by rw [beq_eq_false_iff_ne]; exact hop.1
    have o4' : (x.op != (4 : Int)) = true := by rw [bne_iff_ne]; exact hop.1
    have o5 : (x.op == (5 : Int)) = false := by rw [beq_eq_false_iff_ne]; exact hop.2
    have o5' : (x.op != (5 : Int)) = true := by rw [bne_iff_ne]; exact hop.2
    clear hop hblk hbf
    go_wp2_with fail
    go_ret
    exact ⟨by rw [can4_nat, Hr.out]; rfl, hB8⟩

end Go.Proofs.YtahegjofooahkaaGreat

/-! The reference's states with buffers: l4Do. -/
namespace Go.Proofs.YtahegjofooahkaaGreat
open Go.RowKit
set_option linter.unusedVariables false
set_option maxRecDepth 100000

theorem OwS.at4 {B : Nat} {w : World} {A1 A2 A3 A4 : Option Addr} {n1 n2 n3 n4 c1 c2 c3 c4 K : Nat} {cs : List Value} {Fs : Nat → List Nat} {s : S3} (h : OwS B w A1 A2 A3 A4 n1 n2 n3 n4 c1 c2 c3 c4 K cs Fs s) {k : Nat} (hk : k < s.buf.length) :
    ∃ g4 A5 c5, A4 = some ⟨g4, 0, none⟩ ∧ n4 = s.buf.length ∧ K ≤ g4 ∧ g4 < w.heap.size ∧ w.cell? ⟨g4, k, none⟩ = some (.slice A5 s.buf[k].length c5) ∧ w.frozen? ⟨g4, k, none⟩ = false ∧ RowI w K (.slice A5 s.buf[k].length c5) s.buf[k] ∧ (∀ b, (Value.slice A5 s.buf[k].length c5).ownBlock = some b → K ≤ b ∧ b ≠ g4) ∧
      ∀ (V : World) (nv : Value) (xs' : List Int), (∀ b, B ≤ b → b < w.heap.size → ¬ (Value.slice A5 s.buf[k].length c5).ownBlock = some b → V.heap[b]? = w.heap[b]?) → w.heap.size ≤ V.heap.size → RowI V 0 nv xs' → (∀ b, nv.ownBlock = some b → (Value.slice A5 s.buf[k].length c5).ownBlock = some b ∨ w.heap.size ≤ b) →
        ∃ cs' Fs', OwS B (V.setCell ⟨g4, k, none⟩ nv) A1 A2 A3 (some ⟨g4, 0, none⟩) n1 n2 n3 n4 c1 c2 c3 c4 K cs' Fs' ⟨s.at_, s.regs, s.mem, s.buf.set k xs'⟩ := by
  obtain ⟨g4, c', e, hg, hgl, hcell, hfr, hP, hnd, hge, hle, hle9⟩ := h.r4.elem1 (rowP_loc 1 3 QInt) hk
  injection e with e1 e2 e3
  subst e1 e2 e3
  obtain ⟨A5, c5, e5, hl5, _⟩ := RowOf.slice hP.1
  have e5 : cs.getD k undef = .slice A5 s.buf[k].length c5 := e5
  have hFs : Fs k = (Value.slice A5 s.buf[k].length c5).ownBlock.toList := by rw [← e5]; exact hP.2
  have hrow : RowOf 1 QInt w 0 3 (.slice A5 s.buf[k].length c5) s.buf[k] := by rw [← e5]; exact hP.1
  rw [e5] at hcell
  have hKb : ∀ b, (Value.slice A5 s.buf[k].length c5).ownBlock = some b → K ≤ b ∧ b ≠ g4 := fun b hb => hge b (by rw [hFs]; exact mem_own.2 hb)
  refine ⟨g4, A5, c5, rfl, rfl, hg, hgl, hcell, hfr, hrow.rebase fun b hb => (hKb b hb).1, hKb, fun V nv xs' hV hs hr hn => ?_⟩
  have hset := RowW.set (rowP_loc 1 3 QInt) (V := V) (nv := nv) (x := xs') (F := nv.ownBlock.toList) h.r4 hk hs (fun b h1 h2 h3 => hV b (Nat.le_trans h.le h1) h2 (fun e => h3 (by rw [hFs]; exact mem_own.2 e))) ⟨hr, rfl⟩ (own_nodup _) (fun b hb => by
    have hb := mem_own.1 hb
    rcases hn b hb with h' | h'
    · exact ⟨(hKb b h').1, .inl (by rw [hFs]; exact mem_own.2 h')⟩
    · exact ⟨by omega, .inr h'⟩)
  have hlow : ∀ A m c xs, RowI w B (.slice A m c) xs → (∀ b, blkV (.slice A m c) = some b → b < K) → RowI (V.setCell ⟨g4, k, none⟩ nv) B (.slice A m c) xs := fun A m c xs hr' hb => hr'.of_block fun g h1 h2 h3 => by
    have hgK : g < K := by
      cases A with
      | none => cases h2
      | some a => exact hb g h2
    rw [Go.Deep.blk_setCell_other _ _ _ _ (by show g ≠ g4; omega)]
    exact hV g h1 h3 fun e => by have := (hKb g e).1; omega
  exact ⟨_, _, hlow _ _ _ _ h.r1 (fun b hb => h.lt b (.inl hb)), hlow _ _ _ _ h.r2 (fun b hb => h.lt b (.inr (.inl hb))), hlow _ _ _ _ h.r3 (fun b hb => h.lt b (.inr (.inr hb))), h.p12, h.p13, h.p23, h.lt, hset, h.le⟩

theorem slice2_any (b1 o1 c1 n : Nat) (X : World) : (Instr.sliceAt 24 (.slice (some ⟨b1, o1, none⟩) (n + 2) c1) (some (.int .i64 2)) none none).run Tryz.prog X = .ok (.slice (if c1 = 2 then some ⟨b1, o1, none⟩ else some ⟨b1, o1 + 2, none⟩) n (c1 - 2)) X := by
  rw [run_sliceAt_slice (P := Tryz.prog) (w := X) 24 _ _ _ _ (by kernel_rfl), run_slice_l (P := Tryz.prog) (w := X) 24 _ _ _ (by kernel_rfl) .i64 2 (by omega) (by omega)]
  rw [show Tryz.prog.elem 24 = 3 from by kernel_rfl, Tryz.sizeOf3]
  show Result.ok (sliced _ _ _ _ _) _ = _
  unfold sliced
  congr 1
def T5d (f : Nat → Value) (B : Nat) (fr : List Int) (d : Nat) (w : World) (v : Value) : Prop :=
  match d with
  | 42 => EmpI B w v
  | 45 => HasI B fr w v
  | _ => v = f d
def cl5d (d : Nat) : Nat := match d with | 42 => 1 | 45 => 1 | _ => 0
theorem t5d_nx {f : Nat → Value} {B : Nat} {fr : List Int} : ∀ d w w' v, Nx w w' → T5d f B fr d w v → T5d f B fr d w' v := fun d w w' v hb h => by
  unfold T5d at h ⊢
  split at h
  · exact EmpI.nx hb h
  · exact HasI.nx hb h
  · exact h
theorem t5d_blk {f : Nat → Value} {B : Nat} {fr : List Int} : ∀ d w v b, T5d f B fr d w v → cl5d d ≠ 0 → blkV v = some b → b < w.heap.size := fun d w v b h hc hb => by
  unfold T5d at h
  split at h
  · exact EmpI.blk h hb
  · exact HasI.blk h hb
  · exfalso
    revert hc
    unfold cl5d
    split <;> simp_all
/-- The slots of the region that puts a write into a buffer. -/
def T15 (f : Nat → Value) (B : Nat) (row : Value) (ys : List Int) (l v : Int) (d : Nat) (w : World) (u : Value) : Prop :=
  match d with
  | 110 => u = row ∧ RowI w 0 row ys
  | 117 => ∃ bb, u = .slice (some ⟨bb, 0, none⟩) 2 2 ∧ B ≤ bb ∧ w.cell? ⟨bb, 0, none⟩ = some (.int .i64 l) ∧ w.cell? ⟨bb, 1, none⟩ = some (.int .i64 v)
  | 118 => RowI w 0 u (ys ++ [l, v]) ∧ ∀ b, u.ownBlock = some b → row.ownBlock = some b ∨ B ≤ b
  | _ => u = f d
theorem t15_nx {f : Nat → Value} {B : Nat} {row : Value} {ys : List Int} {l v : Int} : ∀ d w w' u, Nx w w' → T15 f B row ys l v d w u → T15 f B row ys l v d w' u := fun d w w' u hb h => by
  have hl := Le.below (show Below w.heap.size w w' from hb)
  unfold T15 at h ⊢
  split at h
  · exact ⟨h.1, RowOf.below h.2 hb⟩
  · obtain ⟨bb, e, h1, h2, h3⟩ := h
    exact ⟨bb, e, h1, hl _ _ h2, hl _ _ h3⟩
  · exact ⟨RowOf.below h.1 hb, h.2⟩
  · exact h
def R15 (f : Nat → Value) (B : Nat) (row : Value) (ys : List Int) (l v : Int) (w w' : World) : Prop := MvP (fun b => row.ownBlock = some b) w w' ∧ ∀ d u, T15 f B row ys l v d w u → T15 f B row ys l v d w' u
theorem r15_refl {f : Nat → Value} {B : Nat} {row : Value} {ys : List Int} {l v : Int} (w : World) : R15 f B row ys l v w w := ⟨.refl _ _, fun _ _ h => h⟩
theorem r15_trans {f : Nat → Value} {B : Nat} {row : Value} {ys : List Int} {l v : Int} (a b c : World) (h : R15 f B row ys l v a b) (k : R15 f B row ys l v b c) : R15 f B row ys l v a c := ⟨h.1.trans k.1 fun _ _ e => e, fun d u e => k.2 d u (h.2 d u e)⟩
theorem r15_nx {f : Nat → Value} {B : Nat} {row : Value} {ys : List Int} {l v : Int} {w w' : World} (h : Nx w w') : R15 f B row ys l v w w' := ⟨.of_below h, fun d u => t15_nx d w w' u h⟩
theorem qi_cs {cs : List Value} {xs : List Int} (h : cs.length = xs.length * 1) (hq : ∀ i (h : i < xs.length), QInt (fun j => cs.getD (i * 1 + j) undef) xs[i]) : cs = xs.map (Value.int .i64) :=
  List.ext_getElem (by rw [List.length_map]; omega) fun i h1 h2 => by
    rw [List.length_map] at h2
    have h3 : cs.getD (i * 1 + 0) undef = .int .i64 xs[i] := hq i h2
    rw [show i * 1 + 0 = i by omega, List.getD_eq_getElem?_getD, List.getElem?_eq_getElem h1, Option.getD_some] at h3
    rw [h3, List.getElem_map]
theorem two_news {w : World} {bb : Nat} {u0 u1 : Value} (h0 : w.cell? ⟨bb, 0, none⟩ = some u0) (h1 : w.cell? ⟨bb, 1, none⟩ = some u1) : ∀ j v, [u0, u1][j]? = some v → w.cell? ((⟨bb, 0, none⟩ : Addr).add j) = some v := fun j v hv => by
  have hadd : (⟨bb, 0, none⟩ : Addr).add j = ⟨bb, j, none⟩ := by unfold Addr.add; split <;> simp_all
  rw [hadd]
  match j, hv with
  | 0, hv => simp only [List.getElem?_cons_zero, Option.some.injEq] at hv; rw [← hv]; exact h0
  | 1, hv => simp only [List.getElem?_cons_succ, List.getElem?_cons_zero, Option.some.injEq] at hv; rw [← hv]; exact h1
theorem t15_keep {f : Nat → Value} {B : Nat} {row : Value} {ys : List Int} {l v : Int} {w w' : World} {cs : List Value} {e : TypeId} (he : e = 3) (hrow : ∀ g, row.ownBlock = some g → g < B) (hc : cs = ys.map (Value.int .i64)) (hg : w.grownBy w' row.ownBlock) (hk : ∀ g, row.ownBlock = some g → w'.heap[g]? = w.heap[g]? ∨ ∃ cur cur', w.heap[g]? = some (.cells cur e (0, 0)) ∧ w'.heap[g]? = some (.cells cur' e (0, 0)) ∧ cur'.size = cur.size ∧ cur'.toList.take (ys.length + 2) = cs ++ [.int .i64 l, .int .i64 v] ∧ cur.toList.take ys.length = cs) :
    ∀ d u, T15 f B row ys l v d w u → T15 f B row ys l v d w' u := fun d u h => by
  subst he
  have hl : cs.length = ys.length := by rw [hc, List.length_map]
  unfold T15 at h ⊢
  split at h
  · obtain ⟨e, cs1, h1, h2⟩ := h
    exact ⟨e, cs1, owns_kept hg hk hl h1 (.inl (Nat.le_refl _)), h2⟩
  · obtain ⟨bb, e, h1, h2, h3⟩ := h
    have hne : ¬ row.ownBlock = some bb := fun e => by have := hrow _ e; omega
    have hcell : ∀ j u, w.cell? ⟨bb, j, none⟩ = some u → w'.cell? ⟨bb, j, none⟩ = some u := fun j u hu => by
      rw [World.cell?_of_block (w := w) (hg.block bb (World.block_lt_of_cell? _ _ hu) (fun e => hne e.symm))]
      exact hu
    exact ⟨bb, e, h1, hcell _ _ h2, hcell _ _ h3⟩
  · obtain ⟨⟨cs1, h1, h2⟩, h3⟩ := h
    refine ⟨⟨cs1, owns_kept hg hk hl h1 (.inr ⟨by simp, ?_⟩), h2⟩, h3⟩
    rw [qi_cs h1.1 h2, hc]
    simp
  · exact h
theorem RowOf.more2 {w' : World} {base : Nat} {v' : Value} {ys : List Int} {cs : List Value} {l m : Int} (hc : cs = ys.map (Value.int .i64)) (h : w'.ownsRow base 3 1 v' (ys.length + 2) (cs ++ [.int .i64 l, .int .i64 m])) : RowI w' base v' (ys ++ [l, m]) := by
  refine ⟨cs ++ [.int .i64 l, .int .i64 m], by simpa using h, fun i hi => ?_⟩
  have e : cs ++ [.int .i64 l, .int .i64 m] = (ys ++ [l, m]).map (Value.int .i64) := by rw [hc]; simp
  show (cs ++ _).getD (i * 1 + 0) undef = _
  rw [e, show i * 1 + 0 = i by omega, List.getD_eq_getElem?_getD, List.getElem?_map, List.getElem?_eq_getElem hi]
  rfl

theorem s3B_thr {sp : Bool} {b : BSt} {t : Nat} {x : Ins} (h : blkI x = true) : do3 (s3B b) t x = s3B (thrB sp b t x) := by
  rw [thr_bl h]
  have hv : val3 (s3B b) t x = valS b.s t x := rfl
  unfold do3 doS
  rw [s3B_at, hv]
  unfold s3B
  simp only [S3.mk.injEq, and_true]
  rw [List.map_set]
  exact ⟨rfl, rfl⟩

set_option maxHeartbeats 8000000 in
theorem l4Do_any (p : Prg) (hp : PrgOk p) (sp : Bool) (b : BSt) (hb : BOk p sp b) (m : Nat) (hcan : canB p sp b m = true) (W : World) (vp : Value) (hpr : PrgS W vp p) (A1 A2 A3 A4 : Option Addr) (c1 c2 c3 c4 : Nat) (hr : Rep4 W A1 A2 A3 A4 c1 c2 c3 c4 (s3B b)) :
    Calls Tryz.prog 90 #[vp, .agg #[.slice A1 (s3B b).at_.length c1, .slice A2 (s3B b).regs.length c2, .slice A3 (s3B b).mem.length c3, .slice A4 (s3B b).buf.length c4], .bool sp, .int .i64 m] W (RetS4 W (s3B (nxB p sp b m))) := by
  obtain ⟨Ap, cp, rfl, hpl⟩ := SlR.slice hpr
  have hp3 := hp.1.1
  obtain ⟨h1, h2, h3, h4, h5⟩ := s4_lens hp hb
  obtain ⟨i0, hi0, hz0, hz1, hz2⟩ := info_parts Tryz.infoInt
  obtain ⟨s, hs⟩ : ∃ s, s = s3B b := ⟨_, rfl⟩
  rw [← hs] at h1 h2 h3 h4 h5 hr ⊢
  have HS := Lib.hid hs
  obtain ⟨V, hV⟩ : ∃ V, V = (W.alloc (.cells #[.slice A1 s.at_.length c1, .slice A2 s.regs.length c2, .slice A3 s.mem.length c3, .slice A4 s.buf.length c4] 70)).alloc (.cells #[.slice none 0 0, .slice none 0 0, .slice none 0 0, .slice none 0 0] 70) := ⟨_, rfl⟩
  have hB : Below W.heap.size W V := by rw [hV]; exact ((Below.refl _ _).alloc (Nat.le_refl _) _).alloc (by simp) _
  have hVs : V.heap.size = W.heap.size + 2 := by rw [hV]; simp
  have oX : Own V W.heap.size 70 #[.slice A1 s.at_.length c1, .slice A2 s.regs.length c2, .slice A3 s.mem.length c3, .slice A4 s.buf.length c4] := by rw [hV]; exact (Own.new _ _ _).alloc _
  have oR : Own V (W.heap.size + 1) 70 #[.slice none 0 0, .slice none 0 0, .slice none 0 0, .slice none 0 0] := by rw [hV]; simpa using Own.new (W.alloc (.cells #[.slice A1 s.at_.length c1, .slice A2 s.regs.length c2, .slice A3 s.mem.length c3, .slice A4 s.buf.length c4] 70)) 70 #[.slice none 0 0, .slice none 0 0, .slice none 0 0, .slice none 0 0]
  have hcp := l3CopyW_any s (by omega) (by omega) (by omega) (by omega) (fun xs hx => by have := h5 xs hx; omega) V A1 A2 A3 A4 c1 c2 c3 c4 (hr.le (Le.below hB))
  have x0 := oX.cell (i := 0) rfl
  have x1 := oX.cell (i := 1) rfl
  have x2 := oX.cell (i := 2) rfl
  have x3 := oX.cell (i := 3) rfl
  have hWV := oX.lt
  have HO := Lib.hid (And.intro oX (And.intro oR (And.intro hVs hr)))
  have HP := Lib.hid hpr
  have HL := Lib.hid (And.intro h1 (And.intro h2 (And.intro h3 (And.intro h4 h5))))
  clear hVs oR oX hpr hs h5 hr h1 h2 h3
  go_enter Tryz.func90, Tryz.ntmps90
  go_upto_region 1 with (fail)
  rw [← hV]
  clear hV
  go_wp2_with fail
  refine hcp.mono ?_
  rintro e5 w5 h
  obtain ⟨D1, D2, D3, D4, d1, d2, d3, d4, K, cs, Fs, rfl, ow5, hb5⟩ := h.ow
  have OW5 := Lib.hid ow5
  clear h hcp x0 x1 x2 x3 ow5
  obtain ⟨w6, hw6⟩ : ∃ w6, w6 = w5.alloc (.cells #[.slice D1 s.at_.length d1, .slice D2 s.regs.length d2, .slice D3 s.mem.length d3, .slice D4 s.buf.length d4] 70) := ⟨_, rfl⟩
  have hB6 : Below V.heap.size V w6 := by rw [hw6]; exact hb5.alloc hb5.size _
  have oT6 : Own w6 w5.heap.size 70 #[.slice D1 s.at_.length d1, .slice D2 s.regs.length d2, .slice D3 s.mem.length d3, .slice D4 s.buf.length d4] := by rw [hw6]; exact Own.new _ _ _
  have hs6 : w6.heap.size = w5.heap.size + 1 := by rw [hw6]; simp
  have ow6 := Lib.hid (OW5.out.below (w' := w6) (by rw [hw6]; exact (Below.refl _ _).alloc (Nat.le_refl _) _))
  have HR : Hid (∀ U, Below V.heap.size V U → (U.cell? ⟨W.heap.size, 0, none⟩ = some (.slice A1 s.at_.length c1) ∧ U.cell? ⟨W.heap.size, 1, none⟩ = some (.slice A2 s.regs.length c2) ∧ U.cell? ⟨W.heap.size, 2, none⟩ = some (.slice A3 s.mem.length c3) ∧ U.cell? ⟨W.heap.size, 3, none⟩ = some (.slice A4 s.buf.length c4)) ∧ Rep4 U A1 A2 A3 A4 c1 c2 c3 c4 s ∧ Own U (W.heap.size + 1) 70 #[.slice none 0 0, .slice none 0 0, .slice none 0 0, .slice none 0 0] ∧ Le W U) := fun U hU => by
    have hl : Le W U := (Le.below hB).trans (Le.below hU)
    have oX := HO.out.1
    exact ⟨⟨Le.below hU _ _ (oX.cell (i := 0) rfl), Le.below hU _ _ (oX.cell (i := 1) rfl), Le.below hU _ _ (oX.cell (i := 2) rfl), Le.below hU _ _ (oX.cell (i := 3) rfl)⟩, HO.out.2.2.2.le hl, HO.out.2.1.under hU, hl⟩
  have HVs := Lib.hid HO.out.2.2.1
  have OT6 := Lib.hid oT6
  obtain ⟨T, hTT⟩ : ∃ T, T = w5.heap.size := ⟨_, rfl⟩
  have hT6 : T < w6.heap.size := by omega
  have hb5s := hb5.size
  have hVT : V.heap.size ≤ T := by omega
  rw [← hTT] at OT6
  clear oT6 OW5
  go_upto_region 2 with (fail)
  rw [← hw6, ← hTT]
  clear hw6 hTT hb5 hs6 hb5s
  by_cases hmp : m < p.length
  case neg =>
    obtain ⟨k, rfl⟩ : ∃ k, m = p.length + k := ⟨m - p.length, by omega⟩
    obtain ⟨wq, r, hwr⟩ := can_flu.1 hcan
    have hkb := buf_lt hwr
    have hww := hb.ent k wq (by rw [hwr]; simp)
    obtain ⟨l, hl⟩ : ∃ l : Nat, wq.1 = (l : Int) := ⟨wq.1.toNat, by have := hww.1; omega⟩
    have hl3 : l < 3 := by have := hww.1; omega
    obtain ⟨w2, hw2⟩ : ∃ w2, w2 = wq.2 := ⟨_, rfl⟩
    have hk : k < s.buf.length := by rw [HS.out, s3B_len]; exact hkb
    have hbk : s.buf[k]'hk = (l : Int) :: w2 :: flatW r := by
      have h := s3B_buf hkb (by rw [s3B_len]; exact hkb)
      rw [hwr] at h
      simp only [HS.out]
      rw [h, hw2, ← hl]
      rfl
    have hnx : nxB p sp b (p.length + k) = ⟨⟨b.s.pc, b.s.regs, b.s.mem.set l w2⟩, b.bufs.set k r⟩ := by
      unfold nxB
      rw [if_neg (by omega), Nat.add_sub_cancel_left, flu_eq hwr, hl, Int.toNat_natCast, hw2]
    have Hend : Hid ((⟨s.at_, s.regs, s.mem.set l w2, s.buf.set k (flatW r)⟩ : S3) = s3B (nxB p sp b (p.length + k))) := by
      show _ = _
      rw [hnx, HS.out]
      unfold s3B
      simp only [S3.mk.injEq, true_and]
      rw [List.map_set]
    obtain ⟨b4, o4, cs4, e4, hc4, Aj, cj, ej, hcap, hrow⟩ := SlR.get1 (HO.out.2.2.2.caps) hk
    subst e4
    rw [ej] at hc4
    rw [hbk] at hc4 hcap hrow
    obtain ⟨bj, oj, ej2, hbj, hr0⟩ := hrow.get (i := 0) (by simp)
    subst ej2
    obtain ⟨bj', oj', ej2, _, hr1⟩ := hrow.get (i := 1) (by simp)
    injection ej2 with ej2
    injection ej2 with ej2 ej3
    subst ej2 ej3
    have hr0 : W.cell? ⟨bj, oj, none⟩ = some (.int .i64 (l : Int)) := hr0
    have hr1 : W.cell? ⟨bj, oj + 1, none⟩ = some (.int .i64 w2) := hr1
    obtain ⟨fr, hfr⟩ : ∃ fr, fr = flatW r := ⟨_, rfl⟩
    have hlen : ((l : Int) :: w2 :: flatW r).length = fr.length + 2 := by rw [hfr]; rfl
    rw [hlen] at hc4 hcap
    obtain ⟨A6, hA6⟩ : ∃ A6 : Option Addr, A6 = if cj = 2 then some ⟨bj, oj, none⟩ else some ⟨bj, oj + 2, none⟩ := ⟨_, rfl⟩
    have hsl : ∀ X : World, (Instr.sliceAt 24 (.slice (some ⟨bj, oj, none⟩) (fr.length + 2) cj) (some (.int .i64 2)) none none).run Tryz.prog X = .ok (.slice A6 fr.length (cj - 2)) X := fun X => by
      rw [hA6]
      exact slice2_any bj oj cj fr.length X
    have HA6 := Lib.hid hA6
    have HFr : Hid (Ints W A6 (cj - 2) fr) := by
      show Ints _ _ _ _
      by_cases hc2 : cj = 2
      · have h0 : fr = [] := List.length_eq_zero_iff.1 (by omega)
        rw [h0]
        exact ⟨_, _, rfl, by simp, fun i hi => absurd hi (Nat.not_lt_zero _)⟩
      · rw [hA6, if_neg hc2]
        have h := hrow.drop 2 (cj - 2) (by simp)
        rw [hfr]
        exact h
    have hfl : fr.length ≤ 14 := by
      have h := HL.out.2.2.2.2 _ (List.getElem_mem hk)
      rw [hbk, hlen] at h
      omega
    have HW : Hid (W.cell? ⟨b4, o4 + k, none⟩ = some (.slice (some ⟨bj, oj, none⟩) (fr.length + 2) cj) ∧ W.cell? ⟨bj, oj, none⟩ = some (.int .i64 (l : Int)) ∧ W.cell? ⟨bj, oj + 1, none⟩ = some (.int .i64 w2)) := ⟨hc4, hr0, hr1⟩
    have hki : (k : Int) < (s.buf.length : Int) := by omega
    have hsub : ((p.length + k : Nat) : Int) - (p.length : Int) = (k : Int) := by omega
    have hge : decide ((p.length : Int) ≤ ((p.length + k : Nat) : Int)) = true := by rw [decide_eq_true_iff]; omega
    obtain ⟨mi, hmi⟩ : ∃ mi : Int, mi = ((p.length + k : Nat) : Int) := ⟨_, rfl⟩
    rw [← hmi] at hsub hge ⊢
    have HEnd' := Lib.hid hfr
    have hlm : l < s.mem.length := by rw [HL.out.2.2.1]; exact hl3
    have hD3 := ow6.out.set3 hlm
    obtain ⟨g3, e3, hg3, hg3l, _⟩ := hD3
    obtain ⟨g4, A5, c5, e4', hn4, hg4, hg4l, hk4, hf4, hrow5, hKb, hset4⟩ := ow6.out.at4 hk
    subst e3 e4'
    have hg3T : g3 ≠ T := fun e => ow6.out.r3.ne_own OT6.out (by decide) (by rw [e]; rfl)
    have hg4T : g4 ≠ T := fun e => by
      have h1 := ow6.out.r4.own.lt g4 rfl
      have h2 := OT6.out
      rcases ow6.out.r4.own.2 with ⟨e', _⟩ | ⟨g', cap', cur', e', _, hgc, _⟩
      · cases e'
      · injection e' with e1
        injection e1 with e1
        injection e1 with e1
        subst e1
        unfold Own at h2
        rw [← e, hgc] at h2
        injection h2 with h2
        injection h2 with _ h2
        exact absurd h2 (by decide)
    have hmem3 : (l : Int) < (s.mem.length : Int) := by omega
    clear hA6
    have q0 := (HR.out w6 hB6).1.2.2.2
    have q1 := (HR.out w6 hB6).2.2.2 _ _ HW.out.1
    clear hc4 hr0 hr1 hrow ej hww hl hw2 hbk hnx hwr hfr hlen hcan hmi hset4 hk4 hf4 hrow5 hKb
    go_upto_region 4 with (fail)
    clear q0 q1
    obtain ⟨fa, hfa⟩ : ∃ f : Nat → Value, f = (fun d => match d with | 27 => .pointer (some ⟨T, 2, none⟩) | 28 => .slice (some ⟨g3, 0, none⟩) s.mem.length d3 | 29 => .slice (some ⟨bj, oj, none⟩) (fr.length + 2) cj | 30 => .pointer (some ⟨bj, oj, none⟩) | 31 => .int .i64 (l : Int) | 32 => .slice (some ⟨bj, oj, none⟩) (fr.length + 2) cj | 33 => .pointer (some ⟨bj, oj + 1, none⟩) | 34 => .int .i64 w2 | 35 => .pointer (some ⟨g3, l, none⟩) | _ => undef) := ⟨_, rfl⟩
    have hf27 : fa 27 = .pointer (some ⟨T, 2, none⟩) := congrFun hfa 27
    have hf28 : fa 28 = .slice (some ⟨g3, 0, none⟩) s.mem.length d3 := congrFun hfa 28
    have hf29 : fa 29 = .slice (some ⟨bj, oj, none⟩) (fr.length + 2) cj := congrFun hfa 29
    have hf30 : fa 30 = .pointer (some ⟨bj, oj, none⟩) := congrFun hfa 30
    have hf31 : fa 31 = .int .i64 (l : Int) := congrFun hfa 31
    have hf32 : fa 32 = .slice (some ⟨bj, oj, none⟩) (fr.length + 2) cj := congrFun hfa 32
    have hf33 : fa 33 = .pointer (some ⟨bj, oj + 1, none⟩) := congrFun hfa 33
    have hf34 : fa 34 = .int .i64 w2 := congrFun hfa 34
    have hf35 : fa 35 = .pointer (some ⟨g3, l, none⟩) := congrFun hfa 35
    clear hfa
    refine wp_region_rel [0, 1, 2, 3, 4, 5, 6, 7, 8] [9] (TEq fa) (fun _ => 0) [27, 28, 29, 30, 31, 32, 33, 34, 35] (by kernel_rfl) (by kernel_rfl) rfl (by simp) teq_nx teq_blk ?_ ?_
    · refine ⟨?_, ?_, ?_, ?_, ?_, ?_, ?_, ?_, ?_, trivial⟩
      all_goals (intro xs w hw hdep hsep; have hbw := nx_below hw; simp only [shpA, fillL, List.contains_cons, List.contains_nil, Nat.reduceAdd, Nat.reduceBEq, Bool.or_false, Bool.or_true, Bool.false_eq_true, ↓reduceIte])
      · go_wp2_with fail
        exact RelPost.mk (Nx.refl _) _ rfl hf27.symm rfl
      · have e27 : xs 27 = .pointer (some ⟨T, 2, none⟩) := (show xs 27 = fa 27 from hdep 27 (List.mem_of_elem_eq_true (by kernel_rfl))).trans hf27
        have q0 := (OT6.out.under hbw).cell (i := 2) rfl
        rw [e27]
        go_wp2_with fail
        exact RelPost.mk (Nx.refl _) _ rfl hf28.symm rfl
      · go_wp2_with fail
        exact RelPost.mk (Nx.refl _) _ rfl hf29.symm rfl
      · have e29 : xs 29 = .slice (some ⟨bj, oj, none⟩) (fr.length + 2) cj := (show xs 29 = fa 29 from hdep 29 (List.mem_of_elem_eq_true (by kernel_rfl))).trans hf29
        rw [e29]
        go_wp2_with fail
        exact RelPost.mk (Nx.refl _) _ rfl hf30.symm rfl
      · have e30 : xs 30 = .pointer (some ⟨bj, oj, none⟩) := (show xs 30 = fa 30 from hdep 30 (List.mem_of_elem_eq_true (by kernel_rfl))).trans hf30
        have q0 := (HR.out w (hB6.trans (hbw.mono hB6.size))).2.2.2 _ _ HW.out.2.1
        rw [e30]
        go_wp2_with fail
        exact RelPost.mk (Nx.refl _) _ rfl hf31.symm rfl
      · go_wp2_with fail
        exact RelPost.mk (Nx.refl _) _ rfl hf32.symm rfl
      · have e32 : xs 32 = .slice (some ⟨bj, oj, none⟩) (fr.length + 2) cj := (show xs 32 = fa 32 from hdep 32 (List.mem_of_elem_eq_true (by kernel_rfl))).trans hf32
        rw [e32]
        go_wp2_with fail
        exact RelPost.mk (Nx.refl _) _ rfl hf33.symm rfl
      · have e33 : xs 33 = .pointer (some ⟨bj, oj + 1, none⟩) := (show xs 33 = fa 33 from hdep 33 (List.mem_of_elem_eq_true (by kernel_rfl))).trans hf33
        have q0 := (HR.out w (hB6.trans (hbw.mono hB6.size))).2.2.2 _ _ HW.out.2.2
        rw [e33]
        go_wp2_with fail
        exact RelPost.mk (Nx.refl _) _ rfl hf34.symm rfl
      · have e28 : xs 28 = .slice (some ⟨g3, 0, none⟩) s.mem.length d3 := (show xs 28 = fa 28 from hdep 28 (List.mem_of_elem_eq_true (by kernel_rfl))).trans hf28
        have e31 : xs 31 = .int .i64 (l : Int) := (show xs 31 = fa 31 from hdep 31 (List.mem_of_elem_eq_true (by kernel_rfl))).trans hf31
        rw [e28, e31]
        go_wp2_with fail
        exact RelPost.mk (Nx.refl _) _ rfl hf35.symm rfl
    intro xs w7 hw hT hsep
    have hbw := nx_below hw
    have e34 : xs 34 = .int .i64 w2 := (show xs 34 = fa 34 from hT 34 (List.mem_of_elem_eq_true (by kernel_rfl))).trans hf34
    have e35 : xs 35 = .pointer (some ⟨g3, l, none⟩) := (show xs 35 = fa 35 from hT 35 (List.mem_of_elem_eq_true (by kernel_rfl))).trans hf35
    show wpList _ _ _ [_] _ _
    simp only [shpA, fillL, List.contains_cons, List.contains_nil, Nat.reduceAdd, Nat.reduceBEq, Bool.or_false, Bool.or_true, Bool.false_eq_true, ↓reduceIte]
    rw [e34, e35]
    clear hT hsep hw e34 e35 hf27 hf28 hf29 hf30 hf31 hf32 hf33 hf34 hf35
    generalize xs 27 = u27x
    generalize xs 28 = u28x
    generalize xs 29 = u29x
    generalize xs 30 = u30x
    generalize xs 31 = u31x
    generalize xs 32 = u32x
    generalize xs 33 = u33x
    obtain ⟨g', e', _, _, z1, z2, _, hset⟩ := (ow6.out.below hbw).set3 (i := l) hlm
    injection e' with e'
    injection e' with e'
    subst e'
    have ow8 := Lib.hid (hset w2)
    obtain ⟨w8, hw8⟩ : ∃ w8, w8 = w7.setCell ⟨g3, l, none⟩ (.int .i64 w2) := ⟨_, rfl⟩
    have OT8 := Lib.hid ((OT6.out.under hbw).far (a := ⟨g3, l, none⟩) (fun e => hg3T e.symm) (.int .i64 w2))
    have hB8 : Below V.heap.size V (w7.setCell ⟨g3, l, none⟩ (.int .i64 w2)) := (hB6.trans (hbw.mono hB6.size)).setCell hg3 _
    have hs7 := hbw.size
    go_upto_region 5 with (fail)
    rw [← hw8] at ow8 OT8 hB8 ⊢
    have HS8 : Hid (w8.heap.size = w7.heap.size) := by show _ = _; rw [hw8]; simp
    clear hw8 z1 z2 hset hbw hs7
    obtain ⟨g4', A5, c5, e4', hn4, hg4, hg4l, hk4, hf4, hrow5, hKb, hset4⟩ := ow8.out.at4 (k := k) hk
    injection e4' with e4'
    injection e4' with e4'
    subst e4'
    have Hset4 := Lib.hid hset4
    have HK4 := Lib.hid (And.intro hk4 hf4)
    clear hk4 hf4 hset4 hrow5 hKb
    obtain ⟨fb, hfb⟩ : ∃ f : Nat → Value, f = (fun d => match d with | 36 => .pointer (some ⟨T, 3, none⟩) | 37 => .slice (some ⟨g4, 0, none⟩) s.buf.length d4 | 38 => .int .i64 mi | 39 => .slice Ap p.length cp | 40 => .int .i64 (p.length : Int) | 41 => .int .i64 (k : Int) | 43 => .slice (some ⟨bj, oj, none⟩) (fr.length + 2) cj | 44 => .slice A6 fr.length (cj - 2) | 46 => .pointer (some ⟨g4, k, none⟩) | _ => undef) := ⟨_, rfl⟩
    have hf36 : fb 36 = .pointer (some ⟨T, 3, none⟩) := congrFun hfb 36
    have hf37 : fb 37 = .slice (some ⟨g4, 0, none⟩) s.buf.length d4 := congrFun hfb 37
    have hf38 : fb 38 = .int .i64 mi := congrFun hfb 38
    have hf39 : fb 39 = .slice Ap p.length cp := congrFun hfb 39
    have hf40 : fb 40 = .int .i64 (p.length : Int) := congrFun hfb 40
    have hf41 : fb 41 = .int .i64 (k : Int) := congrFun hfb 41
    have hf43 : fb 43 = .slice (some ⟨bj, oj, none⟩) (fr.length + 2) cj := congrFun hfb 43
    have hf44 : fb 44 = .slice A6 fr.length (cj - 2) := congrFun hfb 44
    have hf46 : fb 46 = .pointer (some ⟨g4, k, none⟩) := congrFun hfb 46
    clear hfb
    refine wp_region_rel [0, 1, 2, 3, 4, 5, 6, 7, 8, 9, 10] [11] (T5d fb w8.heap.size fr) cl5d [36, 37, 38, 39, 40, 41, 42, 43, 44, 45, 46] (by kernel_rfl) (by kernel_rfl) rfl (by simp) t5d_nx t5d_blk ?_ ?_
    · refine ⟨?_, ?_, ?_, ?_, ?_, ?_, ?_, ?_, ?_, ?_, ?_, trivial⟩
      all_goals (intro xs w hw hdep hsep; have hbw := nx_below hw; simp only [shpA, fillL, List.contains_cons, List.contains_nil, Nat.reduceAdd, Nat.reduceBEq, Bool.or_false, Bool.or_true, Bool.false_eq_true, ↓reduceIte])
      · go_wp2_with fail
        exact RelPost.mk (Nx.refl _) _ rfl hf36.symm rfl
      · have e36 : xs 36 = .pointer (some ⟨T, 3, none⟩) := (show xs 36 = fb 36 from hdep 36 (List.mem_of_elem_eq_true (by kernel_rfl))).trans hf36
        have q0 := (OT8.out.under hbw).cell (i := 3) rfl
        rw [e36]
        go_wp2_with fail
        exact RelPost.mk (Nx.refl _) _ rfl hf37.symm rfl
      · go_wp2_with fail
        exact RelPost.mk (Nx.refl _) _ rfl hf38.symm rfl
      · go_wp2_with fail
        exact RelPost.mk (Nx.refl _) _ rfl hf39.symm rfl
      · have e39 : xs 39 = .slice Ap p.length cp := (show xs 39 = fb 39 from hdep 39 (List.mem_of_elem_eq_true (by kernel_rfl))).trans hf39
        rw [e39]
        go_wp2_with fail
        exact RelPost.mk (Nx.refl _) _ rfl hf40.symm rfl
      · have e38 : xs 38 = .int .i64 mi := (show xs 38 = fb 38 from hdep 38 (List.mem_of_elem_eq_true (by kernel_rfl))).trans hf38
        have e40 : xs 40 = .int .i64 (p.length : Int) := (show xs 40 = fb 40 from hdep 40 (List.mem_of_elem_eq_true (by kernel_rfl))).trans hf40
        rw [e38, e40]
        go_wp2_with fail
        exact RelPost.mk (Nx.refl _) _ rfl hf41.symm rfl
      · go_wp2_with fail
        exact RelPost.own ((Below.refl _ _).alloc (Nat.le_refl _) _) _ rfl ⟨w.heap.size, rfl, Own.new w _ _, Below.size hbw⟩ (fun b hb => .inl (by injection hb with hb; simp only at hb; omega))
      · go_wp2_with fail
        exact RelPost.mk (Nx.refl _) _ rfl hf43.symm rfl
      · have e43 : xs 43 = .slice (some ⟨bj, oj, none⟩) (fr.length + 2) cj := (show xs 43 = fb 43 from hdep 43 (List.mem_of_elem_eq_true (by kernel_rfl))).trans hf43
        rw [e43]
        clear hsl
        go_wp2_with fail
        all_goals
          refine RelPost.mk (Nx.refl _) _ rfl (show _ = _ from ?_) rfl
          rw [hf44, HA6.out]
          first | (rw [if_neg (by assumption)]; rfl) | (have hc : cj = 2 := (by assumption); subst hc; rw [if_pos rfl]; rfl)
      · obtain ⟨g, e42, o1, hg1⟩ : EmpI w8.heap.size w (xs 42) := hdep 42 (List.mem_of_elem_eq_true (by kernel_rfl))
        have e44 : xs 44 = .slice A6 fr.length (cj - 2) := (show xs 44 = fb 44 from hdep 44 (List.mem_of_elem_eq_true (by kernel_rfl))).trans hf44
        have hr := HFr.out.le (HR.out w (hB8.trans (hbw.mono hB8.size))).2.2.2
        have e42' := e42
        rw [e42, e44]
        go_wp2_with (at_builtin; refine wpList_append_emp (o := ⟨some 45, _, _, _, _, _⟩) (by rfl) _ _ _ (by rfl) qint_congr (R := RInt) w8.heap.size 3 i0 _ 8 Tryz.underlying24 hi0 hz0 hz1 hz2 rfl (by omega) g (by rfl) o1 hg1 A6 (cj - 2) fr (by rfl) hr (fun cs y h => h) qint_one (by simp [maxLen]; omega) (by omega) ?_; intro A' c' w' hrow hnx hbk)
        exact RelPost.own hnx _ rfl ⟨A', c', rfl, hrow⟩ (fun b hb => by
          rcases hbk b hb with h | h
          · exact .inr ⟨42, (List.mem_of_elem_eq_true (by kernel_rfl)), rfl, by rw [e42', h]; rfl⟩
          · exact .inl h)
      · have e37 : xs 37 = .slice (some ⟨g4, 0, none⟩) s.buf.length d4 := (show xs 37 = fb 37 from hdep 37 (List.mem_of_elem_eq_true (by kernel_rfl))).trans hf37
        have e41 : xs 41 = .int .i64 (k : Int) := (show xs 41 = fb 41 from hdep 41 (List.mem_of_elem_eq_true (by kernel_rfl))).trans hf41
        rw [e37, e41]
        go_wp2_with fail
        exact RelPost.mk (Nx.refl _) _ rfl hf46.symm rfl
    intro xs w9 hw hT hsep
    have hbw := nx_below hw
    obtain ⟨A9, c9, e45, hr9⟩ : HasI w8.heap.size fr w9 (xs 45) := hT 45 (List.mem_of_elem_eq_true (by kernel_rfl))
    have e46 : xs 46 = .pointer (some ⟨g4, k, none⟩) := (show xs 46 = fb 46 from hT 46 (List.mem_of_elem_eq_true (by kernel_rfl))).trans hf46
    show wpList _ _ _ [_] _ _
    simp only [shpA, fillL, List.contains_cons, List.contains_nil, Nat.reduceAdd, Nat.reduceBEq, Bool.or_false, Bool.or_true, Bool.false_eq_true, ↓reduceIte]
    rw [e46, e45]
    clear hT hsep hw e46 e45 hf36 hf37 hf38 hf39 hf40 hf41 hf43 hf44 hf46
    generalize xs 36 = u36x
    generalize xs 37 = u37x
    generalize xs 38 = u38x
    generalize xs 39 = u39x
    generalize xs 40 = u40x
    generalize xs 41 = u41x
    generalize xs 42 = u42x
    generalize xs 43 = u43x
    generalize xs 44 = u44x
    have z1 := Le.below hbw _ _ HK4.out.1
    have z2 : w9.frozen? ⟨g4, k, none⟩ = false := by rw [World.frozen?_of_block (w := w8) (hbw.block g4 hg4l)]; exact HK4.out.2
    have hg4l9 : g4 < w9.heap.size := Nat.lt_of_lt_of_le hg4l hbw.size
    obtain ⟨cs', Fs', hfin⟩ := Hset4.out w9 (.slice A9 fr.length c9) fr (fun b _ h2 _ => hbw.block b h2) hbw.size (hr9.rebase fun _ _ => Nat.zero_le _) (fun b hb => .inr (hr9.blk hb).1)
    have Hfin := Lib.hid hfin
    obtain ⟨w10, hw10⟩ : ∃ w10, w10 = w9.setCell ⟨g4, k, none⟩ (.slice A9 fr.length c9) := ⟨_, rfl⟩
    have OT10 := Lib.hid ((OT8.out.under hbw).far (a := ⟨g4, k, none⟩) (fun e => hg4T e.symm) (.slice A9 fr.length c9))
    have hB10 : Below V.heap.size V (w9.setCell ⟨g4, k, none⟩ (.slice A9 fr.length c9)) := (hB8.trans (hbw.mono hB8.size)).setCell (Nat.le_trans ow8.out.le hg4) _
    go_upto_region 6 with (fail)
    rw [← hw10] at Hfin OT10 hB10 ⊢
    clear hw10 z1 z2 hfin hbw hr9
    have q0 := OT10.out.cell (i := 0) rfl
    have q1 := OT10.out.cell (i := 1) rfl
    have q2 := OT10.out.cell (i := 2) rfl
    have q3 := OT10.out.cell (i := 3) rfl
    have hTl := OT10.out.lt
    have oRr := (HR.out w10 hB10).2.2.1
    have p0 := oRr.cell (i := 0) rfl
    have p1 := oRr.cell (i := 1) rfl
    have p2 := oRr.cell (i := 2) rfl
    have p3 := oRr.cell (i := 3) rfl
    have f0 := oRr.frozen 0
    have f1 := oRr.frozen 1
    have f2 := oRr.frozen 2
    have f3 := oRr.frozen 3
    have hRl := oRr.lt
    clear oRr
    go_wp2_with fail
    refine bodyPost_ret (v := .agg #[.slice D1 s.at_.length d1, .slice D2 s.regs.length d2, .slice (some ⟨g3, 0, none⟩) s.mem.length d3, .slice (some ⟨g4, 0, none⟩) s.buf.length d4]) (by simp [results, Tryz.results90, go_sem, p0, p1, p2, p3]) rfl ?_
    exact Hfin.out.ret (by rw [← Hend.out, HEnd'.out]) (by have := HVs.out; omega) (hB.trans (hB10.mono hB.size)) (by omega) (by have := HVs.out; omega) _ _ _ _
  case pos =>
    have hmi : ¬ (p.length : Int) ≤ (m : Int) := by omega
    have hge : decide ((p.length : Int) ≤ (m : Int)) = false := by rw [decide_eq_false_iff_not]; omega
    have hge2 : decide (p.length ≤ m) = false := by rw [decide_eq_false_iff_not]; omega
    obtain ⟨hmS, hbe⟩ := (can_thr hmp).1 hcan
    have hpc := (mem_mvS.1 hmS).2
    have hix := ins_ok hp hpc
    have hnx : nxB p sp b m = thrB sp b m (insS p b.s m) := by unfold nxB; rw [if_pos hmp]
    obtain ⟨bp, op, A5, c5, e5, hbp, k0, _, hins⟩ := SlR.getSub HP.out hmp
    subst e5
    have hth := thrP_get hmp
    obtain ⟨th, hthe⟩ : ∃ th, th = p[m] := ⟨_, rfl⟩
    rw [← hthe] at k0 hins hth
    obtain ⟨k, hkk⟩ : ∃ k, k = pcS b.s m := ⟨_, rfl⟩
    have hkl : k < th.length := by rw [hkk, ← hth]; exact hpc
    have hx : th[k]'hkl = insS p b.s m := by
      have h := ins_get hpc
      rw [h]
      simp only [hth, hkk]
    obtain ⟨b1, o1, e6, hb1, ii0, ii1, ii2, ii3⟩ := InsS.get hins hkl
    subst e6
    rw [hx] at ii0 ii1 ii2 ii3
    have hxk : (thrP p m).getD k ⟨0, 0, 0, 0⟩ = insS p b.s m := by rw [hkk]; rfl
    obtain ⟨x, hxe⟩ : ∃ x, x = insS p b.s m := ⟨_, rfl⟩
    rw [← hxe] at ii0 ii1 ii2 ii3 hxk hix hnx hbe
    have hat : m < s.at_.length := by rw [HL.out.1]; exact hmp
    obtain ⟨b3, o3, e7, hb3, j0⟩ := HO.out.2.2.2.at_.get hat
    subst e7
    have hatk : s.at_.getD m 0 = (k : Int) := by rw [HS.out, s3B_at, hkk]
    have hatk' : s.at_[m] = (k : Int) := by rw [← hatk, List.getD_eq_getElem?_getD, List.getElem?_eq_getElem hat]; rfl
    rw [hatk'] at j0
    have hth7 : th.length ≤ 7 := by rw [← hth]; exact (thr_ok hp m).1
    have HW : Hid ((W.cell? ⟨bp, op + m, none⟩ = some (.slice (some ⟨b1, o1, none⟩) th.length c5) ∧ W.cell? ⟨b3, o3 + m, none⟩ = some (.int .i64 (k : Int))) ∧ W.cell? ⟨b1, o1 + k * 4, none⟩ = some (.int .i64 x.op) ∧ W.cell? ⟨b1, o1 + k * 4 + 1, none⟩ = some (.int .i64 x.loc) ∧ W.cell? ⟨b1, o1 + k * 4 + 2, none⟩ = some (.int .i64 x.reg) ∧ W.cell? ⟨b1, o1 + k * 4 + 3, none⟩ = some (.int .i64 x.val)) := ⟨⟨k0, j0⟩, ii0, ii1, ii2, ii3⟩
    have HX := Lib.hid (And.intro hix (And.intro hnx (And.intro hbe (And.intro hatk (And.intro hxk hth)))))
    have hkI : (k : Int) < (th.length : Int) := by omega
    have hatI : (m : Int) < (s.at_.length : Int) := by omega
    have hmI : (m : Int) < (p.length : Int) := by omega
    have Hkk := Lib.hid hkk
    clear hix hnx hbe hatk hatk' hxk hth k0 j0 ii0 ii1 ii2 ii3 hx hxe hthe hins hcan hmS hpc hkk
    go_upto_region 7 with (fail)
    obtain ⟨fa, hfa⟩ : ∃ f : Nat → Value, f = (fun d => match d with | 48 => .slice (some ⟨bp, op, none⟩) p.length cp | 49 => .int .i64 (m : Int) | 50 => .pointer (some ⟨bp, op + m, none⟩) | 51 => .slice (some ⟨b1, o1, none⟩) th.length c5 | 52 => .pointer (some ⟨W.heap.size, 0, none⟩) | 53 => .slice (some ⟨b3, o3, none⟩) s.at_.length c1 | 54 => .int .i64 (m : Int) | 55 => .pointer (some ⟨b3, o3 + m, none⟩) | 56 => .int .i64 (k : Int) | 57 => .pointer (some ⟨b1, o1 + k * 4, none⟩) | 58 => .agg #[.int .i64 x.op, .int .i64 x.loc, .int .i64 x.reg, .int .i64 x.val] | _ => undef) := ⟨_, rfl⟩
    have hf48 : fa 48 = .slice (some ⟨bp, op, none⟩) p.length cp := congrFun hfa 48
    have hf49 : fa 49 = .int .i64 (m : Int) := congrFun hfa 49
    have hf50 : fa 50 = .pointer (some ⟨bp, op + m, none⟩) := congrFun hfa 50
    have hf51 : fa 51 = .slice (some ⟨b1, o1, none⟩) th.length c5 := congrFun hfa 51
    have hf52 : fa 52 = .pointer (some ⟨W.heap.size, 0, none⟩) := congrFun hfa 52
    have hf53 : fa 53 = .slice (some ⟨b3, o3, none⟩) s.at_.length c1 := congrFun hfa 53
    have hf54 : fa 54 = .int .i64 (m : Int) := congrFun hfa 54
    have hf55 : fa 55 = .pointer (some ⟨b3, o3 + m, none⟩) := congrFun hfa 55
    have hf56 : fa 56 = .int .i64 (k : Int) := congrFun hfa 56
    have hf57 : fa 57 = .pointer (some ⟨b1, o1 + k * 4, none⟩) := congrFun hfa 57
    have hf58 : fa 58 = .agg #[.int .i64 x.op, .int .i64 x.loc, .int .i64 x.reg, .int .i64 x.val] := congrFun hfa 58
    clear hfa
    refine wp_region_rel [0, 1, 2, 3, 4, 5, 6, 7, 8, 9, 10, 11] [12] (TAl fa 11 w6.heap.size 52 #[.int .i64 0, .int .i64 0, .int .i64 0, .int .i64 0]) (fun d => if d = 11 then 1 else 0) [48, 49, 50, 51, 52, 53, 54, 55, 56, 57, 58, 11] (by kernel_rfl) (by kernel_rfl) rfl (by simp) tal_nx tal_blk ?_ ?_
    · refine ⟨?_, ?_, ?_, ?_, ?_, ?_, ?_, ?_, ?_, ?_, ?_, ?_, trivial⟩
      all_goals (intro xs w hw hdep hsep; have hbw := nx_below hw; simp only [shpA, fillL, List.contains_cons, List.contains_nil, Nat.reduceAdd, Nat.reduceBEq, Bool.or_false, Bool.or_true, Bool.false_eq_true, ↓reduceIte])
      · go_wp2_with fail
        exact RelPost.mk (Nx.refl _) _ rfl hf48.symm rfl
      · go_wp2_with fail
        exact RelPost.mk (Nx.refl _) _ rfl hf49.symm rfl
      · have e48 : xs 48 = .slice (some ⟨bp, op, none⟩) p.length cp := (show xs 48 = fa 48 from hdep 48 (List.mem_of_elem_eq_true (by kernel_rfl))).trans hf48
        have e49 : xs 49 = .int .i64 (m : Int) := (show xs 49 = fa 49 from hdep 49 (List.mem_of_elem_eq_true (by kernel_rfl))).trans hf49
        rw [e48, e49]
        go_wp2_with fail
        exact RelPost.mk (Nx.refl _) _ rfl hf50.symm rfl
      · have e50 : xs 50 = .pointer (some ⟨bp, op + m, none⟩) := (show xs 50 = fa 50 from hdep 50 (List.mem_of_elem_eq_true (by kernel_rfl))).trans hf50
        have q0 := (HR.out w (hB6.trans (hbw.mono hB6.size))).2.2.2 _ _ HW.out.1.1
        rw [e50]
        go_wp2_with fail
        exact RelPost.mk (Nx.refl _) _ rfl hf51.symm rfl
      · go_wp2_with fail
        exact RelPost.mk (Nx.refl _) _ rfl hf52.symm rfl
      · have e52 : xs 52 = .pointer (some ⟨W.heap.size, 0, none⟩) := (show xs 52 = fa 52 from hdep 52 (List.mem_of_elem_eq_true (by kernel_rfl))).trans hf52
        have q0 := (HR.out w (hB6.trans (hbw.mono hB6.size))).1.1
        rw [e52]
        go_wp2_with fail
        exact RelPost.mk (Nx.refl _) _ rfl hf53.symm rfl
      · go_wp2_with fail
        exact RelPost.mk (Nx.refl _) _ rfl hf54.symm rfl
      · have e53 : xs 53 = .slice (some ⟨b3, o3, none⟩) s.at_.length c1 := (show xs 53 = fa 53 from hdep 53 (List.mem_of_elem_eq_true (by kernel_rfl))).trans hf53
        have e54 : xs 54 = .int .i64 (m : Int) := (show xs 54 = fa 54 from hdep 54 (List.mem_of_elem_eq_true (by kernel_rfl))).trans hf54
        rw [e53, e54]
        go_wp2_with fail
        exact RelPost.mk (Nx.refl _) _ rfl hf55.symm rfl
      · have e55 : xs 55 = .pointer (some ⟨b3, o3 + m, none⟩) := (show xs 55 = fa 55 from hdep 55 (List.mem_of_elem_eq_true (by kernel_rfl))).trans hf55
        have q0 := (HR.out w (hB6.trans (hbw.mono hB6.size))).2.2.2 _ _ HW.out.1.2
        rw [e55]
        go_wp2_with fail
        exact RelPost.mk (Nx.refl _) _ rfl hf56.symm rfl
      · have e51 : xs 51 = .slice (some ⟨b1, o1, none⟩) th.length c5 := (show xs 51 = fa 51 from hdep 51 (List.mem_of_elem_eq_true (by kernel_rfl))).trans hf51
        have e56 : xs 56 = .int .i64 (k : Int) := (show xs 56 = fa 56 from hdep 56 (List.mem_of_elem_eq_true (by kernel_rfl))).trans hf56
        rw [e51, e56]
        go_wp2_with fail
        exact RelPost.mk (Nx.refl _) _ rfl hf57.symm rfl
      · have e57 : xs 57 = .pointer (some ⟨b1, o1 + k * 4, none⟩) := (show xs 57 = fa 57 from hdep 57 (List.mem_of_elem_eq_true (by kernel_rfl))).trans hf57
        have q0 := (HR.out w (hB6.trans (hbw.mono hB6.size))).2.2.2 _ _ HW.out.2.1
        have q1 := (HR.out w (hB6.trans (hbw.mono hB6.size))).2.2.2 _ _ HW.out.2.2.1
        have q2 := (HR.out w (hB6.trans (hbw.mono hB6.size))).2.2.2 _ _ HW.out.2.2.2.1
        have q3 := (HR.out w (hB6.trans (hbw.mono hB6.size))).2.2.2 _ _ HW.out.2.2.2.2
        rw [e57]
        go_wp2_with fail
        exact RelPost.mk (Nx.refl _) _ rfl hf58.symm rfl
      · go_wp2_with fail
        exact RelPost.own ((Below.refl _ _).alloc (Nat.le_refl _) _) _ rfl ⟨w.heap.size, rfl, Own.new w _ _, Below.size hbw⟩ (fun b hb => .inl (by injection hb with hb; simp only at hb; omega))
    intro xs w7 hw hT hsep
    have hbw := nx_below hw
    obtain ⟨X, e11, oX7, hX6⟩ : HasB w6.heap.size 52 #[.int .i64 0, .int .i64 0, .int .i64 0, .int .i64 0] w7 (xs 11) := hT 11 (List.mem_of_elem_eq_true (by kernel_rfl))
    have e58 : xs 58 = .agg #[.int .i64 x.op, .int .i64 x.loc, .int .i64 x.reg, .int .i64 x.val] := (show xs 58 = fa 58 from hT 58 (List.mem_of_elem_eq_true (by kernel_rfl))).trans hf58
    show wpList _ _ _ [_] _ _
    simp only [shpA, fillL, List.contains_cons, List.contains_nil, Nat.reduceAdd, Nat.reduceBEq, Bool.or_false, Bool.or_true, Bool.false_eq_true, ↓reduceIte]
    rw [e11, e58]
    clear hT hsep hw e11 e58 hf48 hf49 hf50 hf51 hf52 hf53 hf54 hf55 hf56 hf57 hf58
    generalize xs 48 = u48x
    generalize xs 49 = u49x
    generalize xs 50 = u50x
    generalize xs 51 = u51x
    generalize xs 52 = u52x
    generalize xs 53 = u53x
    generalize xs 54 = u54x
    generalize xs 55 = u55x
    generalize xs 56 = u56x
    generalize xs 57 = u57x
    have z0 := oX7.cell (i := 0) rfl
    have z1 := oX7.cell (i := 1) rfl
    have z2 := oX7.cell (i := 2) rfl
    have z3 := oX7.cell (i := 3) rfl
    have y0 := oX7.frozen 0
    have y1 := oX7.frozen 1
    have y2 := oX7.frozen 2
    have y3 := oX7.frozen 3
    obtain ⟨w8, hw8⟩ : ∃ w8, w8 = (((w7.setCell ⟨X, 0, none⟩ (.int .i64 x.op)).setCell ⟨X, 1, none⟩ (.int .i64 x.loc)).setCell ⟨X, 2, none⟩ (.int .i64 x.reg)).setCell ⟨X, 3, none⟩ (.int .i64 x.val) := ⟨_, rfl⟩
    have oX8 : Own w8 X 52 #[.int .i64 x.op, .int .i64 x.loc, .int .i64 x.reg, .int .i64 x.val] := by rw [hw8]; exact (((oX7.set 0 (.int .i64 x.op)).set 1 (.int .i64 x.loc)).set 2 (.int .i64 x.reg)).set 3 (.int .i64 x.val)
    have hb8 : Below w6.heap.size w6 w8 := by rw [hw8]; exact (((hbw.setCell hX6 _).setCell hX6 _).setCell hX6 _).setCell hX6 _
    have hBV8 : Below V.heap.size V w8 := hB6.trans (hb8.mono hB6.size)
    have ow8 := Lib.hid (ow6.out.below hb8)
    have OX8 := Lib.hid oX8
    have OT8 := Lib.hid (OT6.out.under hb8)
    have hX8 := oX8.lt
    go_upto_region 8 with (fail)
    rw [← hw8]
    clear hw8 oX7 oX8 z0 z1 z2 z3 y0 y1 y2 y3 hbw ow6 OT6
    have xc0 := OX8.out.cell (i := 0) rfl
    by_cases hblk : blkI x = true
    · have hop : x.op = 4 ∨ x.op = 5 := by
        unfold blkI at hblk
        rw [Bool.or_eq_true, decide_eq_true_iff, decide_eq_true_iff] at hblk
        exact hblk
      have hd3 : do3 s m x = s3B (nxB p sp b m) := by rw [HS.out, s3B_thr (sp := sp) hblk, HX.out.2.1]
      have hdo := l3Do_any p s m k x HX.out.1 hmp (by omega) HX.out.2.2.2.1 (by rw [HX.out.2.2.2.2.2]; exact hkl) HX.out.2.2.2.2.1 (by omega) HL.out.1 HL.out.2.1 HL.out.2.2.1 (by have := HL.out.2.2.2.1; omega) (fun xs hx => by have := HL.out.2.2.2.2 xs hx; omega) (by have := HL.out.2.1; omega) w8 _ (PrgS.le HP.out (HR.out w8 hBV8).2.2.2) _ _ _ _ _ _ _ _ (HR.out w8 hBV8).2.1
      rw [hd3] at hdo
      have q0 := (HR.out w8 hBV8).1.1
      have q1 := (HR.out w8 hBV8).1.2.1
      have q2 := (HR.out w8 hBV8).1.2.2.1
      have q3 := (HR.out w8 hBV8).1.2.2.2
      have hRW8 := hBV8.size
      rcases hop with hop | hop
      case' inl =>
        have o4 : (x.op == (4 : Int)) = true := by rw [beq_iff_eq]; exact hop
        have o5 : (x.op == (5 : Int)) = false := by rw [hop]; rfl
      case' inr =>
        have o5 : (x.op == (5 : Int)) = true := by rw [beq_iff_eq]; exact hop
      all_goals
        clear hop hblk hd3
        go_wp2_with fail
        refine hdo.mono ?_
        rintro e9 w9 ⟨E1, E2, E3, E4, f1, f2, f3, f4, rfl, hr9, hb9⟩
        have hBV9 := hBV8.trans (hb9.mono hBV8.size)
        have oRr := (HR.out w9 hBV9).2.2.1
        have p0 := oRr.cell (i := 0) rfl
        have p1 := oRr.cell (i := 1) rfl
        have p2 := oRr.cell (i := 2) rfl
        have p3 := oRr.cell (i := 3) rfl
        have f0 := oRr.frozen 0
        have f1' := oRr.frozen 1
        have f2' := oRr.frozen 2
        have f3' := oRr.frozen 3
        have hRl := oRr.lt
        have Hr9 := Lib.hid hr9
        have HRV : Hid (W.heap.size + 1 < w8.heap.size) := by have := HVs.out; show _ < _; omega
        clear oRr hdo hr9 q0 q1 q2 q3 hRW8
        go_wp2_with fail
        refine bodyPost_ret (v := .agg #[.slice E1 (s3B (nxB p sp b m)).at_.length f1, .slice E2 (s3B (nxB p sp b m)).regs.length f2, .slice E3 (s3B (nxB p sp b m)).mem.length f3, .slice E4 (s3B (nxB p sp b m)).buf.length f4]) (by simp [results, Tryz.results90, go_sem, p0, p1, p2, p3]) rfl ?_
        have hWR : W.heap.size ≤ W.heap.size + 1 := Nat.le_succ _
        exact ⟨E1, E2, E3, E4, f1, f2, f3, f4, rfl, (Hr9.out.setR HRV.out _ _ _ _).le (Le.above_mono (Nat.le_trans hB.size hBV8.size) _), ((((hB.trans (hBV9.mono hB.size)).setCell hWR _).setCell hWR _).setCell hWR _).setCell hWR _⟩
    have hbf : blkI x = false := by cases h : blkI x <;> simp_all
    have o45 : (x.op == (4 : Int)) = false ∧ (x.op == (5 : Int)) = false := by
      unfold blkI at hbf
      rw [Bool.or_eq_false_iff, decide_eq_false_iff_not, decide_eq_false_iff_not] at hbf
      exact ⟨by rw [beq_eq_false_iff_ne]; exact hbf.1, by rw [beq_eq_false_iff_ne]; exact hbf.2⟩
    obtain ⟨o4, o5⟩ := o45
    have Hbf := Lib.hid hbf
    have hD1 := ow8.out.set1 hat
    obtain ⟨g1, e1, hg1, _⟩ := hD1
    subst e1
    have hg1T : g1 ≠ T := fun e => ow8.out.r1.ne_own OT8.out (by decide) (by rw [e]; rfl)
    have hg1X : g1 ≠ X := fun e => ow8.out.r1.ne_own OX8.out (by decide) (by rw [e]; rfl)
    clear hbf hblk
    go_upto_region 10 with (fail)
    clear xc0
    obtain ⟨fb, hfb⟩ : ∃ f : Nat → Value, f = (fun d => match d with | 71 => .pointer (some ⟨T, 0, none⟩) | 72 => .slice (some ⟨g1, 0, none⟩) s.at_.length d1 | 73 => .int .i64 (m : Int) | 74 => .pointer (some ⟨W.heap.size, 0, none⟩) | 75 => .slice (some ⟨b3, o3, none⟩) s.at_.length c1 | 76 => .int .i64 (m : Int) | 77 => .pointer (some ⟨b3, o3 + m, none⟩) | 78 => .int .i64 (k : Int) | 79 => .int .i64 ((k : Int) + 1) | 80 => .pointer (some ⟨g1, m, none⟩) | _ => undef) := ⟨_, rfl⟩
    have hf71 : fb 71 = .pointer (some ⟨T, 0, none⟩) := congrFun hfb 71
    have hf72 : fb 72 = .slice (some ⟨g1, 0, none⟩) s.at_.length d1 := congrFun hfb 72
    have hf73 : fb 73 = .int .i64 (m : Int) := congrFun hfb 73
    have hf74 : fb 74 = .pointer (some ⟨W.heap.size, 0, none⟩) := congrFun hfb 74
    have hf75 : fb 75 = .slice (some ⟨b3, o3, none⟩) s.at_.length c1 := congrFun hfb 75
    have hf76 : fb 76 = .int .i64 (m : Int) := congrFun hfb 76
    have hf77 : fb 77 = .pointer (some ⟨b3, o3 + m, none⟩) := congrFun hfb 77
    have hf78 : fb 78 = .int .i64 (k : Int) := congrFun hfb 78
    have hf79 : fb 79 = .int .i64 ((k : Int) + 1) := congrFun hfb 79
    have hf80 : fb 80 = .pointer (some ⟨g1, m, none⟩) := congrFun hfb 80
    clear hfb
    refine wp_region_rel [0, 1, 2, 3, 4, 5, 6, 7, 8, 9] [10] (TEq fb) (fun _ => 0) [71, 72, 73, 74, 75, 76, 77, 78, 79, 80] (by kernel_rfl) (by kernel_rfl) rfl (by simp) teq_nx teq_blk ?_ ?_
    · refine ⟨?_, ?_, ?_, ?_, ?_, ?_, ?_, ?_, ?_, ?_, trivial⟩
      all_goals (intro xs w hw hdep hsep; have hbw := nx_below hw; simp only [shpA, fillL, List.contains_cons, List.contains_nil, Nat.reduceAdd, Nat.reduceBEq, Bool.or_false, Bool.or_true, Bool.false_eq_true, ↓reduceIte])
      · go_wp2_with fail
        exact RelPost.mk (Nx.refl _) _ rfl hf71.symm rfl
      · have e71 : xs 71 = .pointer (some ⟨T, 0, none⟩) := (show xs 71 = fb 71 from hdep 71 (List.mem_of_elem_eq_true (by kernel_rfl))).trans hf71
        have q0 := (OT8.out.under hbw).cell (i := 0) rfl
        rw [e71]
        go_wp2_with fail
        exact RelPost.mk (Nx.refl _) _ rfl hf72.symm rfl
      · go_wp2_with fail
        exact RelPost.mk (Nx.refl _) _ rfl hf73.symm rfl
      · go_wp2_with fail
        exact RelPost.mk (Nx.refl _) _ rfl hf74.symm rfl
      · have e74 : xs 74 = .pointer (some ⟨W.heap.size, 0, none⟩) := (show xs 74 = fb 74 from hdep 74 (List.mem_of_elem_eq_true (by kernel_rfl))).trans hf74
        have q0 := (HR.out w (hBV8.trans (hbw.mono hBV8.size))).1.1
        rw [e74]
        go_wp2_with fail
        exact RelPost.mk (Nx.refl _) _ rfl hf75.symm rfl
      · go_wp2_with fail
        exact RelPost.mk (Nx.refl _) _ rfl hf76.symm rfl
      · have e75 : xs 75 = .slice (some ⟨b3, o3, none⟩) s.at_.length c1 := (show xs 75 = fb 75 from hdep 75 (List.mem_of_elem_eq_true (by kernel_rfl))).trans hf75
        have e76 : xs 76 = .int .i64 (m : Int) := (show xs 76 = fb 76 from hdep 76 (List.mem_of_elem_eq_true (by kernel_rfl))).trans hf76
        rw [e75, e76]
        go_wp2_with fail
        exact RelPost.mk (Nx.refl _) _ rfl hf77.symm rfl
      · have e77 : xs 77 = .pointer (some ⟨b3, o3 + m, none⟩) := (show xs 77 = fb 77 from hdep 77 (List.mem_of_elem_eq_true (by kernel_rfl))).trans hf77
        have q0 := (HR.out w (hBV8.trans (hbw.mono hBV8.size))).2.2.2 _ _ HW.out.1.2
        rw [e77]
        go_wp2_with fail
        exact RelPost.mk (Nx.refl _) _ rfl hf78.symm rfl
      · have e78 : xs 78 = .int .i64 (k : Int) := (show xs 78 = fb 78 from hdep 78 (List.mem_of_elem_eq_true (by kernel_rfl))).trans hf78
        rw [e78]
        go_wp2_with fail
        exact RelPost.mk (Nx.refl _) _ rfl hf79.symm rfl
      · have e72 : xs 72 = .slice (some ⟨g1, 0, none⟩) s.at_.length d1 := (show xs 72 = fb 72 from hdep 72 (List.mem_of_elem_eq_true (by kernel_rfl))).trans hf72
        have e73 : xs 73 = .int .i64 (m : Int) := (show xs 73 = fb 73 from hdep 73 (List.mem_of_elem_eq_true (by kernel_rfl))).trans hf73
        rw [e72, e73]
        go_wp2_with fail
        exact RelPost.mk (Nx.refl _) _ rfl hf80.symm rfl
    intro xs w9 hw hT hsep
    have hbw := nx_below hw
    have e79 : xs 79 = .int .i64 ((k : Int) + 1) := (show xs 79 = fb 79 from hT 79 (List.mem_of_elem_eq_true (by kernel_rfl))).trans hf79
    have e80 : xs 80 = .pointer (some ⟨g1, m, none⟩) := (show xs 80 = fb 80 from hT 80 (List.mem_of_elem_eq_true (by kernel_rfl))).trans hf80
    show wpList _ _ _ [_] _ _
    simp only [shpA, fillL, List.contains_cons, List.contains_nil, Nat.reduceAdd, Nat.reduceBEq, Bool.or_false, Bool.or_true, Bool.false_eq_true, ↓reduceIte]
    rw [e79, e80]
    clear hT hsep hw e79 e80 hf71 hf72 hf73 hf74 hf75 hf76 hf77 hf78 hf79 hf80
    generalize xs 71 = u71x
    generalize xs 72 = u72x
    generalize xs 73 = u73x
    generalize xs 74 = u74x
    generalize xs 75 = u75x
    generalize xs 76 = u76x
    generalize xs 77 = u77x
    generalize xs 78 = u78x
    obtain ⟨g', e', _, _, z1, f1, _, hset⟩ := (ow8.out.below hbw).set1 hat
    injection e' with e'
    injection e' with e'
    subst e'
    have ow10 := Lib.hid (hset ((k : Int) + 1))
    obtain ⟨w10, hw10⟩ : ∃ w10, w10 = w9.setCell ⟨g1, m, none⟩ (.int .i64 ((k : Int) + 1)) := ⟨_, rfl⟩
    have OT10 := Lib.hid ((OT8.out.under hbw).far (a := ⟨g1, m, none⟩) (fun e => hg1T e.symm) (.int .i64 ((k : Int) + 1)))
    have OX10 := Lib.hid ((OX8.out.under hbw).far (a := ⟨g1, m, none⟩) (fun e => hg1X e.symm) (.int .i64 ((k : Int) + 1)))
    have hBV10 : Below V.heap.size V (w9.setCell ⟨g1, m, none⟩ (.int .i64 ((k : Int) + 1))) := (hBV8.trans (hbw.mono hBV8.size)).setCell hg1 _
    go_upto_region 11 with (fail)
    rw [← hw10] at ow10 OT10 OX10 hBV10 ⊢
    clear hw10 z1 f1 hset OT8 OX8 ow8 hbw hX8 hb8 hBV8
    have xc0 := OX10.out.cell (i := 0) rfl
    have hX10 := OX10.out.lt
    have hxb : (0 ≤ x.reg ∧ x.reg ≤ 2) ∧ 0 ≤ x.loc ∧ x.loc ≤ 2 := by
      rcases HX.out.1 with h' | h' | h' | h' <;> omega
    obtain ⟨r, hr2⟩ : ∃ r : Nat, x.reg = (r : Int) := ⟨x.reg.toNat, by omega⟩
    obtain ⟨l, hl2⟩ : ∃ l : Nat, x.loc = (l : Int) := ⟨x.loc.toNat, by omega⟩
    have hr3 : r < 3 := by omega
    have hl3 : l < 3 := by omega
    have Hrl := Lib.hid (And.intro hr2 hl2)
    clear hxb hr2 hl2
    have HXc : Hid (∀ U, Own U X 52 #[.int .i64 x.op, .int .i64 x.loc, .int .i64 x.reg, .int .i64 x.val] → U.cell? ⟨X, 1, none⟩ = some (.int .i64 (l : Int)) ∧ U.cell? ⟨X, 2, none⟩ = some (.int .i64 (r : Int))) := fun U h => ⟨by rw [← Hrl.out.2]; exact h.cell (i := 1) rfl, by rw [← Hrl.out.1]; exact h.cell (i := 2) rfl⟩
    by_cases hop : x.op = 1
    case pos =>
      have o1 : (x.op == (1 : Int)) = true := by rw [beq_iff_eq]; exact hop
      have hrg : m * 3 + r < s.regs.length := by rw [HL.out.2.1]; omega
      have hD2 := ow10.out.set2 hrg
      obtain ⟨g2, e2, hg2, _⟩ := hD2
      subst e2
      have hg2T : g2 ≠ T := fun e => ow10.out.r2.ne_own OT10.out (by decide) (by rw [e]; rfl)
      have hregI : ((m * 3 + r : Nat) : Int) < (s.regs.length : Int) := by omega
      obtain ⟨sv, hsv⟩ : ∃ sv, sv = seenB (bufB b (plB sp m l)) (l : Int) (b.s.mem.getD l 0) := ⟨_, rfl⟩
      have Hsn : Hid (∀ U, Below V.heap.size V U → Calls Tryz.prog 120 #[.agg #[.slice (some ⟨b3, o3, none⟩) s.at_.length c1, .slice A2 s.regs.length c2, .slice A3 s.mem.length c3, .slice A4 s.buf.length c4], .int .i64 m, .int .i64 l, .bool sp] U (fun e U' => e = .returned (.int .i64 sv) ∧ Below U.heap.size U U')) := fun U hU => by
        have h := l4Seen_any p hp sp b hb m l hmp hl3 U (some ⟨b3, o3, none⟩) A2 A3 A4 c1 c2 c3 c4 (by rw [← HS.out]; exact (HR.out U hU).2.1)
        rw [← HS.out, ← hsv] at h
        exact h
      have Hend : Hid ((⟨s.at_.set m ((k : Int) + 1), s.regs.set (m * 3 + r) sv, s.mem, s.buf⟩ : S3) = s3B (nxB p sp b m)) := by
        show _ = _
        rw [HX.out.2.1, thr_ld hop, hsv, HS.out, Hrl.out.2, Int.toNat_natCast, Hkk.out]
        unfold s3B rgI
        rw [Hrl.out.1, Int.toNat_natCast]
        simp only [S3.mk.injEq, and_true]
        rw [List.map_set]
        rfl
      clear hop hsv
      go_upto_region 12 with (fail)
      clear xc0
      obtain ⟨fc, hfc⟩ : ∃ f : Nat → Value, f = (fun d => match d with | 84 => .pointer (some ⟨T, 1, none⟩) | 85 => .slice (some ⟨g2, 0, none⟩) s.regs.length d2 | 86 => .int .i64 (m : Int) | 87 => .pointer (some ⟨X, 2, none⟩) | 88 => .int .i64 (r : Int) | 89 => .int .i64 ((m * 3 + r : Nat) : Int) | 90 => .agg #[.slice (some ⟨b3, o3, none⟩) s.at_.length c1, .slice A2 s.regs.length c2, .slice A3 s.mem.length c3, .slice A4 s.buf.length c4] | 91 => .int .i64 (m : Int) | 92 => .pointer (some ⟨X, 1, none⟩) | 93 => .int .i64 (l : Int) | 94 => .bool sp | 95 => .int .i64 sv | 96 => .pointer (some ⟨g2, m * 3 + r, none⟩) | _ => undef) := ⟨_, rfl⟩
      have hf84 : fc 84 = .pointer (some ⟨T, 1, none⟩) := congrFun hfc 84
      have hf85 : fc 85 = .slice (some ⟨g2, 0, none⟩) s.regs.length d2 := congrFun hfc 85
      have hf86 : fc 86 = .int .i64 (m : Int) := congrFun hfc 86
      have hf87 : fc 87 = .pointer (some ⟨X, 2, none⟩) := congrFun hfc 87
      have hf88 : fc 88 = .int .i64 (r : Int) := congrFun hfc 88
      have hf89 : fc 89 = .int .i64 ((m * 3 + r : Nat) : Int) := congrFun hfc 89
      have hf90 : fc 90 = .agg #[.slice (some ⟨b3, o3, none⟩) s.at_.length c1, .slice A2 s.regs.length c2, .slice A3 s.mem.length c3, .slice A4 s.buf.length c4] := congrFun hfc 90
      have hf91 : fc 91 = .int .i64 (m : Int) := congrFun hfc 91
      have hf92 : fc 92 = .pointer (some ⟨X, 1, none⟩) := congrFun hfc 92
      have hf93 : fc 93 = .int .i64 (l : Int) := congrFun hfc 93
      have hf94 : fc 94 = .bool sp := congrFun hfc 94
      have hf95 : fc 95 = .int .i64 sv := congrFun hfc 95
      have hf96 : fc 96 = .pointer (some ⟨g2, m * 3 + r, none⟩) := congrFun hfc 96
      clear hfc
      refine wp_region_rel [0, 1, 2, 3, 4, 5, 6, 7, 8, 9, 10, 11, 12] [13] (TEq fc) (fun _ => 0) [84, 85, 86, 87, 88, 89, 90, 91, 92, 93, 94, 95, 96] (by kernel_rfl) (by kernel_rfl) rfl (by simp) teq_nx teq_blk ?_ ?_
      · refine ⟨?_, ?_, ?_, ?_, ?_, ?_, ?_, ?_, ?_, ?_, ?_, ?_, ?_, trivial⟩
        all_goals (intro xs w hw hdep hsep; have hbw := nx_below hw; simp only [shpA, fillL, List.contains_cons, List.contains_nil, Nat.reduceAdd, Nat.reduceBEq, Bool.or_false, Bool.or_true, Bool.false_eq_true, ↓reduceIte])
        · go_wp2_with fail
          exact RelPost.mk (Nx.refl _) _ rfl hf84.symm rfl
        · have e84 : xs 84 = .pointer (some ⟨T, 1, none⟩) := (show xs 84 = fc 84 from hdep 84 (List.mem_of_elem_eq_true (by kernel_rfl))).trans hf84
          have q0 := (OT10.out.under hbw).cell (i := 1) rfl
          rw [e84]
          go_wp2_with fail
          exact RelPost.mk (Nx.refl _) _ rfl hf85.symm rfl
        · go_wp2_with fail
          exact RelPost.mk (Nx.refl _) _ rfl hf86.symm rfl
        · go_wp2_with fail
          exact RelPost.mk (Nx.refl _) _ rfl hf87.symm rfl
        · have e87 : xs 87 = .pointer (some ⟨X, 2, none⟩) := (show xs 87 = fc 87 from hdep 87 (List.mem_of_elem_eq_true (by kernel_rfl))).trans hf87
          have q0 := (HXc.out w (OX10.out.under hbw)).2
          rw [e87]
          go_wp2_with fail
          exact RelPost.mk (Nx.refl _) _ rfl hf88.symm rfl
        · have e86 : xs 86 = .int .i64 (m : Int) := (show xs 86 = fc 86 from hdep 86 (List.mem_of_elem_eq_true (by kernel_rfl))).trans hf86
          have e88 : xs 88 = .int .i64 (r : Int) := (show xs 88 = fc 88 from hdep 88 (List.mem_of_elem_eq_true (by kernel_rfl))).trans hf88
          rw [e86, e88]
          have hcc := l3Reg_any m r (by omega) (by omega) w
          go_wp2_with fail
          refine hcc.mono ?_
          rintro ec wc ⟨rfl, hbc⟩
          go_wp2_with fail
          exact RelPost.mk hbc _ rfl hf89.symm rfl
        · have q0 := (HR.out w (hBV10.trans (hbw.mono hBV10.size))).1.1
          have q1 := (HR.out w (hBV10.trans (hbw.mono hBV10.size))).1.2.1
          have q2 := (HR.out w (hBV10.trans (hbw.mono hBV10.size))).1.2.2.1
          have q3 := (HR.out w (hBV10.trans (hbw.mono hBV10.size))).1.2.2.2
          go_wp2_with fail
          exact RelPost.mk (Nx.refl _) _ rfl hf90.symm rfl
        · go_wp2_with fail
          exact RelPost.mk (Nx.refl _) _ rfl hf91.symm rfl
        · go_wp2_with fail
          exact RelPost.mk (Nx.refl _) _ rfl hf92.symm rfl
        · have e92 : xs 92 = .pointer (some ⟨X, 1, none⟩) := (show xs 92 = fc 92 from hdep 92 (List.mem_of_elem_eq_true (by kernel_rfl))).trans hf92
          have q0 := (HXc.out w (OX10.out.under hbw)).1
          rw [e92]
          go_wp2_with fail
          exact RelPost.mk (Nx.refl _) _ rfl hf93.symm rfl
        · go_wp2_with fail
          exact RelPost.mk (Nx.refl _) _ rfl hf94.symm rfl
        · have e90 : xs 90 = .agg #[.slice (some ⟨b3, o3, none⟩) s.at_.length c1, .slice A2 s.regs.length c2, .slice A3 s.mem.length c3, .slice A4 s.buf.length c4] := (show xs 90 = fc 90 from hdep 90 (List.mem_of_elem_eq_true (by kernel_rfl))).trans hf90
          have e91 : xs 91 = .int .i64 (m : Int) := (show xs 91 = fc 91 from hdep 91 (List.mem_of_elem_eq_true (by kernel_rfl))).trans hf91
          have e93 : xs 93 = .int .i64 (l : Int) := (show xs 93 = fc 93 from hdep 93 (List.mem_of_elem_eq_true (by kernel_rfl))).trans hf93
          have e94 : xs 94 = .bool sp := (show xs 94 = fc 94 from hdep 94 (List.mem_of_elem_eq_true (by kernel_rfl))).trans hf94
          rw [e90, e91, e93, e94]
          have hcc := Hsn.out w (hBV10.trans (hbw.mono hBV10.size))
          go_wp2_with fail
          refine hcc.mono ?_
          rintro ec wc ⟨rfl, hbc⟩
          go_wp2_with fail
          exact RelPost.mk hbc _ rfl hf95.symm rfl
        · have e85 : xs 85 = .slice (some ⟨g2, 0, none⟩) s.regs.length d2 := (show xs 85 = fc 85 from hdep 85 (List.mem_of_elem_eq_true (by kernel_rfl))).trans hf85
          have e89 : xs 89 = .int .i64 ((m * 3 + r : Nat) : Int) := (show xs 89 = fc 89 from hdep 89 (List.mem_of_elem_eq_true (by kernel_rfl))).trans hf89
          rw [e85, e89]
          go_wp2_with fail
          exact RelPost.mk (Nx.refl _) _ rfl hf96.symm rfl
      intro xs w11 hw hT hsep
      have hbw := nx_below hw
      have e95 : xs 95 = .int .i64 sv := (show xs 95 = fc 95 from hT 95 (List.mem_of_elem_eq_true (by kernel_rfl))).trans hf95
      have e96 : xs 96 = .pointer (some ⟨g2, m * 3 + r, none⟩) := (show xs 96 = fc 96 from hT 96 (List.mem_of_elem_eq_true (by kernel_rfl))).trans hf96
      show wpList _ _ _ [_] _ _
      simp only [shpA, fillL, List.contains_cons, List.contains_nil, Nat.reduceAdd, Nat.reduceBEq, Bool.or_false, Bool.or_true, Bool.false_eq_true, ↓reduceIte]
      rw [e95, e96]
      clear hT hsep hw e95 e96 hf84 hf85 hf86 hf87 hf88 hf89 hf90 hf91 hf92 hf93 hf94 hf95 hf96
      generalize xs 84 = u84x
      generalize xs 85 = u85x
      generalize xs 86 = u86x
      generalize xs 87 = u87x
      generalize xs 88 = u88x
      generalize xs 89 = u89x
      generalize xs 90 = u90x
      generalize xs 91 = u91x
      generalize xs 92 = u92x
      generalize xs 93 = u93x
      generalize xs 94 = u94x
      obtain ⟨g', e', _, _, z1, f1, _, hset⟩ := (ow10.out.below hbw).set2 (i := m * 3 + r) hrg
      injection e' with e'
      injection e' with e'
      subst e'
      have owf := Lib.hid (hset sv)
      obtain ⟨wf, hwf⟩ : ∃ wf, wf = w11.setCell ⟨g2, m * 3 + r, none⟩ (.int .i64 sv) := ⟨_, rfl⟩
      have OTf := Lib.hid ((OT10.out.under hbw).far (a := ⟨g2, m * 3 + r, none⟩) (fun e => hg2T e.symm) (.int .i64 sv))
      have hBVf : Below V.heap.size V (w11.setCell ⟨g2, m * 3 + r, none⟩ (.int .i64 sv)) := (hBV10.trans (hbw.mono hBV10.size)).setCell hg2 _
      go_upto_region 13 with (fail)
      rw [← hwf] at owf OTf hBVf ⊢
      clear hwf z1 f1 hset OT10 OX10 ow10 hbw hX10
      have q0 := OTf.out.cell (i := 0) rfl
      have q1 := OTf.out.cell (i := 1) rfl
      have q2 := OTf.out.cell (i := 2) rfl
      have q3 := OTf.out.cell (i := 3) rfl
      have hTl := OTf.out.lt
      have oRr := (HR.out wf hBVf).2.2.1
      have p0 := oRr.cell (i := 0) rfl
      have p1 := oRr.cell (i := 1) rfl
      have p2 := oRr.cell (i := 2) rfl
      have p3 := oRr.cell (i := 3) rfl
      have f0 := oRr.frozen 0
      have f1 := oRr.frozen 1
      have f2 := oRr.frozen 2
      have f3 := oRr.frozen 3
      have hRl := oRr.lt
      clear oRr
      go_wp2_with fail
      refine bodyPost_ret (v := .agg #[.slice (some ⟨g1, 0, none⟩) s.at_.length d1, .slice (some ⟨g2, 0, none⟩) s.regs.length d2, .slice D3 s.mem.length d3, .slice D4 s.buf.length d4]) (by simp [results, Tryz.results90, go_sem, p0, p1, p2, p3]) rfl ?_
      exact owf.out.ret Hend.out (by have := HVs.out; omega) (hB.trans (hBVf.mono hB.size)) (by omega) (by have := HVs.out; omega) _ _ _ _
    case neg =>
      have o1 : (x.op == (1 : Int)) = false := by rw [beq_eq_false_iff_ne]; exact hop
      have h23 : x.op = 2 ∨ x.op = 3 := by
        rcases thr_cases HX.out.1 with h | h | h
        · exact absurd h hop
        · exact h
        · rw [Hbf.out] at h; cases h
      obtain ⟨kk, hkk⟩ : ∃ kk, kk = plB sp m l := ⟨_, rfl⟩
      have hkb : kk < b.bufs.length := by rw [hkk, hb.len]; exact pl_lt hmp hl3
      have hk4 : kk < s.buf.length := by rw [HS.out, s3B_len]; exact hkb
      have hpl4 := l4Place_any sp m l (by omega) hl3 w10
      rw [← hkk] at hpl4
      obtain ⟨ys, hys⟩ : ∃ ys, ys = s.buf[kk]'hk4 := ⟨_, rfl⟩
      have hysf : ys = flatW (bufB b kk) := by rw [hys]; simp only [HS.out]; exact s3B_buf hkb (by rw [s3B_len]; exact hkb)
      have hysl : ys.length ≤ 14 := by rw [hys]; exact HL.out.2.2.2.2 _ (List.getElem_mem hk4)
      obtain ⟨wv, hwv⟩ : ∃ wv, wv = val3 s m x := ⟨_, rfl⟩
      have Hvl : Hid (∀ U, Below V.heap.size V U → Calls Tryz.prog 123 #[.agg #[.slice (some ⟨b3, o3, none⟩) s.at_.length c1, .slice A2 s.regs.length c2, .slice A3 s.mem.length c3, .slice A4 s.buf.length c4], .int .i64 m, .agg #[.int .i64 x.op, .int .i64 x.loc, .int .i64 x.reg, .int .i64 x.val]] U (fun e U' => e = .returned (.int .i64 wv) ∧ Below U.heap.size U U')) := fun U hU => by
        rw [hwv]
        exact l3Value_any s m x HX.out.1 (by rw [HL.out.2.1]; omega) (by rw [HL.out.2.1]; omega) U _ A2 A3 A4 _ c2 c3 c4 (HR.out U hU).2.1
      have Hend : Hid ((⟨s.at_.set m ((k : Int) + 1), s.regs, s.mem, s.buf.set kk (ys ++ [(l : Int), wv])⟩ : S3) = s3B (nxB p sp b m)) := by
        show _ = _
        have hv : val3 (s3B b) m x = valS b.s m x := rfl
        rw [HX.out.2.1, thr_st h23, hwv, hysf, HS.out, hv, Hrl.out.2, Int.toNat_natCast, ← hkk, Hkk.out]
        unfold s3B
        simp only [S3.mk.injEq, true_and]
        rw [List.map_set, List.map_set]
        refine ⟨rfl, ?_⟩
        congr 1
        unfold flatW
        rw [List.flatMap_append]
        rfl
      have Hyz := Lib.hid hys
      clear hop h23 hkk hysf hwv hys
      have hBV10s := hBV10.size
      obtain ⟨g4, A6, c6, e4', hn4, hg4, hg4l, hc4, hf4, hrow, hKb, hset4⟩ := ow10.out.at4 hk4
      subst e4'
      have hg4T : g4 ≠ T := fun e => by
        have h2 := OT10.out
        rcases ow10.out.r4.own.2 with ⟨e', _⟩ | ⟨g', cap', cur', e', _, hgc, _⟩
        · cases e'
        · injection e' with e1
          injection e1 with e1
          injection e1 with e1
          subst e1
          unfold Own at h2
          rw [← e, hgc] at h2
          injection h2 with h2
          injection h2 with _ h2
          exact absurd h2 (by decide)
      have hki4 : (kk : Int) < (s.buf.length : Int) := by omega
      have x1 := (HXc.out w10 OX10.out).1
      go_wp2_with fail
      refine hpl4.mono ?_
      rintro e14 w14 ⟨rfl, hb14⟩
      have ow14 := Lib.hid (ow10.out.below hb14)
      have OT14 := Lib.hid (OT10.out.under hb14)
      have OX14 := Lib.hid (OX10.out.under hb14)
      have hBV14 := hBV10.trans (hb14.mono hBV10.size)
      clear hpl4 x1 xc0 hc4 hf4 hrow hKb hset4 OT10 OX10 ow10 hX10
      obtain ⟨g4', A6, c6, e4', hn4, hg4, hg4l, hc4, hf4, hrow, hKb, hset4⟩ := ow14.out.at4 hk4
      injection e4' with e4'
      injection e4' with e4'
      subst e4'
      obtain ⟨yl, hyl⟩ : ∃ yl, yl = (s.buf[kk]'hk4).length := ⟨_, rfl⟩
      have hyl14 : yl ≤ 14 := by rw [hyl]; exact HL.out.2.2.2.2 _ (List.getElem_mem hk4)
      rw [← hyl] at hc4 hrow hKb hset4
      obtain ⟨row, hrw⟩ : ∃ row, row = Value.slice A6 yl c6 := ⟨_, rfl⟩
      rw [← hrw] at hrow hKb hset4
      obtain ⟨zs, hzs⟩ : ∃ zs, zs = s.buf[kk]'hk4 := ⟨_, rfl⟩
      rw [← hzs] at hrow hyl
      have hrl : ∀ g, row.ownBlock = some g → g < w14.heap.size := fun g hg => (hrow.blk hg).2
      have hTn : ¬ row.ownBlock = some T := hrow.ne_own OT14.out (by decide)
      have hXn : ¬ row.ownBlock = some X := hrow.ne_own OX14.out (by decide)
      have hVn : ∀ g, row.ownBlock = some g → V.heap.size ≤ g := fun g hg => Nat.le_trans ow14.out.le (hKb g hg).1
      have hg4n : ¬ row.ownBlock = some g4 := fun e => (hKb g4 e).2 rfl
      have HRow := Lib.hid (And.intro hrow (And.intro hrl (And.intro hTn (And.intro hXn (And.intro hVn hg4n)))))
      have HG4 := Lib.hid (And.intro hc4 hf4)
      have Hset4 := Lib.hid hset4
      have Hrw := Lib.hid hrw
      have Hyl := Lib.hid hyl
      have Hzs := Lib.hid hzs
      clear hc4 hf4 hrow hKb hset4 hrl hTn hXn hVn hg4n hrw hyl hzs
      have HM : Hid (∀ w, MvP (fun b => row.ownBlock = some b) w14.drew w → MvP (fun b => row.ownBlock = some b) w14 w ∧ Below V.heap.size V w ∧ Own w X 52 #[.int .i64 x.op, .int .i64 x.loc, .int .i64 x.reg, .int .i64 x.val] ∧ w.cell? ⟨T, 3, none⟩ = some (.slice (some ⟨g4, 0, none⟩) s.buf.length d4) ∧ w.cell? ⟨g4, kk, none⟩ = some row) := fun w hw => by
        have hm : MvP (fun b => row.ownBlock = some b) w14 w := (MvP.of_below ((Below.refl _ _).drew)).trans hw fun _ _ e => e
        refine ⟨hm, hm.below_trans hBV14 (fun i hi => HRow.out.2.2.2.2.1 i hi) hBV14.size, OX14.out.of_block (hm.block X OX14.out.lt HRow.out.2.2.2.1), hm.cell (OT14.out.cell (i := 3) rfl) HRow.out.2.2.1, ?_⟩
        rw [Hrw.out]
        exact hm.cell HG4.out.1 HRow.out.2.2.2.2.2
      go_upto_region 15 with (fail)
      obtain ⟨fd, hfd⟩ : ∃ f : Nat → Value, f = (fun d => match d with | 103 => .pointer (some ⟨T, 3, none⟩) | 104 => .slice (some ⟨g4, 0, none⟩) s.buf.length d4 | 105 => .int .i64 (kk : Int) | 106 => .pointer (some ⟨T, 3, none⟩) | 107 => .slice (some ⟨g4, 0, none⟩) s.buf.length d4 | 108 => .int .i64 (kk : Int) | 109 => .pointer (some ⟨g4, kk, none⟩) | 111 => .pointer (some ⟨X, 1, none⟩) | 112 => .int .i64 (l : Int) | 113 => .agg #[.slice (some ⟨b3, o3, none⟩) s.at_.length c1, .slice A2 s.regs.length c2, .slice A3 s.mem.length c3, .slice A4 s.buf.length c4] | 114 => .int .i64 (m : Int) | 115 => .agg #[.int .i64 x.op, .int .i64 x.loc, .int .i64 x.reg, .int .i64 x.val] | 116 => .int .i64 wv | 119 => .pointer (some ⟨g4, kk, none⟩) | _ => undef) := ⟨_, rfl⟩
      have hf103 : fd 103 = .pointer (some ⟨T, 3, none⟩) := congrFun hfd 103
      have hf104 : fd 104 = .slice (some ⟨g4, 0, none⟩) s.buf.length d4 := congrFun hfd 104
      have hf105 : fd 105 = .int .i64 (kk : Int) := congrFun hfd 105
      have hf106 : fd 106 = .pointer (some ⟨T, 3, none⟩) := congrFun hfd 106
      have hf107 : fd 107 = .slice (some ⟨g4, 0, none⟩) s.buf.length d4 := congrFun hfd 107
      have hf108 : fd 108 = .int .i64 (kk : Int) := congrFun hfd 108
      have hf109 : fd 109 = .pointer (some ⟨g4, kk, none⟩) := congrFun hfd 109
      have hf111 : fd 111 = .pointer (some ⟨X, 1, none⟩) := congrFun hfd 111
      have hf112 : fd 112 = .int .i64 (l : Int) := congrFun hfd 112
      have hf113 : fd 113 = .agg #[.slice (some ⟨b3, o3, none⟩) s.at_.length c1, .slice A2 s.regs.length c2, .slice A3 s.mem.length c3, .slice A4 s.buf.length c4] := congrFun hfd 113
      have hf114 : fd 114 = .int .i64 (m : Int) := congrFun hfd 114
      have hf115 : fd 115 = .agg #[.int .i64 x.op, .int .i64 x.loc, .int .i64 x.reg, .int .i64 x.val] := congrFun hfd 115
      have hf116 : fd 116 = .int .i64 wv := congrFun hfd 116
      have hf119 : fd 119 = .pointer (some ⟨g4, kk, none⟩) := congrFun hfd 119
      clear hfd
      refine wp_region_relR (R := R15 fd w14.heap.size row zs (l : Int) wv) r15_refl (fun a b c => r15_trans a b c) [0, 1, 2, 3, 4, 5, 6, 7, 8, 9, 10, 11, 12, 13, 14, 15, 16] [17] (T15 fd w14.heap.size row zs (l : Int) wv) (fun _ => 0) [103, 104, 105, 106, 107, 108, 109, 110, 111, 112, 113, 114, 115, 116, 117, 118, 119] (by kernel_rfl) (by kernel_rfl) rfl (by simp) (fun d w w' v h k => h.2 d v k) (fun _ _ _ _ _ h => absurd rfl h) ?_ ?_
      · refine ⟨?_, ?_, ?_, ?_, ?_, ?_, ?_, ?_, ?_, ?_, ?_, ?_, ?_, ?_, ?_, ?_, ?_, trivial⟩
        all_goals (intro xs w hw hdep hsep; have hM := HM.out w hw.1; have hwz : w14.heap.size ≤ w.heap.size := hM.1.size; simp only [shpA, fillL, List.contains_cons, List.contains_nil, Nat.reduceAdd, Nat.reduceBEq, Bool.or_false, Bool.or_true, Bool.false_eq_true, ↓reduceIte])
        · go_wp2_with fail
          exact RelPostR.mk (r15_refl _) _ rfl hf103.symm rfl
        · have e103 : xs 103 = .pointer (some ⟨T, 3, none⟩) := (show xs 103 = fd 103 from hdep 103 (List.mem_of_elem_eq_true (by kernel_rfl))).trans hf103
          have q0 := hM.2.2.2.1
          rw [e103]
          go_wp2_with fail
          exact RelPostR.mk (r15_refl _) _ rfl hf104.symm rfl
        · go_wp2_with fail
          exact RelPostR.mk (r15_refl _) _ rfl hf105.symm rfl
        · go_wp2_with fail
          exact RelPostR.mk (r15_refl _) _ rfl hf106.symm rfl
        · have e106 : xs 106 = .pointer (some ⟨T, 3, none⟩) := (show xs 106 = fd 106 from hdep 106 (List.mem_of_elem_eq_true (by kernel_rfl))).trans hf106
          have q0 := hM.2.2.2.1
          rw [e106]
          go_wp2_with fail
          exact RelPostR.mk (r15_refl _) _ rfl hf107.symm rfl
        · go_wp2_with fail
          exact RelPostR.mk (r15_refl _) _ rfl hf108.symm rfl
        · have e107 : xs 107 = .slice (some ⟨g4, 0, none⟩) s.buf.length d4 := (show xs 107 = fd 107 from hdep 107 (List.mem_of_elem_eq_true (by kernel_rfl))).trans hf107
          have e108 : xs 108 = .int .i64 (kk : Int) := (show xs 108 = fd 108 from hdep 108 (List.mem_of_elem_eq_true (by kernel_rfl))).trans hf108
          rw [e107, e108]
          go_wp2_with fail
          exact RelPostR.mk (r15_refl _) _ rfl hf109.symm rfl
        · have e109 : xs 109 = .pointer (some ⟨g4, kk, none⟩) := (show xs 109 = fd 109 from hdep 109 (List.mem_of_elem_eq_true (by kernel_rfl))).trans hf109
          have q0 := hM.2.2.2.2
          rw [e109]
          go_wp2_with fail
          exact RelPostR.mk (r15_refl _) _ rfl ⟨rfl, (hw.2 110 row ⟨rfl, RowOf.below (HRow.out.1.rebase fun _ _ => Nat.zero_le _) ((Below.refl _ _).drew)⟩).2⟩ rfl
        · go_wp2_with fail
          exact RelPostR.mk (r15_refl _) _ rfl hf111.symm rfl
        · have e111 : xs 111 = .pointer (some ⟨X, 1, none⟩) := (show xs 111 = fd 111 from hdep 111 (List.mem_of_elem_eq_true (by kernel_rfl))).trans hf111
          have q0 := (HXc.out w hM.2.2.1).1
          rw [e111]
          go_wp2_with fail
          exact RelPostR.mk (r15_refl _) _ rfl hf112.symm rfl
        · have q0 := (HR.out w hM.2.1).1.1
          have q1 := (HR.out w hM.2.1).1.2.1
          have q2 := (HR.out w hM.2.1).1.2.2.1
          have q3 := (HR.out w hM.2.1).1.2.2.2
          go_wp2_with fail
          exact RelPostR.mk (r15_refl _) _ rfl hf113.symm rfl
        · go_wp2_with fail
          exact RelPostR.mk (r15_refl _) _ rfl hf114.symm rfl
        · have q0 := hM.2.2.1.cell (i := 0) rfl
          have q1 := hM.2.2.1.cell (i := 1) rfl
          have q2 := hM.2.2.1.cell (i := 2) rfl
          have q3 := hM.2.2.1.cell (i := 3) rfl
          go_wp2_with fail
          exact RelPostR.mk (r15_refl _) _ rfl hf115.symm rfl
        · have e113 : xs 113 = .agg #[.slice (some ⟨b3, o3, none⟩) s.at_.length c1, .slice A2 s.regs.length c2, .slice A3 s.mem.length c3, .slice A4 s.buf.length c4] := (show xs 113 = fd 113 from hdep 113 (List.mem_of_elem_eq_true (by kernel_rfl))).trans hf113
          have e114 : xs 114 = .int .i64 (m : Int) := (show xs 114 = fd 114 from hdep 114 (List.mem_of_elem_eq_true (by kernel_rfl))).trans hf114
          have e115 : xs 115 = .agg #[.int .i64 x.op, .int .i64 x.loc, .int .i64 x.reg, .int .i64 x.val] := (show xs 115 = fd 115 from hdep 115 (List.mem_of_elem_eq_true (by kernel_rfl))).trans hf115
          rw [e113, e114, e115]
          have hcc := Hvl.out w hM.2.1
          go_wp2_with fail
          refine hcc.mono ?_
          rintro ec wc ⟨rfl, hbc⟩
          go_wp2_with fail
          exact RelPostR.mk (r15_nx hbc) _ rfl hf116.symm rfl
        · have e112 : xs 112 = .int .i64 (l : Int) := (show xs 112 = fd 112 from hdep 112 (List.mem_of_elem_eq_true (by kernel_rfl))).trans hf112
          have e116 : xs 116 = .int .i64 wv := (show xs 116 = fd 116 from hdep 116 (List.mem_of_elem_eq_true (by kernel_rfl))).trans hf116
          rw [e112, e116]
          go_wp2_with fail
          exact RelPostR.mk (r15_nx ((Below.refl _ _).alloc (Nat.le_refl _) _)) _ rfl ⟨w.heap.size, rfl, hwz, (Own.new w 3 #[.int .i64 (l : Int), .int .i64 wv]).cell (i := 0) rfl, (Own.new w 3 #[.int .i64 (l : Int), .int .i64 wv]).cell (i := 1) rfl⟩ rfl
        · obtain ⟨e110, hr110⟩ : xs 110 = row ∧ RowI w 0 row zs := hdep 110 (List.mem_of_elem_eq_true (by kernel_rfl))
          obtain ⟨bb, e117, hbb, hc0, hc1⟩ : ∃ bb, xs 117 = .slice (some ⟨bb, 0, none⟩) 2 2 ∧ w14.heap.size ≤ bb ∧ w.cell? ⟨bb, 0, none⟩ = some (.int .i64 (l : Int)) ∧ w.cell? ⟨bb, 1, none⟩ = some (.int .i64 wv) := hdep 117 (List.mem_of_elem_eq_true (by kernel_rfl))
          rw [e110, e117]
          obtain ⟨cs5, hown, hqq⟩ := hr110
          have hcs5 : cs5 = zs.map (Value.int .i64) := qi_cs hown.1 hqq
          have hzl : zs.length ≤ 14 := by rw [← Hyl.out]; exact hyl14
          go_wp2_with (at_builtin; refine wpList_append_keep (by rfl) _ _ _ (by rfl) 0 3 i0 _ 8 Tryz.underlying24 hi0 hz0 hz1 hz2 rfl row zs.length cs5 (by rfl) hown ⟨bb, 0, none⟩ 2 2 [.int .i64 (l : Int), .int .i64 wv] (by rfl) rfl (two_news hc0 hc1) (by simp [Value.oneCell']) (by omega) (by simp [maxLen]; omega) (by omega) (Nat.zero_le _) ?_; intro v' w' hown' hgrow hat hkeep)
          exact RelPostR.mk ⟨MvP.of_grown hgrow fun g hg => hg, t15_keep rfl HRow.out.2.1 hcs5 hgrow hkeep⟩ v' rfl ⟨RowOf.more2 hcs5 hown', fun b hb => by
            rcases hat with h | h
            · exact .inl (by rw [← h]; exact hb)
            · right; rw [h] at hb; injection hb with hb; omega⟩ rfl
        · have e104 : xs 104 = .slice (some ⟨g4, 0, none⟩) s.buf.length d4 := (show xs 104 = fd 104 from hdep 104 (List.mem_of_elem_eq_true (by kernel_rfl))).trans hf104
          have e105 : xs 105 = .int .i64 (kk : Int) := (show xs 105 = fd 105 from hdep 105 (List.mem_of_elem_eq_true (by kernel_rfl))).trans hf105
          rw [e104, e105]
          go_wp2_with fail
          exact RelPostR.mk (r15_refl _) _ rfl hf119.symm rfl
      intro xs w15 hw hT hsep
      have hM := HM.out w15 hw.1
      have e119 : xs 119 = .pointer (some ⟨g4, kk, none⟩) := (show xs 119 = fd 119 from hT 119 (List.mem_of_elem_eq_true (by kernel_rfl))).trans hf119
      obtain ⟨hrw15, hblk15⟩ : RowI w15 0 (xs 118) (zs ++ [(l : Int), wv]) ∧ ∀ b, (xs 118).ownBlock = some b → row.ownBlock = some b ∨ w14.heap.size ≤ b := hT 118 (List.mem_of_elem_eq_true (by kernel_rfl))
      obtain ⟨A9, c9, e118, _, _⟩ := RowOf.slice hrw15
      have hN : (zs ++ [(l : Int), wv]).length = zs.length + 2 := by simp
      rw [hN] at e118
      rw [e118] at hrw15 hblk15
      show wpList _ _ _ [_] _ _
      simp only [shpA, fillL, List.contains_cons, List.contains_nil, Nat.reduceAdd, Nat.reduceBEq, Bool.or_false, Bool.or_true, Bool.false_eq_true, ↓reduceIte]
      rw [e119, e118]
      clear hN hT hsep hw e118 e119 hf103 hf104 hf105 hf106 hf107 hf108 hf109 hf111 hf112 hf113 hf114 hf115 hf116 hf119
      generalize xs 103 = u103x
      generalize xs 104 = u104x
      generalize xs 105 = u105x
      generalize xs 106 = u106x
      generalize xs 107 = u107x
      generalize xs 108 = u108x
      generalize xs 109 = u109x
      generalize xs 110 = u110x
      generalize xs 111 = u111x
      generalize xs 112 = u112x
      generalize xs 113 = u113x
      generalize xs 114 = u114x
      generalize xs 115 = u115x
      generalize xs 116 = u116x
      generalize xs 117 = u117x
      have Hr15 := Lib.hid (And.intro hrw15 hblk15)
      have z0 : w15.cell? ⟨g4, kk, none⟩ = some row := hM.2.2.2.2
      have z1 : w15.frozen? ⟨g4, kk, none⟩ = false := by rw [World.frozen?_of_block (w := w14) (hM.1.block g4 hg4l HRow.out.2.2.2.2.2)]; exact HG4.out.2
      have z2 : g4 < w15.heap.size := Nat.lt_of_lt_of_le hg4l hM.1.size
      obtain ⟨cs', Fs', hfin⟩ := Hset4.out w15 (.slice A9 (zs.length + 2) c9) (zs ++ [(l : Int), wv]) (fun b _ h2 h3 => hM.1.block b h2 h3) hM.1.size hrw15 hblk15
      have owf := Lib.hid hfin
      obtain ⟨wf, hwf⟩ : ∃ wf, wf = w15.setCell ⟨g4, kk, none⟩ (.slice A9 (zs.length + 2) c9) := ⟨_, rfl⟩
      have OT15 : Own w15 T 70 #[.slice (some ⟨g1, 0, none⟩) s.at_.length d1, .slice D2 s.regs.length d2, .slice D3 s.mem.length d3, .slice (some ⟨g4, 0, none⟩) s.buf.length d4] := OT14.out.of_block (hM.1.block T OT14.out.lt HRow.out.2.2.1)
      have OTf := Lib.hid (OT15.far (a := ⟨g4, kk, none⟩) (fun e => hg4T e.symm) (.slice A9 (zs.length + 2) c9))
      have hBVf : Below V.heap.size V (w15.setCell ⟨g4, kk, none⟩ (.slice A9 (zs.length + 2) c9)) := hM.2.1.setCell (Nat.le_trans ow14.out.le hg4) _
      clear hrw15 hblk15
      go_upto_region 16 with (fail)
      rw [← hwf] at owf OTf hBVf ⊢
      clear hwf z0 z1 z2 hfin OT15 OT14 OX14 ow14 hM HM HRow HG4 Hset4
      have q0 := OTf.out.cell (i := 0) rfl
      have q1 := OTf.out.cell (i := 1) rfl
      have q2 := OTf.out.cell (i := 2) rfl
      have q3 := OTf.out.cell (i := 3) rfl
      have hTl := OTf.out.lt
      have oRr := (HR.out wf hBVf).2.2.1
      have p0 := oRr.cell (i := 0) rfl
      have p1 := oRr.cell (i := 1) rfl
      have p2 := oRr.cell (i := 2) rfl
      have p3 := oRr.cell (i := 3) rfl
      have f0 := oRr.frozen 0
      have f1 := oRr.frozen 1
      have f2 := oRr.frozen 2
      have f3 := oRr.frozen 3
      have hRl := oRr.lt
      clear oRr
      go_wp2_with fail
      refine bodyPost_ret (v := .agg #[.slice (some ⟨g1, 0, none⟩) s.at_.length d1, .slice D2 s.regs.length d2, .slice D3 s.mem.length d3, .slice (some ⟨g4, 0, none⟩) s.buf.length d4]) (by simp [results, Tryz.results90, go_sem, p0, p1, p2, p3]) rfl ?_
      exact owf.out.ret (by rw [← Hend.out, Hzs.out, ← Hyz.out]) (by have := HVs.out; omega) (hB.trans (hBVf.mono hB.size)) (by omega) (by have := HVs.out; omega) _ _ _ _

end Go.Proofs.YtahegjofooahkaaGreat
