/-
  The walk of markText: a number's text. Marking an owned tree of expressions, and asking whether the marks are held: markRelExprS, heldRelExprS, markRelExpr, heldRelExpr. Marking owned rules, and asking whether the marks are held: markRuleS, heldRuleS. The walk of FnExactParseRelExpr: it answers true.
-/
import Derived.Test.YtfgpbnncdfcjjabGreatDoorWText
import Derived.Test.YtfgpbnncdfcjjabGreatDoorWPars
import Derived.Test.YtfgpbnncdfcjjabGreatDoorLib
import Derived.Test.YtfgpbnncdfcjjabGreatDoorCut
import Derived.Test.YtfgpbnncdfcjjabGreatDoorWSp
import Derived.Test.YtfgpbnncdfcjjabGreatDoorEq

/-! The walk of markText: a number's text. Marking an owned tree of expressions, and asking whether the marks are held: markRelExprS, heldRelExprS, markRelExpr, heldRelExpr. Marking owned rules, and asking whether the marks are held: markRuleS, heldRuleS. -/
/-! The walk of markText: a number's text. -/
namespace Go.Proofs.YtfgpbnncdfcjjabGreatDoor
open Go.RowKit
set_option linter.unusedVariables false
set_option maxRecDepth 100000

/-- The digits of a number, in front of a text. -/
def dg : Nat → Nat → ByteArray → ByteArray
  | 0, _, out => out
  | f + 1, k, out => if k = 0 then out else dg f (k / 10) (⟨#[UInt8.ofNat (48 + k % 10)]⟩ ++ out)
def mkT (k : Nat) : ByteArray := ⟨#[109]⟩ ++ dg 20 k ⟨#[]⟩
theorem dg_zero (f : Nat) (out : ByteArray) : dg f 0 out = out := by cases f <;> simp [dg]
theorem dg_succ (f k : Nat) (out : ByteArray) (h : 0 < k) : dg (f + 1) k out = dg f (k / 10) (⟨#[UInt8.ofNat (48 + k % 10)]⟩ ++ out) := by
  rw [dg, if_neg (by omega)]

theorem conv1 (w : World) (n : Int) : (convert 47 9 (.slice (some ⟨w.heap.size, 0, none⟩) 1 1)).run Tryz.prog (w.alloc (.cells #[.int .u8 n] 5)) = .ok (.string ⟨#[UInt8.ofNat n.toNat]⟩) (w.alloc (.cells #[.int .u8 n] 5)) := by
  rw [run_convert_bytes_string _ _ _ 5 _ _ _ Tryz.underlying47 Tryz.underlying5 Tryz.underlying9]
  refine (run_bytesToString _ _ _ _ [n] (run_loadCells_list _ _ [Value.int .u8 n] fun j v h => ?_)).trans rfl
  match j, h with
  | 0, h => injection h with h; subst h; simp [Addr.add]

theorem dg_size (f : Nat) : ∀ (k : Nat) (out : ByteArray), (dg f k out).size ≤ out.size + f := by
  induction f with
  | zero => intro k out; rw [dg]; omega
  | succ f ih =>
    intro k out
    rw [dg]
    split
    · omega
    · refine Nat.le_trans (ih _ _) ?_
      rw [ByteArray.size_append, ByteArray.size_mk']
      simp
      omega
theorem mkT_size (k : Nat) : (mkT k).size ≤ 21 := by
  unfold mkT
  have := dg_size 20 k ⟨#[]⟩
  rw [ByteArray.size_append, ByteArray.size_mk']
  have h : ByteArray.size ⟨#[]⟩ = 0 := rfl
  simp
  omega

set_option maxHeartbeats 1000000 in
theorem markText_any (k : Nat) (w : World) (h0 : 0 < k) (hk : k < 10 ^ 18) : Calls Tryz.prog 49 #[.int .i64 k] w (RetStr w (mkT k)) := by
  have b0 : decide (k = 0) = false := by rw [decide_eq_false_iff_not]; omega
  have hk0 : k ≠ 0 := by omega
  go_enter Tryz.func49, Tryz.ntmps49
  go_wp2_with fail
  go_loopg [0, 3] 20 (fun g s0 s3 wr => ∃ (f j : Nat) (out : ByteArray), f ≤ 20 ∧ g = f ∧ s0 = .int .i64 j ∧ s3 = .string out ∧ j < 10 ^ 18 ∧ out.size + f = 20 ∧ Hid (j < 10 ^ f ∧ dg f j out = dg 20 k ⟨#[]⟩) ∧ Below w.heap.size w wr)
  case atStart => exact ⟨20, k, ⟨#[]⟩, by omega, rfl, rfl, rfl, hk, rfl, ⟨by omega, rfl⟩, Below.refl _ _⟩
  case round =>
    obtain ⟨f, j, out, hf, rfl, rfl, rfl, hj, hsz, hat, hb⟩ := hrel
    by_cases hj0 : 0 < j
    · obtain ⟨f', rfl⟩ : ∃ f', gk = f' + 1 := by
        cases gk with
        | zero => have := hat.out.1; omega
        | succ f => exact ⟨f, rfl⟩
      have hat' : j / 10 < 10 ^ f' ∧ dg f' (j / 10) (⟨#[UInt8.ofNat (48 + j % 10)]⟩ ++ out) = dg 20 k ⟨#[]⟩ := by
        obtain ⟨h1, h2⟩ := hat.out
        rw [dg_succ _ _ _ hj0] at h2
        rw [Nat.pow_succ] at h1
        exact ⟨by omega, h2⟩
      have Hat := Lib.hid hat'
      clear hat' hat
      have hsz' : (⟨#[UInt8.ofNat (48 + j % 10)]⟩ ++ out : ByteArray).size + f' = 20 := by
        rw [ByteArray.size_append, ByteArray.size_mk']
        simp
        omega
      have b1 : decide ((j : Int) > 0) = true := by rw [decide_eq_true_iff]; omega
      go_wp2_with fail
      rw [conv1]
      go_wp2_with fail
      go_roundg f'
      case measure => omega
      case rel => exact ⟨f', j / 10, _, by omega, rfl, by go_num, rfl, by omega, hsz', Hat.out, hb.alloc hb.size _⟩
    · obtain rfl : j = 0 := by omega
      go_wp2_with fail
      go_ret
      refine ⟨ret_strE ?_, hb⟩
      have h1 := hat.out.2
      rw [dg_zero] at h1
      unfold mkT
      rw [h1]

end Go.Proofs.YtfgpbnncdfcjjabGreatDoor

/-! Marking an owned tree of expressions, and asking whether the marks are held: markRelExprS, heldRelExprS, markRelExpr, heldRelExpr. -/
namespace Go.Proofs.YtfgpbnncdfcjjabGreatDoor
open Go.RowKit
set_option linter.unusedVariables false
set_option maxRecDepth 100000

mutual
/-- The marked expression. -/
def mkE (k : Nat) : RE → RE
  | .mk _ _ kids => .mk k (mkT (k + 1)) (mkL (k + 2) kids)
def mkL (k : Nat) : List RE → List RE
  | [] => []
  | e :: es => mkE k e :: mkL (k + 2 * cntE e) es
end
theorem mkL_length (es : List RE) : ∀ k, (mkL k es).length = es.length := by
  induction es with
  | nil => intro k; rfl
  | cons e es ih => intro k; rw [mkL, List.length_cons, List.length_cons, ih]
theorem mkL_get (es : List RE) : ∀ (k i : Nat) (h : i < es.length), (mkL k es)[i]'(by rw [mkL_length]; exact h) = mkE (k + 2 * cntL (es.take i)) es[i] := by
  induction es with
  | nil => intro k i h; simp at h
  | cons e es ih =>
    intro k i h
    cases i with
    | zero => simp [mkL, cntL]
    | succ i =>
      have := ih (k + 2 * cntE e) i (by simpa using h)
      simp only [mkL, List.getElem_cons_succ, List.take_succ_cons, cntL]
      rw [this]
      congr 1
      omega
theorem mkE_kids (k : Nat) (e : RE) : (mkE k e).kids = mkL (k + 2) e.kids := by obtain ⟨op, name, kids⟩ := e; rw [mkE]; rfl
theorem mkE_op (k : Nat) (e : RE) : (mkE k e).op = k := by obtain ⟨op, name, kids⟩ := e; rw [mkE]; rfl
theorem mkE_name (k : Nat) (e : RE) : (mkE k e).name = mkT (k + 1) := by obtain ⟨op, name, kids⟩ := e; rw [mkE]; rfl
theorem cntE_kids (e : RE) : cntE e = 1 + cntL e.kids := by obtain ⟨op, name, kids⟩ := e; rw [cntE]; rfl
/-- Marked up to i. -/
def mid (k : Nat) (es : List RE) (i : Nat) : List RE := (mkL k es).take i ++ es.drop i
theorem mid_zero (k : Nat) (es : List RE) : mid k es 0 = es := by simp [mid]
theorem mid_all (k : Nat) (es : List RE) : mid k es es.length = mkL k es := by
  unfold mid
  rw [List.drop_length, List.append_nil, List.take_of_length_le (by rw [mkL_length]; omega)]
theorem mid_length (k : Nat) (es : List RE) (i : Nat) (h : i ≤ es.length) : (mid k es i).length = es.length := by
  unfold mid
  rw [List.length_append, List.length_take, List.length_drop, mkL_length]
  omega
theorem mid_get (k : Nat) (es : List RE) (i : Nat) (h : i < es.length) (h' : i < (mid k es i).length) : (mid k es i)[i] = es[i] := by
  have h1 : (mid k es i)[i]? = es[i]? := by
    unfold mid
    rw [List.getElem?_append_right (by rw [List.length_take]; omega), List.length_take, mkL_length, show min i es.length = i by omega, Nat.sub_self, List.getElem?_drop, Nat.add_zero]
  rw [List.getElem?_eq_getElem h', List.getElem?_eq_getElem h] at h1
  exact Option.some.inj h1
theorem mid_set (k : Nat) (es : List RE) (i : Nat) (h : i < es.length) : (mid k es i).set i (mkE (k + 2 * cntL (es.take i)) es[i]) = mid k es (i + 1) := by
  have hl : i < (mkL k es).length := by rw [mkL_length]; exact h
  unfold mid
  rw [List.set_append_right _ _ (by rw [List.length_take]; omega), List.length_take, show min i (mkL k es).length = i by omega, Nat.sub_self, List.drop_eq_getElem_cons h, List.set_cons_zero, List.take_succ_eq_append_getElem hl, mkL_get es k i h, List.append_assoc]
  rfl

/-- Only the blocks of F, and what is new, may have turned. -/
structure MvF (F : List Nat) (w w' : World) : Prop where
  os : w'.os = w.os
  tape : w'.tape = w.tape
  output : w'.output = w.output
  size : w.heap.size ≤ w'.heap.size
  block : ∀ i, i < w.heap.size → i ∉ F → w'.heap[i]? = w.heap[i]?
namespace MvF
variable {F : List Nat} {a b c : World}
theorem refl (F : List Nat) (w : World) : MvF F w w := ⟨rfl, rfl, rfl, Nat.le_refl _, fun _ _ _ => rfl⟩
theorem trans (h : MvF F a b) (k : MvF F b c) : MvF F a c :=
  ⟨k.os.trans h.os, k.tape.trans h.tape, k.output.trans h.output, Nat.le_trans h.size k.size, fun i hi hn => (k.block i (Nat.lt_of_lt_of_le hi h.size) hn).trans (h.block i hi hn)⟩
theorem of_below (h : Below a.heap.size a b) : MvF F a b := ⟨h.os, h.tape, h.output, h.size, fun i hi _ => h.block i hi⟩
theorem mono {G : List Nat} (h : MvF F a b) (hs : ∀ x ∈ F, x ∈ G) : MvF G a b := ⟨h.os, h.tape, h.output, h.size, fun i hi hn => h.block i hi fun hm => hn (hs i hm)⟩
theorem set (h : MvF F a b) {p : Addr} (hp : p.block ∈ F) (v : Value) : MvF F a (b.setCell p v) :=
  ⟨h.os, h.tape, h.output, by simpa [World.setCell] using h.size, fun i hi hn => (Below.heap_setCell _ _ _ _ (fun e => hn (by rw [e]; exact hp))).trans (h.block i hi hn)⟩
theorem below {B : Nat} (h : MvF F a b) (hF : ∀ x ∈ F, B ≤ x) (hB : B ≤ a.heap.size) : Below B a b := ⟨h.os, h.tape, h.output, h.size, fun i hi => h.block i (by omega) fun hm => by have := hF i hm; omega⟩
theorem cell (h : MvF F a b) {p : Addr} {v : Value} (hc : a.cell? p = some v) (hn : p.block ∉ F) : b.cell? p = some v := by
  rw [World.cell?_of_block (w := a) (h.block _ (World.block_lt_of_cell? _ _ hc) hn)]
  exact hc
end MvF
theorem OwE.mvF {w w' : World} {v : Value} {es : List RE} {F G : List Nat} (h : OwE w v es F) (m : MvF G w w') (hd : ∀ b ∈ F, b ∉ G) : OwE w' v es F := h.of_blocks fun b hb => m.block b (h.lt b hb) (hd b hb)

theorem OwE.setB {w : World} {v : Value} {es : List RE} {F : List Nat} (h : OwE w v es F) {b : Nat} (hb : ∀ x ∈ F, x ≠ b) (o : Nat) (u : Value) : OwE (w.setCell ⟨b, o, none⟩ u) v es F :=
  h.of_blocks fun x hx => Below.heap_setCell _ _ _ _ (hb x hx)

/-- An owned row with an element: its cells, the element's operands, and how a marked element goes back into it. -/
theorem OwE.elem {w : World} {A : Option Addr} {n c : Nat} {es : List RE} {F : List Nat} (h : OwE w (.slice A n c) es F) (hnd : F.Nodup) {i : Nat} (hi : i < es.length) :
    ∃ b u Fi, A = some ⟨b, 0, none⟩ ∧ n = es.length ∧ b < w.heap.size ∧ b ∈ F ∧ (∀ x ∈ Fi, x ∈ F) ∧ Fi.Nodup ∧ b ∉ Fi ∧ w.cell? ⟨b, i * 3, none⟩ = some (.int .i64 es[i].op) ∧ w.cell? ⟨b, i * 3 + 1, none⟩ = some (.string es[i].name) ∧ w.cell? ⟨b, i * 3 + 2, none⟩ = some u ∧
      w.frozen? ⟨b, i * 3, none⟩ = false ∧ w.frozen? ⟨b, i * 3 + 1, none⟩ = false ∧ OwE w u es[i].kids Fi ∧
      ∀ (w1 w2 w3 : World) (x : RE), w1 = w.setCell ⟨b, i * 3, none⟩ (.int .i64 x.op) → Below w1.heap.size w1 w2 → MvF Fi (w2.setCell ⟨b, i * 3 + 1, none⟩ (.string x.name)) w3 → x.name.size ≤ 9223372036854775807 → OwE w3 u x.kids Fi →
        OwE w3 (.slice A n c) (es.set i x) F := by
  cases h with
  | nil => simp at hi
  | @row b G _ vs Fs hl hr hF hk =>
    rw [List.nodup_cons] at hnd
    have hnd2 := hnd.2
    unfold List.Nodup at hnd2
    rw [List.pairwise_flatten] at hnd2
    obtain ⟨hn1, hn2⟩ := hnd2
    have hbn : ∀ j, j < es.length → b ∉ Fs j := fun j hj hm => hnd.1 (mem_foot hj hm)
    have hij : ∀ j, j < es.length → j ≠ i → ∀ x ∈ Fs j, x ∉ Fs i := fun j hj hne x hx hx' => by
      rw [List.pairwise_map] at hn2
      have h2 := List.pairwise_iff_getElem.1 hn2
      rcases Nat.lt_or_gt_of_ne hne with h | h
      · exact h2 j i (by simpa using hj) (by simpa using hi) h x (by simpa using hx) x (by simpa using hx') rfl
      · exact h2 i j (by simpa using hi) (by simpa using hj) h x (by simpa using hx') x (by simpa using hx) rfl
    obtain ⟨f0, f1, f2, f3⟩ := hF i hi
    refine ⟨b, vs i, Fs i, rfl, rfl, hr.lt, by simp, fun x hx => List.mem_cons_of_mem _ (mem_foot hi hx), hn1 _ (List.mem_map.2 ⟨i, List.mem_range.2 hi, rfl⟩), hbn i hi, ?_, ?_, ?_, hr.frozen _, hr.frozen _, hk i hi, ?_⟩
    · rw [hr.cell (by omega), f0]
    · rw [hr.cell (by omega), f1]
    · rw [hr.cell (by omega), f2]
    · rintro w1 w2 w3 x rfl hb2 m3 hnx hox
      have r1 := hr.set (i * 3) (.int .i64 x.op)
      have r2 := (r1.of_block (hb2.block b r1.lt)).set (i * 3 + 1) (.string x.name)
      have r3 := r2.of_block (m3.block b r2.lt (hbn i hi))
      have hrow := OwE.row (w := w3) (b := b) (es := es.set i x) (vs := vs) (Fs := Fs) (by rw [List.length_set]; exact hl) (by rw [List.length_set]; exact r3)
        (fun j hj => ?_) (fun j hj => ?_)
      · rw [List.length_set] at hrow
        exact hrow
      · rw [List.length_set] at hj
        by_cases hji : j = i
        · subst hji
          rw [List.getElem_set_self]
          refine ⟨?_, ?_, ?_, hnx⟩
          · rw [if_neg (by omega), if_pos rfl]
          · rw [if_pos rfl]
          · rw [if_neg (by omega), if_neg (by omega)]; exact f2
        · rw [List.getElem_set_ne (fun e => hji e.symm)]
          obtain ⟨g0, g1, g2, g3⟩ := hF j hj
          refine ⟨?_, ?_, ?_, g3⟩
          · rw [if_neg (by omega), if_neg (by omega)]; exact g0
          · rw [if_neg (by omega), if_neg (by omega)]; exact g1
          · rw [if_neg (by omega), if_neg (by omega)]; exact g2
      · rw [List.length_set] at hj
        by_cases hji : j = i
        · subst hji
          rw [List.getElem_set_self]
          exact hox
        · rw [List.getElem_set_ne (fun e => hji e.symm)]
          have o1 := OwE.setB (b := b) (hk j hj) (fun y hy e => hbn j hj (by rw [← e]; exact hy)) (i * 3) (.int .i64 x.op)
          have o2 := OwE.setB (b := b) (o1.of_blocks fun y hy => hb2.block y (o1.lt y hy)) (fun y hy e => hbn j hj (by rw [← e]; exact hy)) (i * 3 + 1) (.string x.name)
          exact o2.mvF m3 (hij j hj hji)

def RetMark (w : World) (v : Value) (es : List RE) (F : List Nat) (k : Nat) (e : Ending) (w' : World) : Prop :=
  e = .returned (.int .i64 ((k + 2 * cntL es : Nat) : Int)) ∧ OwE w' v (mkL k es) F ∧ MvF F w w'

set_option maxHeartbeats 1000000 in
theorem marks_of (es : List RE) (ih : ∀ e ∈ es, ∀ (w : World) (v : Value) (F : List Nat) (k : Nat), OwE w v e.kids F → F.Nodup → 0 < k → k + 2 * cntL e.kids < 10 ^ 18 → Calls Tryz.prog 50 #[v, .int .i64 k] w (RetMark w v e.kids F k))
    (w : World) (v : Value) (F : List Nat) (k : Nat) (h : OwE w v es F) (hnd : F.Nodup) (hk0 : 0 < k) (hk : k + 2 * cntL es < 10 ^ 18) : Calls Tryz.prog 50 #[v, .int .i64 k] w (RetMark w v es F k) := by
  obtain ⟨A, c, rfl⟩ := h.slice
  have hlen : es.length ≤ 9223372036854775807 := by
    obtain ⟨_, _, e, hm⟩ := (h.rep (B := 0) (fun b hb => Nat.zero_le _)).slice
    exact hm
  go_enter Tryz.func50, Tryz.ntmps50
  go_wp2_with fail
  go_loopg [1, 5] es.length (fun g s1 s5 wr => ∃ i : Nat, i ≤ es.length ∧ g = es.length - i ∧ s5 = .int .i64 i ∧ s1 = .int .i64 ((k + 2 * cntL (es.take i) : Nat) : Int) ∧ OwE wr (.slice A es.length c) (mid k es i) F ∧ MvF F w wr)
  case atStart => exact ⟨0, Nat.zero_le _, rfl, rfl, by simp [cntL], by rw [mid_zero]; exact h, MvF.refl _ _⟩
  case round =>
    obtain ⟨i, hi, rfl, rfl, rfl, ho, m⟩ := hrel
    by_cases hlt : i < es.length
    · have hml := mid_length k es i hi
      obtain ⟨b, u, Fi, rfl, hn', hbl, hbF, hsub, hndi, hbi, c0, c1, c2, z0, z1, hoi, hback⟩ := ho.elem hnd (i := i) (by omega)
      rw [mid_get k es i hlt] at c0 c1 hoi
      have hset := mid_set k es i hlt
      have hct := cntL_take_succ es i hlt
      have hcl := cntL_take_le es (i + 1)
      have hce := cntE_kids es[i]
      obtain ⟨q, hq⟩ : ∃ q : Nat, q = k + 2 * cntL (es.take i) := ⟨_, rfl⟩
      rw [← hq] at hset ⊢
      have hq0 : 0 < q := by omega
      have hq1 : q + 1 < 10 ^ 18 := by omega
      have hq2 : q + 2 + 2 * cntL es[i].kids < 10 ^ 18 := by omega
      have hmt := markText_any (q + 1) (w := wr.setCell ⟨b, i * 3, none⟩ (.int .i64 q)) (by omega) hq1
      rw [show ((q + 1 : Nat) : Int) = (q : Int) + 1 by omega] at hmt
      have hnx : q + 2 + 2 * cntL es[i].kids = k + 2 * cntL (es.take (i + 1)) := by omega
      have Nx := Lib.hid hnx
      have Back := Lib.hid hback
      have Set := Lib.hid hset
      clear hback hset hnx hn' hml hct hcl hce hq ho h
      go_wp2_with fail
      refine hmt.mono ?_
      rintro e2 w2 ⟨rfl, hb2⟩
      have n1 : (⟨b, i * 3 + 1, none⟩ : Addr) ≠ ⟨b, i * 3, none⟩ := fun e => by injection e; omega
      have n2 : (⟨b, i * 3 + 2, none⟩ : Addr) ≠ ⟨b, i * 3, none⟩ := fun e => by injection e; omega
      have n3 : (⟨b, i * 3 + 2, none⟩ : Addr) ≠ ⟨b, i * 3 + 1, none⟩ := fun e => by injection e; omega
      have hlt2 : b < (wr.setCell ⟨b, i * 3, none⟩ (.int .i64 q)).heap.size := by simpa [World.setCell] using hbl
      have e1 : w2.cell? ⟨b, i * 3 + 1, none⟩ = some (.string es[i].name) := by rw [hb2.cell (p := ⟨b, i * 3 + 1, none⟩) hlt2, World.cell?_setCell_other _ _ _ _ n1.symm]; exact c1
      have e2 : w2.cell? ⟨b, i * 3 + 2, none⟩ = some u := by rw [hb2.cell (p := ⟨b, i * 3 + 2, none⟩) hlt2, World.cell?_setCell_other _ _ _ _ n2.symm]; exact c2
      have e3 : w2.frozen? ⟨b, i * 3 + 1, none⟩ = false := by rw [hb2.frozen (p := ⟨b, i * 3 + 1, none⟩) hlt2, World.frozen?_setCell]; exact z1
      have e4 : (w2.setCell ⟨b, i * 3 + 1, none⟩ (.string (mkT (q + 1)))).cell? ⟨b, i * 3 + 2, none⟩ = some u := by rw [World.cell?_setCell_other _ _ _ _ n3.symm]; exact e2
      have m2 : MvF F w (w2.setCell ⟨b, i * 3 + 1, none⟩ (.string (mkT (q + 1)))) := ((m.set (p := ⟨b, i * 3, none⟩) hbF _).trans (MvF.of_below hb2)).set (p := ⟨b, i * 3 + 1, none⟩) hbF _
      have o2 := (hoi.setB (b := b) (fun x hx e => hbi (by rw [← e]; exact hx)) (i * 3) (.int .i64 q))
      have o3 := (o2.of_blocks fun y hy => hb2.block y (o2.lt y hy)).setB (b := b) (fun x hx e => hbi (by rw [← e]; exact hx)) (i * 3 + 1) (.string (mkT (q + 1)))
      have hrec := ih es[i] (List.getElem_mem hlt) _ u Fi (q + 2) o3 hndi (by omega) hq2
      rw [show ((q + 2 : Nat) : Int) = (q : Int) + 1 + 1 by omega] at hrec
      clear o2 o3 hmt c0 c1 c2 z0 z1 n1 n2 n3 hoi m
      go_wp2_with fail
      refine hrec.mono ?_
      rintro e5 w5 ⟨rfl, ho5, m5⟩
      have m6 := m2.trans (m5.mono hsub)
      have hb' := Back.out _ w2 w5 (mkE q es[i]) (by rw [mkE_op]) hb2 (by rw [mkE_name]; exact m5) (by rw [mkE_name]; have := mkT_size (q + 1); omega) (by rw [mkE_kids]; exact ho5)
      rw [Set.out] at hb'
      have Hb' := Lib.hid hb'
      clear hb' hrec e1 e2 e3 e4 m2 hb2 ho5 m5 hlt2
      go_wp2_with fail
      go_roundg (es.length - (i + 1))
      case measure => omega
      case rel => exact ⟨i + 1, by omega, rfl, by go_num, congrArg (Value.int .i64) (by have := Nx.out; omega), Hb'.out, m6⟩
    · obtain rfl : i = es.length := by omega
      go_wp2_with fail
      go_ret
      rw [mid_all] at ho
      rw [List.take_length]
      exact ⟨rfl, ho, m⟩

theorem marks_kids (e : RE) : ∀ (w : World) (v : Value) (F : List Nat) (k : Nat), OwE w v e.kids F → F.Nodup → 0 < k → k + 2 * cntL e.kids < 10 ^ 18 → Calls Tryz.prog 50 #[v, .int .i64 k] w (RetMark w v e.kids F k) := by
  induction e using RE.ind with | h op name kids ih => ?_
  exact fun w v F k h hnd h0 hk => marks_of kids (fun e he => ih e he) w v F k h hnd h0 hk

def RetHeld (w : World) (n : Nat) (e : Ending) (w' : World) : Prop := e = .returned (.int .i64 (n : Int)) ∧ Below w.heap.size w w'

theorem MarkText_ext {w0 : World} (n : Ext w0) (k : Nat) (h0 : 0 < k) (hk : k < 10 ^ 18) : Calls Tryz.prog 49 #[.int .i64 k] n.val fun e w'' => e = .returned (.string (mkT k)) ∧ ∃ m : Ext w0, w'' = m.val :=
  Ext.call n fun W _ => RetStr.open (markText_any k W h0 hk)

end Go.Proofs.YtfgpbnncdfcjjabGreatDoor

/-! Marking owned rules, and asking whether the marks are held: markRuleS, heldRuleS. -/
namespace Go.Proofs.YtfgpbnncdfcjjabGreatDoor
open Go.RowKit
set_option linter.unusedVariables false
set_option maxRecDepth 100000

/-- The marked rule, and how many numbers it takes. -/
def mkU (k : Nat) (r : RU) : RU := ⟨k, .mk ((k + 1 : Nat) : Int) (mkT (k + 2)) (mkL (k + 3) r.e.kids)⟩
def wtU (r : RU) : Nat := 3 + 2 * cntL r.e.kids
theorem mkU_kind (k : Nat) (r : RU) : (mkU k r).kind = k := rfl
theorem mkU_op (k : Nat) (r : RU) : (mkU k r).e.op = ((k + 1 : Nat) : Int) := rfl
theorem mkU_name (k : Nat) (r : RU) : (mkU k r).e.name = mkT (k + 2) := rfl
theorem mkU_kids (k : Nat) (r : RU) : (mkU k r).e.kids = mkL (k + 3) r.e.kids := rfl

theorem OwU.slice {w : World} {v : Value} {ms : List RU} {F : List Nat} (h : OwU w v ms F) : ∃ A c, v = .slice A ms.length c ∧ ms.length ≤ 9223372036854775807 := by
  rcases h with ⟨rfl, rfl, rfl⟩ | ⟨g, c, N, G, Fs, rfl, _, _, hm, _⟩
  · exact ⟨_, _, rfl, by simp⟩
  · exact ⟨_, _, rfl, hm⟩
theorem OwU.lt {w : World} {v : Value} {ms : List RU} {F : List Nat} (h : OwU w v ms F) : ∀ b ∈ F, b < w.heap.size := fun b hb => by
  rcases h with ⟨rfl, rfl, rfl⟩ | ⟨g, c, N, G, Fs, rfl, hr, _, hm, hel, rfl⟩
  · cases hb
  · rcases List.mem_cons.1 hb with rfl | hb
    · exact hr.lt
    · obtain ⟨i, hi, hx⟩ := of_mem_foot hb
      exact (hel i hi).2.2.2.2.lt b hx
theorem OwU.of_blocks {w w' : World} {v : Value} {ms : List RU} {F : List Nat} (h : OwU w v ms F) (hb : ∀ b ∈ F, w'.heap[b]? = w.heap[b]?) : OwU w' v ms F := by
  rcases h with ⟨rfl, rfl, rfl⟩ | ⟨g, c, N, G, Fs, rfl, hr, hN, hm, hel, rfl⟩
  · exact Or.inl ⟨rfl, rfl, rfl⟩
  · exact Or.inr ⟨g, c, N, G, Fs, rfl, hr.of_block (hb g (by simp)), hN, hm, fun i hi => by
      obtain ⟨h0, h1, h2, h3, h4⟩ := hel i hi
      exact ⟨h0, h1, h2, h3, h4.of_blocks fun b hm => hb b (List.mem_cons_of_mem _ (mem_foot hi hm))⟩, rfl⟩
theorem OwU.below {w w' : World} {v : Value} {ms : List RU} {F : List Nat} (h : OwU w v ms F) (hb : Below w.heap.size w w') : OwU w' v ms F := h.of_blocks fun b hm => hb.block b (h.lt b hm)
theorem OwU.slR {w : World} {v : Value} {ms : List RU} {F : List Nat} (h : OwU w v ms F) : SlR 4 RepU w v ms := by
  rcases h with ⟨rfl, rfl, rfl⟩ | ⟨g, c, N, G, Fs, rfl, hr, hN, hm, hel, rfl⟩
  · exact ⟨none, 0, rfl, by simp, fun i hi => absurd hi (Nat.not_lt_zero _)⟩
  · refine ⟨_, _, rfl, hm, fun i hi => ⟨g, 0, rfl, fun j => G (i * 4 + j), fun j hj => by rw [Nat.zero_add]; exact hr.cell (by omega), ?_⟩⟩
    obtain ⟨h0, h1, h2, h3, h4⟩ := hel i hi
    have hs := RepEs.le (h4.rep (B := 0) (fun b hb => Nat.zero_le _)) (Le.above _ _)
    obtain ⟨A, c, hv⟩ := h4.slice
    rw [hv] at hs
    exact repU_K.2 ⟨A, c, h0, h1, h2, by rw [← hv], h3, hs⟩

theorem OwU.elem {w : World} {A : Option Addr} {n c : Nat} {es : List RU} {F : List Nat} (h : OwU w (.slice A n c) es F) (hnd : F.Nodup) {i : Nat} (hi : i < es.length) :
    ∃ b u Fi, A = some ⟨b, 0, none⟩ ∧ n = es.length ∧ b < w.heap.size ∧ b ∈ F ∧ (∀ x ∈ Fi, x ∈ F) ∧ Fi.Nodup ∧ b ∉ Fi ∧
      (w.cell? ⟨b, i * 4, none⟩ = some (.int .i64 es[i].kind) ∧ w.cell? ⟨b, i * 4 + 1, none⟩ = some (.int .i64 es[i].e.op) ∧ w.cell? ⟨b, i * 4 + 2, none⟩ = some (.string es[i].e.name) ∧ w.cell? ⟨b, i * 4 + 3, none⟩ = some u) ∧
      (w.frozen? ⟨b, i * 4, none⟩ = false ∧ w.frozen? ⟨b, i * 4 + 1, none⟩ = false ∧ w.frozen? ⟨b, i * 4 + 2, none⟩ = false) ∧ OwE w u es[i].e.kids Fi ∧
      ∀ (w1 w2 w3 : World) (x : RU), w1 = (w.setCell ⟨b, i * 4, none⟩ (.int .i64 x.kind)).setCell ⟨b, i * 4 + 1, none⟩ (.int .i64 x.e.op) → Below w1.heap.size w1 w2 → MvF Fi (w2.setCell ⟨b, i * 4 + 2, none⟩ (.string x.e.name)) w3 → x.e.name.size ≤ 9223372036854775807 → OwE w3 u x.e.kids Fi →
        OwU w3 (.slice A n c) (es.set i x) F := by
  rcases h with ⟨_, rfl, _⟩ | ⟨b, c', N, G, Fs, hv, hr, hN, hm, hel, rfl⟩
  · simp at hi
  · injection hv with e1 e2 e3
    subst e1; subst e2; subst e3
    rw [List.nodup_cons] at hnd
    have hnd2 := hnd.2
    unfold List.Nodup at hnd2
    rw [List.pairwise_flatten] at hnd2
    obtain ⟨hn1, hn2⟩ := hnd2
    have hbn : ∀ j, j < es.length → b ∉ Fs j := fun j hj hm => hnd.1 (mem_foot hj hm)
    have hij : ∀ j, j < es.length → j ≠ i → ∀ x ∈ Fs j, x ∉ Fs i := fun j hj hne x hx hx' => by
      rw [List.pairwise_map] at hn2
      have h2 := List.pairwise_iff_getElem.1 hn2
      rcases Nat.lt_or_gt_of_ne hne with h | h
      · exact h2 j i (by simpa using hj) (by simpa using hi) h x (by simpa using hx) x (by simpa using hx') rfl
      · exact h2 i j (by simpa using hi) (by simpa using hj) h x (by simpa using hx') x (by simpa using hx) rfl
    obtain ⟨f0, f1, f2, f3, f4⟩ := hel i hi
    refine ⟨b, G (i * 4 + 3), Fs i, rfl, rfl, hr.lt, by simp, fun x hx => List.mem_cons_of_mem _ (mem_foot hi hx), hn1 _ (List.mem_map.2 ⟨i, List.mem_range.2 hi, rfl⟩), hbn i hi, ⟨?_, ?_, ?_, ?_⟩, ⟨hr.frozen _, hr.frozen _, hr.frozen _⟩, f4, ?_⟩
    · rw [hr.cell (by omega), f0]
    · rw [hr.cell (by omega), f1]
    · rw [hr.cell (by omega), f2]
    · rw [hr.cell (by omega)]
    · rintro w1 w2 w3 x rfl hb2 m3 hnx hox
      have r1 := (hr.set (i * 4) (.int .i64 x.kind)).set (i * 4 + 1) (.int .i64 x.e.op)
      have r2 := (r1.of_block (hb2.block b r1.lt)).set (i * 4 + 2) (.string x.e.name)
      have r3 := r2.of_block (m3.block b r2.lt (hbn i hi))
      rw [show es.length = (es.set i x).length by rw [List.length_set]]
      refine Or.inr ⟨b, c, N, _, Fs, rfl, r3, by rw [List.length_set]; exact hN, by rw [List.length_set]; exact hm, fun j hj => ?_, by rw [List.length_set]⟩
      rw [List.length_set] at hj
      by_cases hji : j = i
      · subst hji
        rw [List.getElem_set_self]
        refine ⟨?_, ?_, ?_, hnx, ?_⟩
        · rw [if_neg (by omega), if_neg (by omega), if_pos rfl]
        · rw [if_neg (by omega), if_pos rfl]
        · rw [if_pos rfl]
        · rw [if_neg (by omega), if_neg (by omega), if_neg (by omega)]; exact hox
      · rw [List.getElem_set_ne (fun e => hji e.symm)]
        obtain ⟨g0, g1, g2, g3, g4⟩ := hel j hj
        refine ⟨?_, ?_, ?_, g3, ?_⟩
        · rw [if_neg (by omega), if_neg (by omega), if_neg (by omega)]; exact g0
        · rw [if_neg (by omega), if_neg (by omega), if_neg (by omega)]; exact g1
        · rw [if_neg (by omega), if_neg (by omega), if_neg (by omega)]; exact g2
        · rw [if_neg (by omega), if_neg (by omega), if_neg (by omega)]
          have ne : ∀ y ∈ Fs j, y ≠ b := fun y hy e => hbn j hj (by rw [← e]; exact hy)
          have o1 := OwE.setB (b := b) (OwE.setB (b := b) g4 ne (i * 4) (.int .i64 x.kind)) ne (i * 4 + 1) (.int .i64 x.e.op)
          have o2 := OwE.setB (b := b) (o1.of_blocks fun y hy => hb2.block y (o1.lt y hy)) ne (i * 4 + 2) (.string x.e.name)
          exact o2.mvF m3 (hij j hj hji)

def RetMarkU (w : World) (v : Value) (es : List RU) (F : List Nat) (k : Nat) (e : Ending) (w' : World) : Prop :=
  e = .returned (.int .i64 ((k + wSum wtU es : Nat) : Int)) ∧ OwU w' v (mkG mkU wtU k es) F ∧ MvF F w w'

set_option maxHeartbeats 1000000 in
theorem markU_any (es : List RU) (w : World) (v : Value) (F : List Nat) (k : Nat) (h : OwU w v es F) (hnd : F.Nodup) (hk0 : 0 < k) (hk : k + wSum wtU es < 10 ^ 18) : Calls Tryz.prog 21 #[v, .int .i64 k] w (RetMarkU w v es F k) := by
  obtain ⟨A, c, rfl, hlen⟩ := h.slice
  go_enter Tryz.func21, Tryz.ntmps21
  go_wp2_with fail
  go_loopg [1, 5] es.length (fun g s1 s5 wr => ∃ i : Nat, i ≤ es.length ∧ g = es.length - i ∧ s5 = .int .i64 i ∧ s1 = .int .i64 ((k + wSum wtU (es.take i) : Nat) : Int) ∧ OwU wr (.slice A es.length c) (midG mkU wtU k es i) F ∧ MvF F w wr)
  case atStart => exact ⟨0, Nat.zero_le _, rfl, rfl, by simp [wSum], by rw [midG_zero]; exact h, MvF.refl _ _⟩
  case round =>
    obtain ⟨i, hi, rfl, rfl, rfl, ho, m⟩ := hrel
    by_cases hlt : i < es.length
    · have hml := midG_length mkU wtU k es i hi
      obtain ⟨b, u, Fi, rfl, hn', hbl, hbF, hsub, hndi, hbi, ⟨c0, c1, c2, c3⟩, ⟨z0, z1, z2⟩, hoi, hback⟩ := ho.elem hnd (i := i) (by omega)
      rw [midG_get mkU wtU k es i hlt] at c0 c1 c2 hoi
      have hset := midG_set mkU wtU k es i hlt
      have hct := wSum_take_succ wtU es i hlt
      have hcl := wSum_take_le wtU es (i + 1)
      have hw : wtU es[i] = 3 + 2 * cntL es[i].e.kids := rfl
      obtain ⟨q, hq⟩ : ∃ q : Nat, q = k + wSum wtU (es.take i) := ⟨_, rfl⟩
      rw [← hq] at hset ⊢
      have hq0 : 0 < q := by omega
      have hq1 : q + 2 < 10 ^ 18 := by omega
      have hq2 : q + 3 + 2 * cntL es[i].e.kids < 10 ^ 18 := by omega
      have hmt := markText_any (q + 2) (w := (wr.setCell ⟨b, i * 4, none⟩ (.int .i64 q)).setCell ⟨b, i * 4 + 1, none⟩ (.int .i64 ((q + 1 : Nat) : Int))) (by omega) hq1
      rw [show ((q + 2 : Nat) : Int) = (q : Int) + 1 + 1 by omega, show ((q + 1 : Nat) : Int) = (q : Int) + 1 by omega] at hmt
      have hnx : q + 3 + 2 * cntL es[i].e.kids = k + wSum wtU (es.take (i + 1)) := by omega
      have Nx := Lib.hid hnx
      have Back := Lib.hid hback
      have Set := Lib.hid hset
      clear hback hset hnx hn' hml hct hcl hq ho h hw
      have n1 : (⟨b, i * 4 + 1, none⟩ : Addr) ≠ ⟨b, i * 4, none⟩ := fun e => by injection e; omega
      have n2 : (⟨b, i * 4 + 2, none⟩ : Addr) ≠ ⟨b, i * 4, none⟩ := fun e => by injection e; omega
      have n2' : (⟨b, i * 4 + 2, none⟩ : Addr) ≠ ⟨b, i * 4 + 1, none⟩ := fun e => by injection e; omega
      have n3 : (⟨b, i * 4 + 3, none⟩ : Addr) ≠ ⟨b, i * 4, none⟩ := fun e => by injection e; omega
      have n3' : (⟨b, i * 4 + 3, none⟩ : Addr) ≠ ⟨b, i * 4 + 1, none⟩ := fun e => by injection e; omega
      have n4 : (⟨b, i * 4 + 3, none⟩ : Addr) ≠ ⟨b, i * 4 + 2, none⟩ := fun e => by injection e; omega
      have y1 : (wr.setCell ⟨b, i * 4, none⟩ (.int .i64 q)).cell? ⟨b, i * 4 + 1, none⟩ = some (.int .i64 es[i].e.op) := by rw [World.cell?_setCell_other _ _ _ _ n1.symm]; exact c1
      go_wp2_with fail
      refine hmt.mono ?_
      rintro e2 w2 ⟨rfl, hb2⟩
      have hlt2 : b < ((wr.setCell ⟨b, i * 4, none⟩ (.int .i64 q)).setCell ⟨b, i * 4 + 1, none⟩ (.int .i64 ((q : Int) + 1))).heap.size := by simpa [World.setCell] using hbl
      have e1 : w2.cell? ⟨b, i * 4 + 2, none⟩ = some (.string es[i].e.name) := by rw [hb2.cell (p := ⟨b, i * 4 + 2, none⟩) hlt2, World.cell?_setCell_other _ _ _ _ n2'.symm, World.cell?_setCell_other _ _ _ _ n2.symm]; exact c2
      have e2 : w2.cell? ⟨b, i * 4 + 3, none⟩ = some u := by rw [hb2.cell (p := ⟨b, i * 4 + 3, none⟩) hlt2, World.cell?_setCell_other _ _ _ _ n3'.symm, World.cell?_setCell_other _ _ _ _ n3.symm]; exact c3
      have e3 : w2.frozen? ⟨b, i * 4 + 2, none⟩ = false := by rw [hb2.frozen (p := ⟨b, i * 4 + 2, none⟩) hlt2, World.frozen?_setCell, World.frozen?_setCell]; exact z2
      have e4 : (w2.setCell ⟨b, i * 4 + 2, none⟩ (.string (mkT (q + 2)))).cell? ⟨b, i * 4 + 3, none⟩ = some u := by rw [World.cell?_setCell_other _ _ _ _ n4.symm]; exact e2
      have m2 : MvF F w (w2.setCell ⟨b, i * 4 + 2, none⟩ (.string (mkT (q + 2)))) := (((m.set (p := ⟨b, i * 4, none⟩) hbF _).set (p := ⟨b, i * 4 + 1, none⟩) hbF _).trans (MvF.of_below hb2)).set (p := ⟨b, i * 4 + 2, none⟩) hbF _
      have nb : ∀ x ∈ Fi, x ≠ b := fun x hx e => hbi (by rw [← e]; exact hx)
      have o2 := (hoi.setB (b := b) nb (i * 4) (.int .i64 q)).setB (b := b) nb (i * 4 + 1) (.int .i64 ((q : Int) + 1))
      have o3 := (o2.of_blocks fun y hy => hb2.block y (o2.lt y hy)).setB (b := b) nb (i * 4 + 2) (.string (mkT (q + 2)))
      have hrec := marks_kids es[i].e _ u Fi (q + 3) o3 hndi (by omega) hq2
      rw [show ((q + 3 : Nat) : Int) = (q : Int) + 1 + 1 + 1 by omega] at hrec
      clear o2 o3 hmt c0 c1 c2 c3 z0 z1 z2 n1 n2 n2' n3 n3' n4 hoi m y1
      go_wp2_with fail
      refine hrec.mono ?_
      rintro e5 w5 ⟨rfl, ho5, m5⟩
      have m6 := m2.trans (m5.mono hsub)
      have hb' := Back.out _ w2 w5 (mkU q es[i]) (by rw [mkU_kind, mkU_op, show ((q + 1 : Nat) : Int) = (q : Int) + 1 by omega]) hb2 (by rw [mkU_name]; exact m5) (by rw [mkU_name]; have := mkT_size (q + 2); omega) (by rw [mkU_kids]; exact ho5)
      rw [Set.out] at hb'
      have Hb' := Lib.hid hb'
      clear hb' hrec e1 e2 e3 e4 m2 hb2 ho5 m5 hlt2
      go_wp2_with fail
      go_roundg (es.length - (i + 1))
      case measure => omega
      case rel => exact ⟨i + 1, by omega, rfl, by go_num, congrArg (Value.int .i64) (by have := Nx.out; omega), Hb'.out, m6⟩
    · obtain rfl : i = es.length := by omega
      go_wp2_with fail
      go_ret
      rw [midG_all] at ho
      rw [List.take_length]
      exact ⟨rfl, ho, m⟩

end Go.Proofs.YtfgpbnncdfcjjabGreatDoor

/-! The walk of FnExactParseRelExpr: it answers true. -/
namespace Go.Proofs.YtfgpbnncdfcjjabGreatDoor
open Go.RowKit
set_option linter.unusedVariables false
set_option maxRecDepth 100000

theorem Read.small {t : ByteArray} {x : RE} {b : Bool} (h : Read t x b) : 1 + 2 * cntL x.kids < 10 ^ 18 := by
  rcases h with ⟨_, h, _⟩ | ⟨_, rfl, _⟩
  · have h1 := h.2
    have h2 := cntE_kids x
    omega
  · show 1 + 2 * cntL [] < _
    rw [cntL]
    omega
theorem OwE.repK {w : World} {A : Option Addr} {c : Nat} {x : RE} {F : List Nat} (h : OwE w (.slice A x.kids.length c) x.kids F) (hn : x.name.size ≤ 300) : RepK w A c x :=
  ⟨by omega, RepEs.le (h.rep (B := 0) (fun b hb => Nat.zero_le _)) (Le.above _ _)⟩

end Go.Proofs.YtfgpbnncdfcjjabGreatDoor
