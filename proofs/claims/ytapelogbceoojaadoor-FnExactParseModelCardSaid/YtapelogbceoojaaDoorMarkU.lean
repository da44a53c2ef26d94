/-
  Marking owned rules, and asking whether the marks are held: markRuleS, heldRuleS.
-/
import Derived.Test.YtapelogbceoojaaDoorMarkE
import Derived.Test.YtapelogbceoojaaDoorMk
import Derived.Test.YtapelogbceoojaaDoorOwU
namespace Go.Proofs.YtapelogbceoojaaDoor
open Go.RowKit
set_option linter.unusedVariables false
set_option maxRecDepth 100000

/-- The marked rule, and how many numbers it takes. -/
def mkU (k : Nat) (r : RU) : RU := ⟨k, .mk ((k + 1 : Nat) : Int) (mkT (k + 2)) (mkL (k + 3) r.e.kids)⟩
def wtU (r : RU) : Nat := 3 + 2 * cntL r.e.kids
theorem mkU_kind (k : Nat) (r : RU) : (mkU k r).kind = k := rfl
theorem mkU_op (k : Nat) (r : RU) : (mkU k r).e.op = ((k + 1 : Nat) : Int) := rfl
theorem mkU_name (k : Nat) (r : RU) : (mkU k r).e.name = mkT (k + 2) := rfl
theorem mkU_kids (k : Nat) (r : RU) : (mkU k r).e.kids = mkL (k + 3) r.e.kids := rfl

theorem OwU.slice {w : World} {v : Value} {ms : List RU} {F : List Nat} (h : OwU w v ms F) : ∃ A c, v = .slice A ms.length c ∧ ms.length ≤ 9223372036854775807 := by
  rcases h with ⟨rfl, rfl, rfl⟩ | ⟨g, c, N, G, Fs, rfl, _, _, hm, _⟩
  · exact ⟨_, _, rfl, by simp⟩
  · exact ⟨_, _, rfl, hm⟩
theorem OwU.lt {w : World} {v : Value} {ms : List RU} {F : List Nat} (h : OwU w v ms F) : ∀ b ∈ F, b < w.heap.size := fun b hb => by
  rcases h with ⟨rfl, rfl, rfl⟩ | ⟨g, c, N, G, Fs, rfl, hr, _, hm, hel, rfl⟩
  · cases hb
  · rcases List.mem_cons.1 hb with rfl | hb
    · exact hr.lt
    · obtain ⟨i, hi, hx⟩ := of_mem_foot hb
      exact (hel i hi).2.2.2.2.lt b hx
theorem OwU.of_blocks {w w' : World} {v : Value} {ms : List RU} {F : List Nat} (h : OwU w v ms F) (hb : ∀ b ∈ F, w'.heap[b]? = w.heap[b]?) : OwU w' v ms F := by
  rcases h with ⟨rfl, rfl, rfl⟩ | ⟨g, c, N, G, Fs, rfl, hr, hN, hm, hel, rfl⟩
  · exact Or.inl ⟨rfl, rfl, rfl⟩
  · exact Or.inr ⟨g, c, N, G, Fs, rfl, hr.of_block (hb g (by simp)), hN, hm, fun i hi => by
      obtain ⟨h0, h1, h2, h3, h4⟩ := hel i hi
      exact ⟨h0, h1, h2, h3, h4.of_blocks fun b hm => hb b (List.mem_cons_of_mem _ (mem_foot hi hm))⟩, rfl⟩
theorem OwU.below {w w' : World} {v : Value} {ms : List RU} {F : List Nat} (h : OwU w v ms F) (hb : Below w.heap.size w w') : OwU w' v ms F := h.of_blocks fun b hm => hb.block b (h.lt b hm)
theorem OwU.slR {w : World} {v : Value} {ms : List RU} {F : List Nat} (h : OwU w v ms F) : SlR 4 RepU w v ms := by
  rcases h with ⟨rfl, rfl, rfl⟩ | ⟨g, c, N, G, Fs, rfl, hr, hN, hm, hel, rfl⟩
  · exact ⟨none, 0, rfl, by simp, fun i hi => absurd hi (Nat.not_lt_zero _)⟩
  · refine ⟨_, _, rfl, hm, fun i hi => ⟨g, 0, rfl, fun j => G (i * 4 + j), fun j hj => by rw [Nat.zero_add]; exact hr.cell (by omega), ?_⟩⟩
    obtain ⟨h0, h1, h2, h3, h4⟩ := hel i hi
    have hs := RepEs.le (h4.rep (B := 0) (fun b hb => Nat.zero_le _)) (Le.above _ _)
    obtain ⟨A, c, hv⟩ := h4.slice
    rw [hv] at hs
    exact repU_K.2 ⟨A, c, h0, h1, h2, by rw [← hv], h3, hs⟩

theorem OwU.elem {w : World} {A : Option Addr} {n c : Nat} {es : List RU} {F : List Nat} (h : OwU w (.slice A n c) es F) (hnd : F.Nodup) {i : Nat} (hi : i < es.length) :
    ∃ b u Fi, A = some ⟨b, 0, none⟩ ∧ n = es.length ∧ b < w.heap.size ∧ b ∈ F ∧ (∀ x ∈ Fi, x ∈ F) ∧ Fi.Nodup ∧ b ∉ Fi ∧
      (w.cell? ⟨b, i * 4, none⟩ = some (.int .i64 es[i].kind) ∧ w.cell? ⟨b, i * 4 + 1, none⟩ = some (.int .i64 es[i].e.op) ∧ w.cell? ⟨b, i * 4 + 2, none⟩ = some (.string es[i].e.name) ∧ w.cell? ⟨b, i * 4 + 3, none⟩ = some u) ∧
      (w.frozen? ⟨b, i * 4, none⟩ = false ∧ w.frozen? ⟨b, i * 4 + 1, none⟩ = false ∧ w.frozen? ⟨b, i * 4 + 2, none⟩ = false) ∧ OwE w u es[i].e.kids Fi ∧
      ∀ (w1 w2 w3 : World) (x : RU), w1 = (w.setCell ⟨b, i * 4, none⟩ (.int .i64 x.kind)).setCell ⟨b, i * 4 + 1, none⟩ (.int .i64 x.e.op) → Below w1.heap.size w1 w2 → MvF Fi (w2.setCell ⟨b, i * 4 + 2, none⟩ (.string x.e.name)) w3 → x.e.name.size ≤ 9223372036854775807 → OwE w3 u x.e.kids Fi →
        OwU w3 (.slice A n c) (es.set i x) F := by
  rcases h with ⟨_, rfl, _⟩ | ⟨b, c', N, G, Fs, hv, hr, hN, hm, hel, rfl⟩
  · simp at hi
  · injection hv with e1 e2 e3
    subst e1; subst e2; subst e3
    rw [List.nodup_cons] at hnd
    have hnd2 := hnd.2
    unfold List.Nodup at hnd2
    rw [List.pairwise_flatten] at hnd2
    obtain ⟨hn1, hn2⟩ := hnd2
    have hbn : ∀ j, j < es.length → b ∉ Fs j := fun j hj hm => hnd.1 (mem_foot hj hm)
    have hij : ∀ j, j < es.length → j ≠ i → ∀ x ∈ Fs j, x ∉ Fs i := fun j hj hne x hx hx' => by
      rw [List.pairwise_map] at hn2
      have h2 := List.pairwise_iff_getElem.1 hn2
      rcases Nat.lt_or_gt_of_ne hne with h | h
      · exact h2 j i (by simpa using hj) (by simpa using hi) h x (by simpa using hx) x (by simpa using hx') rfl
      · exact h2 i j (by simpa using hi) (by simpa using hj) h x (by simpa using hx') x (by simpa using hx) rfl
    obtain ⟨f0, f1, f2, f3, f4⟩ := hel i hi
    refine ⟨b, G (i * 4 + 3), Fs i, rfl, rfl, hr.lt, by simp, fun x hx => List.mem_cons_of_mem _ (mem_foot hi hx), hn1 _ (List.mem_map.2 ⟨i, List.mem_range.2 hi, rfl⟩), hbn i hi, ⟨?_, ?_, ?_, ?_⟩, ⟨hr.frozen _, hr.frozen _, hr.frozen _⟩, f4, ?_⟩
    · rw [hr.cell (by omega), f0]
    · rw [hr.cell (by omega), f1]
    · rw [hr.cell (by omega), f2]
    · rw [hr.cell (by omega)]
    · rintro w1 w2 w3 x rfl hb2 m3 hnx hox
      have r1 := (hr.set (i * 4) (.int .i64 x.kind)).set (i * 4 + 1) (.int .i64 x.e.op)
      have r2 := (r1.of_block (hb2.block b r1.lt)).set (i * 4 + 2) (.string x.e.name)
      have r3 := r2.of_block (m3.block b r2.lt (hbn i hi))
      rw [show es.length = (es.set i x).length by rw [List.length_set]]
      refine Or.inr ⟨b, c, N, _, Fs, rfl, r3, by rw [List.length_set]; exact hN, by rw [List.length_set]; exact hm, fun j hj => ?_, by rw [List.length_set]⟩
      rw [List.length_set] at hj
      by_cases hji : j = i
      · subst hji
        rw [List.getElem_set_self]
        refine ⟨?_, ?_, ?_, hnx, ?_⟩
        · rw [if_neg (by omega), if_neg (by omega), if_pos rfl]
        · rw [if_neg (by omega), if_pos rfl]
        · rw [if_pos rfl]
        · rw [if_neg (by omega), if_neg (by omega), if_neg (by omega)]; exact hox
      · rw [List.getElem_set_ne (fun e => hji e.symm)]
        obtain ⟨g0, g1, g2, g3, g4⟩ := hel j hj
        refine ⟨?_, ?_, ?_, g3, ?_⟩
        · rw [if_neg (by omega), if_neg (by omega), if_neg (by omega)]; exact g0
        · rw [if_neg (by omega), if_neg (by omega), if_neg (by omega)]; exact g1
        · rw [if_neg (by omega), if_neg (by omega), if_neg (by omega)]; exact g2
        · rw [if_neg (by omega), if_neg (by omega), if_neg (by omega)]
          have ne : ∀ y ∈ Fs j, y ≠ b := fun y hy e => hbn j hj (by rw [← e]; exact hy)
          have o1 := OwE.setB (b := b) (OwE.setB (b := b) g4 ne (i * 4) (.int .i64 x.kind)) ne (i * 4 + 1) (.int .i64 x.e.op)
          have o2 := OwE.setB (b := b) (o1.of_blocks fun y hy => hb2.block y (o1.lt y hy)) ne (i * 4 + 2) (.string x.e.name)
          exact o2.mvF m3 (hij j hj hji)

def RetMarkU (w : World) (v : Value) (es : List RU) (F : List Nat) (k : Nat) (e : Ending) (w' : World) : Prop :=
  e = .returned (.int .i64 ((k + wSum wtU es : Nat) : Int)) ∧ OwU w' v (mkG mkU wtU k es) F ∧ MvF F w w'

set_option maxHeartbeats 1000000 in
theorem markU_any (es : List RU) (w : World) (v : Value) (F : List Nat) (k : Nat) (h : OwU w v es F) (hnd : F.Nodup) (hk0 : 0 < k) (hk : k + wSum wtU es < 10 ^ 18) : Calls Tryd.prog 39 #[v, .int .i64 k] w (RetMarkU w v es F k) := by
  obtain ⟨A, c, rfl, hlen⟩ := h.slice
  go_enter Tryd.func39, Tryd.ntmps39
  go_wp2_with fail
  go_loopg [1, 5] es.length (fun g s1 s5 wr => ∃ i : Nat, i ≤ es.length ∧ g = es.length - i ∧ s5 = .int .i64 i ∧ s1 = .int .i64 ((k + wSum wtU (es.take i) : Nat) : Int) ∧ OwU wr (.slice A es.length c) (midG mkU wtU k es i) F ∧ MvF F w wr)
  case atStart => exact ⟨0, Nat.zero_le _, rfl, rfl, by simp [wSum], by rw [midG_zero]; exact h, MvF.refl _ _⟩
  case round =>
    obtain ⟨i, hi, rfl, rfl, rfl, ho, m⟩ := hrel
    by_cases hlt : i < es.length
    · have hml := midG_length mkU wtU k es i hi
      obtain ⟨b, u, Fi, rfl, hn', hbl, hbF, hsub, hndi, hbi, ⟨c0, c1, c2, c3⟩, ⟨z0, z1, z2⟩, hoi, hback⟩ := ho.elem hnd (i := i) (by omega)
      rw [midG_get mkU wtU k es i hlt] at c0 c1 c2 hoi
      have hset := midG_set mkU wtU k es i hlt
      have hct := wSum_take_succ wtU es i hlt
      have hcl := wSum_take_le wtU es (i + 1)
      have hw : wtU es[i] = 3 + 2 * cntL es[i].e.kids := rfl
      obtain ⟨q, hq⟩ : ∃ q : Nat, q = k + wSum wtU (es.take i) := ⟨_, rfl⟩
      rw [← hq] at hset ⊢
      have hq0 : 0 < q := by omega
      have hq1 : q + 2 < 10 ^ 18 := by omega
      have hq2 : q + 3 + 2 * cntL es[i].e.kids < 10 ^ 18 := by omega
      have hmt := markText_any (q + 2) (w := (wr.setCell ⟨b, i * 4, none⟩ (.int .i64 q)).setCell ⟨b, i * 4 + 1, none⟩ (.int .i64 ((q + 1 : Nat) : Int))) (by omega) hq1
      rw [show ((q + 2 : Nat) : Int) = (q : Int) + 1 + 1 by omega, show ((q + 1 : Nat) : Int) = (q : Int) + 1 by omega] at hmt
      have hnx : q + 3 + 2 * cntL es[i].e.kids = k + wSum wtU (es.take (i + 1)) := by omega
      have Nx := Lib.hid hnx
      have Back := Lib.hid hback
      have Set := Lib.hid hset
      clear hback hset hnx hn' hml hct hcl hq ho h hw
      have n1 : (⟨b, i * 4 + 1, none⟩ : Addr) ≠ ⟨b, i * 4, none⟩ := fun e => by injection e; omega
      have n2 : (⟨b, i * 4 + 2, none⟩ : Addr) ≠ ⟨b, i * 4, none⟩ := fun e => by injection e; omega
      have n2' : (⟨b, i * 4 + 2, none⟩ : Addr) ≠ ⟨b, i * 4 + 1, none⟩ := fun e => by injection e; omega
      have n3 : (⟨b, i * 4 + 3, none⟩ : Addr) ≠ ⟨b, i * 4, none⟩ := fun e => by injection e; omega
      have n3' : (⟨b, i * 4 + 3, none⟩ : Addr) ≠ ⟨b, i * 4 + 1, none⟩ := fun e => by injection e; omega
      have n4 : (⟨b, i * 4 + 3, none⟩ : Addr) ≠ ⟨b, i * 4 + 2, none⟩ := fun e => by injection e; omega
      have y1 : (wr.setCell ⟨b, i * 4, none⟩ (.int .i64 q)).cell? ⟨b, i * 4 + 1, none⟩ = some (.int .i64 es[i].e.op) := by rw [World.cell?_setCell_other _ _ _ _ n1.symm]; exact c1
      go_wp2_with fail
      refine hmt.mono ?_
      rintro e2 w2 ⟨rfl, hb2⟩
      have hlt2 : b < ((wr.setCell ⟨b, i * 4, none⟩ (.int .i64 q)).setCell ⟨b, i * 4 + 1, none⟩ (.int .i64 ((q : Int) + 1))).heap.size := by simpa [World.setCell] using hbl
      have e1 : w2.cell? ⟨b, i * 4 + 2, none⟩ = some (.string es[i].e.name) := by rw [hb2.cell (p := ⟨b, i * 4 + 2, none⟩) hlt2, World.cell?_setCell_other _ _ _ _ n2'.symm, World.cell?_setCell_other _ _ _ _ n2.symm]; exact c2
      have e2 : w2.cell? ⟨b, i * 4 + 3, none⟩ = some u := by rw [hb2.cell (p := ⟨b, i * 4 + 3, none⟩) hlt2, World.cell?_setCell_other _ _ _ _ n3'.symm, World.cell?_setCell_other _ _ _ _ n3.symm]; exact c3
      have e3 : w2.frozen? ⟨b, i * 4 + 2, none⟩ = false := by rw [hb2.frozen (p := ⟨b, i * 4 + 2, none⟩) hlt2, World.frozen?_setCell, World.frozen?_setCell]; exact z2
      have e4 : (w2.setCell ⟨b, i * 4 + 2, none⟩ (.string (mkT (q + 2)))).cell? ⟨b, i * 4 + 3, none⟩ = some u := by rw [World.cell?_setCell_other _ _ _ _ n4.symm]; exact e2
      have m2 : MvF F w (w2.setCell ⟨b, i * 4 + 2, none⟩ (.string (mkT (q + 2)))) := (((m.set (p := ⟨b, i * 4, none⟩) hbF _).set (p := ⟨b, i * 4 + 1, none⟩) hbF _).trans (MvF.of_below hb2)).set (p := ⟨b, i * 4 + 2, none⟩) hbF _
      have nb : ∀ x ∈ Fi, x ≠ b := fun x hx e => hbi (by rw [← e]; exact hx)
      have o2 := (hoi.setB (b := b) nb (i * 4) (.int .i64 q)).setB (b := b) nb (i * 4 + 1) (.int .i64 ((q : Int) + 1))
      have o3 := (o2.of_blocks fun y hy => hb2.block y (o2.lt y hy)).setB (b := b) nb (i * 4 + 2) (.string (mkT (q + 2)))
      have hrec := marks_kids es[i].e _ u Fi (q + 3) o3 hndi (by omega) hq2
      rw [show ((q + 3 : Nat) : Int) = (q : Int) + 1 + 1 + 1 by omega] at hrec
      clear o2 o3 hmt c0 c1 c2 c3 z0 z1 z2 n1 n2 n2' n3 n3' n4 hoi m y1
      go_wp2_with fail
      refine hrec.mono ?_
      rintro e5 w5 ⟨rfl, ho5, m5⟩
      have m6 := m2.trans (m5.mono hsub)
      have hb' := Back.out _ w2 w5 (mkU q es[i]) (by rw [mkU_kind, mkU_op, show ((q + 1 : Nat) : Int) = (q : Int) + 1 by omega]) hb2 (by rw [mkU_name]; exact m5) (by rw [mkU_name]; have := mkT_size (q + 2); omega) (by rw [mkU_kids]; exact ho5)
      rw [Set.out] at hb'
      have Hb' := Lib.hid hb'
      clear hb' hrec e1 e2 e3 e4 m2 hb2 ho5 m5 hlt2
      go_wp2_with fail
      go_roundg (es.length - (i + 1))
      case measure => omega
      case rel => exact ⟨i + 1, by omega, rfl, by go_num, congrArg (Value.int .i64) (by have := Nx.out; omega), Hb'.out, m6⟩
    · obtain rfl : i = es.length := by omega
      go_wp2_with fail
      go_ret
      rw [midG_all] at ho
      rw [List.take_length]
      exact ⟨rfl, ho, m⟩

set_option maxHeartbeats 1000000 in
theorem heldU_any (es : List RU) (w : World) (v : Value) (k : Nat) (h : SlR 4 RepU w v (mkG mkU wtU k es)) (hk0 : 0 < k) (hk : k + wSum wtU es < 10 ^ 18) : Calls Tryd.prog 40 #[v, .int .i64 k] w (RetHeld w (k + wSum wtU es)) := by
  obtain ⟨A, c, rfl, hlen⟩ := h.slice
  rw [mkG_length] at hlen h ⊢
  go_enter Tryd.func40, Tryd.ntmps40
  go_wp2_with fail
  go_loopg [1, 5] es.length (fun g s1 s5 wr => ∃ i : Nat, i ≤ es.length ∧ g = es.length - i ∧ s5 = .int .i64 i ∧ s1 = .int .i64 ((k + wSum wtU (es.take i) : Nat) : Int) ∧ Below w.heap.size w wr)
  case atStart => exact ⟨0, Nat.zero_le _, rfl, rfl, by simp [wSum], Below.refl _ _⟩
  case round =>
    obtain ⟨i, hi, rfl, rfl, rfl, hb⟩ := hrel
    by_cases hlt : i < es.length
    · obtain ⟨b, o, A0, c0, rfl, hbl, k0, k1, k2, k3, hre⟩ := RepUs.get (RepUs.le h (Le.below hb)) (i := i) (by rw [mkG_length]; exact hlt)
      simp only [mkG_get mkU wtU es k i hlt] at k0 k1 k2 k3 hre
      have hct := wSum_take_succ wtU es i hlt
      have hcl := wSum_take_le wtU es (i + 1)
      have hw : wtU es[i] = 3 + 2 * cntL es[i].e.kids := rfl
      obtain ⟨q, hq⟩ : ∃ q : Nat, q = k + wSum wtU (es.take i) := ⟨_, rfl⟩
      rw [← hq] at k0 k1 k2 k3 hre ⊢
      have hrs := hre.2
      simp only [mkU_kind, mkU_op, mkU_name, mkU_kids] at k0 k1 k2 k3 hrs
      have hq0 : 0 < q := by omega
      have hq1 : q + 2 < 10 ^ 18 := by omega
      have hq2 : q + 3 + 2 * cntL es[i].e.kids < 10 ^ 18 := by omega
      have hnx : q + 3 + 2 * cntL es[i].e.kids = k + wSum wtU (es.take (i + 1)) := by omega
      have Nx := Lib.hid hnx
      rw [show ((q + 1 : Nat) : Int) = (q : Int) + 1 by omega] at k1
      have f1 := fun n : Ext wr => n.le _ _ k2
      have f2 := fun n : Ext wr => n.le _ _ k3
      have cal := fun n : Ext wr => MarkText_ext n (q + 2) (by omega) hq1
      rw [show ((q + 2 : Nat) : Int) = (q : Int) + 1 + 1 by omega] at cal
      have Cal := Lib.hid cal
      clear hct hcl hq hre h hnx cal hw
      go_wp2_with fail
      refine wp_region_ext _ (by kernel_rfl) (by kernel_rfl) (Below.refl _ _) ?_
      repeat (go_big_quiet_step ((go_at_call 76; exact Cal.out _)))
      refine wpQuiet_nil ?_
      rintro wn ⟨⟨_, hbn⟩, rfl⟩
      have d2 : wn.cell? ⟨b, o + i * 4 + 3, none⟩ = some (.slice A0 (mkL (q + 3) es[i].e.kids).length c0) := Le.below hbn _ _ k3
      have hb2 := hb.trans (hbn.mono hb.size)
      have hrec := helds_kids es[i].e wn _ (q + 3) (RepEs.le hrs (Le.below hbn)) (by omega) hq2
      rw [show ((q + 3 : Nat) : Int) = (q : Int) + 1 + 1 + 1 by omega] at hrec
      have bge : decide ((((q + 3 + 2 * cntL es[i].e.kids : Nat)) : Int) < 0) = false := by rw [decide_eq_false_iff_not]; omega
      rw [Nx.out] at bge hrec
      clear hbn k0 k1 k2 k3 f1 f2 hrs Cal hb
      go_wp2_with fail
      refine hrec.mono ?_
      rintro e5 w5 ⟨rfl, hb5⟩
      have hb6 := hb2.trans (hb5.mono hb2.size)
      clear hrec d2 hb5 hb2
      go_wp2_with fail
      go_roundg (es.length - (i + 1))
      case measure => omega
      case rel => exact ⟨i + 1, by omega, rfl, by go_num, rfl, hb6⟩
    · obtain rfl : i = es.length := by omega
      have hq0 : ((k + wSum wtU (es.take es.length) : Nat) : Int) = ((k + wSum wtU es : Nat) : Int) := by rw [List.take_length]
      go_wp2_with fail
      go_ret
      rw [List.take_length]
      exact ⟨rfl, hb⟩

end Go.Proofs.YtapelogbceoojaaDoor
