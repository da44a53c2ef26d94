/-
  Draws of models: l7MutateAll.
-/
import Derived.Test.YtapelogbceoojaaDoorDrM
import Derived.Test.YtapelogbceoojaaDoorMut2
namespace Go.Proofs.YtapelogbceoojaaDoor
open Go.RowKit
set_option linter.unusedVariables false
set_option maxRecDepth 100000

theorem owns_set {w : World} {base g k n j : Nat} {e : TypeId} {v : Value} {cs : List Value} (h : w.ownsRow base e k v n cs) (hv : v.ownBlock = some g) (u : Value) : (w.setCell ⟨g, j, none⟩ u).ownsRow base e k v n (cs.set j u) := by
  obtain ⟨hl, h⟩ := h
  rcases h with ⟨rfl, _⟩ | ⟨g', cap, cur, rfl, hb, hg, hn, hm, hc, ht⟩
  · cases hv
  · simp only [Value.ownBlock, Option.some.injEq] at hv
    subst hv
    refine ⟨by simpa using hl, .inr ⟨g', cap, cur.setIfInBounds j u, rfl, hb, ?_, hn, hm, by simpa using hc, ?_⟩⟩
    · simp [World.setCell, Array.getElem?_modify, hg]
    · rw [Array.toList_setIfInBounds, List.take_set, ht]
theorem keep_set {w : World} {base g : Nat} {v : Value} (hv : v.ownBlock = some g) (j : Nat) (u : Value) : Le (keepW (Kr base v) w) (keepW (Kr base v) (w.setCell ⟨g, j, none⟩ u)) :=
  Le.keepW fun a x hq hc => ⟨hq, by rw [World.cell?_setCell_other _ _ _ _ (fun e => hq.2 (by rw [hv, ← e]))]; exact hc⟩
/-- One element of a row is another now. -/
theorem RowK.setAt {α : Type} {k : Nat} {Rp : World → (Nat → Value) → α → Prop} (hR : ∀ a a' cs x, Le a a' → Rp a cs x → Rp a' cs x) (hQ : ∀ a (f g : Nat → Value) x, (∀ j, j < k → f j = g j) → Rp a f x → Rp a g x)
    {w w' : World} {base i : Nat} {e : TypeId} {v : Value} {xs : List α} {cs cs' : List Value} {x : α} (hq : ∀ i (h : i < xs.length), Rp (keepW (Kr base v) w) (fun j => cs.getD (i * k + j) undef) xs[i])
    (hown : w'.ownsRow base e k v xs.length cs') (hi : i < xs.length) (hne : ∀ t j, t ≠ i → j < k → cs'.getD (t * k + j) undef = cs.getD (t * k + j) undef) (hl : Le (keepW (Kr base v) w) (keepW (Kr base v) w')) (hx : Rp (keepW (Kr base v) w') (fun j => cs'.getD (i * k + j) undef) x) :
    RowK k Rp w' base e v (xs.set i x) := by
  refine ⟨cs', by rw [List.length_set]; exact hown, fun t ht => ?_⟩
  rw [List.length_set] at ht
  by_cases hti : t = i
  · subst hti
    rw [List.getElem_set_self]
    exact hx
  · rw [List.getElem_set_ne (fun e => hti e.symm)]
    exact hQ _ _ _ _ (fun j hj => (hne t j hti hj).symm) (hR _ _ _ _ hl (hq t ht))

/-- A model that is being changed. -/
structure AllS (w V : World) (R p : Nat) (ms : List RU) (v : Value) : Prop where
  row : RowK 4 RepU V (R + 1) 72 v ms
  vb : ∀ g, v.ownBlock = some g → w.heap.size ≤ g
  mv : Mv R w V
  rd : Rd V R p
  hR : R < w.heap.size
  cnt : ∀ r ∈ ms, cntE r.e ≤ 1000

/-- A slice's capacity reaches over it. -/
def CapOk (v : Value) : Prop := ∀ A n c, v = .slice A n c → n ≤ c
theorem RowK.cap {α : Type} {k : Nat} {Rp : World → (Nat → Value) → α → Prop} {w : World} {base : Nat} {e : TypeId} {v : Value} {xs : List α} (h : RowK k Rp w base e v xs) : CapOk v := by
  have h' : RowOf k (Rp (keepW (Kr base v) w)) w base e v xs := h
  obtain ⟨cs, ⟨_, h1⟩, _⟩ := h'
  intro A n c e
  rcases h1 with ⟨h2, _⟩ | ⟨g, cap, cur, h2, _, _, h3, _⟩
  · rw [h2] at e
    injection e with _ e2 e3
    omega
  · rw [h2] at e
    injection e with _ e2 e3
    omega
def RetAll (w : World) (R p : Nat) (e : Ending) (w' : World) : Prop :=
  ∃ (rs : List RU) (v : Value) (p' : Nat), e = .returned v ∧ rs.length ≤ 6 ∧ (∀ r ∈ rs, cntE r.e ≤ 1000) ∧ SlR 4 RepU (above (R + 1) w') v rs ∧ Mv R w w' ∧ Rd w' R p' ∧ p' ≤ p + 200 ∧ CapOk v
namespace AllS
variable {w V V' : World} {R p p' : Nat} {ms : List RU} {v : Value}
theorem fin (h : AllS w V R p' ms v) (hl : ms.length ≤ 6) (hp : p' ≤ p + 200) : RetAll w R p (.returned v) V :=
  ⟨ms, v, p', rfl, hl, h.cnt, RowK.slR (k := 4) (R := RepU) (by omega) (fun a a' cs x hl h => RepU.le hl h) h.row, h.mv, h.rd, hp, h.row.cap⟩
theorem mv' (h : AllS w V R p ms v) (m : Mv R V V') (rd : Rd V' R p') : AllS w V' R p' ms v :=
  ⟨RowK.mv (B := R) (Rp := RepU) (fun a a' cs x hl h => RepU.le hl h) h.row m (Nat.lt_succ_self R), h.vb, h.mv.trans m, rd, h.hR, h.cnt⟩
theorem alloc (h : AllS w V R p ms v) (o : Obj) : AllS w (V.alloc o) R p ms v := h.mv' ((Mv.refl _ _).alloc o) (h.rd.alloc o)
/-- The row's first rule. -/
theorem head (h : AllS w V R p ms v) (hn : 0 < ms.length) : ∃ g c, v = .slice (some ⟨g, 0, none⟩) ms.length c ∧ w.heap.size ≤ g ∧ g < V.heap.size ∧ ∃ A c', (V.cell? ⟨g, 0, none⟩ = some (.int .i64 ms[0].kind) ∧ V.cell? ⟨g, 1, none⟩ = some (.int .i64 ms[0].e.op) ∧ V.cell? ⟨g, 2, none⟩ = some (.string ms[0].e.name) ∧ V.cell? ⟨g, 3, none⟩ = some (.slice A ms[0].e.kids.length c')) ∧
    (V.frozen? ⟨g, 0, none⟩ = false ∧ V.frozen? ⟨g, 1, none⟩ = false ∧ V.frozen? ⟨g, 2, none⟩ = false ∧ V.frozen? ⟨g, 3, none⟩ = false) ∧ RepK (above (R + 1) V) A c' ms[0].e ∧
    ∃ cs, V.ownsRow (R + 1) 72 4 v ms.length cs ∧ (∀ i (h : i < ms.length), RepU (keepW (Kr (R + 1) v) V) (fun j => cs.getD (i * 4 + j) undef) ms[i]) ∧ 4 ≤ cs.length ∧ cs.getD 0 undef = .int .i64 ms[0].kind ∧ cs.getD 1 undef = .int .i64 ms[0].e.op ∧ cs.getD 2 undef = .string ms[0].e.name ∧ cs.getD 3 undef = .slice A ms[0].e.kids.length c' ∧ RepK (keepW (Kr (R + 1) v) V) A c' ms[0].e := by
  have hrow : RowOf 4 (RepU (keepW (Kr (R + 1) v) V)) V (R + 1) 72 v ms := h.row
  obtain ⟨cs, hown, hq⟩ := hrow
  have hcs := hown.1
  have h2 := hown.2
  rcases h2 with ⟨_, h0⟩ | ⟨g, cap, cur, hv, hb, hg, hnc, hm, hc, ht⟩
  · omega
  · obtain ⟨A, c', e0, e1, e2, e3, hk⟩ := repU_K.1 (hq 0 hn)
    have e0 : cs.getD 0 undef = _ := e0
    have e1 : cs.getD 1 undef = _ := e1
    have e2 : cs.getD 2 undef = _ := e2
    have e3 : cs.getD 3 undef = _ := e3
    have gc : ∀ j, j < 4 → V.cell? ⟨g, j, none⟩ = some (cs.getD j undef) := fun j hj => by
      have h1 : cs.getD j undef = cur.getD j undef := by
        rw [← ht, List.getD_eq_getElem?_getD, List.getElem?_take, if_pos (by omega), Array.getElem?_toList]
        simp [Array.getD, show j < cur.size by omega]
      rw [h1]
      have h2 : cur[j]? = some (cur.getD j undef) := getD_some (by omega)
      generalize cur.getD j undef = u at h2 ⊢
      simp [World.cell?, hg, h2]
    have gf : ∀ j, V.frozen? ⟨g, j, none⟩ = false := fun j => by simp [World.frozen?, hg]
    have hka : Le (keepW (Kr (R + 1) v) V) (above (R + 1) V) := fun a u hc => by
      obtain ⟨h1, h2⟩ := of_cell_keepW hc
      exact cell_above_of h1.1 h2
    refine ⟨g, cap, hv, h.vb g (by rw [hv]; rfl), (Array.getElem?_eq_some_iff.1 hg).elim (fun h _ => h), A, c', ⟨?_, ?_, ?_, ?_⟩, ⟨gf 0, gf 1, gf 2, gf 3⟩, hk.le hka, cs, hown, hq, by omega, e0, e1, e2, e3, hk⟩
    · rw [gc 0 (by omega), e0]
    · rw [gc 1 (by omega), e1]
    · rw [gc 2 (by omega), e2]
    · rw [gc 3 (by omega), e3]
end AllS

theorem getD_set_self {cs : List Value} {j : Nat} (u : Value) (h : j < cs.length) : (cs.set j u).getD j undef = u := by
  rw [List.getD_eq_getElem?_getD, List.getElem?_set_self h]; rfl
theorem getD_set_ne {cs : List Value} {j t : Nat} (u : Value) (h : j ≠ t) : (cs.set j u).getD t undef = cs.getD t undef := by
  rw [List.getD_eq_getElem?_getD, List.getElem?_set_ne h, List.getD_eq_getElem?_getD]

namespace AllS
variable {w V V' : World} {R p p' : Nat} {ms : List RU} {v : Value}
/-- Another kind for the first rule. -/
theorem setKind (h : AllS w V R p ms v) (hn : 0 < ms.length) {g : Nat} (hv : v.ownBlock = some g) (x : Int) : AllS w (V.setCell ⟨g, 0, none⟩ (.int .i64 x)) R p (ms.set 0 ⟨x, ms[0].e⟩) v := by
  obtain ⟨g', c, rfl, hg, hgl, A, c', _, _, _, cs, hown, hq, hcl, e0, e1, e2, e3, hk⟩ := h.head hn
  simp only [Value.ownBlock, Option.some.injEq] at hv
  subst hv
  have hR := h.hR
  refine ⟨RowK.setAt (k := 4) (Rp := RepU) (i := 0) (fun a a' cs x hl h => RepU.le hl h) (fun a f g x hfg h => RepU.congr h hfg) hq (owns_set hown rfl _) hn (fun t j ht hj => getD_set_ne _ (by omega)) (keep_set rfl _ _) ?_, h.vb, h.mv.setNew hg _, h.rd.setNew (by show R < g'; omega) _, hR, fun r hr => ?_⟩
  · exact repU_K.2 ⟨A, c', getD_set_self _ (by omega), by rw [getD_set_ne _ (by omega)]; exact e1, by rw [getD_set_ne _ (by omega)]; exact e2, by rw [getD_set_ne _ (by omega)]; exact e3, hk.le (keep_set rfl _ _)⟩
  · rcases List.mem_or_eq_of_mem_set hr with hr | rfl
    · exact h.cnt r hr
    · exact h.cnt ms[0] (List.getElem_mem hn)
/-- Another expression for the first rule. -/
theorem setExpr (h : AllS w V R p ms v) (hn : 0 < ms.length) {g : Nat} (hv : v.ownBlock = some g) {y : RE} {Ay : Option Addr} {cy : Nat} (hy : RepK (keepW (Kr (R + 1) v) V) Ay cy y) (hc : cntE y ≤ 1000) :
    AllS w (((V.setCell ⟨g, 1, none⟩ (.int .i64 y.op)).setCell ⟨g, 2, none⟩ (.string y.name)).setCell ⟨g, 3, none⟩ (.slice Ay y.kids.length cy)) R p (ms.set 0 ⟨ms[0].kind, y⟩) v := by
  obtain ⟨g', c, rfl, hg, hgl, A, c', _, _, _, cs, hown, hq, hcl, e0, e1, e2, e3, hk⟩ := h.head hn
  simp only [Value.ownBlock, Option.some.injEq] at hv
  subst hv
  have hR := h.hR
  have hR' : R < g' := by omega
  have hl3 := ((keep_set (w := V) (base := R + 1) (g := g') (v := .slice (some ⟨g', 0, none⟩) ms.length c) rfl 1 (.int .i64 y.op)).trans (keep_set rfl 2 (.string y.name))).trans (keep_set rfl 3 (.slice Ay y.kids.length cy))
  refine ⟨RowK.setAt (k := 4) (Rp := RepU) (i := 0) (fun a a' cs x hl h => RepU.le hl h) (fun a f g x hfg h => RepU.congr h hfg) hq (owns_set (owns_set (owns_set hown rfl _) rfl _) rfl _) hn (fun t j ht hj => by rw [getD_set_ne _ (by omega), getD_set_ne _ (by omega), getD_set_ne _ (by omega)]) hl3 ?_, h.vb, ((h.mv.setNew hg _).setNew hg _).setNew hg _, ((h.rd.setNew hR' _).setNew hR' _).setNew hR' _, hR, fun r hr => ?_⟩
  · refine repU_K.2 ⟨Ay, cy, ?_, ?_, ?_, ?_, hy.le hl3⟩
    · show (((cs.set 1 _).set 2 _).set 3 _).getD 0 undef = _
      rw [getD_set_ne _ (by omega), getD_set_ne _ (by omega), getD_set_ne _ (by omega)]; exact e0
    · show (((cs.set 1 _).set 2 _).set 3 _).getD 1 undef = _
      rw [getD_set_ne _ (by omega), getD_set_ne _ (by omega)]; exact getD_set_self _ (by omega)
    · show (((cs.set 1 _).set 2 _).set 3 _).getD 2 undef = _
      rw [getD_set_ne _ (by omega)]; exact getD_set_self _ (by simp; omega)
    · exact getD_set_self _ (by simp; omega)
  · rcases List.mem_or_eq_of_mem_set hr with hr | rfl
    · exact h.cnt r hr
    · exact hc
end AllS

theorem cnt_kids' (xs : List RE) : xs.length ≤ cntL xs := by
  induction xs with
  | nil => exact Nat.le_refl _
  | cons x xs ih => have := cntE_pos x; simp only [cntL, List.length_cons]; omega
theorem start_all {w w1 : World} {R p gg cap b o : Nat} {rs : List RU} {news : List Value} (hr : Rd w R p) (hn : news.length = rs.length * 4) (hq : ∀ i (hi : i < rs.length), ∃ cs, (∀ j, j < 4 → cs j = news.getD (i * 4 + j) undef) ∧ RepU (above (R + 1) w) cs rs[i])
    (hg : (w.alloc (.cells #[] 72)).grownBy w1 (some w.heap.size)) (hown : w1.ownsRow (R + 1) 72 4 (.slice (some ⟨gg, 0, none⟩) (0 + rs.length) cap) (0 + rs.length) ([] ++ news)) (hat : some w.heap.size = some gg ∨ gg = w.heap.size + 1) (hcnt : ∀ r ∈ rs, cntE r.e ≤ 1000) :
    AllS w w1 R p rs (.slice (some ⟨gg, 0, none⟩) rs.length cap) := by
  have hR := hr.lt
  have hgg : w.heap.size ≤ gg := by
    rcases hat with h | h
    · injection h with h; omega
    · omega
  have m0 : Mv R w (w.alloc (.cells #[] 72)) := (Mv.refl _ _).alloc _
  rw [Nat.zero_add, List.nil_append] at hown
  refine ⟨⟨news, hown, fun i hi => ?_⟩, fun g hg => by simp only [Value.ownBlock, Option.some.injEq] at hg; omega, mv_grown2 m0 hg (fun g hg => by injection hg with hg; omega), rd_grown (hr.alloc _) hg (fun g hg => by injection hg with hg; omega), hR, hcnt⟩
  obtain ⟨cs, h1, h2⟩ := hq i hi
  refine (RepU.le (fun a u hc => ?_) h2).congr h1
  obtain ⟨h3, h4⟩ := cell_above_lt hc
  have hlt := World.block_lt_of_cell? _ _ h4
  refine cell_keepW_of ⟨h3, fun e => by simp only [Value.ownBlock, Option.some.injEq] at e; omega⟩ ?_
  rw [World.cell?_of_block (w := w.alloc (.cells #[] 72)) (World.grownBy.block hg a.block (by simp; omega) (fun e => by injection e with e; omega)), World.cell?_alloc_lt _ _ _ hlt]
  exact h4

set_option maxHeartbeats 4000000 in
theorem mutAll_any (w : World) (R p : Nat) (rs : List RU) (v : Value) (hp : p ≤ 500000) (hr : Rd w R p) (hok : MOk rs) (hsl : SlR 4 RepU (above (R + 1) w) v rs) : Calls Tryd.prog 96 #[.pointer (some ⟨R, 0, none⟩), v] w (RetAll w R p) := by
  obtain ⟨i0, hi0, hz0, hz1, hz2⟩ := info_parts Tryd.infoRU
  obtain ⟨A, c, rfl, _⟩ := hsl.slice
  have hl1 := hok.1
  have hl5 := hok.2.1
  obtain ⟨b, o, rfl, news, hnl, hnews, hq⟩ := hsl.news (by omega) hl1
  have hone : ∀ u ∈ news, u.oneCell' = true := news_one (k := 4) (by omega) hnl fun i hi j hj => by
    obtain ⟨cs, h1, h2⟩ := hq i hi
    obtain ⟨A', c', e0, e1, e2, e3, _⟩ := repU_K.1 h2
    rw [← h1 j hj]
    rcases (show j = 0 ∨ j = 1 ∨ j = 2 ∨ j = 3 by omega) with rfl | rfl | rfl | rfl
    · rw [e0]; rfl
    · rw [e1]; rfl
    · rw [e2]; rfl
    · rw [e3]; rfl
  have hR := hr.lt
  have hcnt : ∀ r ∈ rs, cntE r.e ≤ 1000 := fun r hr => by have := (hok.2.2 r hr).2.2.2; omega
  have hnm : ∀ r ∈ rs, r.e.name.size ≤ 300 := fun r hr => (hok.2.2 r hr).2.2.1.name_le
  have hnA : NewsAt (w.alloc (.cells #[] 72)) ⟨b, o, none⟩ news := hnews.le ((Le.above _ _).trans (Le.alloc _ _))
  have HnA := Lib.hid hnA
  have Hone := Lib.hid hone
  have Hnl := Lib.hid hnl
  have Hq := Lib.hid hq
  have Hcnt := Lib.hid hcnt
  have Hnm := Lib.hid hnm
  have Hc40 : Hid (∀ r ∈ rs, cntE r.e ≤ 40) := fun r hr => (hok.2.2 r hr).2.2.2
  clear hnA hone hnl hq hsl hnews hcnt hnm
  go_enter Tryd.func96, Tryd.ntmps96
  go_wp2_with (at_builtin; refine wpList_append_lies _ (by rfl) _ _ _ (by rfl) (R + 1) 72 i0 _ 4 56 Tryd.underlying41 hi0 hz0 hz1 hz2 rfl (by omega) (.slice (some ⟨w.heap.size, 0, none⟩) 0 0) 0 [] (by rfl) (made_owns (Own.new w _ _) (by omega)) ⟨b, o, none⟩ rs.length c news (by rfl) Hnl.out HnA.out Hone.out (by omega) (by simp [maxLen]; omega) (by omega) (by simp; omega) (w.heap.size + 1) (by simp) ?_; intro gg cap w1 hown1 hgrow hat1 hlt1)
  have S1 := start_all (b := b) (o := o) hr Hnl.out Hq.out hgrow hown1 hat1 Hcnt.out
  clear hown1 hgrow hat1
  refine (pick_any _ R p 24 (by omega) S1.rd).mono ?_
  rintro e2 w2 ⟨k, rfl, hk0, hk24, m2, hr2⟩
  have S2 := S1.mv' m2 hr2
  clear hk24 S1 hr2 m2
  by_cases h0 : k = 0
  · subst h0
    have il := Own.new w2 3 #[.int .i64 0, .int .i64 4, .int .i64 2]
    have hs2 := S2.mv.size
    have hil : Ints (above (R + 1) (w2.alloc (.cells #[.int .i64 0, .int .i64 4, .int .i64 2] 3))) (some ⟨w2.heap.size, 0, none⟩) 3 [0, 4, 2] := ints_lit [0, 4, 2] il (by omega) rfl (by omega) (fun i hi => by
      match i, hi with
      | 0, _ => rfl
      | 1, _ => rfl
      | 2, _ => rfl)
    have S2a := S2.alloc (.cells #[.int .i64 0, .int .i64 4, .int .i64 2] 3)
    have hnum := num_any _ R (p + 1) _ 3 [0, 4, 2] (by omega) S2a.rd hil (by simp)
    clear il hil S2
    go_wp2_with fail
    refine hnum.mono ?_
    rintro e3 w3 ⟨x, rfl, hx, m3, hr3⟩
    have S3 := S2a.mv' m3 hr3
    obtain ⟨g', c', hv, hg1, hg2, A', c'', ⟨c0, _, _, _⟩, ⟨f0, _, _, _⟩, _⟩ := S3.head hl1
    obtain rfl : gg = g' := by injection hv with hv _ _; injection hv with hv; injection hv with hv _ _
    clear hv
    have S4 := S3.setKind hl1 (g := gg) rfl x
    have Hi : (0 : Int) < rs.length := by omega
    clear hnum hx S2a m3 hr3 S3
    go_wp2_with fail
    go_ret
    exact S4.fin (p := p) (by rw [List.length_set]; omega) (by omega)
  · have d0 : (k == 0) = false := by rw [beq_eq_false_iff_ne]; exact h0
    by_cases h1 : k = 1
    · subst h1
      obtain ⟨g', c', hv, hg1, hg2, A', c'', ⟨c0, c1, c2, c3⟩, ⟨f0, f1, f2, f3⟩, hrk, cs0, hcs1, hcs2, hcs3, hcs4, hcs5, hcs6, hcs7, hkk⟩ := S2.head hl1
      obtain rfl : gg = g' := by injection hv with hv _ _; injection hv with hv; injection hv with hv _ _
      clear hv
      have hmut := mutateZ_any gg w2 hg2 R (p + 1) rs[0].e A' c'' (by omega) S2.rd (hkk.le fun a u hc => by
        obtain ⟨h1, h2⟩ := of_cell_keepW hc
        exact cell_keepW_of ⟨by have := h1.1; omega, fun e => h1.2 (by rw [e]; rfl)⟩ h2) (Hnm.out _ (List.getElem_mem hl1)) (by have h := Hcnt.out rs[0] (List.getElem_mem hl1); have h2 := cntE_eq rs[0].e; have h3 := cnt_kids' rs[0].e.kids; omega)
      have Hi : (0 : Int) < rs.length := by omega
      have S2h := Lib.hid S2
      clear f0 hrk S2 hcs1 hcs2 hcs3 hcs4 hcs5 hcs6 hcs7 hkk
      go_wp2_with fail
      refine hmut.mono ?_
      rintro e3 w3 ⟨y, A3, c3', p3, rfl, hy, hn3, hk3, hc3, m3, rd3, hp3⟩
      have S3 := S2h.out.mv' m3 rd3
      have S4 := S3.setExpr hl1 (g := gg) rfl (hy.le fun a u hc => by
        obtain ⟨h1, h2⟩ := of_cell_keepW hc
        exact cell_keepW_of ⟨by have := h1.1; omega, fun e => h1.2 (by simp only [Value.ownBlock, Option.some.injEq] at e; exact e.symm)⟩ h2) (by have := Hc40.out rs[0] (List.getElem_mem hl1); omega)
      obtain ⟨g', c', hv, hg1, hg2, A', c'', ⟨k0, k1, k2, k3⟩, ⟨f0, f1, f2, f3⟩, _⟩ := S3.head hl1
      obtain rfl : gg = g' := by injection hv with hv _ _; injection hv with hv; injection hv with hv _ _
      clear hv
      clear hmut m3 rd3 S3 S2h f0 k0 hy
      go_wp2_with fail
      go_ret
      exact S4.fin (p := p) (by rw [List.length_set]; omega) (by omega)
    · have d1 : (k == 1) = false := by rw [beq_eq_false_iff_ne]; exact h1
      by_cases h2 : k = 2
      · subst h2
        have own0 := Own.new w2 72 #[]
        have hs2 := S2.mv.size
        have hrow0 : RowK 4 RepU (w2.alloc (.cells #[] 72)) (R + 1) 72 (.slice (some ⟨w2.heap.size, 0, none⟩) 0 0) [] := RowOf.made _ own0 (by omega)
        have S3 : AllS w (w2.alloc (.cells #[] 72)) R (p + 1) [] (.slice (some ⟨w2.heap.size, 0, none⟩) 0 0) := ⟨hrow0, fun g hg => by simp [Value.ownBlock] at hg; omega, S2.mv.alloc _, S2.rd.alloc _, hR, fun r hr => absurd hr (by simp)⟩
        clear own0 hrow0 S2
        go_wp2_with fail
        go_ret
        exact S3.fin (by simp) (by omega)
      · have d2 : (k == 2) = false := by rw [beq_eq_false_iff_ne]; exact h2
        by_cases h3 : k = 3
        · subst h3
          go_wp2_with fail
          go_loopg [5] (6 - rs.length) (fun g s5 wr => ∃ (ms : List RU) (g5 c5 : Nat), s5 = .slice (some ⟨g5, 0, none⟩) ms.length c5 ∧ g = 6 - ms.length ∧ 1 ≤ ms.length ∧ ms.length ≤ 6 ∧ Hid (AllS w wr R (p + 1) ms (.slice (some ⟨g5, 0, none⟩) ms.length c5)))
          case atStart => exact ⟨rs, gg, _, rfl, rfl, hl1, by omega, S2⟩
          case round =>
            clear S2
            obtain ⟨ms, g5, c5, rfl, rfl, hm1, hm6, hs⟩ := hrel
            by_cases hm : ms.length ≤ 5
            · obtain ⟨g', c', hv, hg1, hg2, A', c'', ⟨k0, k1, k2, k3⟩, _, _, cs, hown, hq, _, _, _, _, _, hkk⟩ := hs.out.head hm1
              obtain rfl : g5 = g' := by injection hv with hv _ _; injection hv with hv; injection hv with hv _ _
              clear hv
              have hX : Mv R wr (wr.alloc (.cells #[.int .i64 ms[0].kind, .int .i64 ms[0].e.op, .string ms[0].e.name, .slice A' ms[0].e.kids.length c''] 72)) := (Mv.refl _ _).alloc _
              have hoX := owns_alloc hown (.cells #[.int .i64 ms[0].kind, .int .i64 ms[0].e.op, .string ms[0].e.name, .slice A' ms[0].e.kids.length c''] 72)
              have Hown := Lib.hid hown
              have HoX := Lib.hid hoX
              have Hqq := Lib.hid hq
              have Hkk := Lib.hid hkk
              have Hi : (0 : Int) < ms.length := by omega
              have Hi5 : (ms.length : Int) ≤ 5 := by omega
              have hsm := hs.out.mv.size
              clear hown hoX hq hkk
              go_wp2_with (at_builtin; refine wpList_append_lies _ (by rfl) _ _ _ (by rfl) (R + 1) 72 i0 _ 4 56 Tryd.underlying41 hi0 hz0 hz1 hz2 rfl (by omega) (.slice (some ⟨g5, 0, none⟩) ms.length c5) ms.length cs (by rfl) HoX.out ⟨wr.heap.size, 0, none⟩ 1 1 [.int .i64 ms[0].kind, .int .i64 ms[0].e.op, .string ms[0].e.name, .slice A' ms[0].e.kids.length c''] (by rfl) (by rfl) (World.news_of_block (cs := #[.int .i64 ms[0].kind, .int .i64 ms[0].e.op, .string ms[0].e.name, .slice A' ms[0].e.kids.length c'']) (t := 72) (fr := (0, 0)) (heap_alloc_new wr _)) (by simp [Value.oneCell']) (by omega) (by simp [maxLen]; omega) (by omega) (by simp; omega) (wr.heap.size + 1) (by simp) ?_; intro gn cap7 w7 hown7 hgrow hat7 hlt7)
              go_roundg (6 - (ms.length + 1))
              case measure => omega
              case rel =>
                refine ⟨ms ++ [ms[0]], gn, cap7, by simp, by simp, by simp, by simp; omega, ?_⟩
                have hrowN : RowK 4 RepU w7 (R + 1) 72 (.slice (some ⟨gn, 0, none⟩) (ms.length + 1) cap7) (ms ++ [ms[0]]) := RowK.pushM (Rp := RepU) (fun a a' cs x hl h => RepU.le hl h) (fun a f g x hfg h => RepU.congr h hfg) Hown.out Hqq.out hX (Nat.lt_succ_self R) hgrow rfl (x := ms[0]) (repU_K.2 ⟨A', c'', rfl, rfl, rfl, rfl, Hkk.out.le (Le.keepW fun a u h1 h2 => ⟨h1, Le.alloc _ _ _ _ h2⟩)⟩) (by omega) hown7 hat7 (by simp)
                have hvb : ∀ g, (Value.slice (some ⟨g5, 0, none⟩) ms.length c5).ownBlock = some g → w.heap.size ≤ g := fun g hg => hs.out.vb g hg
                have hS : AllS w w7 R (p + 1) (ms ++ [ms[0]]) (.slice (some ⟨gn, 0, none⟩) (ms.length + 1) cap7) := ⟨hrowN, fun g hg => by
                  simp only [Value.ownBlock, Option.some.injEq] at hg
                  rcases hat7 with h | h
                  · exact hg ▸ hvb _ h
                  · omega, mv_grown2 (hs.out.mv.trans hX) hgrow hvb, rd_grown (hs.out.rd.alloc _) hgrow (fun g hg => by have := hvb g hg; omega), hR, fun r hr => by
                  rcases List.mem_append.1 hr with hr | hr
                  · exact hs.out.cnt r hr
                  · rw [List.mem_singleton.1 hr]; exact hs.out.cnt _ (List.getElem_mem hm1)⟩
                rw [List.length_append, List.length_singleton]
                exact hS
            · have Hi5 : ¬ (ms.length : Int) ≤ 5 := by omega
              go_wp2_with fail
              go_ret
              exact hs.out.fin hm6 (by omega)
        · have d3 : (k == 3) = false := by rw [beq_eq_false_iff_ne]; exact h3
          go_wp2_with fail
          go_ret
          exact S2.fin (by omega) (by omega)

/-- What a draw of a model comes to. -/
def RetDrM (w : World) (e : Ending) (w' : World) : Prop :=
  ∃ (rs : List RU) (v : Value), e = .returned v ∧ rs.length ≤ 6 ∧ (∀ r ∈ rs, cntE r.e ≤ 1000) ∧ SlR 4 RepU w' v rs ∧ Below w.heap.size w w' ∧ CapOk v

set_option maxHeartbeats 400000 in
theorem drawModV_any (w : World) (A : Option Addr) (n c : Nat) (h : Bys w A n) (hnc : n ≤ c) (hA : A = none → n = 0) : Calls Tryd.prog 70 #[.slice A n c] w (RetDrM w) := by
  have hop := open_any w A n c h hnc hA
  clear h
  go_enter Tryd.func70, Tryd.ntmps70
  go_wp2_with fail
  refine hop.mono ?_
  rintro e1 w1 ⟨R, rfl, hR, rd1, hb1⟩
  have hR1 := rd1.lt
  clear hop
  go_wp2_with fail
  refine (rules_any w1 R 0 (by omega) rd1).mono ?_
  rintro e2 w2 ⟨rs, v, p2, rfl, hok, hsl, m2, rd2, hp2⟩
  have hB2 : Below w.heap.size w w2 := hb1.trans (m2.below hR hb1.size)
  have hmut := mutAll_any w2 R p2 rs v (by omega) rd2 hok hsl
  clear hok hsl rd1 m2
  go_wp2_with fail
  refine hmut.mono ?_
  rintro e3 w3 ⟨rs', v', p3, rfl, hl6, hcnt, hsl', m3, rd3, hp3, hcap⟩
  have hB3 : Below w.heap.size w w3 := hB2.trans (m3.below hR hB2.size)
  have Hc := Lib.hid hcnt
  have Hcap := Lib.hid hcap
  clear hmut m3 rd3 hcnt hcap
  go_wp2_with fail
  go_ret
  exact ⟨rs', v', rfl, hl6, Hc.out, RepUs.le hsl' (Le.above _ _), hB3, Hcap.out⟩
set_option maxHeartbeats 400000 in
theorem drawFmtM_any (w : World) (A : Option Addr) (n c : Nat) (h : Bys w A n) (hnc : n ≤ c) (hA : A = none → n = 0) : Calls Tryd.prog 36 #[.slice A n c] w (RetDrM w) := by
  go_enter Tryd.func36, Tryd.ntmps36
  go_wp2_with fail
  refine (drawModV_any w A n c h hnc hA).mono ?_
  rintro e1 w1 ⟨rs, v, rfl, h1, h2, h3, h4, h5⟩
  have Hc := Lib.hid h2
  have Hcap := Lib.hid h5
  clear h2 h h5
  go_wp2_with fail
  go_ret
  exact ⟨rs, v, rfl, h1, Hc.out, h3, h4, Hcap.out⟩

end Go.Proofs.YtapelogbceoojaaDoor
