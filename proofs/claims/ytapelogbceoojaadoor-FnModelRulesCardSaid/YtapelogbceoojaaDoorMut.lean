/-
  The walk of l7Mutate.
-/
import Derived.Test.YtapelogbceoojaaDoorDr
import Derived.Test.YtapelogbceoojaaDoorApp
import Derived.Deep.RegionWith
namespace Go.Proofs.YtapelogbceoojaaDoor
open Go.RowKit
set_option linter.unusedVariables false
set_option maxRecDepth 100000

theorem Tryd.infoRE : (Tryd.prog.info? 29).map (fun i => (i.zero, i.size, i.bytes)) = some (some (.agg #[.int .i64 0, .string ⟨#[]⟩, .slice none 0 0]), 3, 48) := by kernel_rfl

/-- Only the blocks of q. -/
def keepW (q : Nat → Prop) [DecidablePred q] (w : World) : World := { w with heap := w.heap.mapIdx fun i o => if q i then o else .map #[] 0 }
theorem cell_keepW (q : Nat → Prop) [DecidablePred q] (w : World) (a : Addr) : (keepW q w).cell? a = if q a.block then w.cell? a else none := by
  unfold World.cell? keepW
  simp only [Array.getElem?_mapIdx]
  cases h : w.heap[a.block]? with
  | none => simp
  | some o => by_cases hb : q a.block <;> simp [hb]
theorem cell_keepW_of {q : Nat → Prop} [DecidablePred q] {w : World} {a : Addr} {v : Value} (hq : q a.block) (h : w.cell? a = some v) : (keepW q w).cell? a = some v := by rw [cell_keepW, if_pos hq]; exact h
theorem of_cell_keepW {q : Nat → Prop} [DecidablePred q] {w : World} {a : Addr} {v : Value} (h : (keepW q w).cell? a = some v) : q a.block ∧ w.cell? a = some v := by
  rw [cell_keepW] at h
  by_cases hb : q a.block
  · rw [if_pos hb] at h; exact ⟨hb, h⟩
  · rw [if_neg hb] at h; cases h
theorem Le.keepW {q q' : Nat → Prop} [DecidablePred q] [DecidablePred q'] {w w' : World} (h : ∀ a v, q a.block → w.cell? a = some v → q' a.block ∧ w'.cell? a = some v) : Le (Go.Proofs.YtapelogbceoojaaDoor.keepW q w) (Go.Proofs.YtapelogbceoojaaDoor.keepW q' w') := fun a v hc => by
  obtain ⟨h1, h2⟩ := of_cell_keepW hc
  obtain ⟨h3, h4⟩ := h a v h1 h2
  exact cell_keepW_of h3 h4
/-- What may not turn while l7Mutate goes on. -/
def Kp (Z R B O : Nat) (v : Value) (b : Nat) : Prop := (R < b ∧ b ≠ Z) ∧ b ≠ O ∧ b ≠ B ∧ v.ownBlock ≠ some b
instance (Z R B O : Nat) (v : Value) : DecidablePred (Kp Z R B O v) := fun _ => inferInstanceAs (Decidable ((_ ∧ _) ∧ _ ∧ _ ∧ _))
/-- .. but block Z. -/
def Kz (Z R b : Nat) : Prop := R < b ∧ b ≠ Z
instance (Z R : Nat) : DecidablePred (Kz Z R) := fun _ => inferInstanceAs (Decidable (_ ∧ _))

/-- The walk of l7Mutate behind its first statement: the variable 'out' in block O, the result in the block behind the box. -/
structure MutS (Z : Nat) (w V : World) (R p O : Nat) (x : RE) (v : Value) : Prop where
  out : Own V O 29 #[.int .i64 x.op, .string x.name, v]
  row : RowOf 3 (RepE (keepW (Kp Z R (w.heap.size + 1) O v) V)) V w.heap.size 29 v x.kids
  ne : v.ownBlock ≠ some O ∧ v.ownBlock ≠ some (w.heap.size + 1)
  res : Own V (w.heap.size + 1) 29 #[.int .i64 0, .string ⟨#[]⟩, .slice none 0 0]
  mv : Mv R w V
  rd : Rd V R p
  hO : w.heap.size + 1 < O
  hR : R < w.heap.size
  nm : x.name.size ≤ 300
  hZ : Z < w.heap.size

/-- Behind an append to a row of the call's own. -/
theorem mv_grown {w X w1 : World} {R s : Nat} (m : Mv R w X) (h : X.grownBy w1 (some s)) (hs : w.heap.size ≤ s) : Mv R w w1 :=
  ⟨h.os.trans m.os, h.tape.trans m.tape, h.output.trans m.output, Nat.le_trans m.size (World.grownBy.size h), fun i hi hne => (World.grownBy.block h i (Nat.lt_of_lt_of_le hi m.size) (fun e => by injection e with e; omega)).trans (World.grownBy.block m i hi hne)⟩
theorem rd_mv {w w1 : World} {R p : Nat} (h : Rd w R p) (m : Mv R w w1) (hR : w1.heap[R]? = w.heap[R]?) : Rd w1 R p := by
  obtain ⟨A, n, c, h, hn, hc⟩ := h
  refine ⟨A, n, c, h.of_block hR, hn, fun i hi => ?_⟩
  obtain ⟨b, f, u, h1, h2, h3, h4⟩ := hc i hi
  exact ⟨b, f, u, h1, h2, m.cell h3 (by show b ≠ R; omega), h4⟩
theorem mutS_start {Z : Nat} {w w1 V : World} {R p O gg cap : Nat} {x : RE} {news : List Value} (hZ : Z < w.heap.size) (hR : R < w.heap.size) (hr : Rd w R p) (m1 : Mv R w w1) (hRb : w1.heap[R]? = w.heap[R]?) (hnm : x.name.size ≤ 300) (hnl : news.length = x.kids.length * 3)
    (hre : ∀ (i : Nat) (hi : i < x.kids.length), ∃ cs, (∀ (j : Nat), j < 3 → cs j = news.getD (i * 3 + j) undef) ∧ RepE (keepW (Kz Z R) w) cs x.kids[i])
    (hown : w1.ownsRow w.heap.size 29 3 (.slice (some ⟨gg, 0, none⟩) x.kids.length cap) x.kids.length news) (hV : Mv R w V) (hVb : ∀ i, i ≠ O → i < w1.heap.size → V.heap[i]? = w1.heap[i]?) (hO : w.heap.size + 1 < O) (hgb : w.heap.size ≤ gg) (hgg : gg ≠ O) (hgg' : gg ≠ w.heap.size + 1) (hg1 : gg < w1.heap.size)
    (hout : Own V O 29 #[.int .i64 x.op, .string x.name, .slice (some ⟨gg, 0, none⟩) x.kids.length cap]) (hres : Own w1 (w.heap.size + 1) 29 #[.int .i64 0, .string ⟨#[]⟩, .slice none 0 0]) : MutS Z w V R p O x (.slice (some ⟨gg, 0, none⟩) x.kids.length cap) := by
  have hle : Le (keepW (Kz Z R) w) (keepW (Kp Z R (w.heap.size + 1) O (.slice (some ⟨gg, 0, none⟩) x.kids.length cap)) V) := fun a v hc => by
    obtain ⟨⟨h1, h1'⟩, h2⟩ := of_cell_keepW hc
    have hlt := World.block_lt_of_cell? _ _ h2
    refine cell_keepW_of ⟨by omega, by omega, by omega, fun e => ?_⟩ (hV.cell h2 (by omega))
    simp only [Value.ownBlock, Option.some.injEq] at e
    omega
  refine ⟨hout, ?_, ⟨by simpa [Value.ownBlock] using hgg, by simpa [Value.ownBlock] using hgg'⟩, hres.of_block (hVb _ (by omega) hres.lt), hV, ?_, hO, hR, hnm, hZ⟩
  · have h1 : RowOf 3 (RepE (keepW (Kp Z R (w.heap.size + 1) O (.slice (some ⟨gg, 0, none⟩) x.kids.length cap)) V)) w1 w.heap.size 29 (.slice (some ⟨gg, 0, none⟩) x.kids.length cap) x.kids := by
      refine ⟨news, hown, fun i hi => ?_⟩
      obtain ⟨cs, h1, h2⟩ := hre i hi
      exact RepE.le hle _ _ (h2.congr' fun j hj => (h1 j hj).symm)
    exact h1.of_block fun g _ hg hlt => hVb g (fun e => by simp [Value.ownBlock] at hg; omega) hlt
  · exact rd_mv hr hV ((hVb R (by omega) (by have := m1.size; omega)).trans hRb)

/-- A call that moves only the source. -/
theorem MutS.mv' {Z : Nat} {w V V' : World} {R p p' O : Nat} {x : RE} {v : Value} (h : MutS Z w V R p O x v) (m : Mv R V V') (rd : Rd V' R p') : MutS Z w V' R p' O x v := by
  have hR := h.hR
  have hO := h.hO
  refine ⟨h.out.mv m (by omega), ?_, h.ne, h.res.mv m (by omega), h.mv.trans m, rd, hO, hR, h.nm, h.hZ⟩
  refine (h.row.imp fun cs y hy => RepE.le (Le.keepW fun a u hq hc => ⟨hq, m.cell hc (by have := hq.1; omega)⟩) _ _ hy).of_block fun g hg _ hlt => m.block hlt (by omega)
/-- New memory. -/
theorem MutS.alloc {Z : Nat} {w V : World} {R p O : Nat} {x : RE} {v : Value} (h : MutS Z w V R p O x v) (o : Obj) : MutS Z w (V.alloc o) R p O x v :=
  h.mv' ((Mv.refl _ _).alloc o) (h.rd.alloc o)

theorem MutS.setO {Z : Nat} {w V : World} {R p O : Nat} {x x' : RE} {v : Value} (h : MutS Z w V R p O x v) (j : Nat) (u : Value) (hk : x'.kids = x.kids) (hn : x'.name.size ≤ 300)
    (hc : (#[.int .i64 x.op, .string x.name, v] : Array Value).setIfInBounds j u = #[.int .i64 x'.op, .string x'.name, v]) : MutS Z w (V.setCell ⟨O, j, none⟩ u) R p O x' v := by
  have hR := h.hR
  have hO := h.hO
  refine ⟨by rw [← hc]; exact h.out.set j u, ?_, h.ne, h.res.far (by show w.heap.size + 1 ≠ O; omega) _, h.mv.setNew (by show w.heap.size ≤ O; omega) _, h.rd.setNew (by show R < O; omega) _, hO, hR, hn, h.hZ⟩
  rw [hk]
  refine (h.row.imp fun cs y hy => RepE.le (Le.keepW fun a z hq hc => ⟨hq, ?_⟩) _ _ hy).of_block fun g hg hv hlt => Below.heap_setCell _ _ _ _ (fun e => h.ne.1 (by rw [hv, e]))
  rw [World.cell?_setCell_other _ _ _ _ (fun e => hq.2.1 (by rw [← e]))]
  exact hc

/-- The slice of the operands, as what was handed back stands for it. -/
theorem MutS.rep {Z : Nat} {w V : World} {R p O : Nat} {x : RE} {v : Value} (h : MutS Z w V R p O x v) : ∃ A c, v = .slice A x.kids.length c ∧ RepK (above (R + 1) V) A c x := by
  have hR := h.hR
  have hs := h.row.slR (k := 3) (R := RepE) (by omega) (a := above (R + 1) V) (fun cs y hy => RepE.le (fun a u hc => by
    obtain ⟨h1, h2⟩ := of_cell_keepW hc
    exact cell_above_of (by have := h1.1; omega) h2) _ _ hy) (Le.above_mono (by omega) _)
  obtain ⟨A, c, rfl, _⟩ := hs.slice
  exact ⟨A, c, rfl, by have := h.nm; omega, hs⟩

def RetMutZ (Z : Nat) (w : World) (R p : Nat) (x : RE) (e : Ending) (w' : World) : Prop :=
  ∃ (x' : RE) (A : Option Addr) (c p' : Nat), e = .returned (.agg #[.int .i64 x'.op, .string x'.name, .slice A x'.kids.length c]) ∧ RepK (keepW (Kz Z R) w') A c x' ∧ x'.name.size ≤ 300 ∧ x'.kids.length ≤ x.kids.length + 1 ∧ cntE x' ≤ cntE x + 12 ∧ Mv R w w' ∧ Rd w' R p' ∧ p' ≤ p + 100
/-- The result is written. -/
theorem MutS.fin {Z : Nat} {w V : World} {R p p' O : Nat} {x x' : RE} {A : Option Addr} {c : Nat} {v0 v1 v2 : Value} (h : MutS Z w V R p' O x' (.slice A x'.kids.length c)) (hk : x'.kids.length ≤ x.kids.length + 1) (hc : cntE x' ≤ cntE x + 12) (hp : p' ≤ p + 100) :
    RetMutZ Z w R p x (.returned (.agg #[.int .i64 x'.op, .string x'.name, .slice A x'.kids.length c])) (((V.setCell ⟨w.heap.size + 1, 0, none⟩ v0).setCell ⟨w.heap.size + 1, 1, none⟩ v1).setCell ⟨w.heap.size + 1, 2, none⟩ v2) := by
  have hR := h.hR
  have hm := ((h.mv.setNew (p := ⟨w.heap.size + 1, 0, none⟩) (by show w.heap.size ≤ w.heap.size + 1; omega) v0).setNew (p := ⟨w.heap.size + 1, 1, none⟩) (by show w.heap.size ≤ w.heap.size + 1; omega) v1).setNew (p := ⟨w.heap.size + 1, 2, none⟩) (by show w.heap.size ≤ w.heap.size + 1; omega) v2
  refine ⟨x', A, c, p', rfl, ?_, h.nm, hk, hc, hm, ((h.rd.setNew (by show R < w.heap.size + 1; omega) _).setNew (by show R < w.heap.size + 1; omega) _).setNew (by show R < w.heap.size + 1; omega) _, hp⟩
  have hrow := h.row.of_block (w' := ((V.setCell ⟨w.heap.size + 1, 0, none⟩ v0).setCell ⟨w.heap.size + 1, 1, none⟩ v1).setCell ⟨w.heap.size + 1, 2, none⟩ v2) fun g _ hv _ => by
    have hne : g ≠ w.heap.size + 1 := fun e => h.ne.2 (by rw [hv, e])
    exact (Below.heap_setCell _ _ _ _ hne).trans ((Below.heap_setCell _ _ _ _ hne).trans (Below.heap_setCell _ _ _ _ hne))
  have hs := hrow.slR (k := 3) (R := RepE) (by omega) (a := keepW (Kz Z R) (((V.setCell ⟨w.heap.size + 1, 0, none⟩ v0).setCell ⟨w.heap.size + 1, 1, none⟩ v1).setCell ⟨w.heap.size + 1, 2, none⟩ v2)) (fun cs y hy => RepE.le (fun a u hc => by
    obtain ⟨h1, h2⟩ := of_cell_keepW hc
    refine cell_keepW_of h1.1 ?_
    have hne : a.block ≠ w.heap.size + 1 := h1.2.2.1
    rw [World.cell?_setCell_far _ _ _ _ (fun e => hne e.symm), World.cell?_setCell_far _ _ _ _ (fun e => hne e.symm), World.cell?_setCell_far _ _ _ _ (fun e => hne e.symm)]
    exact h2) _ _ hy) (fun a u hc => by
    obtain ⟨h1, h2⟩ := cell_above_lt hc
    exact cell_keepW_of ⟨by omega, by have := h.hZ; omega⟩ h2)
  exact ⟨by have := h.nm; omega, hs⟩

/-- 'out' becomes an expression of the operation 6 of which it was the operand. -/
theorem MutS.wrap {Z : Nat} {w V : World} {R p O : Nat} {x : RE} {A : Option Addr} {c : Nat} (h : MutS Z w V R p O x (.slice A x.kids.length c)) :
    MutS Z w ((((V.setCell ⟨O, 0, none⟩ (.int .i64 6)).setCell ⟨O, 1, none⟩ (.string ⟨#[]⟩)).setCell ⟨O, 2, none⟩ (.slice (some ⟨V.heap.size, 0, none⟩) 1 1)).alloc (.cells #[.int .i64 x.op, .string x.name, .slice A x.kids.length c] 29)) R p O (.mk 6 ⟨#[]⟩ [x]) (.slice (some ⟨V.heap.size, 0, none⟩) 1 1) := by
  have hR := h.hR
  have hO := h.hO
  have hol := h.out.lt
  have hrl := h.res.lt
  have hms := h.mv.size
  have hsz : (((V.setCell ⟨O, 0, none⟩ (.int .i64 6)).setCell ⟨O, 1, none⟩ (.string ⟨#[]⟩)).setCell ⟨O, 2, none⟩ (.slice (some ⟨V.heap.size, 0, none⟩) 1 1)).heap.size = V.heap.size := by simp [World.setCell]
  have hnew := Own.new (((V.setCell ⟨O, 0, none⟩ (.int .i64 6)).setCell ⟨O, 1, none⟩ (.string ⟨#[]⟩)).setCell ⟨O, 2, none⟩ (.slice (some ⟨V.heap.size, 0, none⟩) 1 1)) 29 #[.int .i64 x.op, .string x.name, .slice A x.kids.length c]
  rw [hsz] at hnew
  refine ⟨(((h.out.set 0 _).set 1 _).set 2 _).alloc _, ?_, ⟨by simp [Value.ownBlock]; omega, by simp [Value.ownBlock]; omega⟩, (((h.res.far (by show w.heap.size + 1 ≠ O; omega) _).far (by show w.heap.size + 1 ≠ O; omega) _).far (by show w.heap.size + 1 ≠ O; omega) _).alloc _,
    (((h.mv.setNew (by show w.heap.size ≤ O; omega) _).setNew (by show w.heap.size ≤ O; omega) _).setNew (by show w.heap.size ≤ O; omega) _).alloc _, (((h.rd.setNew (by show R < O; omega) _).setNew (by show R < O; omega) _).setNew (by show R < O; omega) _).alloc _, hO, hR, (by show ByteArray.size ⟨#[]⟩ ≤ 300; decide), h.hZ⟩
  have far : ∀ (g o : Nat) (u : Value), g ≠ O → V.cell? ⟨g, o, none⟩ = some u → ((((V.setCell ⟨O, 0, none⟩ (.int .i64 6)).setCell ⟨O, 1, none⟩ (.string ⟨#[]⟩)).setCell ⟨O, 2, none⟩ (.slice (some ⟨V.heap.size, 0, none⟩) 1 1)).alloc (.cells #[.int .i64 x.op, .string x.name, .slice A x.kids.length c] 29)).cell? ⟨g, o, none⟩ = some u := fun g o u hg hc => by
    refine Le.alloc _ _ _ _ ?_
    rw [World.cell?_setCell_far _ _ _ _ (by show O ≠ g; omega), World.cell?_setCell_far _ _ _ _ (by show O ≠ g; omega), World.cell?_setCell_far _ _ _ _ (by show O ≠ g; omega)]
    exact hc
  have hs := h.row.slR' (k := 3) (R := RepE) (by omega) (a := keepW (Kp Z R (w.heap.size + 1) O (.slice (some ⟨V.heap.size, 0, none⟩) 1 1)) ((((V.setCell ⟨O, 0, none⟩ (.int .i64 6)).setCell ⟨O, 1, none⟩ (.string ⟨#[]⟩)).setCell ⟨O, 2, none⟩ (.slice (some ⟨V.heap.size, 0, none⟩) 1 1)).alloc (.cells #[.int .i64 x.op, .string x.name, .slice A x.kids.length c] 29)))
    (fun cs y hy => RepE.le (Le.keepW fun a u hq hc => ⟨⟨hq.1, hq.2.1, hq.2.2.1, fun e => by
        have := World.block_lt_of_cell? _ _ hc
        simp only [Value.ownBlock, Option.some.injEq] at e
        omega⟩, by
        obtain ⟨ab, ao, ap⟩ := a
        refine Le.alloc _ _ _ _ ?_
        rw [World.cell?_setCell_far _ _ _ _ (fun e => hq.2.1 e.symm), World.cell?_setCell_far _ _ _ _ (fun e => hq.2.1 e.symm), World.cell?_setCell_far _ _ _ _ (fun e => hq.2.1 e.symm)]
        exact hc⟩) _ _ hy)
    (fun g o u hg hv hc => by
      have hgO : g ≠ O := fun e => h.ne.1 (by rw [hv, e])
      have hgB : g ≠ w.heap.size + 1 := fun e => h.ne.2 (by rw [hv, e])
      have := World.block_lt_of_cell? _ _ hc
      exact cell_keepW_of ⟨by show R < g ∧ g ≠ Z; have := h.hZ; omega, hgO, hgB, fun e => by simp only [Value.ownBlock, Option.some.injEq] at e; simp at this; omega⟩ (far g o u hgO hc))
  refine ⟨[.int .i64 x.op, .string x.name, .slice A x.kids.length c], ⟨rfl, .inr ⟨V.heap.size, 1, _, rfl, by omega, hnew, by simp [RE.kids], by simp [maxLen], by simp, by simp [RE.kids]⟩⟩, fun i hi => ?_⟩
  obtain rfl : i = 0 := by simp [RE.kids] at hi; omega
  exact repE_K.2 ⟨A, c, rfl, rfl, rfl, by have := h.nm; show x.name.size ≤ _; omega, hs⟩

theorem owns_base {w : World} {base : Nat} {e : TypeId} {k n : Nat} {v : Value} {cs : List Value} (h : w.ownsRow base e k v n cs) {g : Nat} (hv : v.ownBlock = some g) : base ≤ g ∧ g < w.heap.size := by
  rcases h.2 with ⟨rfl, _⟩ | ⟨g', cap, cur, rfl, hb, hg, _⟩
  · cases hv
  · simp only [Value.ownBlock, Option.some.injEq] at hv
    subst hv
    exact ⟨hb, (Array.getElem?_eq_some_iff.1 hg).elim fun h _ => h⟩
theorem owns_of_block {w w' : World} {base : Nat} {e : TypeId} {k n : Nat} {v : Value} {cs : List Value} (h : w.ownsRow base e k v n cs) (hb : ∀ g, v.ownBlock = some g → base ≤ g → g < w.heap.size → w'.heap[g]? = w.heap[g]?) : w'.ownsRow base e k v n cs := by
  refine ⟨h.1, ?_⟩
  rcases h.2 with h3 | ⟨g, cap, cur, rfl, hbg, hg, rest⟩
  · exact .inl h3
  · refine .inr ⟨g, cap, cur, rfl, hbg, ?_, rest⟩
    rw [hb g rfl hbg ((Array.getElem?_eq_some_iff.1 hg).elim fun h _ => h)]
    exact hg

/-- 'out' gets an operand more. -/
theorem MutS.push {Z : Nat} {w V V1 V3 : World} {R p p1 O gg cap : Nat} {x y : RE} {v : Value} {cs : List Value} {Ay : Option Addr} {cy : Nat} {Fy : List Nat} (h : MutS Z w V R p O x v) (hcs : V.ownsRow w.heap.size 29 3 v x.kids.length cs)
    (hq : ∀ i (hi : i < x.kids.length), RepE (keepW (Kp Z R (w.heap.size + 1) O v) V) (fun j => cs.getD (i * 3 + j) undef) x.kids[i]) (m1 : Mv R V V1) (rd1 : Rd V1 R p1) (hy : OwE V1 (.slice Ay y.kids.length cy) y.kids Fy) (hF : ∀ b ∈ Fy, V.heap.size ≤ b) (hny : y.name.size ≤ 300)
    (hg : (V1.alloc (.cells #[.int .i64 y.op, .string y.name, .slice Ay y.kids.length cy] 29)).grownBy V3 v.ownBlock)
    (hown : V3.ownsRow w.heap.size 29 3 (.slice (some ⟨gg, 0, none⟩) (x.kids.length + 1) cap) (x.kids.length + 1) (cs ++ [.int .i64 y.op, .string y.name, .slice Ay y.kids.length cy])) (hat : v.ownBlock = some gg ∨ gg = V1.heap.size + 1) :
    MutS Z w (V3.setCell ⟨O, 2, none⟩ (.slice (some ⟨gg, 0, none⟩) (x.kids.length + 1) cap)) R p1 O (.mk x.op x.name (x.kids ++ [y])) (.slice (some ⟨gg, 0, none⟩) (x.kids.length + 1) cap) := by
  have hR := h.hR
  have hO := h.hO
  have hsv := h.mv.size
  have hs1 := m1.size
  have hs3 : V1.heap.size + 1 ≤ V3.heap.size := by have := World.grownBy.size hg; simp at this; exact this
  have hol := h.out.lt
  have hrl := h.res.lt
  have hgO : gg ≠ O := by
    rcases hat with e | e
    · exact fun e' => h.ne.1 (by rw [e, e'])
    · omega
  have hgB : gg ≠ w.heap.size + 1 := by
    rcases hat with e | e
    · exact fun e' => h.ne.2 (by rw [e, e'])
    · omega
  have hgb : w.heap.size ≤ gg ∧ gg < V3.heap.size := owns_base hown rfl
  -- a block that is no row stays
  have st : ∀ i, i < V1.heap.size → v.ownBlock ≠ some i → V3.heap[i]? = V1.heap[i]? := fun i hi hn => (World.grownBy.block hg i (by simp; omega) (fun e => hn e.symm)).trans (Go.Deep.blk_alloc_lt _ _ _ hi)
  have mR : ∀ i, i < V.heap.size → i ≠ R → V1.heap[i]? = V.heap[i]? := fun i hi hn => m1.block hi hn
  have hown_lt : ∀ i, v.ownBlock = some i → w.heap.size ≤ i ∧ i < V.heap.size := fun i e => owns_base hcs e
  have mv3 : Mv R w V3 := by
    refine ⟨(World.grownBy.os hg).trans (m1.os.trans h.mv.os), (World.grownBy.tape hg).trans (m1.tape.trans h.mv.tape), (World.grownBy.output hg).trans (m1.output.trans h.mv.output), by omega, fun i hi hne => ?_⟩
    have hiR : i ≠ R := fun e => hne (by rw [e])
    rw [st i (by omega) (fun e => by have := hown_lt i e; omega), mR i (by omega) hiR]
    exact World.grownBy.block h.mv i hi hne
  have hout3 : Own V3 O 29 #[.int .i64 x.op, .string x.name, v] := h.out.of_block ((st O (by omega) h.ne.1).trans (mR O hol (by omega)))
  have hres3 : Own V3 (w.heap.size + 1) 29 #[.int .i64 0, .string ⟨#[]⟩, .slice none 0 0] := h.res.of_block ((st _ (by omega) h.ne.2).trans (mR _ hrl (by omega)))
  have rd3 : Rd V3 R p1 := by
    obtain ⟨A, n, c, h1, hn, hc⟩ := rd1
    refine ⟨A, n, c, h1.of_block (st R (by omega) (fun e => by have := hown_lt R e; omega)), hn, fun i hi => ?_⟩
    obtain ⟨b, f, u, g1, g2, g3, g4⟩ := hc i hi
    refine ⟨b, f, u, g1, g2, ?_, g4⟩
    have hlt := World.block_lt_of_cell? _ _ g3
    rw [World.cell?_of_block (w := V1) (st b hlt (fun e => by have := hown_lt b e; omega))]
    exact g3
  refine ⟨hout3.set 2 _, ?_, ⟨by simpa [Value.ownBlock] using hgO, by simpa [Value.ownBlock] using hgB⟩, hres3.far (by show w.heap.size + 1 ≠ O; omega) _, mv3.setNew (by show w.heap.size ≤ O; omega) _, rd3.setNew (by show R < O; omega) _, hO, hR, h.nm, h.hZ⟩
  -- a cell that may not turn does not
  have cellst : ∀ (a : Addr) (u : Value), a.block ≠ O → a.block < V1.heap.size → v.ownBlock ≠ some a.block → V1.cell? a = some u → (V3.setCell ⟨O, 2, none⟩ (.slice (some ⟨gg, 0, none⟩) (x.kids.length + 1) cap)).cell? a = some u := fun a u hO' hlt hn hc => by
    rw [World.cell?_setCell_far _ _ _ _ (fun e => hO' e.symm), World.cell?_of_block (w := V1) (st a.block hlt hn)]
    exact hc
  have hle : Le (keepW (Kp Z R (w.heap.size + 1) O v) V) (keepW (Kp Z R (w.heap.size + 1) O (.slice (some ⟨gg, 0, none⟩) (x.kids.length + 1) cap)) (V3.setCell ⟨O, 2, none⟩ (.slice (some ⟨gg, 0, none⟩) (x.kids.length + 1) cap))) := Le.keepW fun a u hqa hc => by
    have hlt := World.block_lt_of_cell? _ _ hc
    refine ⟨⟨hqa.1, hqa.2.1, hqa.2.2.1, fun e => ?_⟩, cellst a u hqa.2.1 (by omega) hqa.2.2.2 (m1.cell hc (by have := hqa.1; omega))⟩
    simp only [Value.ownBlock, Option.some.injEq] at e
    rcases hat with e' | e'
    · exact hqa.2.2.2 (by rw [e', e])
    · omega
  have hrow : RowOf 3 (RepE (keepW (Kp Z R (w.heap.size + 1) O (.slice (some ⟨gg, 0, none⟩) (x.kids.length + 1) cap)) (V3.setCell ⟨O, 2, none⟩ (.slice (some ⟨gg, 0, none⟩) (x.kids.length + 1) cap)))) V3 w.heap.size 29 (.slice (some ⟨gg, 0, none⟩) (x.kids.length + 1) cap) (x.kids ++ [y]) := by
    refine RowOf.snoc (fun f g z hfg hz => hz.congr hfg) hcs (fun i hi => RepE.le hle _ _ (hq i hi)) rfl ?_ hown
    refine repE_K.2 ⟨Ay, cy, rfl, rfl, rfl, by omega, ?_⟩
    refine RepEs.le (hy.rep (B := V.heap.size) hF) fun a u hc => ?_
    obtain ⟨h1, h2⟩ := cell_above_lt hc
    have hlt := World.block_lt_of_cell? _ _ h2
    have hn : v.ownBlock ≠ some a.block := fun e => by have := hown_lt _ e; omega
    refine cell_keepW_of ⟨by have := h.hZ; omega, by omega, by omega, fun e => ?_⟩ (cellst a u (by omega) hlt hn h2)
    simp only [Value.ownBlock, Option.some.injEq] at e
    rcases hat with e' | e'
    · exact hn (by rw [e', e])
    · omega
  exact hrow.of_block fun g _ hgv _ => Below.heap_setCell _ _ _ _ (fun e => by simp only [Value.ownBlock, Option.some.injEq] at hgv; exact hgO (by rw [hgv]; exact e))

/-- .. where there is no operand. -/
theorem MutS.empty {Z : Nat} {w V : World} {R p O g : Nat} {x : RE} (hZ : Z < w.heap.size) (hk : x.kids.length = 0) (hout : Own V O 29 #[.int .i64 x.op, .string x.name, .slice (some ⟨g, 0, none⟩) 0 0]) (hg : Own V g 29 #[]) (hgb : w.heap.size ≤ g) (hgO : g ≠ O) (hgB : g ≠ w.heap.size + 1)
    (hres : Own V (w.heap.size + 1) 29 #[.int .i64 0, .string ⟨#[]⟩, .slice none 0 0]) (mv : Mv R w V) (rd : Rd V R p) (hO : w.heap.size + 1 < O) (hR : R < w.heap.size) (hn : x.name.size ≤ 300) : MutS Z w V R p O x (.slice (some ⟨g, 0, none⟩) 0 0) := by
  have hnil : x.kids = [] := List.eq_nil_of_length_eq_zero hk
  refine ⟨hout, ?_, ⟨by simpa [Value.ownBlock] using hgO, by simpa [Value.ownBlock] using hgB⟩, hres, mv, rd, hO, hR, hn, hZ⟩
  rw [hnil]
  exact RowOf.made _ hg hgb

theorem cntL_append (xs ys : List RE) : cntL (xs ++ ys) = cntL xs + cntL ys := by
  induction xs with
  | nil => simp [cntL]
  | cons e es ih => rw [List.cons_append, cntL, cntL, ih]; omega
/-- The frame behind the first statement. -/
def MutQ (Z : Nat) (w : World) (R p : Nat) (x : RE) (arg : Value) (e : Exit) (a : Act) (V : World) : Prop :=
  e = .normal ∧ ∃ (O : Nat) (v u7 u8 u9 u10 u11 u12 u13 u14 u15 : Value), MutS Z w V R p O x v ∧
    a = ⟨#[.pointer (some ⟨R, 0, none⟩), arg, undef, .pointer (some ⟨w.heap.size, 0, none⟩), .pointer (some ⟨w.heap.size + 1, 0, none⟩), .pointer (some ⟨O, 0, none⟩), undef, u7, u8, u9, u10, u11, u12, u13, u14, u15, undef, undef, undef, undef, undef, undef, undef, undef, undef, undef, undef, undef, undef, undef, undef, undef, undef, undef, undef, undef, undef, undef, undef, undef, undef, undef, undef, undef, undef, undef, undef, undef, undef], []⟩

end Go.Proofs.YtapelogbceoojaaDoor
