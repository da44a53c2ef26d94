/-
  What the reference's search through states keeps in memory. No function in sight. The reference's search with one memory, in plain words: its states are those of the machine. No function in sight. The reference's search with one memory: spec.l3Seq walked.
-/
import Derived.Test.YtahegjofooahkaaGreatMch
import Derived.Test.YtahegjofooahkaaGreatS3X
import Derived.Test.YtahegjofooahkaaGreatPut
import Derived.Test.YtahegjofooahkaaGreatTab

/-! What the reference's search through states keeps in memory. No function in sight. -/
namespace Go.Proofs.YtahegjofooahkaaGreat
open Go.RowKit
set_option linter.unusedVariables false
set_option maxRecDepth 100000

def kyB (s : S3) : ByteArray := strOfNums (keyL s)
def QS4 (W : World) (cs : Nat → Value) (s : S3) : Prop := ∃ A1 A2 A3 A4 c1 c2 c3 c4, cs 0 = .slice A1 s.at_.length c1 ∧ cs 1 = .slice A2 s.regs.length c2 ∧ cs 2 = .slice A3 s.mem.length c3 ∧ cs 3 = .slice A4 s.buf.length c4 ∧ Rep4 W A1 A2 A3 A4 c1 c2 c3 c4 s
theorem qs4_congr (W : World) : ∀ (f g : Nat → Value) (x : S3), (∀ j, j < 4 → f j = g j) → QS4 W f x → QS4 W g x := fun f g x h ⟨A1, A2, A3, A4, c1, c2, c3, c4, e0, e1, e2, e3, hr⟩ =>
  ⟨A1, A2, A3, A4, c1, c2, c3, c4, (h 0 (by omega)).symm.trans e0, (h 1 (by omega)).symm.trans e1, (h 2 (by omega)).symm.trans e2, (h 3 (by omega)).symm.trans e3, hr⟩
theorem QS4.le {W W' : World} (hl : Le W W') {cs : Nat → Value} {x : S3} : QS4 W cs x → QS4 W' cs x := fun ⟨A1, A2, A3, A4, c1, c2, c3, c4, e0, e1, e2, e3, hr⟩ => ⟨A1, A2, A3, A4, c1, c2, c3, c4, e0, e1, e2, e3, hr.le hl⟩
/-- A table that holds the texts ks. -/
def TabK (w : World) (g : Nat) (bs : Nat → Option Nat) (ks : List ByteArray) : Prop := ∃ xss, TabM w g xss bs ∧ (∀ k, k ∈ xss (hashS k) ↔ k ∈ ks) ∧ ∀ i, (xss i).length ≤ ks.length
theorem TabK.mark {w' : World} {g : Nat} {bs' : Nat → Option Nat} {ks : List ByteArray} {s : ByteArray} {xss : Nat → List ByteArray} (h1 : ∀ k, k ∈ xss (hashS k) ↔ k ∈ ks) (h2 : ∀ i, (xss i).length ≤ ks.length) (h : TabM w' g (fun i => if i = hashS s then xss (hashS s) ++ [s] else xss i) bs') : TabK w' g bs' (ks ++ [s]) := by
  refine ⟨_, h, fun k => ?_, fun i => ?_⟩
  · by_cases e : hashS k = hashS s
    · simp only [if_pos e]
      rw [← e, List.mem_append, h1, List.mem_append]
    · simp only [if_neg e]
      rw [h1, List.mem_append]
      refine ⟨.inl, fun h => h.resolve_right fun hm => e ?_⟩
      rw [List.mem_singleton.1 hm]
  · have := h2 i
    have h3 := h2 (hashS s)
    split
    · simp only [List.length_append, List.length_singleton]; omega
    · simp only [List.length_append, List.length_singleton]; omega
/-- The blocks that the search writes into. -/
def OwQ (g R : Nat) (bs : Nat → Option Nat) (o : Option Nat) (b : Nat) : Prop := OwT g bs b ∨ o = some b ∨ b = R
/-- .. and what was there ahead of block B. -/
def HQ (B g R : Nat) (bs : Nat → Option Nat) (o : Option Nat) (b : Nat) : Prop := OwQ g R bs o b ∨ b < B
/-- n: how many states it has gone through; ks: the texts; K: what waits; L: the outcomes. -/
structure SrS (B g R : Nat) (w : World) (bs : Nat → Option Nat) (v4 : Value) (n : Int) (ks : List ByteArray) (K : List S3) (L : List (List Int)) (go oo co : Nat) : Prop where
  tab : TabK w g bs ks
  stk : RowOf 4 (QS4 (hidP (HQ B g R bs v4.ownBlock) w)) w B 70 v4 K
  outs : Intss (hidP (HQ B g R bs v4.ownBlock) w) (some ⟨go, oo, none⟩) co L
  cap : L.length ≤ co ∧ co ≤ 9223372036854775807
  cell : Own w R 60 #[.int .i64 n, .slice (some ⟨go, oo, none⟩) L.length co]
  sep4 : ∀ b, v4.ownBlock = some b → ¬ OwT g bs b ∧ b ≠ R
  sepR : ¬ OwT g bs R
  low : ∀ b, OwQ g R bs v4.ownBlock b → B ≤ b
section
variable {B g R : Nat} {w w' : World} {bs bs' : Nat → Option Nat} {v4 v4' : Value} {n n' : Int} {ks : List ByteArray} {K : List S3} {L L' : List (List Int)} {go oo co go' oo' co' : Nat}
theorem TabK.lt (h : TabK w g bs ks) {b : Nat} (hb : OwT g bs b) : b < w.heap.size := by
  obtain ⟨_, h, _⟩ := h
  exact h.lt hb
theorem SrS.lt (h : SrS B g R w bs v4 n ks K L go oo co) {b : Nat} (hb : OwQ g R bs v4.ownBlock b) : b < w.heap.size := by
  rcases hb with hb | hb | hb
  · exact h.tab.lt hb
  · exact (h.stk.blk hb).2
  · rw [hb]; exact h.cell.lt
theorem SrS.ltH (h : SrS B g R w bs v4 n ks K L go oo co) (hB : B ≤ w.heap.size) {b : Nat} (hb : HQ B g R bs v4.ownBlock b) : b < w.heap.size := by
  rcases hb with hb | hb
  · exact h.lt hb
  · omega
theorem SrS.leB (h : SrS B g R w bs v4 n ks K L go oo co) (hb : Below w.heap.size w w') : Le (hidP (HQ B g R bs v4.ownBlock) w) (hidP (HQ B g R bs v4.ownBlock) w') := Le.hidP_below hb (fun _ _ => .inr trivial)
theorem TabK.move (h : TabK w g bs ks) (hb : ∀ b, OwT g bs b → w'.heap[b]? = w.heap[b]?) : TabK w' g bs ks := by
  obtain ⟨xss, h, h1, h2⟩ := h
  exact ⟨xss, h.move hb, h1, h2⟩
theorem SrS.below (h : SrS B g R w bs v4 n ks K L go oo co) (hb : Below w.heap.size w w') : SrS B g R w' bs v4 n ks K L go oo co :=
  ⟨h.tab.move fun b hm => hb.block b (h.tab.lt hm), ((h.stk.imp fun cs x hq => QS4.le (h.leB hb) hq).below hb), h.outs.le (h.leB hb), h.cap, h.cell.under hb, h.sep4, h.sepR, h.low⟩
/-- The last state is taken off. -/
theorem SrS.pop {s : S3} (h : SrS B g R w bs v4 n ks (K ++ [s]) L go oo co) : ∃ g4 c cs, v4 = .slice (some ⟨g4, 0, none⟩) (K.length + 1) c ∧ g4 < w.heap.size ∧ K.length < c ∧ c ≤ 9223372036854775807 ∧ (∀ j, j < 4 → w.cell? ⟨g4, K.length * 4 + j, none⟩ = some (cs j)) ∧ QS4 (hidP (HQ B g R bs (some g4)) w) cs s ∧ SrS B g R w bs (.slice (some ⟨g4, 0, none⟩) K.length c) n ks K L go oo co := by
  obtain ⟨g4, c, cs, hv, hg, hl, hc, hc9, hcell, hq, hrow⟩ := RowOf.pop (qs4_congr _) (by omega) h.stk
  subst hv
  exact ⟨g4, c, cs, rfl, hl, hc, hc9, hcell, hq, h.tab, hrow, h.outs, h.cap, h.cell, h.sep4, h.sepR, h.low⟩
theorem mv_setR (i : Nat) (u : Value) : MvP (fun b => b = R) w (w.setCell ⟨R, i, none⟩ u) := ⟨rfl, rfl, rfl, by simp, fun b _ hn => Go.Deep.blk_setCell_other _ _ _ _ (fun e => hn (by simpa using e))⟩
theorem SrS.leR (h : SrS B g R w bs v4 n ks K L go oo co) (i : Nat) (u : Value) : Le (hidP (HQ B g R bs v4.ownBlock) w) (hidP (HQ B g R bs v4.ownBlock) (w.setCell ⟨R, i, none⟩ u)) := Le.hidP_mv (mv_setR i u) (fun _ _ e => .inl (.inr (.inr e))) (fun _ h => .inl h)
theorem SrS.setR (h : SrS B g R w bs v4 n ks K L go oo co) {i : Nat} {u : Value} (ho : Own (w.setCell ⟨R, i, none⟩ u) R 60 #[.int .i64 n', .slice (some ⟨go', oo', none⟩) L'.length co']) (hc : L'.length ≤ co' ∧ co' ≤ 9223372036854775807) (hL : Intss (hidP (HQ B g R bs v4.ownBlock) w) (some ⟨go', oo', none⟩) co' L') : SrS B g R (w.setCell ⟨R, i, none⟩ u) bs v4 n' ks K L' go' oo' co' :=
  ⟨h.tab.move fun b hm => Go.Deep.blk_setCell_other _ _ _ _ (fun e => h.sepR (by rw [← show b = R from e]; exact hm)), (h.stk.imp fun cs x hq => QS4.le (h.leR i u) hq).of_block fun b _ hb _ => Go.Deep.blk_setCell_other _ _ _ _ (fun e => (h.sep4 b hb).2 e), hL.le (h.leR i u), hc, ho, h.sep4, h.sepR, h.low⟩
/-- A text more. -/
theorem SrS.leM (h : SrS B g R w bs v4 n ks K L go oo co) (hm : MvP (OwT g bs) w w') (hb : ∀ b, OwT g bs' b → OwT g bs b ∨ w.heap.size ≤ b) : Le (hidP (HQ B g R bs v4.ownBlock) w) (hidP (HQ B g R bs' v4.ownBlock) w') :=
  Le.hidP_mv hm (fun _ _ e => .inl (.inl e)) fun b hq => by
    rcases hq with (hq | hq | hq) | hq
    · exact (hb b hq).imp (fun h => .inl (.inl h)) id
    · exact .inl (.inl (.inr (.inl hq)))
    · exact .inl (.inl (.inr (.inr hq)))
    · exact .inl (.inr hq)
theorem SrS.mark {s : ByteArray} {xss : Nat → List ByteArray} (h : SrS B g R w bs v4 n ks K L go oo co) (h1 : ∀ k, k ∈ xss (hashS k) ↔ k ∈ ks) (h2 : ∀ i, (xss i).length ≤ ks.length) (ht : TabM w' g (fun i => if i = hashS s then xss (hashS s) ++ [s] else xss i) bs') (hm : MvP (OwT g bs) w w') (hb : ∀ b, OwT g bs' b → OwT g bs b ∨ w.heap.size ≤ b) (hBw : B ≤ w.heap.size) : SrS B g R w' bs' v4 n (ks ++ [s]) K L go oo co := by
  have h4 : ∀ b, v4.ownBlock = some b → w'.heap[b]? = w.heap[b]? := fun b hv => hm.block b (h.stk.blk hv).2 (h.sep4 b hv).1
  refine ⟨TabK.mark h1 h2 ht, (h.stk.imp fun cs x hq => QS4.le (h.leM hm hb) hq).of_block fun b _ hv _ => h4 b hv, h.outs.le (h.leM hm hb), h.cap, h.cell.of_block (hm.block R h.cell.lt h.sepR), fun b hv => ⟨fun ho => ?_, (h.sep4 b hv).2⟩, fun ho => ?_, fun b hq => ?_⟩
  · rcases hb b ho with ho | ho
    · exact (h.sep4 b hv).1 ho
    · have := (h.stk.blk hv).2; omega
  · rcases hb R ho with ho | ho
    · exact h.sepR ho
    · have := h.cell.lt; omega
  · rcases hq with hq | hq | hq
    · rcases hb b hq with ho | ho
      · exact h.low b (.inl ho)
      · omega
    · exact h.low b (.inr (.inl hq))
    · exact h.low b (.inr (.inr hq))
/-- A state more. -/
theorem SrS.leP (h : SrS B g R w bs v4 n ks K L go oo co) (hg : w.grownBy w' v4.ownBlock) (h4 : ∀ b, v4'.ownBlock = some b → v4.ownBlock = some b ∨ w.heap.size ≤ b) : Le (hidP (HQ B g R bs v4.ownBlock) w) (hidP (HQ B g R bs v4'.ownBlock) w') :=
  Le.hidP_mv (q := fun b => v4.ownBlock = some b) (.of_grown hg fun _ h => h) (fun _ _ e => .inl (.inr (.inl e))) fun b hq => by
    rcases hq with (hq | hq | hq) | hq
    · exact .inl (.inl (.inl hq))
    · exact (h4 b hq).imp (fun h => .inl (.inr (.inl h))) id
    · exact .inl (.inl (.inr (.inr hq)))
    · exact .inl (.inr hq)
theorem SrS.push {s : S3} (h : SrS B g R w bs v4 n ks K L go oo co) (hg : w.grownBy w' v4.ownBlock) (h4 : ∀ b, v4'.ownBlock = some b → v4.ownBlock = some b ∨ w.heap.size ≤ b) (hBw : B ≤ w.heap.size) (hr : RowOf 4 (QS4 (hidP (HQ B g R bs v4'.ownBlock) w')) w' B 70 v4' (K ++ [s])) : SrS B g R w' bs v4' n ks (K ++ [s]) L go oo co := by
  refine ⟨h.tab.move fun b hm => World.grownBy.block hg b (h.tab.lt hm) (fun e => (h.sep4 b e.symm).1 hm), hr, h.outs.le (h.leP hg h4), h.cap, h.cell.of_block (World.grownBy.block hg R h.cell.lt fun e => (h.sep4 R e.symm).2 rfl), fun b hv => ?_, h.sepR, fun b hq => ?_⟩
  · rcases h4 b hv with hv | hv
    · exact h.sep4 b hv
    · exact ⟨fun ho => by have := h.tab.lt ho; omega, fun e => by have := h.cell.lt; omega⟩
  · rcases hq with hq | hq | hq
    · exact h.low b (.inl hq)
    · rcases h4 b hq with hv | hv
      · exact h.low b (.inr (.inl hv))
      · omega
    · exact h.low b (.inr (.inr hq))
end
/-- Of the numbers below m those that meet f: where one stands. -/
theorem filter_range_get {f : Nat → Bool} {m t : Nat} (ht : t < m) (hf : f t = true) : ∃ h : ((List.range t).filter f).length < ((List.range m).filter f).length, ((List.range m).filter f)[((List.range t).filter f).length] = t := by
  have key : ∀ m, t < m → ∃ r, (List.range m).filter f = (List.range t).filter f ++ t :: r := fun m => by
    induction m with
    | zero => intro h; omega
    | succ m ih =>
      intro h
      rw [List.range_succ, List.filter_append]
      by_cases e : t = m
      · subst e
        exact ⟨[], by simp [hf]⟩
      · obtain ⟨r, hr⟩ := ih (by omega)
        exact ⟨r ++ [m].filter f, by rw [hr]; simp⟩
  obtain ⟨r, hr⟩ := key m ht
  rw [hr]
  exact ⟨by simp, by simp⟩
theorem filter_range_succ {f : Nat → Bool} (t : Nat) : ((List.range (t + 1)).filter f).length = ((List.range t).filter f).length + (if f t = true then 1 else 0) := by
  rw [List.range_succ, List.filter_append, List.length_append]
  cases h : f t <;> simp [h]

end Go.Proofs.YtahegjofooahkaaGreat

/-! The reference's search with one memory, in plain words: its states are those of the machine. No function in sight. -/
namespace Go.Proofs.YtahegjofooahkaaGreat
open Go.RowKit
set_option linter.unusedVariables false
set_option maxRecDepth 100000

def St.s3 (s : St) : S3 := ⟨s.pc.map (fun n => ((n : Nat) : Int)), s.regs, s.mem, []⟩
theorem putL_length : ∀ (L : List (List Int)) (o : List Int), (putL L o).length ≤ L.length + 1
  | [], o => by simp [putL]
  | a :: L, o => by
    have := putL_length L o
    rw [putL]
    split
    · simp only [List.length_cons]; omega
    · split
      · simp
      · simp
/-- The outcomes of what has been gone through. -/
def Wh {σ : Type} (done : σ → Bool) (out : σ → List Int) (V K : List σ) (L : List (List Int)) : Prop := Asc L ∧ (∀ y, y ∈ L ↔ ∃ s ∈ V, s ∉ K ∧ done s = true ∧ out s = y) ∧ L.length + K.length ≤ V.length
section
variable {σ : Type} {done : σ → Bool} {out : σ → List Int} {V K : List σ} {L : List (List Int)} {s : σ}
theorem Wh.start (s0 : σ) : Wh done out [s0] [s0] [] := ⟨by simp [Asc], fun y => ⟨fun h => by simp at h, fun ⟨s, h1, h2, _⟩ => absurd h1 h2⟩, by simp⟩
theorem Wh.pop (h : Wh done out V (K ++ [s]) L) (hd : done s = false) : Wh done out V K L := by
  obtain ⟨h1, h2, h3⟩ := h
  refine ⟨h1, fun y => (h2 y).trans ⟨?_, ?_⟩, by simp only [List.length_append, List.length_singleton] at h3; omega⟩
  · rintro ⟨t, k1, k2, k3, k4⟩
    exact ⟨t, k1, fun hm => k2 (List.mem_append_left _ hm), k3, k4⟩
  · rintro ⟨t, k1, k2, k3, k4⟩
    refine ⟨t, k1, fun hm => ?_, k3, k4⟩
    rcases List.mem_append.1 hm with hm | hm
    · exact k2 hm
    · rw [List.mem_singleton.1 hm, hd] at k3
      cases k3
theorem Wh.popOut (h : Wh done out V (K ++ [s]) L) (hd : done s = true) (hs : s ∈ V) (hk : s ∉ K) : Wh done out V K (putL L (out s)) := by
  obtain ⟨h1, h2, h3⟩ := h
  refine ⟨putL_asc _ _ h1, fun y => ?_, by have := putL_length L (out s); simp only [List.length_append, List.length_singleton] at h3; omega⟩
  rw [putL_mem, h2]
  constructor
  · rintro (rfl | ⟨t, k1, k2, k3, k4⟩)
    · exact ⟨s, hs, hk, hd, rfl⟩
    · exact ⟨t, k1, fun hm => k2 (List.mem_append_left _ hm), k3, k4⟩
  · rintro ⟨t, k1, k2, k3, k4⟩
    by_cases e : out t = out s
    · left; rw [← k4, e]
    · refine .inr ⟨t, k1, fun hm => ?_, k3, k4⟩
      rcases List.mem_append.1 hm with hm | hm
      · exact k2 hm
      · exact e (by rw [List.mem_singleton.1 hm])
theorem Wh.new (h : Wh done out V K L) (hs : s ∉ V) : Wh done out (V ++ [s]) (K ++ [s]) L := by
  obtain ⟨h1, h2, h3⟩ := h
  refine ⟨h1, fun y => (h2 y).trans ⟨?_, ?_⟩, by simp only [List.length_append, List.length_singleton]; omega⟩
  · rintro ⟨t, k1, k2, k3, k4⟩
    refine ⟨t, List.mem_append_left _ k1, fun hm => ?_, k3, k4⟩
    rcases List.mem_append.1 hm with hm | hm
    · exact k2 hm
    · exact hs (by rw [← List.mem_singleton.1 hm]; exact k1)
  · rintro ⟨t, k1, k2, k3, k4⟩
    rcases List.mem_append.1 k1 with k1 | k1
    · exact ⟨t, k1, fun hm => k2 (List.mem_append_left _ hm), k3, k4⟩
    · exact absurd (List.mem_append_right _ k1) k2
theorem Wh.len (h : Wh done out V K L) {m : Nat} (ho : ∀ s ∈ V, (out s).length = m) : ∀ x ∈ L, x.length = m := fun x hx => by
  obtain ⟨s, h1, _, _, h4⟩ := (h.2.1 x).1 hx
  rw [← h4]
  exact ho s h1
end
/-- The state that is looked at: its block, itself. -/
structure QCur (a : World) (S : Nat) (A1 A2 A3 A4 : Option Addr) (c1 c2 c3 c4 : Nat) (s : S3) : Prop where
  q0 : a.cell? ⟨S, 0, none⟩ = some (.slice A1 s.at_.length c1)
  q1 : a.cell? ⟨S, 1, none⟩ = some (.slice A2 s.regs.length c2)
  q2 : a.cell? ⟨S, 2, none⟩ = some (.slice A3 s.mem.length c3)
  q3 : a.cell? ⟨S, 3, none⟩ = some (.slice A4 s.buf.length c4)
  rep : Rep4 a A1 A2 A3 A4 c1 c2 c3 c4 s
theorem QCur.le {a a' : World} {S : Nat} {A1 A2 A3 A4 : Option Addr} {c1 c2 c3 c4 : Nat} {s : S3} (h : QCur a S A1 A2 A3 A4 c1 c2 c3 c4 s) (hl : Le a a') : QCur a' S A1 A2 A3 A4 c1 c2 c3 c4 s := ⟨hl _ _ h.q0, hl _ _ h.q1, hl _ _ h.q2, hl _ _ h.q3, h.rep.le hl⟩
theorem QCur.below {P : Nat → Prop} {w w' : World} {S : Nat} {A1 A2 A3 A4 : Option Addr} {c1 c2 c3 c4 : Nat} {s : S3} (h : QCur (hidP P w) S A1 A2 A3 A4 c1 c2 c3 c4 s) (hb : Below w.heap.size w w') : QCur (hidP P w') S A1 A2 A3 A4 c1 c2 c3 c4 s := h.le (Le.hidP_below hb (fun _ _ => .inr trivial))
theorem QCur.new {P : Nat → Prop} {w : World} {A1 A2 A3 A4 : Option Addr} {c1 c2 c3 c4 : Nat} {s : S3} {t : TypeId} (hP : ∀ b, P b → b < w.heap.size) (hr : Rep4 (hidP P w) A1 A2 A3 A4 c1 c2 c3 c4 s) : QCur (hidP P (w.alloc (.cells #[.slice A1 s.at_.length c1, .slice A2 s.regs.length c2, .slice A3 s.mem.length c3, .slice A4 s.buf.length c4] t))) w.heap.size A1 A2 A3 A4 c1 c2 c3 c4 s := by
  have ho := Own.new w t #[.slice A1 s.at_.length c1, .slice A2 s.regs.length c2, .slice A3 s.mem.length c3, .slice A4 s.buf.length c4]
  have hn : ¬ P w.heap.size := fun h => by have := hP _ h; omega
  exact ⟨cell_hidP.2 ⟨hn, ho.cell (i := 0) rfl⟩, cell_hidP.2 ⟨hn, ho.cell (i := 1) rfl⟩, cell_hidP.2 ⟨hn, ho.cell (i := 2) rfl⟩, cell_hidP.2 ⟨hn, ho.cell (i := 3) rfl⟩, hr.le (Le.hidP_below ((Below.refl _ _).alloc (Nat.le_refl _) _) (fun _ _ => .inr trivial))⟩
theorem QCur.size {P : Nat → Prop} {w : World} {S : Nat} {A1 A2 A3 A4 : Option Addr} {c1 c2 c3 c4 : Nat} {s : S3} (h : QCur (hidP P w) S A1 A2 A3 A4 c1 c2 c3 c4 s) : S < w.heap.size := World.block_lt_of_cell? _ _ (cell_hidP.1 h.q0).2

end Go.Proofs.YtahegjofooahkaaGreat

/-! The reference's search with one memory: spec.l3Seq walked. -/
namespace Go.Proofs.YtahegjofooahkaaGreat
open Go.RowKit
set_option linter.unusedVariables false
set_option maxRecDepth 100000

theorem Tryz.infoS3 : (Tryz.prog.info? 70).map (fun i => (i.zero, i.size, i.bytes)) = some (some (.agg #[.slice none 0 0, .slice none 0 0, .slice none 0 0, .slice none 0 0]), 4, 96) := by kernel_rfl
theorem Tryz.infoSs : (Tryz.prog.info? 99).map (fun i => (i.zero, i.size, i.bytes)) = some (some (.slice none 0 0), 1, 24) := by kernel_rfl
theorem snoc_casesQ {α : Type} (l : List α) : l = [] ∨ ∃ L b, l = L ++ [b] := by
  rcases List.eq_nil_or_concat l with h | ⟨L, b, h⟩
  · exact .inl h
  · exact .inr ⟨L, b, by rw [h, List.concat_eq_append]⟩
def TSo (R go oo co Ln Vz : Nat) (ag : Value) (os : List Int) (M : List (List Int)) (P : Nat → Prop) (d : Nat) (w : World) (v : Value) : Prop :=
  match d with
  | 43 => v = .pointer (some ⟨R, 1, none⟩)
  | 44 => v = .slice (some ⟨go, oo, none⟩) Ln co
  | 45 => v = ag
  | 46 => HasI Vz os w v
  | 47 => ∃ g o c, v = .slice (some ⟨g, o, none⟩) M.length c ∧ M.length ≤ c ∧ c ≤ 9223372036854775807 ∧ Intss (hidP P w) (some ⟨g, o, none⟩) c M
  | _ => True
/-- What the search hands back. -/
def RetSq {σ : Type} (succ : σ → List σ) (s0 : σ) (done : σ → Bool) (out : σ → List Int) (W : World) (e : Ending) (W' : World) : Prop :=
  ∃ (V : List σ) (L : List (List Int)) (go oo co : Nat), e = .returned (.agg #[.int .i64 (V.length : Int), .slice (some ⟨go, oo, none⟩) L.length co]) ∧ Dfs succ s0 V [] ∧ Wh done out V [] L ∧ Intss (above W.heap.size W') (some ⟨go, oo, none⟩) co L ∧ W.heap.size ≤ W'.heap.size ∧ Below W.heap.size W W'
/-- At the search's start. -/
theorem SrS.start {B g R : Nat} {w : World} {bs : Nat → Option Nat} {b4 go : Nat} {k : ByteArray} {s : S3} {A1 A2 A3 A4 : Option Addr} {c1 c2 c3 c4 : Nat} (ht : TabK w g bs [k]) (h4 : Own w b4 70 #[.slice A1 s.at_.length c1, .slice A2 s.regs.length c2, .slice A3 s.mem.length c3, .slice A4 s.buf.length c4])
    (hr : Rep4 (hidP (HQ B g R bs (some b4)) w) A1 A2 A3 A4 c1 c2 c3 c4 s) (hR : Own w R 60 #[.int .i64 0, .slice (some ⟨go, 0, none⟩) 0 0]) (hs4 : ¬ OwT g bs b4 ∧ b4 ≠ R) (hsR : ¬ OwT g bs R) (hlow : ∀ b, OwQ g R bs (some b4) b → B ≤ b) :
    SrS B g R w bs (.slice (some ⟨b4, 0, none⟩) 1 1) 0 [k] [s] [] go 0 0 :=
  ⟨ht, ⟨[.slice A1 s.at_.length c1, .slice A2 s.regs.length c2, .slice A3 s.mem.length c3, .slice A4 s.buf.length c4], ⟨by simp, .inr ⟨b4, 1, _, rfl, hlow _ (.inr (.inl rfl)), h4, by simp, by simp [maxLen], by simp, by simp⟩⟩, fun i hi => by
    obtain rfl : i = 0 := by simpa using hi
    exact ⟨A1, A2, A3, A4, c1, c2, c3, c4, rfl, rfl, rfl, rfl, hr⟩⟩, ⟨_, _, rfl, by simp, fun i hi => absurd hi (Nat.not_lt_zero _)⟩, ⟨Nat.le_refl _, by omega⟩, hR, fun b hb => by
    injection hb with hb
    simp only at hb
    subst hb
    exact hs4, hsR, hlow⟩

end Go.Proofs.YtahegjofooahkaaGreat
