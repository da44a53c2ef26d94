/-
  What the reference's search through states keeps in memory. No function in sight. The reference's search with one memory, in plain words: its states are those of the machine. No function in sight. The reference's search with one memory: spec.l3Seq walked.
-/
import Derived.Test.YtcckflijaolnkaaGreatMch
import Derived.Test.YtcckflijaolnkaaGreatS3X
import Derived.Test.YtcckflijaolnkaaGreatPut
import Derived.Test.YtcckflijaolnkaaGreatTab

/-! What the reference's search through states keeps in memory. No function in sight. -/
namespace Go.Proofs.YtcckflijaolnkaaGreat
open Go.RowKit
set_option linter.unusedVariables false
set_option maxRecDepth 100000

def kyB (s : S3) : ByteArray := strOfNums (keyL s)
def QS4 (W : World) (cs : Nat → Value) (s : S3) : Prop := ∃ A1 A2 A3 A4 c1 c2 c3 c4, cs 0 = .slice A1 s.at_.length c1 ∧ cs 1 = .slice A2 s.regs.length c2 ∧ cs 2 = .slice A3 s.mem.length c3 ∧ cs 3 = .slice A4 s.buf.length c4 ∧ Rep4 W A1 A2 A3 A4 c1 c2 c3 c4 s
theorem qs4_congr (W : World) : ∀ (f g : Nat → Value) (x : S3), (∀ j, j < 4 → f j = g j) → QS4 W f x → QS4 W g x := fun f g x h ⟨A1, A2, A3, A4, c1, c2, c3, c4, e0, e1, e2, e3, hr⟩ =>
  ⟨A1, A2, A3, A4, c1, c2, c3, c4, (h 0 (by omega)).symm.trans e0, (h 1 (by omega)).symm.trans e1, (h 2 (by omega)).symm.trans e2, (h 3 (by omega)).symm.trans e3, hr⟩
theorem QS4.le {W W' : World} (hl : Le W W') {cs : Nat → Value} {x : S3} : QS4 W cs x → QS4 W' cs x := fun ⟨A1, A2, A3, A4, c1, c2, c3, c4, e0, e1, e2, e3, hr⟩ => ⟨A1, A2, A3, A4, c1, c2, c3, c4, e0, e1, e2, e3, hr.le hl⟩
/-- A table that holds the texts ks. -/
def TabK (w : World) (g : Nat) (bs : Nat → Option Nat) (ks : List ByteArray) : Prop := ∃ xss, TabM w g xss bs ∧ (∀ k, k ∈ xss (hashS k) ↔ k ∈ ks) ∧ ∀ i, (xss i).length ≤ ks.length
theorem TabK.mark {w' : World} {g : Nat} {bs' : Nat → Option Nat} {ks : List ByteArray} {s : ByteArray} {xss : Nat → List ByteArray} (h1 : ∀ k, k ∈ xss (hashS k) ↔ k ∈ ks) (h2 : ∀ i, (xss i).length ≤ ks.length) (h : TabM w' g (fun i => if i = hashS s then xss (hashS s) ++ [s] else xss i) bs') : TabK w' g bs' (ks ++ [s]) := by
  refine ⟨_, h, fun k => ?_, fun i => ?_⟩
  · by_cases e : hashS k = hashS s
    · simp only [if_pos e]
      rw [← e, List.mem_append, h1, List.mem_append]
    · simp only [if_neg e]
      rw [h1, List.mem_append]
      refine ⟨.inl, fun h => h.resolve_right fun hm => e ?_⟩
      rw [List.mem_singleton.1 hm]
  · have := h2 i
    have h3 := h2 (hashS s)
    split
    · simp only [List.length_append, List.length_singleton]; omega
    · simp only [List.length_append, List.length_singleton]; omega
/-- The blocks that the search writes into. -/
def OwQ (g R : Nat) (bs : Nat → Option Nat) (o : Option Nat) (b : Nat) : Prop := OwT g bs b ∨ o = some b ∨ b = R
/-- .. and what was there ahead of block B. -/
def HQ (B g R : Nat) (bs : Nat → Option Nat) (o : Option Nat) (b : Nat) : Prop := OwQ g R bs o b ∨ b < B
/-- n: how many states it has gone through; ks: the texts; K: what waits; L: the outcomes. -/
structure SrS (B g R : Nat) (w : World) (bs : Nat → Option Nat) (v4 : Value) (n : Int) (ks : List ByteArray) (K : List S3) (L : List (List Int)) (go oo co : Nat) : Prop where
  tab : TabK w g bs ks
  stk : RowOf 4 (QS4 (hidP (HQ B g R bs v4.ownBlock) w)) w B 41 v4 K
  outs : Intss (hidP (HQ B g R bs v4.ownBlock) w) (some ⟨go, oo, none⟩) co L
  cap : L.length ≤ co ∧ co ≤ 9223372036854775807
  cell : Own w R 90 #[.int .i64 n, .slice (some ⟨go, oo, none⟩) L.length co]
  sep4 : ∀ b, v4.ownBlock = some b → ¬ OwT g bs b ∧ b ≠ R
  sepR : ¬ OwT g bs R
  low : ∀ b, OwQ g R bs v4.ownBlock b → B ≤ b
section
variable {B g R : Nat} {w w' : World} {bs bs' : Nat → Option Nat} {v4 v4' : Value} {n n' : Int} {ks : List ByteArray} {K : List S3} {L L' : List (List Int)} {go oo co go' oo' co' : Nat}
theorem TabK.lt (h : TabK w g bs ks) {b : Nat} (hb : OwT g bs b) : b < w.heap.size := by
  obtain ⟨_, h, _⟩ := h
  exact h.lt hb
theorem SrS.lt (h : SrS B g R w bs v4 n ks K L go oo co) {b : Nat} (hb : OwQ g R bs v4.ownBlock b) : b < w.heap.size := by
  rcases hb with hb | hb | hb
  · exact h.tab.lt hb
  · exact (h.stk.blk hb).2
  · rw [hb]; exact h.cell.lt
theorem SrS.ltH (h : SrS B g R w bs v4 n ks K L go oo co) (hB : B ≤ w.heap.size) {b : Nat} (hb : HQ B g R bs v4.ownBlock b) : b < w.heap.size := by
  rcases hb with hb | hb
  · exact h.lt hb
  · omega
theorem SrS.leB (h : SrS B g R w bs v4 n ks K L go oo co) (hb : Below w.heap.size w w') : Le (hidP (HQ B g R bs v4.ownBlock) w) (hidP (HQ B g R bs v4.ownBlock) w') := Le.hidP_below hb (fun _ _ => .inr trivial)
theorem TabK.move (h : TabK w g bs ks) (hb : ∀ b, OwT g bs b → w'.heap[b]? = w.heap[b]?) : TabK w' g bs ks := by
  obtain ⟨xss, h, h1, h2⟩ := h
  exact ⟨xss, h.move hb, h1, h2⟩
theorem SrS.below (h : SrS B g R w bs v4 n ks K L go oo co) (hb : Below w.heap.size w w') : SrS B g R w' bs v4 n ks K L go oo co :=
  ⟨h.tab.move fun b hm => hb.block b (h.tab.lt hm), ((h.stk.imp fun cs x hq => QS4.le (h.leB hb) hq).below hb), h.outs.le (h.leB hb), h.cap, h.cell.under hb, h.sep4, h.sepR, h.low⟩
/-- The last state is taken off. -/
theorem SrS.pop {s : S3} (h : SrS B g R w bs v4 n ks (K ++ [s]) L go oo co) : ∃ g4 c cs, v4 = .slice (some ⟨g4, 0, none⟩) (K.length + 1) c ∧ g4 < w.heap.size ∧ K.length < c ∧ c ≤ 9223372036854775807 ∧ (∀ j, j < 4 → w.cell? ⟨g4, K.length * 4 + j, none⟩ = some (cs j)) ∧ QS4 (hidP (HQ B g R bs (some g4)) w) cs s ∧ SrS B g R w bs (.slice (some ⟨g4, 0, none⟩) K.length c) n ks K L go oo co := by
  obtain ⟨g4, c, cs, hv, hg, hl, hc, hc9, hcell, hq, hrow⟩ := RowOf.pop (qs4_congr _) (by omega) h.stk
  subst hv
  exact ⟨g4, c, cs, rfl, hl, hc, hc9, hcell, hq, h.tab, hrow, h.outs, h.cap, h.cell, h.sep4, h.sepR, h.low⟩
theorem mv_setR (i : Nat) (u : Value) : MvP (fun b => b = R) w (w.setCell ⟨R, i, none⟩ u) := ⟨rfl, rfl, rfl, by simp, fun b _ hn => Go.Deep.blk_setCell_other _ _ _ _ (fun e => hn (by simpa using e))⟩
theorem SrS.leR (h : SrS B g R w bs v4 n ks K L go oo co) (i : Nat) (u : Value) : Le (hidP (HQ B g R bs v4.ownBlock) w) (hidP (HQ B g R bs v4.ownBlock) (w.setCell ⟨R, i, none⟩ u)) := Le.hidP_mv (mv_setR i u) (fun _ _ e => .inl (.inr (.inr e))) (fun _ h => .inl h)
theorem SrS.setR (h : SrS B g R w bs v4 n ks K L go oo co) {i : Nat} {u : Value} (ho : Own (w.setCell ⟨R, i, none⟩ u) R 90 #[.int .i64 n', .slice (some ⟨go', oo', none⟩) L'.length co']) (hc : L'.length ≤ co' ∧ co' ≤ 9223372036854775807) (hL : Intss (hidP (HQ B g R bs v4.ownBlock) w) (some ⟨go', oo', none⟩) co' L') : SrS B g R (w.setCell ⟨R, i, none⟩ u) bs v4 n' ks K L' go' oo' co' :=
  ⟨h.tab.move fun b hm => Go.Deep.blk_setCell_other _ _ _ _ (fun e => h.sepR (by rw [← show b = R from e]; exact hm)), (h.stk.imp fun cs x hq => QS4.le (h.leR i u) hq).of_block fun b _ hb _ => Go.Deep.blk_setCell_other _ _ _ _ (fun e => (h.sep4 b hb).2 e), hL.le (h.leR i u), hc, ho, h.sep4, h.sepR, h.low⟩
/-- A text more. -/
theorem SrS.leM (h : SrS B g R w bs v4 n ks K L go oo co) (hm : MvP (OwT g bs) w w') (hb : ∀ b, OwT g bs' b → OwT g bs b ∨ w.heap.size ≤ b) : Le (hidP (HQ B g R bs v4.ownBlock) w) (hidP (HQ B g R bs' v4.ownBlock) w') :=
  Le.hidP_mv hm (fun _ _ e => .inl (.inl e)) fun b hq => by
    rcases hq with (hq | hq | hq) | hq
    · exact (hb b hq).imp (fun h => .inl (.inl h)) id
    · exact .inl (.inl (.inr (.inl hq)))
    · exact .inl (.inl (.inr (.inr hq)))
    · exact .inl (.inr hq)
theorem SrS.mark {s : ByteArray} {xss : Nat → List ByteArray} (h : SrS B g R w bs v4 n ks K L go oo co) (h1 : ∀ k, k ∈ xss (hashS k) ↔ k ∈ ks) (h2 : ∀ i, (xss i).length ≤ ks.length) (ht : TabM w' g (fun i => if i = hashS s then xss (hashS s) ++ [s] else xss i) bs') (hm : MvP (OwT g bs) w w') (hb : ∀ b, OwT g bs' b → OwT g bs b ∨ w.heap.size ≤ b) (hBw : B ≤ w.heap.size) : SrS B g R w' bs' v4 n (ks ++ [s]) K L go oo co := by
  have h4 : ∀ b, v4.ownBlock = some b → w'.heap[b]? = w.heap[b]? := fun b hv => hm.block b (h.stk.blk hv).2 (h.sep4 b hv).1
  refine ⟨TabK.mark h1 h2 ht, (h.stk.imp fun cs x hq => QS4.le (h.leM hm hb) hq).of_block fun b _ hv _ => h4 b hv, h.outs.le (h.leM hm hb), h.cap, h.cell.of_block (hm.block R h.cell.lt h.sepR), fun b hv => ⟨fun ho => ?_, (h.sep4 b hv).2⟩, fun ho => ?_, fun b hq => ?_⟩
  · rcases hb b ho with ho | ho
    · exact (h.sep4 b hv).1 ho
    · have := (h.stk.blk hv).2; omega
  · rcases hb R ho with ho | ho
    · exact h.sepR ho
    · have := h.cell.lt; omega
  · rcases hq with hq | hq | hq
    · rcases hb b hq with ho | ho
      · exact h.low b (.inl ho)
      · omega
    · exact h.low b (.inr (.inl hq))
    · exact h.low b (.inr (.inr hq))
/-- A state more. -/
theorem SrS.leP (h : SrS B g R w bs v4 n ks K L go oo co) (hg : w.grownBy w' v4.ownBlock) (h4 : ∀ b, v4'.ownBlock = some b → v4.ownBlock = some b ∨ w.heap.size ≤ b) : Le (hidP (HQ B g R bs v4.ownBlock) w) (hidP (HQ B g R bs v4'.ownBlock) w') :=
  Le.hidP_mv (q := fun b => v4.ownBlock = some b) (.of_grown hg fun _ h => h) (fun _ _ e => .inl (.inr (.inl e))) fun b hq => by
    rcases hq with (hq | hq | hq) | hq
    · exact .inl (.inl (.inl hq))
    · exact (h4 b hq).imp (fun h => .inl (.inr (.inl h))) id
    · exact .inl (.inl (.inr (.inr hq)))
    · exact .inl (.inr hq)
theorem SrS.push {s : S3} (h : SrS B g R w bs v4 n ks K L go oo co) (hg : w.grownBy w' v4.ownBlock) (h4 : ∀ b, v4'.ownBlock = some b → v4.ownBlock = some b ∨ w.heap.size ≤ b) (hBw : B ≤ w.heap.size) (hr : RowOf 4 (QS4 (hidP (HQ B g R bs v4'.ownBlock) w')) w' B 41 v4' (K ++ [s])) : SrS B g R w' bs v4' n ks (K ++ [s]) L go oo co := by
  refine ⟨h.tab.move fun b hm => World.grownBy.block hg b (h.tab.lt hm) (fun e => (h.sep4 b e.symm).1 hm), hr, h.outs.le (h.leP hg h4), h.cap, h.cell.of_block (World.grownBy.block hg R h.cell.lt fun e => (h.sep4 R e.symm).2 rfl), fun b hv => ?_, h.sepR, fun b hq => ?_⟩
  · rcases h4 b hv with hv | hv
    · exact h.sep4 b hv
    · exact ⟨fun ho => by have := h.tab.lt ho; omega, fun e => by have := h.cell.lt; omega⟩
  · rcases hq with hq | hq | hq
    · exact h.low b (.inl hq)
    · rcases h4 b hq with hv | hv
      · exact h.low b (.inr (.inl hv))
      · omega
    · exact h.low b (.inr (.inr hq))
end
/-- Of the numbers below m those that meet f: where one stands. -/
theorem filter_range_get {f : Nat → Bool} {m t : Nat} (ht : t < m) (hf : f t = true) : ∃ h : ((List.range t).filter f).length < ((List.range m).filter f).length, ((List.range m).filter f)[((List.range t).filter f).length] = t := by
  have key : ∀ m, t < m → ∃ r, (List.range m).filter f = (List.range t).filter f ++ t :: r := fun m => by
    induction m with
    | zero => intro h; omega
    | succ m ih =>
      intro h
      rw [List.range_succ, List.filter_append]
      by_cases e : t = m
      · subst e
        exact ⟨[], by simp [hf]⟩
      · obtain ⟨r, hr⟩ := ih (by omega)
        exact ⟨r ++ [m].filter f, by rw [hr]; simp⟩
  obtain ⟨r, hr⟩ := key m ht
  rw [hr]
  exact ⟨by simp, by simp⟩
theorem filter_range_succ {f : Nat → Bool} (t : Nat) : ((List.range (t + 1)).filter f).length = ((List.range t).filter f).length + (if f t = true then 1 else 0) := by
  rw [List.range_succ, List.filter_append, List.length_append]
  cases h : f t <;> simp [h]

end Go.Proofs.YtcckflijaolnkaaGreat

/-! The reference's search with one memory, in plain words: its states are those of the machine. No function in sight. -/
namespace Go.Proofs.YtcckflijaolnkaaGreat
open Go.RowKit
set_option linter.unusedVariables false
set_option maxRecDepth 100000

def St.s3 (s : St) : S3 := ⟨s.pc.map (fun n => ((n : Nat) : Int)), s.regs, s.mem, []⟩
theorem s3_at {s : St} (t : Nat) : s.s3.at_.getD t 0 = ((pcS s t : Nat) : Int) := by
  unfold St.s3 pcS
  simp only [List.getD_eq_getElem?_getD, List.getElem?_map]
  cases s.pc[t]? <;> rfl
theorem s30_st0 (p : Prg) : s30 p.length 0 = (st0 p).s3 := by
  unfold s30 st0 St.s3
  simp
theorem do3_next {p : Prg} {s : St} {t : Nat} : do3 s.s3 t (insS p s t) = (nxS p s t).s3 := by
  unfold nxS
  generalize insS p s t = x
  have hv : val3 s.s3 t x = valS s t x := rfl
  unfold do3 doS
  rw [s3_at, hv]
  unfold St.s3
  simp only [S3.mk.injEq, and_true]
  rw [List.map_set]
  exact ⟨rfl, rfl⟩
theorem on3_s3 {p : Prg} {s : St} {t : Nat} : on3 p s.s3 t = onS p s t := by
  unfold on3 onS
  rw [s3_at]
  by_cases h : pcS s t < (thrP p t).length
  · rw [decide_eq_true h, decide_eq_true (by omega)]
  · rw [decide_eq_false h, decide_eq_false (by omega)]
theorem done3_s3 {p : Prg} {s : St} : done3 p s.s3 = doneS p s := by
  unfold done3 doneS
  congr 1
  funext t
  rw [on3_s3]
theorem keyL_s3 {s : St} : (keyL s.s3).map Int.toNat = kS s := by
  unfold keyL kS St.s3
  simp only [List.flatMap_nil, List.append_nil, List.map_append, List.map_map, List.append_assoc]
  congr 1
  exact (List.map_congr_left fun n _ => by simp).trans (List.map_id _)
theorem kyB_s3 {s : St} : kyB s.s3 = keyS s := by
  unfold kyB keyS byt strOfNums
  rw [← keyL_s3, List.map_map]
  rfl
theorem keyL_by {p : Prg} (hp : PrgOk p) {s : St} (hs : StOk p s) : By (keyL s.s3) := fun v hv => by
  have h := kS_lt hp hs
  unfold keyL St.s3 at hv
  simp only [List.flatMap_nil, List.append_nil] at hv
  rcases List.mem_append.1 hv with hv | hv
  · rcases List.mem_append.1 hv with hv | hv
    · obtain ⟨n, hn, rfl⟩ := List.mem_map.1 hv
      have := h n (by unfold kS; exact List.mem_append_left _ hn)
      omega
    · have := hs.regb v hv
      obtain ⟨h1, h2⟩ := this
      omega
  · have := hs.memb v hv
    obtain ⟨h1, h2⟩ := this
    omega
theorem keyL_len {p : Prg} (hp : PrgOk p) {s : St} (hs : StOk p s) : 0 < (keyL s.s3).length ∧ (keyL s.s3).length ≤ 15 := by
  have h1 := hs.pcl
  have h2 := hs.regl
  have h3 := hs.meml
  have := hp.1.1
  unfold keyL St.s3
  simp only [List.length_append, List.length_map, List.flatMap_nil, List.length_nil]
  omega
theorem putL_length : ∀ (L : List (List Int)) (o : List Int), (putL L o).length ≤ L.length + 1
  | [], o => by simp [putL]
  | a :: L, o => by
    have := putL_length L o
    rw [putL]
    split
    · simp only [List.length_cons]; omega
    · split
      · simp
      · simp
/-- The outcomes of what has been gone through. -/
def Wh {σ : Type} (done : σ → Bool) (out : σ → List Int) (V K : List σ) (L : List (List Int)) : Prop := Asc L ∧ (∀ y, y ∈ L ↔ ∃ s ∈ V, s ∉ K ∧ done s = true ∧ out s = y) ∧ L.length + K.length ≤ V.length
section
variable {σ : Type} {done : σ → Bool} {out : σ → List Int} {V K : List σ} {L : List (List Int)} {s : σ}
theorem Wh.start (s0 : σ) : Wh done out [s0] [s0] [] := ⟨by simp [Asc], fun y => ⟨fun h => by simp at h, fun ⟨s, h1, h2, _⟩ => absurd h1 h2⟩, by simp⟩
theorem Wh.pop (h : Wh done out V (K ++ [s]) L) (hd : done s = false) : Wh done out V K L := by
  obtain ⟨h1, h2, h3⟩ := h
  refine ⟨h1, fun y => (h2 y).trans ⟨?_, ?_⟩, by simp only [List.length_append, List.length_singleton] at h3; omega⟩
  · rintro ⟨t, k1, k2, k3, k4⟩
    exact ⟨t, k1, fun hm => k2 (List.mem_append_left _ hm), k3, k4⟩
  · rintro ⟨t, k1, k2, k3, k4⟩
    refine ⟨t, k1, fun hm => ?_, k3, k4⟩
    rcases List.mem_append.1 hm with hm | hm
    · exact k2 hm
    · rw [List.mem_singleton.1 hm, hd] at k3
      cases k3
theorem Wh.popOut (h : Wh done out V (K ++ [s]) L) (hd : done s = true) (hs : s ∈ V) (hk : s ∉ K) : Wh done out V K (putL L (out s)) := by
  obtain ⟨h1, h2, h3⟩ := h
  refine ⟨putL_asc _ _ h1, fun y => ?_, by have := putL_length L (out s); simp only [List.length_append, List.length_singleton] at h3; omega⟩
  rw [putL_mem, h2]
  constructor
  · rintro (rfl | ⟨t, k1, k2, k3, k4⟩)
    · exact ⟨s, hs, hk, hd, rfl⟩
    · exact ⟨t, k1, fun hm => k2 (List.mem_append_left _ hm), k3, k4⟩
  · rintro ⟨t, k1, k2, k3, k4⟩
    by_cases e : out t = out s
    · left; rw [← k4, e]
    · refine .inr ⟨t, k1, fun hm => ?_, k3, k4⟩
      rcases List.mem_append.1 hm with hm | hm
      · exact k2 hm
      · exact e (by rw [List.mem_singleton.1 hm])
theorem Wh.new (h : Wh done out V K L) (hs : s ∉ V) : Wh done out (V ++ [s]) (K ++ [s]) L := by
  obtain ⟨h1, h2, h3⟩ := h
  refine ⟨h1, fun y => (h2 y).trans ⟨?_, ?_⟩, by simp only [List.length_append, List.length_singleton]; omega⟩
  · rintro ⟨t, k1, k2, k3, k4⟩
    refine ⟨t, List.mem_append_left _ k1, fun hm => ?_, k3, k4⟩
    rcases List.mem_append.1 hm with hm | hm
    · exact k2 hm
    · exact hs (by rw [← List.mem_singleton.1 hm]; exact k1)
  · rintro ⟨t, k1, k2, k3, k4⟩
    rcases List.mem_append.1 k1 with k1 | k1
    · exact ⟨t, k1, fun hm => k2 (List.mem_append_left _ hm), k3, k4⟩
    · exact absurd (List.mem_append_right _ k1) k2
theorem Wh.len (h : Wh done out V K L) {m : Nat} (ho : ∀ s ∈ V, (out s).length = m) : ∀ x ∈ L, x.length = m := fun x hx => by
  obtain ⟨s, h1, _, _, h4⟩ := (h.2.1 x).1 hx
  rw [← h4]
  exact ho s h1
end
/-- The state that is looked at: its block, itself. -/
structure QCur (a : World) (S : Nat) (A1 A2 A3 A4 : Option Addr) (c1 c2 c3 c4 : Nat) (s : S3) : Prop where
  q0 : a.cell? ⟨S, 0, none⟩ = some (.slice A1 s.at_.length c1)
  q1 : a.cell? ⟨S, 1, none⟩ = some (.slice A2 s.regs.length c2)
  q2 : a.cell? ⟨S, 2, none⟩ = some (.slice A3 s.mem.length c3)
  q3 : a.cell? ⟨S, 3, none⟩ = some (.slice A4 s.buf.length c4)
  rep : Rep4 a A1 A2 A3 A4 c1 c2 c3 c4 s
theorem QCur.le {a a' : World} {S : Nat} {A1 A2 A3 A4 : Option Addr} {c1 c2 c3 c4 : Nat} {s : S3} (h : QCur a S A1 A2 A3 A4 c1 c2 c3 c4 s) (hl : Le a a') : QCur a' S A1 A2 A3 A4 c1 c2 c3 c4 s := ⟨hl _ _ h.q0, hl _ _ h.q1, hl _ _ h.q2, hl _ _ h.q3, h.rep.le hl⟩
theorem QCur.lt {a : World} {S : Nat} {A1 A2 A3 A4 : Option Addr} {c1 c2 c3 c4 : Nat} {s : S3} (h : QCur a S A1 A2 A3 A4 c1 c2 c3 c4 s) : S < a.heap.size := World.block_lt_of_cell? _ _ h.q0
theorem QCur.below {P : Nat → Prop} {w w' : World} {S : Nat} {A1 A2 A3 A4 : Option Addr} {c1 c2 c3 c4 : Nat} {s : S3} (h : QCur (hidP P w) S A1 A2 A3 A4 c1 c2 c3 c4 s) (hb : Below w.heap.size w w') : QCur (hidP P w') S A1 A2 A3 A4 c1 c2 c3 c4 s := h.le (Le.hidP_below hb (fun _ _ => .inr trivial))
theorem QCur.new {P : Nat → Prop} {w : World} {A1 A2 A3 A4 : Option Addr} {c1 c2 c3 c4 : Nat} {s : S3} {t : TypeId} (hP : ∀ b, P b → b < w.heap.size) (hr : Rep4 (hidP P w) A1 A2 A3 A4 c1 c2 c3 c4 s) : QCur (hidP P (w.alloc (.cells #[.slice A1 s.at_.length c1, .slice A2 s.regs.length c2, .slice A3 s.mem.length c3, .slice A4 s.buf.length c4] t))) w.heap.size A1 A2 A3 A4 c1 c2 c3 c4 s := by
  have ho := Own.new w t #[.slice A1 s.at_.length c1, .slice A2 s.regs.length c2, .slice A3 s.mem.length c3, .slice A4 s.buf.length c4]
  have hn : ¬ P w.heap.size := fun h => by have := hP _ h; omega
  exact ⟨cell_hidP.2 ⟨hn, ho.cell (i := 0) rfl⟩, cell_hidP.2 ⟨hn, ho.cell (i := 1) rfl⟩, cell_hidP.2 ⟨hn, ho.cell (i := 2) rfl⟩, cell_hidP.2 ⟨hn, ho.cell (i := 3) rfl⟩, hr.le (Le.hidP_below ((Below.refl _ _).alloc (Nat.le_refl _) _) (fun _ _ => .inr trivial))⟩
theorem QCur.size {P : Nat → Prop} {w : World} {S : Nat} {A1 A2 A3 A4 : Option Addr} {c1 c2 c3 c4 : Nat} {s : S3} (h : QCur (hidP P w) S A1 A2 A3 A4 c1 c2 c3 c4 s) : S < w.heap.size := World.block_lt_of_cell? _ _ (cell_hidP.1 h.q0).2

end Go.Proofs.YtcckflijaolnkaaGreat

/-! The reference's search with one memory: spec.l3Seq walked. -/
namespace Go.Proofs.YtcckflijaolnkaaGreat
open Go.RowKit
set_option linter.unusedVariables false
set_option maxRecDepth 100000

theorem Tryz.infoS3 : (Tryz.prog.info? 41).map (fun i => (i.zero, i.size, i.bytes)) = some (some (.agg #[.slice none 0 0, .slice none 0 0, .slice none 0 0, .slice none 0 0]), 4, 96) := by kernel_rfl
theorem Tryz.infoSs : (Tryz.prog.info? 98).map (fun i => (i.zero, i.size, i.bytes)) = some (some (.slice none 0 0), 1, 24) := by kernel_rfl
theorem snoc_casesQ {α : Type} (l : List α) : l = [] ∨ ∃ L b, l = L ++ [b] := by
  rcases List.eq_nil_or_concat l with h | ⟨L, b, h⟩
  · exact .inl h
  · exact .inr ⟨L, b, by rw [h, List.concat_eq_append]⟩
def TSo (R go oo co Ln Vz : Nat) (ag : Value) (os : List Int) (M : List (List Int)) (P : Nat → Prop) (d : Nat) (w : World) (v : Value) : Prop :=
  match d with
  | 43 => v = .pointer (some ⟨R, 1, none⟩)
  | 44 => v = .slice (some ⟨go, oo, none⟩) Ln co
  | 45 => v = ag
  | 46 => HasI Vz os w v
  | 47 => ∃ g o c, v = .slice (some ⟨g, o, none⟩) M.length c ∧ M.length ≤ c ∧ c ≤ 9223372036854775807 ∧ Intss (hidP P w) (some ⟨g, o, none⟩) c M
  | _ => True
theorem tso_nx {R go oo co Ln Vz : Nat} {ag : Value} {os : List Int} {M : List (List Int)} {P : Nat → Prop} : ∀ d w w' v, Nx w w' → TSo R go oo co Ln Vz ag os M P d w v → TSo R go oo co Ln Vz ag os M P d w' v := fun d w w' v hb h => by
  unfold TSo at h ⊢
  split at h <;> first | exact h | exact HasI.nx hb h | (obtain ⟨g, o, c, e, h1, h2, h3⟩ := h; exact ⟨g, o, c, e, h1, h2, h3.le (Le.hidP_below hb (fun _ _ => .inr trivial))⟩) | trivial
theorem tso_blk {R go oo co Ln Vz : Nat} {ag : Value} {os : List Int} {M : List (List Int)} {P : Nat → Prop} : ∀ d w v b, TSo R go oo co Ln Vz ag os M P d w v → (fun _ => 0 : Nat → Nat) d ≠ 0 → blkV v = some b → b < w.heap.size := fun _ _ _ _ _ h => absurd rfl h
/-- What the search hands back. -/
def RetSq {σ : Type} (succ : σ → List σ) (s0 : σ) (done : σ → Bool) (out : σ → List Int) (W : World) (e : Ending) (W' : World) : Prop :=
  ∃ (V : List σ) (L : List (List Int)) (go oo co : Nat), e = .returned (.agg #[.int .i64 (V.length : Int), .slice (some ⟨go, oo, none⟩) L.length co]) ∧ Dfs succ s0 V [] ∧ Wh done out V [] L ∧ Intss (above W.heap.size W') (some ⟨go, oo, none⟩) co L ∧ W.heap.size ≤ W'.heap.size ∧ Below W.heap.size W W'
/-- At the search's start. -/
theorem SrS.start {B g R : Nat} {w : World} {bs : Nat → Option Nat} {b4 go : Nat} {k : ByteArray} {s : S3} {A1 A2 A3 A4 : Option Addr} {c1 c2 c3 c4 : Nat} (ht : TabK w g bs [k]) (h4 : Own w b4 41 #[.slice A1 s.at_.length c1, .slice A2 s.regs.length c2, .slice A3 s.mem.length c3, .slice A4 s.buf.length c4])
    (hr : Rep4 (hidP (HQ B g R bs (some b4)) w) A1 A2 A3 A4 c1 c2 c3 c4 s) (hR : Own w R 90 #[.int .i64 0, .slice (some ⟨go, 0, none⟩) 0 0]) (hs4 : ¬ OwT g bs b4 ∧ b4 ≠ R) (hsR : ¬ OwT g bs R) (hlow : ∀ b, OwQ g R bs (some b4) b → B ≤ b) :
    SrS B g R w bs (.slice (some ⟨b4, 0, none⟩) 1 1) 0 [k] [s] [] go 0 0 :=
  ⟨ht, ⟨[.slice A1 s.at_.length c1, .slice A2 s.regs.length c2, .slice A3 s.mem.length c3, .slice A4 s.buf.length c4], ⟨by simp, .inr ⟨b4, 1, _, rfl, hlow _ (.inr (.inl rfl)), h4, by simp, by simp [maxLen], by simp, by simp⟩⟩, fun i hi => by
    obtain rfl : i = 0 := by simpa using hi
    exact ⟨A1, A2, A3, A4, c1, c2, c3, c4, rfl, rfl, rfl, rfl, hr⟩⟩, ⟨_, _, rfl, by simp, fun i hi => absurd hi (Nat.not_lt_zero _)⟩, ⟨Nat.le_refl _, by omega⟩, hR, fun b hb => by
    injection hb with hb
    simp only at hb
    subst hb
    exact hs4, hsR, hlow⟩

set_option maxHeartbeats 4000000 in
theorem l3Seq_any (p : Prg) (hp : PrgOk p) (W : World) (vp : Value) (hpr : PrgS W vp p) :
    Calls Tryz.prog 47 #[vp] W (RetSq (sucS p) (st0 p) (doneS p) outS W) := by
  obtain ⟨Ap, cp, rfl, hpl⟩ := SlR.slice hpr
  obtain ⟨i0, hi0, hz0, hz1, hz2⟩ := info_parts Tryz.infoS3
  have hmk := run_make_any (P := Tryz.prog) 43 98 _ 1 24 Tryz.underlying43 Tryz.infoSs 4096 (by omega) (by omega)
  have hmkT : ∀ w, (Instr.makeSlice 43 (.int .i64 4096) (.int .i64 4096)).run Tryz.prog w = .ok (.slice (some ⟨w.heap.size, 0, none⟩) 4096 4096) (w.alloc (.cells (madeCells #[.slice none 0 0] 4096) 98)) := fun w => hmk w
  obtain ⟨cur, hcur⟩ : ∃ cur, cur = madeCells #[Value.slice none 0 0] 4096 := ⟨_, rfl⟩
  have Hcur : Hid (cur.size = 4096 ∧ ∀ i, i < 4096 → cur[i]? = some (.slice none 0 0)) := by
    rw [hcur]
    exact ⟨size_madeCells _ _, fun i hi => by rw [← Array.getElem?_toList, madeCells_rep, List.getElem?_replicate, if_pos hi]⟩
  rw [← hcur] at hmkT
  clear hmk hcur
  have HP := Lib.hid hpr
  have Hp := Lib.hid hp
  have hp3 := hp.1.1
  obtain ⟨V1, hV1⟩ : ∃ V1, V1 = (W.alloc (.cells #[.int .i64 0, .slice none 0 0] 90)).alloc (.cells cur 98) := ⟨_, rfl⟩
  have hB1 : Below W.heap.size W V1 := by rw [hV1]; exact ((Below.refl _ _).alloc (Nat.le_refl _) _).alloc (by simp) _
  have hs1 : V1.heap.size = W.heap.size + 2 := by rw [hV1]; simp
  have oR1 : Own V1 W.heap.size 90 #[.int .i64 0, .slice none 0 0] := by rw [hV1]; exact (Own.new _ _ _).alloc _
  have oT1 : Own V1 (W.heap.size + 1) 98 cur := by rw [hV1]; simpa using Own.new (W.alloc (.cells #[.int .i64 0, .slice none 0 0] 90)) 98 cur
  have hst := l3Start_any p (by omega) 0 (by omega) V1 (.slice Ap p.length cp) (hpr.le (Le.below hB1))
  have OR1 := Lib.hid (And.intro oR1 (And.intro oT1 hs1))
  clear hpr oR1 oT1 hp
  go_enter Tryz.func47, Tryz.ntmps47
  go_upto_region 2 with (fail)
  rw [← hV1]
  clear hV1
  go_wp2_with fail
  refine hst.mono ?_
  rintro e5 w5 ⟨A1, A2, A3, A4, c1, c2, c3, c4, rfl, hr5, hb5⟩
  clear hst hmkT
  rw [s30_st0] at hr5 ⊢
  have hok0 : StOk p (st0 p) := StOk.start p
  have hby := keyL_by Hp.out hok0
  have hkl := keyL_len Hp.out hok0
  have Hb5 : Hid (Below V1.heap.size V1 w5) := hb5
  obtain ⟨q, hq⟩ : ∃ q, q = (st0 p).s3 := ⟨_, rfl⟩
  rw [← hq] at hr5 hby hkl ⊢
  have Hq := Lib.hid hq
  clear hq hb5
  obtain ⟨w6, hw6⟩ : ∃ w6, w6 = w5.alloc (.cells #[.slice A1 q.at_.length c1, .slice A2 q.regs.length c2, .slice A3 q.mem.length c3, .slice A4 q.buf.length c4] 41) := ⟨_, rfl⟩
  have hb56 : Below w5.heap.size w5 w6 := by rw [hw6]; exact (Below.refl _ _).alloc (Nat.le_refl _) _
  have oB6 : Own w6 w5.heap.size 41 #[.slice A1 q.at_.length c1, .slice A2 q.regs.length c2, .slice A3 q.mem.length c3, .slice A4 q.buf.length c4] := by rw [hw6]; exact Own.new _ _ _
  have hs6 : w6.heap.size = w5.heap.size + 1 := by rw [hw6]; simp
  have x0 := oB6.cell (i := 0) rfl
  have x1 := oB6.cell (i := 1) rfl
  have x2 := oB6.cell (i := 2) rfl
  have x3 := oB6.cell (i := 3) rfl
  have hkey := l3Key_any q hby hkl.1 (by omega) w6 A1 A2 A3 A4 c1 c2 c3 c4 (hr5.le ((Le.above _ _).trans (Le.below hb56)))
  have OB6 := Lib.hid oB6
  have Hr5 := Lib.hid hr5
  have hl6 := oB6.lt
  have hkz : (strOfNums (keyL q)).size ≤ 1000000 := by rw [strOfNums_size]; omega
  obtain ⟨ky, hky⟩ : ∃ ky, ky = strOfNums (keyL q) := ⟨_, rfl⟩
  rw [← hky] at hkey hkz
  have Hky := Lib.hid hky
  clear oB6 hr5 hby hkl hky
  go_upto_region 3 with (fail)
  rw [← hw6]
  clear hw6
  go_wp2_with fail
  refine hkey.mono ?_
  rintro e7 w7 ⟨rfl, hb7⟩
  have Hb7 := Lib.hid hb7
  have ht7 : TabM w7 (W.heap.size + 1) (fun _ => []) (fun _ => none) := ((TabM.made OR1.out.2.1 Hcur.out.1 Hcur.out.2).below Hb5.out).below hb56 |>.below hb7
  have hmk := l3Mark_any ky hkz w7 (W.heap.size + 1) _ _ ht7 (by simp)
  clear hkey hb7 x0 x1 x2 x3
  go_wp2_with fail
  refine hmk.mono ?_
  rintro e8 w8 ⟨rfl, bs0, ht8, hm8, hbs8⟩
  clear hmk ht7
  obtain ⟨w9, hw9⟩ : ∃ w9, w9 = (w8.alloc (.cells #[] 24)).alloc (.cells #[.int .i64 0, .slice (some ⟨w8.heap.size, 0, none⟩) 0 0] 90) := ⟨_, rfl⟩
  have hs9 : w9.heap.size = w8.heap.size + 2 := by rw [hw9]; simp
  have hb89 : Below w8.heap.size w8 w9 := by rw [hw9]; exact ((Below.refl _ _).alloc (Nat.le_refl _) _).alloc (by simp) _
  have oR9 : Own w9 (w8.heap.size + 1) 90 #[.int .i64 0, .slice (some ⟨w8.heap.size, 0, none⟩) 0 0] := by rw [hw9]; simpa using Own.new (w8.alloc (.cells #[] 24)) 90 #[.int .i64 0, .slice (some ⟨w8.heap.size, 0, none⟩) 0 0]
  have hown0 : ∀ b, OwT (W.heap.size + 1) (fun _ => none) b → b = W.heap.size + 1 := fun b hb => by
    rcases hb with h | ⟨_, _, h⟩
    · exact h
    · cases h
  have hs1 := OR1.out.2.2
  have hs15 : V1.heap.size ≤ w5.heap.size := Hb5.out.size
  have hs67 : w6.heap.size ≤ w7.heap.size := Hb7.out.size
  have hs78 : w7.heap.size ≤ w8.heap.size := hm8.size
  have hown8 : ∀ b, OwT (W.heap.size + 1) bs0 b → b = W.heap.size + 1 ∨ (w7.heap.size ≤ b ∧ b < w8.heap.size) := fun b hb => by
    rcases hbs8 b hb with h | h
    · exact .inl (hown0 b h)
    · exact .inr ⟨h, ht8.lt hb⟩
  have hkeep : ∀ b, b < w7.heap.size → b ≠ W.heap.size + 1 → w9.heap[b]? = w7.heap[b]? := fun b hb hn => (hb89.block b (by omega)).trans (hm8.block b hb fun hm => hn (hown0 b hm))
  have hSr : Hid (SrS (W.heap.size + 1) (W.heap.size + 1) (w8.heap.size + 1) w9 bs0 (.slice (some ⟨w5.heap.size, 0, none⟩) 1 1) 0 [ky] [q] [] w8.heap.size 0 0) := by
    refine SrS.start ((TabK.mark (ks := []) (fun k => Iff.rfl) (fun i => Nat.le_refl _) ht8).move fun b hb => hb89.block b (ht8.lt hb)) ((OB6.out.under Hb7.out).of_block (hkeep _ (by omega) (by omega))) (Hr5.out.le fun a v hc => ?_) oR9 ⟨fun h => ?_, by omega⟩ (fun h => ?_) (fun b hb => ?_)
    · obtain ⟨h1, h2⟩ := cell_above_lt hc
      have hl := World.block_lt_of_cell? _ _ h2
      refine cell_hidP.2 ⟨fun hm => ?_, ?_⟩
      · rcases hm with (hm | hm | hm) | hm
        · rcases hown8 _ hm with h | h <;> omega
        · injection hm with hm; omega
        · omega
        · omega
      · rw [World.cell?_of_block (w := w7) (hkeep a.block (by omega) (by omega))]
        exact Le.below Hb7.out _ _ (Le.below hb56 _ _ h2)
    · rcases hown8 _ h with h | h <;> omega
    · rcases hown8 _ h with h | h <;> omega
    · rcases hb with hb | hb | hb
      · rcases hown8 _ hb with h | h <;> omega
      · injection hb with hb; omega
      · omega
  have HB9 : Hid (Below W.heap.size W w9) := (((hB1.trans (Hb5.out.mono hB1.size)).trans (hb56.mono (by omega))).trans (Hb7.out.mono (by omega))).trans ((hm8.below (fun b hb => by have := hown0 b hb; omega) (by omega)).trans (hb89.mono (by omega)))
  have HRes : Hid (Own w9 W.heap.size 90 #[.int .i64 0, .slice none 0 0]) := (((OR1.out.1.under Hb5.out).under hb56).under Hb7.out).of_block (hkeep _ (by omega) (by omega))
  go_upto_region 5 with (fail)
  rw [← hw9]
  obtain ⟨R, hR⟩ : ∃ R, R = w8.heap.size + 1 := ⟨_, rfl⟩
  obtain ⟨g, hg⟩ : ∃ g, g = W.heap.size + 1 := ⟨_, rfl⟩
  rw [← hR, ← hg] at hSr ⊢
  have HgR := Lib.hid (And.intro hg hR)
  have hSr' : Hid (SrS (W.heap.size + 1) g R w9 bs0 (.slice (some ⟨w5.heap.size, 0, none⟩) 1 1) ((([st0 p] : List St).length : Int) - (([st0 p] : List St).length : Int)) ([st0 p].map fun s => kyB s.s3) ([st0 p].map St.s3) [] w8.heap.size 0 0) := by
    have h := hSr.out
    rw [Hky.out, Hq.out] at h
    show SrS _ _ _ _ _ _ _ _ _ _ _ _ _
    rw [← HgR.out.1]
    exact h
  have hgW : g = W.heap.size + 1 := hg
  have hw9W : W.heap.size + 1 ≤ w9.heap.size := by omega
  clear hSr hg hR hs9 hb89 oR9 hown0 hs1 hs15 hs67 hs78 hown8 hkeep ht8 hm8 hbs8 hb56 hs6 hl6 OB6 Hr5 Hb5 Hb7 hw9 Hcur hgW
  clear hkz hok0 OR1 hB1
  go_wp2_with fail
  go_loopg [4] 5000000000000 (fun gk s4 wr => ∃ (V K : List St) (L : List (List Int)) (v4 : Value) (bs : Nat → Option Nat) (go oo co : Nat), gk + V.length = 5000000000000 + K.length ∧ v4 = s4 ∧ Hid (Dfs (sucS p) (st0 p) V K) ∧ Hid (SrS (W.heap.size + 1) g R wr bs v4 ((V.length : Int) - (K.length : Int)) (V.map fun s => kyB s.s3) (K.map St.s3) L go oo co) ∧ Hid (Wh (doneS p) outS V K L) ∧ Hid (Below (W.heap.size + 1) w9 wr))
  case atStart => exact ⟨[st0 p], [st0 p], [], _, bs0, w8.heap.size, 0, 0, rfl, rfl, Dfs.start _ _, hSr'.out, Wh.start _, Below.refl _ _⟩
  case round =>
    obtain ⟨wo, rfl⟩ : ∃ wo : World, wo = wr := ⟨_, rfl⟩
    obtain ⟨V, K, L, v4, bs, go, oo, co, hgk, rfl, hdfs, hsr, hwh, hb⟩ := hrel
    have hfew := seq_few Hp.out hdfs.out.nd hdfs.out.reach
    have hwo : W.heap.size + 1 ≤ wo.heap.size := Nat.le_trans hw9W hb.out.size
    have HPU : Hid (∀ U, Below (W.heap.size + 1) w9 U → PrgS U (.slice Ap p.length cp) p ∧ Own U W.heap.size 90 #[.int .i64 0, .slice none 0 0]) := fun U hU => ⟨HP.out.le (Le.below (HB9.out.trans (hU.mono (by omega)))), HRes.out.below hU (by omega)⟩
    clear hSr'
    rcases snoc_casesQ K with rfl | ⟨Kt, s, rfl⟩
    · obtain ⟨A6, c6, rfl, _, _⟩ := hsr.out.stk.slice
      have oRo := hsr.out.cell
      have r0 := oRo.cell (i := 0) rfl
      have r1 := oRo.cell (i := 1) rfl
      have hRl := oRo.lt
      have oRes := (HPU.out wo hb.out).2
      have p0 := oRes.cell (i := 0) rfl
      have p1 := oRes.cell (i := 1) rfl
      have f0 := oRes.frozen 0
      have f1 := oRes.frozen 1
      have hWl := oRes.lt
      have HsrO := hsr
      have r0' : wo.cell? ⟨R, 0, none⟩ = some (.int .i64 (V.length : Int)) := by rw [r0]; simp
      clear oRo oRes r0 hsr
      go_wp2_with fail
      refine bodyPost_ret (v := .agg #[.int .i64 (V.length : Int), .slice (some ⟨go, oo, none⟩) L.length co]) (by simp [results, Tryz.results47, go_sem, p0, p1]) rfl ?_
      have hset : Le (hidP (HQ (W.heap.size + 1) g R bs (Value.slice A6 ([].map St.s3 : List S3).length c6).ownBlock) wo) (above W.heap.size ((wo.setCell ⟨W.heap.size, 0, none⟩ (.int .i64 (V.length : Int))).setCell ⟨W.heap.size, 1, none⟩ (.slice (some ⟨go, oo, none⟩) L.length co))) := fun x u hc => by
        obtain ⟨h1, h2⟩ := cell_hidP.1 hc
        have hge : ¬ x.block < W.heap.size + 1 := fun e => h1 (.inr e)
        have hne : x.block ≠ W.heap.size := by omega
        refine cell_above_of (by omega) ?_
        rw [World.cell?_setCell_other _ _ _ _ (fun e => hne (congrArg Addr.block e).symm), World.cell?_setCell_other _ _ _ _ (fun e => hne (congrArg Addr.block e).symm)]
        exact h2
      have hbW : Below W.heap.size W wo := HB9.out.trans (hb.out.mono (by omega))
      refine ⟨V, L, go, oo, co, rfl, hdfs.out, hwh.out, HsrO.out.outs.le hset, by simp; exact hbW.size, (hbW.setCell (Nat.le_refl _) _).setCell (Nat.le_refl _) _⟩
    · have hsr1 := hsr.out
      rw [List.map_append, List.map_singleton] at hsr1
      obtain ⟨g4, c, cs, rfl, hg4, hc, hc9, hcell, hq4, hsrp⟩ := hsr1.pop
      rw [List.length_map] at hc hcell hsrp ⊢
      obtain ⟨A1, A2, A3, A4, c1, c2, c3, c4, e0, e1, e2, e3, hrep⟩ := hq4
      have q0 := hcell 0 (by omega)
      have q1 := hcell 1 (by omega)
      have q2 := hcell 2 (by omega)
      have q3 := hcell 3 (by omega)
      rw [e0, Nat.add_zero] at q0
      rw [e1] at q1
      rw [e2] at q2
      rw [e3] at q3
      have hcur6 := QCur.new (t := 41) (fun b hb => hsrp.ltH hwo hb) hrep
      obtain ⟨nn, hnn⟩ : ∃ nn : Int, nn = (V.length : Int) - ((Kt ++ [s]).length : Int) := ⟨_, rfl⟩
      rw [← hnn] at hsrp
      have hKV : Kt.length + 1 ≤ V.length := by have := hwh.out.2.2; rw [List.length_append, List.length_singleton] at this; omega
      have hn0 : 0 ≤ nn ∧ nn ≤ 10000000000000 := by rw [hnn, List.length_append, List.length_singleton]; omega
      have Hnn : Hid (nn + 1 = (V.length : Int) - (Kt.length : Int)) := by show _ = _; rw [hnn, List.length_append, List.length_singleton]; omega
      have hsV := hdfs.out.sub s (by simp)
      have Hre := Lib.hid (hdfs.out.reach s hsV)
      have HsV := Lib.hid hsV
      have Hat : Hid (DfsAt (sucS p) (st0 p) V Kt s 0) := Dfs.pop hdfs.out
      have hok := reach_ok Hp.out Hre.out
      have Hok := Lib.hid hok
      rw [List.length_append, List.length_singleton] at hgk
      have sr6 := hsrp.below ((Below.refl wo.heap.size wo).alloc (Nat.le_refl _) (.cells #[.slice A1 s.s3.at_.length c1, .slice A2 s.s3.regs.length c2, .slice A3 s.s3.mem.length c3, .slice A4 s.s3.buf.length c4] 41))
      obtain ⟨w6, hw6⟩ : ∃ w6, w6 = wo.alloc (.cells #[.slice A1 s.s3.at_.length c1, .slice A2 s.s3.regs.length c2, .slice A3 s.s3.mem.length c3, .slice A4 s.s3.buf.length c4] 41) := ⟨_, rfl⟩
      obtain ⟨S6, hS6⟩ : ∃ S6, S6 = wo.heap.size := ⟨_, rfl⟩
      have hb6 : Below wo.heap.size wo w6 := by rw [hw6]; exact (Below.refl _ _).alloc (Nat.le_refl _) _
      rw [← hw6] at sr6 hcur6
      have Hcur6 := Lib.hid hcur6
      have Sr6 := Lib.hid sr6
      have oR6 := sr6.cell
      have r0 := oR6.cell (i := 0) rfl
      have f0 := oR6.frozen 0
      have hRl := oR6.lt
      clear hcell e0 e1 e2 e3 hrep hcur6 hsr1 hsrp hsr hnn hsV hok hdfs sr6
      go_upto_region 7 with (fail)
      rw [← hw6]
      clear hw6 q0 q1 q2 q3
      go_upto_region 9 with (fail)
      obtain ⟨w8b, hw8⟩ : ∃ w8b, w8b = w6.setCell ⟨R, 0, none⟩ (.int .i64 (nn + 1)) := ⟨_, rfl⟩
      have sr8 := Sr6.out.setR (i := 0) (u := .int .i64 (nn + 1)) (n' := nn + 1) (L' := L) (go' := go) (oo' := oo) (co' := co) (oR6.set 0 _) Sr6.out.cap Sr6.out.outs
      have cur8 := Hcur6.out.le (Sr6.out.leR 0 (.int .i64 (nn + 1)))
      have hb8 : Below (W.heap.size + 1) w9 w8b := by
        rw [hw8]
        exact (hb.out.trans (hb6.mono hwo)).setCell (Sr6.out.low R (.inr (.inr rfl))) _
      rw [← hw8] at sr8 cur8 ⊢
      have hs8 : w8b.heap.size = w6.heap.size := by rw [hw8]; simp
      clear hw8 oR6 r0 f0 Sr6 Hcur6
      rw [← hS6]
      rw [← hS6] at cur8
      have hWa : W.heap.size + 1 ≤ w8b.heap.size := Nat.le_trans hw9W hb8.size
      have hdn := l3Done_any p s.s3 (by show (s.pc.map _).length = _; rw [List.length_map]; exact Hok.out.pcl) w8b (.slice Ap p.length cp) (HPU.out w8b hb8).1 A1 A2 A3 A4 c1 c2 c3 c4 (cur8.rep.le (Le.hidP _ _))
      rw [done3_s3] at hdn
      have x0 := Le.hidP _ _ _ _ cur8.q0
      have x1 := Le.hidP _ _ _ _ cur8.q1
      have x2 := Le.hidP _ _ _ _ cur8.q2
      have x3 := Le.hidP _ _ _ _ cur8.q3
      have hS8 := cur8.size
      have Sr8 := Lib.hid sr8
      have Cur8 := Lib.hid cur8
      clear sr8 cur8 hS6
      go_wp2_with fail
      refine hdn.mono ?_
      rintro ea wa ⟨rfl, hba⟩
      have srA := Lib.hid (Sr8.out.below hba)
      have curA := Lib.hid (Cur8.out.below hba)
      have hbA : Below (W.heap.size + 1) w9 wa := hb8.trans (hba.mono hWa)
      clear hdn x0 x1 x2 x3 Sr8 Cur8 hba hS8 hb6
      cases hdo : doneS p s
      case' false =>
        have whB := Lib.hid (Wh.pop hwh.out hdo)
        obtain ⟨wb, hwb⟩ : ∃ wb : World, wb = wa := ⟨_, rfl⟩
        rw [← hwb] at srA curA hbA
        obtain ⟨L2, rfl⟩ : ∃ x, x = L := ⟨_, rfl⟩
        obtain ⟨go2, rfl⟩ : ∃ x, x = go := ⟨_, rfl⟩
        obtain ⟨oo2, rfl⟩ : ∃ x, x = oo := ⟨_, rfl⟩
        obtain ⟨co2, rfl⟩ : ∃ x, x = co := ⟨_, rfl⟩
        have srB := srA
        have curB := curA
        have hbB := hbA
        clear srA curA hbA hdo
        go_upto_region 11 with (fail)
        rw [← hwb]
        clear hwb hwh
      case' true =>
        have whB := Lib.hid (Wh.popOut hwh.out hdo HsV.out Hat.out.notk)
        have hlen9 : ∀ x ∈ L, x.length = (outS s).length := Wh.len (m := (outS s).length) hwh.out (fun t ht => by
          have h1 := reach_ok Hp.out (Hat.out.reach t ht)
          have h2 := Hok.out
          unfold outS
          rw [List.length_append, List.length_append, h1.regl, h1.meml, h2.regl, h2.meml])
        have Hlen9 := Lib.hid hlen9
        have hLl : L.length ≤ 5000000000000 := by have := hwh.out.2.2; omega
        have hreg1 : s.s3.regs.length ≤ 1000 := by show s.regs.length ≤ _; rw [Hok.out.regl]; omega
        have hmem1 : s.s3.mem.length ≤ 1000 := by show s.mem.length ≤ _; rw [Hok.out.meml]; omega
        have HlP : Hid (∀ b, HQ (W.heap.size + 1) g R bs (some g4) b → b < wa.heap.size) := fun b hb => srA.out.ltH (Nat.le_trans hw9W hbA.size) hb
        obtain ⟨hcap1, hcap2⟩ := srA.out.cap
        have hRa := srA.out.cell.lt
        clear hlen9
        go_upto_region 10 with (fail)
        refine wp_region_rel [0, 1, 2, 3, 4] [5, 6] (TSo R go oo co L.length wa.heap.size (.agg #[.slice A1 s.s3.at_.length c1, .slice A2 s.s3.regs.length c2, .slice A3 s.s3.mem.length c3, .slice A4 s.s3.buf.length c4]) (outS s) (putL L (outS s)) (HQ (W.heap.size + 1) g R bs (some g4))) (fun _ => 0) [43, 44, 45, 46, 47] (by kernel_rfl) (by kernel_rfl) rfl (by simp) tso_nx tso_blk ?_ ?_
        · refine ⟨?_, ?_, ?_, ?_, ?_, trivial⟩
          all_goals (intro xs w hw hdep hsep; have hbw := nx_below hw; simp only [shpA, fillL, List.contains_cons, List.contains_nil, Nat.reduceAdd, Nat.reduceBEq, Bool.or_false, Bool.or_true, Bool.false_eq_true, ↓reduceIte])
          · go_wp2_with fail
            exact RelPost.mk (Nx.refl _) _ rfl rfl rfl
          · have e43 : xs 43 = .pointer (some ⟨R, 1, none⟩) := hdep 43 (List.mem_of_elem_eq_true (by kernel_rfl))
            have y1 := (srA.out.cell.under hbw).cell (i := 1) rfl
            rw [e43]
            go_wp2_with fail
            exact RelPost.mk (Nx.refl _) _ rfl rfl rfl
          · have cw := curA.out.below hbw
            have y0 := Le.hidP _ _ _ _ cw.q0
            have y1 := Le.hidP _ _ _ _ cw.q1
            have y2 := Le.hidP _ _ _ _ cw.q2
            have y3 := Le.hidP _ _ _ _ cw.q3
            clear cw
            go_wp2_with fail
            exact RelPost.mk (Nx.refl _) _ rfl rfl rfl
          · have e45 : xs 45 = .agg #[.slice A1 s.s3.at_.length c1, .slice A2 s.s3.regs.length c2, .slice A3 s.s3.mem.length c3, .slice A4 s.s3.buf.length c4] := hdep 45 (List.mem_of_elem_eq_true (by kernel_rfl))
            have hoc := l3Outcome_any s.s3 hreg1 hmem1 w A1 A2 A3 A4 c1 c2 c3 c4 ((curA.out.below hbw).rep.le (Le.hidP _ _))
            have hsw := hbw.size
            rw [e45]
            go_wp2_with fail
            refine hoc.mono ?_
            rintro ec wc ⟨Ao, co', rfl, hro, hbc⟩
            go_wp2_with fail
            exact RelPost.mk hbc _ rfl ⟨Ao, co', by show Value.slice _ _ _ = _; simp only [outS, St.s3, List.length_append], RowOf.rebase hro (fun b hb => by have := (hro.blk hb).1; omega)⟩ rfl
          · have e44 : xs 44 = .slice (some ⟨go, oo, none⟩) L.length co := hdep 44 (List.mem_of_elem_eq_true (by kernel_rfl))
            obtain ⟨Ao, do', e46, hro⟩ : HasI wa.heap.size (outS s) w (xs 46) := hdep 46 (List.mem_of_elem_eq_true (by kernel_rfl))
            have hsw := hbw.size
            have hao : Ints (hidP (HQ (W.heap.size + 1) g R bs (some g4)) w) Ao do' (outS s) := by
              obtain ⟨A', c', e, hI⟩ := hro.ints
              injection e with e1 e2 e3
              subst e1 e3
              exact hI.le (Le.above_hidP HlP.out)
            have hput := l3Put_any L (outS s) Hlen9.out hLl w go oo co Ao do' (hidP (HQ (W.heap.size + 1) g R bs (some g4)) w) (Le.hidP _ _) (srA.out.outs.le (srA.out.leB hbw)) hcap1 hcap2 hao
            rw [e44, e46]
            go_wp2_with fail
            refine hput.mono ?_
            rintro ec wc ⟨g2, o2, c2', rfl, k1, k2, k3, hbc⟩
            go_wp2_with fail
            exact RelPost.mk hbc _ rfl ⟨g2, o2, c2', rfl, k1, k2, k3 _ (Le.hidP_below hbc (fun _ _ => .inr trivial)) (Le.above_hidP (fun b hb => Nat.lt_of_lt_of_le (HlP.out b hb) hsw))⟩ rfl
        intro xs wy hw hT hsep
        have hbw := nx_below hw
        obtain ⟨go2, oo2, co2, e47, k1, k2, k3⟩ : ∃ g' o c, xs 47 = .slice (some ⟨g', o, none⟩) (putL L (outS s)).length c ∧ (putL L (outS s)).length ≤ c ∧ c ≤ 9223372036854775807 ∧ Intss (hidP (HQ (W.heap.size + 1) g R bs (some g4)) wy) (some ⟨g', o, none⟩) c (putL L (outS s)) := hT 47 (List.mem_of_elem_eq_true (by kernel_rfl))
        show wpList _ _ _ [_, _] _ _
        simp only [shpA, fillL, List.contains_cons, List.contains_nil, Nat.reduceAdd, Nat.reduceBEq, Bool.or_false, Bool.or_true, Bool.false_eq_true, ↓reduceIte]
        rw [e47]
        obtain ⟨L2, hL2⟩ : ∃ x, x = putL L (outS s) := ⟨_, rfl⟩
        rw [← hL2] at whB k1 k3 ⊢
        have sry := srA.out.below hbw
        have cury := curA.out.below hbw
        have hby : Below (W.heap.size + 1) w9 wy := hbA.trans (hbw.mono (Nat.le_trans hw9W hbA.size))
        have oRy := sry.cell
        have y1 := oRy.cell (i := 1) rfl
        have f1 := oRy.frozen 1
        have srB := Lib.hid (sry.setR (i := 1) (u := .slice (some ⟨go2, oo2, none⟩) L2.length co2) (n' := nn + 1) (L' := L2) (go' := go2) (oo' := oo2) (co' := co2) (oRy.set 1 _) ⟨k1, k2⟩ k3)
        have curB := Lib.hid (cury.le (sry.leR 1 (.slice (some ⟨go2, oo2, none⟩) L2.length co2)))
        have hbB : Below (W.heap.size + 1) w9 (wy.setCell ⟨R, 1, none⟩ (.slice (some ⟨go2, oo2, none⟩) L2.length co2)) := hby.setCell (sry.low R (.inr (.inr rfl))) _
        clear e47 hT hsep hw hL2 sry cury srA curA hbA hdo Hlen9 hLl HlP hcap1 hcap2 k3 hwh
        generalize xs 43 = y43
        generalize xs 44 = y44
        generalize xs 45 = y45
        generalize xs 46 = y46
        go_upto_region 11 with (fail)
        obtain ⟨wb, hwb⟩ : ∃ wb, wb = wy.setCell ⟨R, 1, none⟩ (.slice (some ⟨go2, oo2, none⟩) L2.length co2) := ⟨_, rfl⟩
        rw [← hwb] at srB curB hbB ⊢
        clear hwb y1 f1 oRy hby hbw
      all_goals
        go_wp2_with fail
        go_loopg [4, 7] p.length (fun gi s4 s7 wi => ∃ (t : Nat) (V1 K1 : List St) (v4 : Value) (bs1 : Nat → Option Nat), t ≤ p.length ∧ gi = p.length - t ∧ v4 = s4 ∧ s7 = .int .i64 t ∧ Hid (DfsAt (sucS p) (st0 p) V1 K1 s (((List.range t).filter (onS p s)).length)) ∧ Hid (SrS (W.heap.size + 1) g R wi bs1 v4 (nn + 1) (V1.map fun s => kyB s.s3) (K1.map St.s3) L2 go2 oo2 co2) ∧ Hid (Wh (doneS p) outS V1 K1 L2) ∧ Hid (QCur (hidP (HQ (W.heap.size + 1) g R bs1 v4.ownBlock) wi) S6 A1 A2 A3 A4 c1 c2 c3 c4 s.s3) ∧ V1.length + Kt.length = K1.length + V.length ∧ Hid (Below (W.heap.size + 1) w9 wi))
        case atStart => exact ⟨0, V, Kt, _, bs, Nat.zero_le _, rfl, rfl, rfl, Hat.out, srB.out, whB.out, curB.out, Nat.add_comm _ _, hbB⟩
        case round =>
          obtain ⟨wi, rfl⟩ : ∃ wi : World, wi = wr := ⟨_, rfl⟩
          obtain ⟨t, V1, K1, v4, bs1, hti, rfl, rfl, rfl, hat1, hsr1, hwh1, hcur1, hcnt, hbi⟩ := hrel
          have hfew1 := seq_few Hp.out hat1.out.nd hat1.out.reach
          have hwi : W.heap.size + 1 ≤ wi.heap.size := Nat.le_trans hw9W hbi.out.size
          clear srB whB curB hbB
          by_cases hlt : t < p.length
          · have hatl : t < s.s3.at_.length := by show t < (s.pc.map _).length; rw [List.length_map, Hok.out.pcl]; exact hlt
            obtain ⟨b3, o3, e3, hb3, j0⟩ := hcur1.out.rep.at_.get hatl
            have hatv : s.s3.at_[t] = ((pcS s t : Nat) : Int) := by have h := s3_at (s := s) t; rw [List.getD_eq_getElem?_getD, List.getElem?_eq_getElem hatl] at h; exact h
            rw [hatv] at j0
            have j0 := Le.hidP _ _ _ _ j0
            obtain ⟨bp, op, A5, c5, e5, hbp, k0, _, hins⟩ := SlR.getSub (HPU.out wi hbi.out).1 hlt
            have hth := thrP_get hlt
            rw [← hth] at k0
            have x0 := Le.hidP _ _ _ _ hcur1.out.q0
            have hatI : (t : Int) < (s.s3.at_.length : Int) := by omega
            have htI : (t : Int) < (p.length : Int) := by omega
            have hpcb := Hok.out.pcb t
            rw [e3] at x0
            have Hcur1 : Hid (QCur (hidP (HQ (W.heap.size + 1) g R bs1 v4.ownBlock) wi) S6 (some ⟨b3, o3, none⟩) A2 A3 A4 c1 c2 c3 c4 s.s3) := by rw [← e3]; exact hcur1.out
            have HE3 := Lib.hid e3
            have He5 := Lib.hid e5
            subst e5
            have f0 := fun n : Ext wi => n.le _ _ x0
            have f1 := fun n : Ext wi => n.le _ _ j0
            have f2 := fun n : Ext wi => n.le _ _ k0
            clear x0 j0 k0 hins hth hcur1 hatv hatl e3
            go_upto_region 14 with (fail)
            refine wp_region_ext _ (by kernel_rfl) (by kernel_rfl) (Below.refl _ _) ?_
            repeat (go_big_quiet_step (fail))
            refine wpQuiet_nil ?_
            rintro wn ⟨⟨_, hbn⟩, rfl⟩
            have hsrn := Lib.hid (hsr1.out.below hbn)
            have hcurn := Lib.hid (Hcur1.out.below hbn)
            have hbn9 : Hid (Below (W.heap.size + 1) w9 wn) := hbi.out.trans (hbn.mono hwi)
            have hwn : W.heap.size + 1 ≤ wn.heap.size := Nat.le_trans hwi hbn.size
            clear f0 f1 f2 hsr1 hbi hbn Hcur1
            cases hon : onS p s t
            · have hpe : pcS s t = (thrP p t).length := by
                unfold onS at hon
                have := of_decide_eq_false hon
                omega
              have hd : (((pcS s t : Nat) : Int) == (((thrP p t).length : Nat) : Int)) = true := by rw [beq_iff_eq, hpe]
              have Hat' : Hid (DfsAt (sucS p) (st0 p) V1 K1 s (((List.range (t + 1)).filter (onS p s)).length)) := by
                show DfsAt _ _ _ _ _ _
                rw [filter_range_succ, hon]
                exact hat1.out
              have Hcur' : Hid (QCur (hidP (HQ (W.heap.size + 1) g R bs1 v4.ownBlock) wn) S6 A1 A2 A3 A4 c1 c2 c3 c4 s.s3) := by rw [HE3.out]; exact hcurn.out
              clear hpe hon hat1 hcurn
              go_wp2_with fail
              go_roundg (p.length - (t + 1))
              case measure => omega
              case rel => exact ⟨t + 1, V1, K1, _, bs1, by omega, rfl, rfl, by go_num, Hat'.out, hsrn.out, hwh1.out, Hcur'.out, hcnt, hbn9.out⟩
            · have hlt2 : pcS s t < (thrP p t).length := by
                unfold onS at hon
                exact of_decide_eq_true hon
              have hd : (((pcS s t : Nat) : Int) == (((thrP p t).length : Nat) : Int)) = false := by rw [beq_eq_false_iff_ne]; omega
              obtain ⟨hfl, hfg⟩ := filter_range_get (f := onS p s) hlt hon
              have htm : t ∈ mvS p s := mem_mvS.2 ⟨hlt, hlt2⟩
              obtain ⟨nx, hnx⟩ : ∃ nx, nx = nxS p s t := ⟨_, rfl⟩
              have hokn : StOk p nx := by rw [hnx]; exact Hok.out.next Hp.out htm
              have Hokn := Lib.hid hokn
              have Hil : Hid (((List.range t).filter (onS p s)).length < (sucS p s).length) := by
                show _ < _
                unfold sucS
                rw [List.length_map]
                exact hfl
              have Hig : Hid ((sucS p s)[((List.range t).filter (onS p s)).length]'Hil.out = nx) := by
                show _ = _
                rw [hnx]
                unfold sucS
                rw [List.getElem_map]
                congr 1
              have Hi1 : Hid (((List.range (t + 1)).filter (onS p s)).length = ((List.range t).filter (onS p s)).length + 1) := by
                show _ = _
                rw [filter_range_succ, hon]
                rfl
              have hlen7 := (thr_ok Hp.out t).1
              have hregl : s.s3.regs.length = p.length * 3 := Hok.out.regl
              have hdoC : Hid (∀ U, Below (W.heap.size + 1) w9 U → QCur (hidP (HQ (W.heap.size + 1) g R bs1 v4.ownBlock) U) S6 (some ⟨b3, o3, none⟩) A2 A3 A4 c1 c2 c3 c4 s.s3 → Calls Tryz.prog 35 #[.slice (some ⟨bp, op, none⟩) p.length cp, .agg #[.slice (some ⟨b3, o3, none⟩) s.s3.at_.length c1, .slice A2 s.s3.regs.length c2, .slice A3 s.s3.mem.length c3, .slice A4 s.s3.buf.length c4], .int .i64 t] U (RetS4 U nx.s3)) := fun U hU hC => by
                have h := l3Do_any p s.s3 t (pcS s t) (insS p s t) (ins_ok Hp.out hlt2) hlt (by omega) (s3_at t) hlt2 rfl (by omega) (by show (s.pc.map _).length = _; rw [List.length_map]; exact Hok.out.pcl) hregl Hok.out.meml (by show ([] : List (List Int)).length ≤ _; simp) (fun xs hxs => by cases hxs) (by omega) U _ (HPU.out U hU).1 _ A2 A3 A4 c1 c2 c3 c4 (hC.rep.le (Le.hidP _ _))
                rw [do3_next, ← hnx] at h
                exact h
              have hdo := hdoC.out wn hbn9.out hcurn.out
              have x0 := Le.hidP _ _ _ _ hcurn.out.q0
              have x1 := Le.hidP _ _ _ _ hcurn.out.q1
              have x2 := Le.hidP _ _ _ _ hcurn.out.q2
              have x3 := Le.hidP _ _ _ _ hcurn.out.q3
              have hS6n := hcurn.out.size
              clear hon hfl hfg htm hnx hokn hdoC hregl
              go_wp2_with fail
              refine hdo.mono ?_
              rintro ej wj ⟨D1, D2, D3, D4, d1, d2, d3, d4, rfl, hrj, hbj⟩
              have hsrj := hsrn.out.below hbj
              have hrepj : Rep4 (hidP (HQ (W.heap.size + 1) g R bs1 v4.ownBlock) wj) D1 D2 D3 D4 d1 d2 d3 d4 nx.s3 := hrj.le (Le.above_hidP (fun b hb => hsrn.out.ltH hwn hb))
              have hcurNx := QCur.new (t := 41) (fun b hb => hsrj.ltH (Nat.le_trans hwn hbj.size) hb) hrepj
              have hcurj := hcurn.out.below hbj
              obtain ⟨wk, hwk⟩ : ∃ wk, wk = wj.alloc (.cells #[.slice D1 nx.s3.at_.length d1, .slice D2 nx.s3.regs.length d2, .slice D3 nx.s3.mem.length d3, .slice D4 nx.s3.buf.length d4] 41) := ⟨_, rfl⟩
              have hbjk : Below wj.heap.size wj wk := by rw [hwk]; exact (Below.refl _ _).alloc (Nat.le_refl _) _
              have hsrk := Lib.hid (hsrj.below hbjk)
              have hcurk := Lib.hid (hcurj.below hbjk)
              rw [← hwk] at hcurNx
              have hcurN := Lib.hid hcurNx
              obtain ⟨N8, hN8⟩ : ∃ N8, N8 = wj.heap.size := ⟨_, rfl⟩
              rw [← hN8] at hcurN
              have hbj9 : Below (W.heap.size + 1) w9 wj := hbn9.out.trans (hbj.mono hwn)
              have hbk9 : Below (W.heap.size + 1) w9 wk := hbj9.trans (hbjk.mono (Nat.le_trans hw9W hbj9.size))
              have hkl := keyL_len Hp.out Hokn.out
              have hwk1 : W.heap.size + 1 ≤ wk.heap.size := Nat.le_trans hw9W hbk9.size
              have hkey := l3Key_any nx.s3 (keyL_by Hp.out Hokn.out) hkl.1 (by omega) wk D1 D2 D3 D4 d1 d2 d3 d4 (hcurN.out.rep.le (Le.hidP _ _))
              have hkz : (strOfNums (keyL nx.s3)).size ≤ 1000000 := by rw [strOfNums_size]; omega
              obtain ⟨kn, hkn⟩ : ∃ kn, kn = strOfNums (keyL nx.s3) := ⟨_, rfl⟩
              rw [← hkn] at hkey hkz
              have Hkn : Hid (kn = kyB nx.s3) := hkn
              clear hdo x0 x1 x2 x3 hrj hbj hsrj hrepj hcurNx hcurj hbjk hkn hsrn hcurn hbj9 hbn9 hkl
              go_upto_region 16 with (fail)
              rw [← hwk]
              rw [← hN8]
              clear hwk hN8
              have x0 := Le.hidP _ _ _ _ hcurN.out.q0
              have x1 := Le.hidP _ _ _ _ hcurN.out.q1
              have x2 := Le.hidP _ _ _ _ hcurN.out.q2
              have x3 := Le.hidP _ _ _ _ hcurN.out.q3
              have hNk := hcurN.out.size
              go_wp2_with fail
              refine hkey.mono ?_
              rintro el wl ⟨rfl, hbl⟩
              have hsrl := Lib.hid (hsrk.out.below hbl)
              have hcurl := Lib.hid (hcurk.out.below hbl)
              have hcurNl := Lib.hid (hcurN.out.below hbl)
              have hbl9 : Below (W.heap.size + 1) w9 wl := hbk9.trans (hbl.mono hwk1)
              obtain ⟨xss, htab, hks1, hks2⟩ := hsrl.out.tab
              have hfd := l3Found_any kn hkz wl g xss bs1 htab
              have Htab := Lib.hid (And.intro htab (And.intro hks1 hks2))
              have Hmem : Hid (inB (xss (hashS kn)) kn = true ↔ nx ∈ V1) := by
                show _ ↔ _
                rw [inB_iff, hks1, List.mem_map]
                constructor
                · rintro ⟨u, hu, he⟩
                  have : u = nx := keyS_inj Hp.out (reach_ok Hp.out (hat1.out.reach u hu)) Hokn.out (by rw [← kyB_s3, ← kyB_s3, he, Hkn.out])
                  rw [← this]; exact hu
                · intro hu
                  exact ⟨nx, hu, Hkn.out.symm⟩
              clear hkey x0 x1 x2 x3 hsrk hcurk hcurN hbl htab hks1 hks2 hNk hbk9
              generalize hfb : inB (xss (hashS kn)) kn = fb at hfd Hmem
              have Hfb := Lib.hid hfb
              clear hfb
              go_wp2_with fail
              refine hfd.mono ?_
              rintro em wm ⟨rfl, hbm⟩
              have hsrm := Lib.hid (hsrl.out.below hbm)
              have hcurm := Lib.hid (hcurl.out.below hbm)
              have hcurNm := Lib.hid (hcurNl.out.below hbm)
              have hwl1 : W.heap.size + 1 ≤ wl.heap.size := Nat.le_trans hw9W hbl9.size
              have hbm9 : Below (W.heap.size + 1) w9 wm := hbl9.trans (hbm.mono hwl1)
              have htabm := Htab.out.1.below hbm
              clear hfd hsrl hcurl hcurNl hbl9
              cases fb
              · have Hnin : Hid (nx ∉ V1) := fun h => by have := Hmem.out.2 h; cases this
                have hl5 : (xss (hashS kn)).length ≤ 5000000000000 := by
                  have := Htab.out.2.2 (hashS kn)
                  rw [List.length_map] at this
                  omega
                have hmk := l3Mark_any kn hkz wm g xss bs1 htabm hl5
                clear htabm hbm
                go_wp2_with fail
                refine hmk.mono ?_
                rintro eo wo2 ⟨rfl, bs2, ht2, hm2, hbs2⟩
                have hsro := hsrm.out.mark Htab.out.2.1 Htab.out.2.2 ht2 hm2 hbs2 (Nat.le_trans hw9W hbm9.size)
                have hcuro := hcurm.out.le (hsrm.out.leM hm2 hbs2)
                have hcurNo := hcurNm.out.le (hsrm.out.leM hm2 hbs2)
                have hbo9 : Below (W.heap.size + 1) w9 wo2 := hbm9.trans (hm2.below (fun b hb => hsrm.out.low b (.inl hb)) (Nat.le_trans hw9W hbm9.size))
                have hwo1 : W.heap.size + 1 ≤ wo2.heap.size := Nat.le_trans hw9W hbo9.size
                have hksn : Hid (List.map (fun s => kyB s.s3) V1 ++ [kn] = (V1 ++ [nx]).map fun s => kyB s.s3) := by show _ = _; rw [List.map_append, Hkn.out]; rfl
                rw [hksn.out] at hsro
                have hbX : Below wo2.heap.size wo2 (wo2.alloc (.cells #[.slice D1 nx.s3.at_.length d1, .slice D2 nx.s3.regs.length d2, .slice D3 nx.s3.mem.length d3, .slice D4 nx.s3.buf.length d4] 41)) := (Below.refl _ _).alloc (Nat.le_refl _) _
                have HsrX := Lib.hid (hsro.below hbX)
                have HcurX := Lib.hid (hcuro.below hbX)
                have HcurNX := Lib.hid (hcurNo.below hbX)
                have x0 := Le.hidP _ _ _ _ hcurNo.q0
                have x1 := Le.hidP _ _ _ _ hcurNo.q1
                have x2 := Le.hidP _ _ _ _ hcurNo.q2
                have x3 := Le.hidP _ _ _ _ hcurNo.q3
                have hNo := hcurNo.size
                obtain ⟨cs4, hown4, hq4⟩ := HsrX.out.stk
                have Hown4 := Lib.hid hown4
                have Hq4 := Lib.hid hq4
                have hK1 : (K1.map St.s3).length = K1.length := List.length_map ..
                have hK5 : K1.length ≤ 1000000000000 := by have := hwh1.out.2.2; omega
                rw [hK1] at hown4
                have Hown4' := Lib.hid hown4
                clear hown4 hq4 hmk ht2 hm2 hbs2 hsro hcuro hcurNo hsrm hcurm hcurNm hK1 hl5 hbm9
                go_wp2_with (at_builtin; refine wpList_append_lies (o := ⟨some 82, _, _, _, _, _⟩) _ (by rfl) _ _ _ (by rfl) (W.heap.size + 1) 41 i0 _ 4 96 Tryz.underlying109 hi0 hz0 hz1 hz2 rfl (by omega) v4 K1.length cs4 (by rfl) Hown4'.out ⟨wo2.heap.size, 0, none⟩ 1 1 [.slice D1 nx.s3.at_.length d1, .slice D2 nx.s3.regs.length d2, .slice D3 nx.s3.mem.length d3, .slice D4 nx.s3.buf.length d4] (by rfl) (by rfl) (World.news_of_block (cs := #[.slice D1 nx.s3.at_.length d1, .slice D2 nx.s3.regs.length d2, .slice D3 nx.s3.mem.length d3, .slice D4 nx.s3.buf.length d4]) (t := 41) (fr := (0, 0)) (heap_alloc_new wo2 _)) (by simp [Value.oneCell']) (by omega) (by simp [maxLen]; omega) (by omega) (by simp; omega) (wo2.heap.size + 1) (by simp) ?_; intro gg cap wz hownz hgrowz hatz hltz)
                have h4z : ∀ b, (Value.slice (some ⟨gg, 0, none⟩) (K1.length + 1) cap).ownBlock = some b → v4.ownBlock = some b ∨ (wo2.alloc (.cells #[.slice D1 nx.s3.at_.length d1, .slice D2 nx.s3.regs.length d2, .slice D3 nx.s3.mem.length d3, .slice D4 nx.s3.buf.length d4] 41)).heap.size ≤ b := fun b hb => by
                  simp only [Value.ownBlock, Option.some.injEq] at hb
                  subst hb
                  rcases hatz with h | h
                  · exact .inl h
                  · right; simp; omega
                have hrz : RowOf 4 (QS4 (hidP (HQ (W.heap.size + 1) g R bs2 (Value.slice (some ⟨gg, 0, none⟩) (K1.length + 1) cap).ownBlock) wz)) wz (W.heap.size + 1) 41 (.slice (some ⟨gg, 0, none⟩) (K1.length + 1) cap) (K1.map St.s3 ++ [nx.s3]) := by
                  refine RowOf.snoc (news := [.slice D1 nx.s3.at_.length d1, .slice D2 nx.s3.regs.length d2, .slice D3 nx.s3.mem.length d3, .slice D4 nx.s3.buf.length d4]) (qs4_congr _) Hown4.out (fun i hi => QS4.le (HsrX.out.leP hgrowz h4z) (Hq4.out i hi)) rfl ⟨D1, D2, D3, D4, d1, d2, d3, d4, rfl, rfl, rfl, rfl, HcurNX.out.rep.le (HsrX.out.leP hgrowz h4z)⟩ ?_
                  rw [List.length_map]
                  exact hownz
                have hsrz := HsrX.out.push hgrowz h4z (by simp; omega) hrz
                have Hsrz : Hid (SrS (W.heap.size + 1) g R wz bs2 (.slice (some ⟨gg, 0, none⟩) (K1.length + 1) cap) (nn + 1) ((V1 ++ [nx]).map fun s => kyB s.s3) ((K1 ++ [nx]).map St.s3) L2 go2 oo2 co2) := by
                  show SrS _ _ _ _ _ _ _ _ _ _ _ _ _
                  rw [List.map_append (l₁ := K1)]
                  exact hsrz
                have Hcur' : Hid (QCur (hidP (HQ (W.heap.size + 1) g R bs2 (Value.slice (some ⟨gg, 0, none⟩) (K1.length + 1) cap).ownBlock) wz) S6 A1 A2 A3 A4 c1 c2 c3 c4 s.s3) := by rw [HE3.out]; exact HcurX.out.le (HsrX.out.leP hgrowz h4z)
                have hbz9 : Hid (Below (W.heap.size + 1) w9 wz) := below_of_grown (hbo9.alloc hwo1 _) hgrowz (by simp; omega) (fun b hb => HsrX.out.low b (.inr (.inl hb)))
                have Hat' : Hid (DfsAt (sucS p) (st0 p) (V1 ++ [nx]) (K1 ++ [nx]) s (((List.range (t + 1)).filter (onS p s)).length)) := by
                  have h := hat1.out.new Hil.out (by rw [Hig.out]; exact Hnin.out)
                  rw [Hig.out] at h
                  show DfsAt _ _ _ _ _ _
                  rw [Hi1.out]
                  exact h
                have Hwh' : Hid (Wh (doneS p) outS (V1 ++ [nx]) (K1 ++ [nx]) L2) := hwh1.out.new Hnin.out
                have hcnt' : (V1 ++ [nx]).length + Kt.length = (K1 ++ [nx]).length + V.length := by simp only [List.length_append, List.length_singleton]; omega
                clear hownz hgrowz hatz h4z hrz hsrz x0 x1 x2 x3
                go_wp2_with fail
                go_roundg (p.length - (t + 1))
                case measure => omega
                case rel => exact ⟨t + 1, V1 ++ [nx], K1 ++ [nx], _, bs2, by omega, rfl, rfl, by go_num, Hat'.out, Hsrz.out, Hwh'.out, Hcur'.out, hcnt', hbz9.out⟩
              · have Hin : Hid (nx ∈ V1) := Hmem.out.1 rfl
                have Hat' : Hid (DfsAt (sucS p) (st0 p) V1 K1 s (((List.range (t + 1)).filter (onS p s)).length)) := by
                  show DfsAt _ _ _ _ _ _
                  rw [Hi1.out]
                  exact hat1.out.seen Hil.out (by rw [Hig.out]; exact Hin.out)
                have Hcur' : Hid (QCur (hidP (HQ (W.heap.size + 1) g R bs1 v4.ownBlock) wm) S6 A1 A2 A3 A4 c1 c2 c3 c4 s.s3) := by rw [HE3.out]; exact hcurm.out
                clear htabm hat1 hcurm hbm
                go_wp2_with fail
                go_roundg (p.length - (t + 1))
                case measure => omega
                case rel => exact ⟨t + 1, V1, K1, _, bs1, by omega, rfl, rfl, by go_num, Hat'.out, hsrm.out, hwh1.out, Hcur'.out, hcnt, hbm9⟩
          · obtain rfl : t = p.length := by omega
            have Hdf : Hid (Dfs (sucS p) (st0 p) V1 K1) := hat1.out.fin (by unfold sucS mvS; rw [List.length_map]; exact Nat.le_refl _)
            have Hnn' : Hid (nn + 1 = (V1.length : Int) - (K1.length : Int)) := by show _ = _; rw [Hnn.out]; omega
            have Hsr' : Hid (SrS (W.heap.size + 1) g R wi bs1 v4 ((V1.length : Int) - (K1.length : Int)) (V1.map fun s => kyB s.s3) (K1.map St.s3) L2 go2 oo2 co2) := by show SrS _ _ _ _ _ _ _ _ _ _ _ _ _; rw [← Hnn'.out]; exact hsr1.out
            have hcl : gk - 1 + V1.length = 5000000000000 + K1.length := by omega
            clear hat1 hsr1
            go_wp2_with fail
            go_roundg (gk - 1)
            case measure => omega
            case rel => exact ⟨V1, K1, L2, _, bs1, go2, oo2, co2, hcl, rfl, Hdf.out, Hsr'.out, hwh1.out, hbi.out⟩

end Go.Proofs.YtcckflijaolnkaaGreat
