/-
  The reference's search with one memory, in plain words: its states are those of the machine. No function in sight.
-/
import Derived.Test.YtcckflijaolnkaaSpSr
namespace Go.Proofs.Ytcckflijaolnkaa
open Go.RowKit
set_option linter.unusedVariables false
set_option maxRecDepth 100000

def St.s3 (s : St) : S3 := ⟨s.pc.map (fun n => ((n : Nat) : Int)), s.regs, s.mem, []⟩
theorem s3_at {s : St} (t : Nat) : s.s3.at_.getD t 0 = ((pcS s t : Nat) : Int) := by
  unfold St.s3 pcS
  simp only [List.getD_eq_getElem?_getD, List.getElem?_map]
  cases s.pc[t]? <;> rfl
theorem s30_st0 (p : Prg) : s30 p.length 0 = (st0 p).s3 := by
  unfold s30 st0 St.s3
  simp
theorem do3_next {p : Prg} {s : St} {t : Nat} : do3 s.s3 t (insS p s t) = (nxS p s t).s3 := by
  unfold nxS
  generalize insS p s t = x
  have hv : val3 s.s3 t x = valS s t x := rfl
  unfold do3 doS
  rw [s3_at, hv]
  unfold St.s3
  simp only [S3.mk.injEq, and_true]
  rw [List.map_set]
  exact ⟨rfl, rfl⟩
theorem on3_s3 {p : Prg} {s : St} {t : Nat} : on3 p s.s3 t = onS p s t := by
  unfold on3 onS
  rw [s3_at]
  by_cases h : pcS s t < (thrP p t).length
  · rw [decide_eq_true h, decide_eq_true (by omega)]
  · rw [decide_eq_false h, decide_eq_false (by omega)]
theorem done3_s3 {p : Prg} {s : St} : done3 p s.s3 = doneS p s := by
  unfold done3 doneS
  congr 1
  funext t
  rw [on3_s3]
theorem keyL_s3 {s : St} : (keyL s.s3).map Int.toNat = kS s := by
  unfold keyL kS St.s3
  simp only [List.flatMap_nil, List.append_nil, List.map_append, List.map_map, List.append_assoc]
  congr 1
  exact (List.map_congr_left fun n _ => by simp).trans (List.map_id _)
theorem kyB_s3 {s : St} : kyB s.s3 = keyS s := by
  unfold kyB keyS byt strOfNums
  rw [← keyL_s3, List.map_map]
  rfl
theorem keyL_by {p : Prg} (hp : PrgOk p) {s : St} (hs : StOk p s) : By (keyL s.s3) := fun v hv => by
  have h := kS_lt hp hs
  unfold keyL St.s3 at hv
  simp only [List.flatMap_nil, List.append_nil] at hv
  rcases List.mem_append.1 hv with hv | hv
  · rcases List.mem_append.1 hv with hv | hv
    · obtain ⟨n, hn, rfl⟩ := List.mem_map.1 hv
      have := h n (by unfold kS; exact List.mem_append_left _ hn)
      omega
    · have := hs.regb v hv
      obtain ⟨h1, h2⟩ := this
      omega
  · have := hs.memb v hv
    obtain ⟨h1, h2⟩ := this
    omega
theorem keyL_len {p : Prg} (hp : PrgOk p) {s : St} (hs : StOk p s) : 0 < (keyL s.s3).length ∧ (keyL s.s3).length ≤ 15 := by
  have h1 := hs.pcl
  have h2 := hs.regl
  have h3 := hs.meml
  have := hp.1.1
  unfold keyL St.s3
  simp only [List.length_append, List.length_map, List.flatMap_nil, List.length_nil]
  omega
theorem putL_length : ∀ (L : List (List Int)) (o : List Int), (putL L o).length ≤ L.length + 1
  | [], o => by simp [putL]
  | a :: L, o => by
    have := putL_length L o
    rw [putL]
    split
    · simp only [List.length_cons]; omega
    · split
      · simp
      · simp
/-- The outcomes of what has been gone through. -/
def Wh {σ : Type} (done : σ → Bool) (out : σ → List Int) (V K : List σ) (L : List (List Int)) : Prop := Asc L ∧ (∀ y, y ∈ L ↔ ∃ s ∈ V, s ∉ K ∧ done s = true ∧ out s = y) ∧ L.length + K.length ≤ V.length
section
variable {σ : Type} {done : σ → Bool} {out : σ → List Int} {V K : List σ} {L : List (List Int)} {s : σ}
theorem Wh.start (s0 : σ) : Wh done out [s0] [s0] [] := ⟨by simp [Asc], fun y => ⟨fun h => by simp at h, fun ⟨s, h1, h2, _⟩ => absurd h1 h2⟩, by simp⟩
theorem Wh.pop (h : Wh done out V (K ++ [s]) L) (hd : done s = false) : Wh done out V K L := by
  obtain ⟨h1, h2, h3⟩ := h
  refine ⟨h1, fun y => (h2 y).trans ⟨?_, ?_⟩, by simp only [List.length_append, List.length_singleton] at h3; omega⟩
  · rintro ⟨t, k1, k2, k3, k4⟩
    exact ⟨t, k1, fun hm => k2 (List.mem_append_left _ hm), k3, k4⟩
  · rintro ⟨t, k1, k2, k3, k4⟩
    refine ⟨t, k1, fun hm => ?_, k3, k4⟩
    rcases List.mem_append.1 hm with hm | hm
    · exact k2 hm
    · rw [List.mem_singleton.1 hm, hd] at k3
      cases k3
theorem Wh.popOut (h : Wh done out V (K ++ [s]) L) (hd : done s = true) (hs : s ∈ V) (hk : s ∉ K) : Wh done out V K (putL L (out s)) := by
  obtain ⟨h1, h2, h3⟩ := h
  refine ⟨putL_asc _ _ h1, fun y => ?_, by have := putL_length L (out s); simp only [List.length_append, List.length_singleton] at h3; omega⟩
  rw [putL_mem, h2]
  constructor
  · rintro (rfl | ⟨t, k1, k2, k3, k4⟩)
    · exact ⟨s, hs, hk, hd, rfl⟩
    · exact ⟨t, k1, fun hm => k2 (List.mem_append_left _ hm), k3, k4⟩
  · rintro ⟨t, k1, k2, k3, k4⟩
    by_cases e : out t = out s
    · left; rw [← k4, e]
    · refine .inr ⟨t, k1, fun hm => ?_, k3, k4⟩
      rcases List.mem_append.1 hm with hm | hm
      · exact k2 hm
      · exact e (by rw [List.mem_singleton.1 hm])
theorem Wh.new (h : Wh done out V K L) (hs : s ∉ V) : Wh done out (V ++ [s]) (K ++ [s]) L := by
  obtain ⟨h1, h2, h3⟩ := h
  refine ⟨h1, fun y => (h2 y).trans ⟨?_, ?_⟩, by simp only [List.length_append, List.length_singleton]; omega⟩
  · rintro ⟨t, k1, k2, k3, k4⟩
    refine ⟨t, List.mem_append_left _ k1, fun hm => ?_, k3, k4⟩
    rcases List.mem_append.1 hm with hm | hm
    · exact k2 hm
    · exact hs (by rw [← List.mem_singleton.1 hm]; exact k1)
  · rintro ⟨t, k1, k2, k3, k4⟩
    rcases List.mem_append.1 k1 with k1 | k1
    · exact ⟨t, k1, fun hm => k2 (List.mem_append_left _ hm), k3, k4⟩
    · exact absurd (List.mem_append_right _ k1) k2
theorem Wh.len (h : Wh done out V K L) {m : Nat} (ho : ∀ s ∈ V, (out s).length = m) : ∀ x ∈ L, x.length = m := fun x hx => by
  obtain ⟨s, h1, _, _, h4⟩ := (h.2.1 x).1 hx
  rw [← h4]
  exact ho s h1
end
/-- The state that is looked at: its block, itself. -/
structure QCur (a : World) (S : Nat) (A1 A2 A3 A4 : Option Addr) (c1 c2 c3 c4 : Nat) (s : S3) : Prop where
  q0 : a.cell? ⟨S, 0, none⟩ = some (.slice A1 s.at_.length c1)
  q1 : a.cell? ⟨S, 1, none⟩ = some (.slice A2 s.regs.length c2)
  q2 : a.cell? ⟨S, 2, none⟩ = some (.slice A3 s.mem.length c3)
  q3 : a.cell? ⟨S, 3, none⟩ = some (.slice A4 s.buf.length c4)
  rep : Rep4 a A1 A2 A3 A4 c1 c2 c3 c4 s
theorem QCur.le {a a' : World} {S : Nat} {A1 A2 A3 A4 : Option Addr} {c1 c2 c3 c4 : Nat} {s : S3} (h : QCur a S A1 A2 A3 A4 c1 c2 c3 c4 s) (hl : Le a a') : QCur a' S A1 A2 A3 A4 c1 c2 c3 c4 s := ⟨hl _ _ h.q0, hl _ _ h.q1, hl _ _ h.q2, hl _ _ h.q3, h.rep.le hl⟩
theorem QCur.lt {a : World} {S : Nat} {A1 A2 A3 A4 : Option Addr} {c1 c2 c3 c4 : Nat} {s : S3} (h : QCur a S A1 A2 A3 A4 c1 c2 c3 c4 s) : S < a.heap.size := World.block_lt_of_cell? _ _ h.q0
theorem QCur.below {P : Nat → Prop} {w w' : World} {S : Nat} {A1 A2 A3 A4 : Option Addr} {c1 c2 c3 c4 : Nat} {s : S3} (h : QCur (hidP P w) S A1 A2 A3 A4 c1 c2 c3 c4 s) (hb : Below w.heap.size w w') : QCur (hidP P w') S A1 A2 A3 A4 c1 c2 c3 c4 s := h.le (Le.hidP_below hb (fun _ _ => .inr trivial))
theorem QCur.new {P : Nat → Prop} {w : World} {A1 A2 A3 A4 : Option Addr} {c1 c2 c3 c4 : Nat} {s : S3} {t : TypeId} (hP : ∀ b, P b → b < w.heap.size) (hr : Rep4 (hidP P w) A1 A2 A3 A4 c1 c2 c3 c4 s) : QCur (hidP P (w.alloc (.cells #[.slice A1 s.at_.length c1, .slice A2 s.regs.length c2, .slice A3 s.mem.length c3, .slice A4 s.buf.length c4] t))) w.heap.size A1 A2 A3 A4 c1 c2 c3 c4 s := by
  have ho := Own.new w t #[.slice A1 s.at_.length c1, .slice A2 s.regs.length c2, .slice A3 s.mem.length c3, .slice A4 s.buf.length c4]
  have hn : ¬ P w.heap.size := fun h => by have := hP _ h; omega
  exact ⟨cell_hidP.2 ⟨hn, ho.cell (i := 0) rfl⟩, cell_hidP.2 ⟨hn, ho.cell (i := 1) rfl⟩, cell_hidP.2 ⟨hn, ho.cell (i := 2) rfl⟩, cell_hidP.2 ⟨hn, ho.cell (i := 3) rfl⟩, hr.le (Le.hidP_below ((Below.refl _ _).alloc (Nat.le_refl _) _) (fun _ _ => .inr trivial))⟩
theorem QCur.size {P : Nat → Prop} {w : World} {S : Nat} {A1 A2 A3 A4 : Option Addr} {c1 c2 c3 c4 : Nat} {s : S3} (h : QCur (hidP P w) S A1 A2 A3 A4 c1 c2 c3 c4 s) : S < w.heap.size := World.block_lt_of_cell? _ _ (cell_hidP.1 h.q0).2

end Go.Proofs.Ytcckflijaolnkaa
