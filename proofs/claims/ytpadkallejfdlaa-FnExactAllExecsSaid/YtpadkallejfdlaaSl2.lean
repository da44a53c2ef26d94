/-
  slices.Delete at a row of one's own.
-/
import Derived.Test.YtpadkallejfdlaaGrw
namespace Go.Proofs.Ytpadkallejfdlaa
open Go.RowKit
set_option linter.unusedVariables false
set_option maxRecDepth 100000

/-- A row's cells written over. -/
theorem put_row {w : World} {base g cap : Nat} {cur : Array Value} (hg : w.heap[g]? = some (.cells cur 3 (0, 0))) (hb : base ≤ g) (hcm : cap ≤ maxLen) (hc : cur.size = cap * 1) (d : Array Int) (hd : d.size ≤ cap) (ys : List Int) (hy : d.toList.take ys.length = ys) (q : Nat) :
    RowI (Go.Sort.putRow (Value.int .i64) (Go.Sort.ahead w q) g 0 d) base (.slice (some ⟨g, 0, none⟩) ys.length cap) ys ∧ w.grownBy (Go.Sort.putRow (Value.int .i64) (Go.Sort.ahead w q) g 0 d) (some g) := by
  have hle : ys.length ≤ d.size := by
    have := congrArg List.length hy
    rw [List.length_take] at this
    simp at this
    omega
  have hmap : (Go.Sort.putRow (Value.int .i64) (Go.Sort.ahead w q) g 0 d).heap[g]? = some (.cells (Go.Sort.putCells (Value.int .i64) 0 d cur) 3 (0, 0)) := by
    simp [Go.Sort.putRow, Go.Sort.mapBlock, Array.getElem?_modify, Go.Sort.ahead, hg, Go.Sort.onCells]
  refine ⟨row_of_map ⟨by simp, .inr ⟨g, cap, _, rfl, hb, hmap, by omega, hcm, by simpa [Go.Sort.putCells] using hc, ?_⟩⟩, rfl, rfl, rfl, by simp [Go.Sort.ahead, Go.Sort.putRow, Go.Sort.mapBlock], fun i hi hne => ?_⟩
  · have h := take_mapIdx_put d cur (by omega)
    rw [Nat.mul_one]
    have h2 := congrArg (List.take ys.length) h
    rw [List.take_take, Nat.min_eq_left hle, ← List.map_take, hy] at h2
    exact h2
  · simp only [Go.Sort.putRow, Go.Sort.mapBlock, Array.getElem?_modify, Go.Sort.ahead]
    rw [if_neg (fun e => hne (congrArg some e.symm))]
theorem row_holds {w : World} {g : Nat} {cur : Array Value} {xs : List Int} (hg : w.heap[g]? = some (.cells cur 3 (0, 0))) (ht : cur.toList.take (xs.length * 1) = xs.map (Value.int .i64)) : Go.Sort.Holds (Value.int .i64) w g 0 xs.toArray := fun j hj => by
  have hj' : j < xs.length := by simpa using hj
  have hcs : cur[j]? = some (.int .i64 (xs.getD j 0)) := by
    have h1 : (xs.map (Value.int .i64))[j]? = cur.toList[j]? := by rw [← ht, List.getElem?_take, if_pos (by omega)]
    rw [← Array.getElem?_toList, ← h1]
    simp [hj']
  refine ⟨?_, by simp [World.frozen?, hg]⟩
  rw [Nat.zero_add, cell_of_row w g j cur 3 (0, 0) hg, hcs]
  simp [hj']
theorem delI_any (xs : List Int) (i : Nat) (hi : i < xs.length) (w : World) (base : Nat) (A : Option Addr) (c : Nat) (h : RowI w base (.slice A xs.length c) xs) :
    Calls Try.prog 105 #[.slice A xs.length c, .int .i64 i, .int .i64 ((i : Int) + 1)] w (fun e w' => e = .returned (.slice A (xs.eraseIdx i).length c) ∧ RowI w' base (.slice A (xs.eraseIdx i).length c) (xs.eraseIdx i) ∧ w.grownBy w' (Value.slice A xs.length c).ownBlock) := by
  have hm := row_to_map h
  rcases hm.2 with ⟨e, h0⟩ | ⟨g, cap, cur, e, hb, hg, hn, hcm, hc, ht⟩
  · omega
  · injection e with e1 _ e3
    subst e1 e3
    have hle : (xs.eraseIdx i).length = xs.length - (i + 1 - i) := by rw [List.length_eraseIdx_of_lt hi]; omega
    have hD := Try.slices_Delete_int g 0 c i (i + 1) xs w (row_holds hg ht) hn (by unfold maxLen at hcm; omega) (by omega) (by omega)
    rw [show ((i + 1 : Nat) : Int) = (i : Int) + 1 by omega] at hD
    refine hD.mono fun e w' ⟨h1, q, h2⟩ => ?_
    have hlen : ((xs.take i ++ xs.drop (i + 1) ++ List.replicate (i + 1 - i) (0 : Int)).toArray).size ≤ c := by simp; omega
    have hp := put_row hg hb hcm hc (xs.take i ++ xs.drop (i + 1) ++ List.replicate (i + 1 - i) 0).toArray hlen (xs.eraseIdx i) (by
      rw [← List.eraseIdx_eq_take_drop_succ]
      simp) q
    rw [← h2] at hp
    exact ⟨by rw [h1, hle], hp.1, hp.2⟩

end Go.Proofs.Ytpadkallejfdlaa
