/-
  slices.Delete at a row of one's own. Products as impl.product builds them. No program in sight. slices.DeleteFunc with impl.allExecs$1 at a row of one's own.
-/
import Derived.Test.YtfgpbnncdfcjjaaGreatDoorRwS
import Derived.Test.YtfgpbnncdfcjjaaGreatDoorCands
import Derived.Lib.SliceRun

/-! slices.Delete at a row of one's own. -/
namespace Go.Proofs.YtfgpbnncdfcjjaaGreatDoor
open Go.RowKit
set_option linter.unusedVariables false
set_option maxRecDepth 100000

/-- A row's cells written over. -/
theorem put_row {w : World} {base g cap : Nat} {cur : Array Value} (hg : w.heap[g]? = some (.cells cur 3 (0, 0))) (hb : base ≤ g) (hcm : cap ≤ maxLen) (hc : cur.size = cap * 1) (d : Array Int) (hd : d.size ≤ cap) (ys : List Int) (hy : d.toList.take ys.length = ys) (q : Nat) :
    RowI (Go.Sort.putRow (Value.int .i64) (Go.Sort.ahead w q) g 0 d) base (.slice (some ⟨g, 0, none⟩) ys.length cap) ys ∧ w.grownBy (Go.Sort.putRow (Value.int .i64) (Go.Sort.ahead w q) g 0 d) (some g) := by
  have hle : ys.length ≤ d.size := by
    have := congrArg List.length hy
    rw [List.length_take] at this
    simp at this
    omega
  have hmap : (Go.Sort.putRow (Value.int .i64) (Go.Sort.ahead w q) g 0 d).heap[g]? = some (.cells (Go.Sort.putCells (Value.int .i64) 0 d cur) 3 (0, 0)) := by
    simp [Go.Sort.putRow, Go.Sort.mapBlock, Array.getElem?_modify, Go.Sort.ahead, hg, Go.Sort.onCells]
  refine ⟨row_of_map ⟨by simp, .inr ⟨g, cap, _, rfl, hb, hmap, by omega, hcm, by simpa [Go.Sort.putCells] using hc, ?_⟩⟩, rfl, rfl, rfl, by simp [Go.Sort.ahead, Go.Sort.putRow, Go.Sort.mapBlock], fun i hi hne => ?_⟩
  · have h := take_mapIdx_put d cur (by omega)
    rw [Nat.mul_one]
    have h2 := congrArg (List.take ys.length) h
    rw [List.take_take, Nat.min_eq_left hle, ← List.map_take, hy] at h2
    exact h2
  · simp only [Go.Sort.putRow, Go.Sort.mapBlock, Array.getElem?_modify, Go.Sort.ahead]
    rw [if_neg (fun e => hne (congrArg some e.symm))]
theorem row_holds {w : World} {g : Nat} {cur : Array Value} {xs : List Int} (hg : w.heap[g]? = some (.cells cur 3 (0, 0))) (ht : cur.toList.take (xs.length * 1) = xs.map (Value.int .i64)) : Go.Sort.Holds (Value.int .i64) w g 0 xs.toArray := fun j hj => by
  have hj' : j < xs.length := by simpa using hj
  have hcs : cur[j]? = some (.int .i64 (xs.getD j 0)) := by
    have h1 : (xs.map (Value.int .i64))[j]? = cur.toList[j]? := by rw [← ht, List.getElem?_take, if_pos (by omega)]
    rw [← Array.getElem?_toList, ← h1]
    simp [hj']
  refine ⟨?_, by simp [World.frozen?, hg]⟩
  rw [Nat.zero_add, cell_of_row w g j cur 3 (0, 0) hg, hcs]
  simp [hj']
theorem delI_any (xs : List Int) (i : Nat) (hi : i < xs.length) (w : World) (base : Nat) (A : Option Addr) (c : Nat) (h : RowI w base (.slice A xs.length c) xs) :
    Calls Tryz.prog 206 #[.slice A xs.length c, .int .i64 i, .int .i64 ((i : Int) + 1)] w (fun e w' => e = .returned (.slice A (xs.eraseIdx i).length c) ∧ RowI w' base (.slice A (xs.eraseIdx i).length c) (xs.eraseIdx i) ∧ w.grownBy w' (Value.slice A xs.length c).ownBlock) := by
  have hm := row_to_map h
  rcases hm.2 with ⟨e, h0⟩ | ⟨g, cap, cur, e, hb, hg, hn, hcm, hc, ht⟩
  · omega
  · injection e with e1 _ e3
    subst e1 e3
    have hle : (xs.eraseIdx i).length = xs.length - (i + 1 - i) := by rw [List.length_eraseIdx_of_lt hi]; omega
    have hD := Tryz.slices_Delete_int g 0 c i (i + 1) xs w (row_holds hg ht) hn (by unfold maxLen at hcm; omega) (by omega) (by omega)
    rw [show ((i + 1 : Nat) : Int) = (i : Int) + 1 by omega] at hD
    refine hD.mono fun e w' ⟨h1, q, h2⟩ => ?_
    have hlen : ((xs.take i ++ xs.drop (i + 1) ++ List.replicate (i + 1 - i) (0 : Int)).toArray).size ≤ c := by simp; omega
    have hp := put_row hg hb hcm hc (xs.take i ++ xs.drop (i + 1) ++ List.replicate (i + 1 - i) 0).toArray hlen (xs.eraseIdx i) (by
      rw [← List.eraseIdx_eq_take_drop_succ]
      simp) q
    rw [← h2] at hp
    exact ⟨by rw [h1, hle], hp.1, hp.2⟩

end Go.Proofs.YtfgpbnncdfcjjaaGreatDoor

/-! Products as impl.product builds them. No program in sight. -/
namespace Go.Proofs.YtfgpbnncdfcjjaaGreatDoor
open Go.RowKit
set_option linter.unusedVariables false
set_option maxRecDepth 100000

/-- One list more. -/
def prS {α : Type} (acc : List (List α)) (c : List α) : List (List α) := acc.flatMap fun x => c.map fun y => x ++ [y]
theorem prS_len {α : Type} (acc : List (List α)) (c : List α) : (prS acc c).length = acc.length * c.length := by
  unfold prS
  rw [flatMap_len _ c.length fun x => by rw [List.length_map]]
theorem foldl_prS {α : Type} : ∀ (cs : List (List α)) (acc : List (List α)), cs.foldl prS acc = acc.flatMap fun x => (prodL cs).map (x ++ ·)
  | [], acc => by simp [prodL]
  | c :: cs, acc => by
    rw [List.foldl_cons, foldl_prS cs, prodL]
    unfold prS
    rw [List.flatMap_assoc]
    congr 1
    funext x
    rw [List.flatMap_map, List.map_flatMap]
    congr 1
    funext y
    simp
theorem prodL_foldl {α : Type} (cs : List (List α)) : cs.foldl prS [[]] = prodL cs := by rw [foldl_prS]; simp
theorem prodL_take {α : Type} (cs : List (List α)) (i : Nat) (h : i < cs.length) : prodL (cs.take (i + 1)) = prS (prodL (cs.take i)) cs[i] := by
  rw [← prodL_foldl, ← prodL_foldl, List.take_succ_eq_append_getElem h, List.foldl_append]
  rfl
theorem lenP_pos {α : Type} : ∀ {cs : List (List α)}, (∀ c ∈ cs, 0 < c.length) → 0 < lenP cs
  | [], _ => Nat.one_pos
  | c :: cs, h => by
    rw [lenP]
    exact Nat.mul_pos (h c (by simp)) (lenP_pos fun x hx => h x (List.mem_cons_of_mem _ hx))
theorem lenP_take {α : Type} : ∀ {cs : List (List α)} (i : Nat), (∀ c ∈ cs, 0 < c.length) → lenP (cs.take i) ≤ lenP cs
  | [], i, _ => by simp
  | c :: cs, 0, h => by rw [List.take_zero]; exact lenP_pos h
  | c :: cs, i + 1, h => by
    rw [List.take_succ_cons, lenP, lenP]
    exact Nat.mul_le_mul (Nat.le_refl _) (lenP_take i fun x hx => h x (List.mem_cons_of_mem _ hx))

theorem RowW.pushRow' {α : Type} {k : Nat} {e e' : TypeId} {Q : (Nat → Value) → α → Prop} {w wr w6 : World} {base gg cap H n : Nat} {v : Value} {xss : List (List α)} {cs : List Value} {Fs : Nat → List Nat} {A : Option Addr} {c : Nat} {t : List α} (hn : n = t.length)
    (h : RowW 1 e (Go.Proofs.YtfgpbnncdfcjjaaGreatDoor.rowP k e' Q) w base v xss cs Fs) (hb : ∀ b, base ≤ b → b < w.heap.size → wr.heap[b]? = w.heap[b]?) (hs : w.heap.size ≤ wr.heap.size) (hbw : base ≤ w.heap.size) (ht : RowOf k Q wr w.heap.size e' (.slice A n c) t)
    (hg : (wr.alloc (.cells #[.slice A n c] e)).grownBy w6 v.ownBlock) (hown : w6.ownsRow base e 1 (.slice (some ⟨gg, 0, none⟩) (xss.length + 1) cap) (xss.length + 1) (cs ++ [.slice A n c])) (hat : v.ownBlock = some gg ∨ gg = H) (hH : wr.heap.size + 1 = H) :
    ∃ Fs', RowW 1 e (Go.Proofs.YtfgpbnncdfcjjaaGreatDoor.rowP k e' Q) w6 base (.slice (some ⟨gg, 0, none⟩) (xss.length + 1) cap) (xss ++ [t]) (cs ++ [.slice A n c]) Fs' := by
  subst hn
  exact h.pushRow hb hs hbw ht hg hown hat hH

end Go.Proofs.YtfgpbnncdfcjjaaGreatDoor

/-! slices.DeleteFunc with impl.allExecs$1 at a row of one's own. -/
namespace Go.Proofs.YtfgpbnncdfcjjaaGreatDoor
open Go.RowKit
set_option linter.unusedVariables false
set_option maxRecDepth 100000

/-- The closure, wherever its variable holds i. -/
theorem delC_gives (i x : Int) (B : Nat) (W : World) (hc : W.cell? ⟨B, 0, none⟩ = some (.int .i64 i)) : FnGives Tryz.prog 159 #[.pointer (some ⟨B, 0, none⟩)] #[.int .i64 x] (.bool (decide (x = i))) W := by
  show Calls Tryz.prog 159 #[.int .i64 x, .pointer (some ⟨B, 0, none⟩)] W _
  by_cases h : x = i
  · have h1 : (x == i) = true := by rw [h]; simp
    have h2 : decide (x = i) = true := by rw [h]; simp
    rw [h2]
    clear h h2
    go_enter Tryz.func159, Tryz.ntmps159
    go_wp2_with fail
    go_ret
    exact ⟨rfl, 0, rfl⟩
  · have h1 : (x == i) = false := beq_eq_false_iff_ne.2 h
    have h2 : decide (x = i) = false := decide_eq_false_iff_not.2 h
    rw [h2]
    clear h h2
    go_enter Tryz.func159, Tryz.ntmps159
    go_wp2_with fail
    go_ret
    exact ⟨rfl, 0, rfl⟩

theorem filter_ne (xs : List Int) (i : Int) : (xs.filter fun x => !decide (x = i)) = xs.filter (fun n => decide (n ≠ i)) := by
  congr 1
  funext x
  by_cases h : x = i <;> simp [h]

theorem delF_any (xs : List Int) (i : Int) (hpos : 0 < xs.length) (w : World) (B base : Nat) (hB : B < base) (hBl : B < w.heap.size) (hc : w.cell? ⟨B, 0, none⟩ = some (.int .i64 i)) (A : Option Addr) (c : Nat) (h : RowI w base (.slice A xs.length c) xs) :
    Calls Tryz.prog 158 #[.slice A xs.length c, .func (.func 159) #[] #[.pointer (some ⟨B, 0, none⟩)]] w (fun e w' => e = .returned (.slice A (xs.filter fun n => decide (n ≠ i)).length c) ∧ RowI w' base (.slice A (xs.filter fun n => decide (n ≠ i)).length c) (xs.filter fun n => decide (n ≠ i)) ∧ w.grownBy w' (Value.slice A xs.length c).ownBlock) := by
  have eg : ∀ args w, (callFunc 159 args).run Tryz.prog w = .ok (.enter 159 args) w := enters_of Tryz.func159 (by kernel_rfl) rfl
  have hm := row_to_map h
  rcases hm.2 with ⟨e, h0⟩ | ⟨g, cap, cur, e, hb, hg, hn, hcm, hcc, ht⟩
  · omega
  · injection e with e1 _ e3
    subst e1 e3
    have hP : PredAt Tryz.prog 159 #[.pointer (some ⟨B, 0, none⟩)] (Value.int .i64) (fun x => decide (x = i)) w := fun W x hb' => delC_gives i x B W ((hb'.cell (p := ⟨B, 0, none⟩) hBl).trans hc)
    have hO : PredOver Tryz.prog 159 #[.pointer (some ⟨B, 0, none⟩)] (Value.int .i64) (fun x => decide (x = i)) g 0 xs.toArray.size w := fun n os dk x _ => delC_gives i x B _ (by
      unfold sortWorld
      rw [Go.Sort.cell?_grow _ _ _ (by show B < (Go.Sort.putRow _ _ _ _ _).heap.size; rw [Go.Sort.size_putRow]; exact hBl), Go.Sort.cell?_putRow_other _ _ g 0 _ _ (Or.inl (by show B ≠ g; omega))]
      exact hc)
    have hle := List.length_filter_le (fun n => decide (n ≠ i)) xs
    have hD := Tryz.slices_DeleteFunc (Value.int .i64) (fun _ => rfl) (fun x => decide (x = i)) 159 #[.pointer (some ⟨B, 0, none⟩)] eg 0 Tryz.zeroValue3 g 0 c xs.toArray w hP hO (row_holds hg ht) (by simp only [List.size_toArray]; unfold maxLen at hcm; omega) (by simp only [List.size_toArray]; omega)
    refine hD.mono fun e w' ⟨h1, q, h2⟩ => ?_
    simp only [filter_ne, List.size_toArray] at h1 h2
    have hp := put_row hg hb hcm hcc ((xs.filter fun n => decide (n ≠ i)) ++ List.replicate (xs.length - (xs.filter fun n => decide (n ≠ i)).length) 0).toArray (by rw [List.size_toArray, List.length_append, List.length_replicate]; omega) (xs.filter fun n => decide (n ≠ i)) (List.take_left' rfl) q
    rw [← h2] at hp
    exact ⟨h1, hp.1, hp.2⟩

/-! ### The choices -/
theorem chF_take (L : List Ev) (k : Nat) (h : k < L.length) : (chF L 0 L).take (k + 1) = (chF L 0 L).take k ++ [frC L k L[k]] := by
  have hk : k < (chF L 0 L).length := by rw [chF_length]; exact h
  rw [List.take_succ_eq_append_getElem hk, chF_get L L 0 k h hk, Nat.zero_add]
theorem frC_read {L : List Ev} {i : Nat} {e : Ev} (h : e.rd = true) : frC L i e = (wrs L e.loc).filter (fun n => decide (n ≠ (i : Int))) := if_pos h
theorem frC_not {L : List Ev} {i : Nat} {e : Ev} (h : e.rd = false) : frC L i e = [-1] := if_neg (by rw [h]; decide)
/-- What the walk of impl.allExecs wants beside Few3. -/
structure Few4 (L : List Ev) : Prop where
  loc : ∀ e ∈ L, e.rd = true → 0 < (wrs L e.loc).length
  fr : ∀ i, i ≤ (chF L 0 L).length → (prodL ((chF L 0 L).take i)).length ≤ 3000
  od : ∀ i, i ≤ ((List.range 3).map (ordC L)).length → (prodL (((List.range 3).map (ordC L)).take i)).length ≤ 3000
  frl : ∀ c ∈ chF L 0 L, c.length ≤ 3000
  odl : ∀ c ∈ (List.range 3).map (ordC L), c.length ≤ 3000
theorem mem_chF {L : List Ev} {c : List Int} (h : c ∈ chF L 0 L) : ∃ i, ∃ hi : i < L.length, c = frC L i L[i] := by
  obtain ⟨i, hi, rfl⟩ := List.getElem_of_mem h
  have hi' := hi
  rw [chF_length] at hi'
  exact ⟨i, hi', by rw [chF_get L L 0 i hi' hi, Nat.zero_add]⟩
theorem few4 {p : Prg} (h : PrgOk p) : Few4 (evs p) := by
  have h3 := few3 h
  have hfp : ∀ c ∈ chF (evs p) 0 (evs p), 0 < c.length := fun c hc => by
    obtain ⟨i, hi, rfl⟩ := mem_chF hc
    exact frC_pos h.1 hi
  have hop : ∀ c ∈ (List.range 3).map (ordC (evs p)), 0 < c.length := fun c hc => by
    obtain ⟨l, _, rfl⟩ := List.mem_map.1 hc
    rw [ordC_length]
    exact fact_pos _
  have hfl : lenP (chF (evs p) 0 (evs p)) ≤ 3000 := by
    rw [← prodL_length]
    have := h3.fr 0 (Nat.zero_le _)
    rwa [List.drop_zero] at this
  have hol : lenP ((List.range 3).map (ordC (evs p))) ≤ 3000 := by
    rw [← prodL_length]
    have := h3.od 0 (by omega)
    unfold ordersF at this
    rwa [List.drop_zero] at this
  refine ⟨fun e he hr => ?_, fun i _ => ?_, fun i _ => ?_, fun c hc => ?_, fun c hc => ?_⟩
  · obtain ⟨l, hl, h2⟩ : ∃ l : Nat, e.loc = l ∧ l ≤ 2 := by
      rcases evs_loc h.1 e he with e | e | e
      · exact ⟨0, e, by omega⟩
      · exact ⟨1, e, by omega⟩
      · exact ⟨2, e, by omega⟩
    obtain ⟨r, h4⟩ := h3.hd l h2
    rw [hl, h4]
    simp
  · rw [prodL_length]; exact Nat.le_trans (lenP_take i hfp) hfl
  · rw [prodL_length]; exact Nat.le_trans (lenP_take i hop) hol
  · obtain ⟨i, hi, rfl⟩ := mem_chF hc
    have h5 := h3.len
    unfold frC
    split
    · have := List.length_filter_le (fun n => decide (n ≠ (i : Int))) (wrs (evs p) (evs p)[i].loc)
      have := wrs_length (evs p) (evs p)[i].loc
      omega
    · simp
  · obtain ⟨l, hl, rfl⟩ := List.mem_map.1 hc
    have h6 := h3.pm l (by have := List.mem_range.1 hl; omega)
    rw [ordC_length, List.length_tail]
    have : (wrs (evs p) l).length - 1 = 0 ∨ (wrs (evs p) l).length - 1 = 1 ∨ (wrs (evs p) l).length - 1 = 2 ∨ (wrs (evs p) l).length - 1 = 3 ∨ (wrs (evs p) l).length - 1 = 4 ∨ (wrs (evs p) l).length - 1 = 5 ∨ (wrs (evs p) l).length - 1 = 6 := by omega
    rcases this with e | e | e | e | e | e | e <;> rw [e] <;> decide

end Go.Proofs.YtfgpbnncdfcjjaaGreatDoor
