/-
  A region that draws its order, each operation walked once, over any relation between worlds (XReg's law for operations that write into what the region has made).
-/
import Derived.Test.YtahegjofooahkaaGreatReg
import Derived.Test.YtahegjofooahkaaGreatOwA
import Derived.Deep.AppendLies
import Derived.Maps.AppendAt
namespace Go.Proofs.YtahegjofooahkaaGreat
open Go.RowKit
set_option linter.unusedVariables false
set_option maxRecDepth 100000

/-- What an operation's walk has to show; R: what may turn. -/
def RelPostR (R : World → World → Prop) (T : Nat → World → Value → Prop) (cl : Nat → Nat) (dd : List Nat) (xs : Nat → Value) (d : Option Nat) (w : World) (df : List Deferred) (x : Exit) (a : Act) (w' : World) : Prop := x = .normal ∧ a.defers = df ∧ R w w' ∧ ∀ d', d = some d' → T d' w' (a.tmps.getD d' undef) ∧ (cl d' ≠ 0 → ∀ b, blkV (a.tmps.getD d' undef) = some b → w.heap.size ≤ b ∨ ∃ d2 ∈ dd, cl d2 = cl d' ∧ blkV (xs d2) = some b)
theorem RelPostR.mk {R : World → World → Prop} {T : Nat → World → Value → Prop} {cl : Nat → Nat} {dd : List Nat} {xs : Nat → Value} {d : Nat} {w w' : World} {df : List Deferred} {ts : Array Value} (h : R w w') (v : Value) (hv : ts.getD d undef = v) (k : T d w' v) (hc : cl d = 0) : RelPostR R T cl dd xs (some d) w df .normal ⟨ts, df⟩ w' :=
  ⟨rfl, rfl, h, fun d' e => by injection e with e; subst e; simp only; rw [hv]; exact ⟨k, fun h => absurd hc h⟩⟩
def relStepsR (R : World → World → Prop) (P : Program) (ops : Array Oper) (T : Nat → World → Value → Prop) (cl : Nat → Nat) (D : List Nat) (ts : List Value) (df : List Deferred) (w0 : World) : List Oper → Prop
  | [] => True
  | o :: os => (∀ xs w, R w0 w → (∀ d ∈ depD ops o, T d w (xs d)) → (∀ d ∈ depD ops o, ∀ d' ∈ depD ops o, cl d ≠ 0 → cl d' ≠ 0 → cl d ≠ cl d' → ∀ b, blkV (xs d) = some b → blkV (xs d') ≠ some b) → wpList P ops (RelPostR R T cl (depD ops o) xs o.dst w df) [o] (shpA D xs ts df) w) ∧ relStepsR R P ops T cl D ts df w0 os
theorem relStepsR_get {R : World → World → Prop} {P : Program} {ops : Array Oper} {T : Nat → World → Value → Prop} {cl : Nat → Nat} {D : List Nat} {ts : List Value} {df : List Deferred} {w0 : World} : ∀ {l : List Oper} {i : Nat} {o : Oper}, relStepsR R P ops T cl D ts df w0 l → l[i]? = some o →
    ∀ xs w, R w0 w → (∀ d ∈ depD ops o, T d w (xs d)) → (∀ d ∈ depD ops o, ∀ d' ∈ depD ops o, cl d ≠ 0 → cl d' ≠ 0 → cl d ≠ cl d' → ∀ b, blkV (xs d) = some b → blkV (xs d') ≠ some b) → wpList P ops (RelPostR R T cl (depD ops o) xs o.dst w df) [o] (shpA D xs ts df) w
  | [], i, o, _, h => by simp at h
  | o' :: l, 0, o, h, e => by
    simp only [List.getElem?_cons_zero, Option.some.injEq] at e
    subst e
    exact h.1
  | o' :: l, i + 1, o, h, e => relStepsR_get h.2 (by simpa using e)
/-- **A region that draws its order**, over any relation of worlds: each operation of its head is walked once, in any world; what comes behind the head is forced. -/
theorem wp_region_relR {R : World → World → Prop} (hRr : ∀ w, R w w) (hRt : ∀ a b c, R a b → R b c → R a c) {P : Program} {id : Nat} {Q : Exit → Act → World → Prop} {l : List Oper} {ts : List Value} {df : List Deferred} {w : World} (hs tl : List Nat) (T : Nat → World → Value → Prop) (cl : Nat → Nat) (D : List Nat) (hm : P.follows .mixedOrders = true)
    (hB : relB l.toArray hs tl = true) (hD : (hs.filterMap (l[·]?)).filterMap (·.dst) = D) (hz : D.all (fun d => decide (d < ts.length)) = true) (hT : ∀ d w w' v, R w w' → T d w v → T d w' v) (hF : ∀ d w v b, T d w v → cl d ≠ 0 → blkV v = some b → b < w.heap.size)
    (hstep : relStepsR R P l.toArray T cl D ts df w.drew (hs.filterMap (l[·]?)))
    (hend : ∀ xs w', R w.drew w' → (∀ d ∈ D, T d w' (xs d)) → (∀ d ∈ D, ∀ d' ∈ D, cl d ≠ 0 → cl d' ≠ 0 → cl d ≠ cl d' → ∀ b, blkV (xs d) = some b → blkV (xs d') ≠ some b) → wpList P l.toArray Q (tl.filterMap (l[·]?)) (shpA D xs ts df) w') : (Code.region id l.toArray true).wp P Q ⟨ts.toArray, df⟩ w := by
  have hsp := relB_spec hB
  have hgetl : (fun i : Nat => l.toArray[i]?) = (fun i : Nat => l[i]?) := by funext i; simp
  have hmemD : ∀ i o d, hs.contains i = true → l.toArray[i]? = some o → o.dst = some d → d ∈ D := fun i o d hi ho hd => by
    rw [← hD]
    exact List.mem_filterMap.2 ⟨o, List.mem_filterMap.2 ⟨i, by simpa using hi, by simpa using ho⟩, hd⟩
  have hofD : ∀ d ∈ D, ∃ i o, hs.contains i = true ∧ l.toArray[i]? = some o ∧ o.dst = some d := fun d hd => by
    rw [← hD] at hd
    obtain ⟨o, ho, he⟩ := List.mem_filterMap.1 hd
    obtain ⟨i, hi, ho⟩ := List.mem_filterMap.1 ho
    exact ⟨i, o, by simpa using hi, by simpa using ho, he⟩
  refine wp_region_any hm (wpAny_of_rel (R := R) (w0 := w.drew) (a0 := ⟨ts.toArray, df⟩) (T := T) (hs := hs) (tl := tl) hsp (cl := cl) hRt hT hF (fun i o d hi ho hd => ?_) (fun i o d hi ho hd a w' h1 h2 h3 h4 h5 h5s => ?_) (fun a w' h1 h2 h3 h4 h5 h6 => ?_) _ _ _ _ (by simp) ?_ (fun i o ho hl => ?_) (fun j hj => ?_) ⟨rfl, rfl, hRr _, fun _ _ => rfl, fun i o d hi ho hl => ?_, fun i j o o' d d' hi hj ho ho' hl => ?_⟩)
  · have := List.all_eq_true.1 hz d (hmemD i o d hi ho hd)
    simpa using this
  · have hsh := shpA_of (D := D) (ts := ts) (df := df) (a := a) (by simpa using h1) h2 (fun d' hd' => h4 d' fun i' o' hi' ho' e => hd' (hmemD i' o' d' hi' ho' e))
    obtain ⟨i', hi'⟩ := List.getElem?_of_mem (List.mem_filterMap.2 ⟨i, by simpa using hi, (by simpa using ho : l[i]? = some o)⟩ : o ∈ hs.filterMap (l[·]?))
    have := relStepsR_get hstep hi' (fun d => a.tmps.getD d undef) w' h3 (fun d' hd' => by
      unfold depD at hd'
      obtain ⟨e, he, hed⟩ := List.mem_filterMap.1 hd'
      obtain ⟨he1, he2⟩ := List.mem_filter.1 he
      obtain ⟨o'', ho'', hd''⟩ := Option.bind_eq_some_iff.1 hed
      exact h5 e (by simpa using he1) he2 o'' d' ho'' hd'') (fun d1 hd1 d2 hd2 => by
      unfold depD at hd1 hd2
      obtain ⟨e, he, hed⟩ := List.mem_filterMap.1 hd1
      obtain ⟨he1, he2⟩ := List.mem_filter.1 he
      obtain ⟨o1, ho1, hd1⟩ := Option.bind_eq_some_iff.1 hed
      obtain ⟨e', he', hed'⟩ := List.mem_filterMap.1 hd2
      obtain ⟨he1', he2'⟩ := List.mem_filter.1 he'
      obtain ⟨o2, ho2, hd2⟩ := Option.bind_eq_some_iff.1 hed'
      exact h5s e (by simpa using he1) he2 e' (by simpa using he1') he2' o1 o2 d1 d2 ho1 ho2 hd1 hd2)
    rw [← hsh] at this
    rw [hd] at this
    unfold wpList at this ⊢
    have hw : Region.wanted o (yielded l.toArray a.tmps) = true := wanted_of (hsp.guard i o ho) _
    rw [if_pos hw] at this ⊢
    have hp : ∀ x a' w'', RelPostR R T cl (depD l.toArray o) (fun d => a.tmps.getD d undef) (some d) w' df x a' w'' → x = .normal ∧ a'.defers = a.defers ∧ R w' w'' ∧ T d w'' (a'.tmps.getD d undef) ∧ (cl d ≠ 0 → ∀ b, blkV (a'.tmps.getD d undef) = some b → w'.heap.size ≤ b ∨ ∃ e ∈ o.after, Region.binds .any e = true ∧ ∃ o' d', l.toArray[e.on]? = some o' ∧ o'.dst = some d' ∧ cl d' = cl d ∧ blkV (a.tmps.getD d' undef) = some b) := fun x a' w'' ⟨k1, k2, k3, k4⟩ => ⟨k1, by rw [k2, h2], k3, (k4 d rfl).1, fun hc b hb => by
      rcases (k4 d rfl).2 hc b hb with h | ⟨d2, hd2, h6, h7⟩
      · exact .inl h
      · unfold depD at hd2
        obtain ⟨e, he, hed⟩ := List.mem_filterMap.1 hd2
        obtain ⟨he1, he2⟩ := List.mem_filter.1 he
        obtain ⟨o'', ho'', hd''⟩ := Option.bind_eq_some_iff.1 hed
        exact .inr ⟨e, by simpa using he1, he2, o'', d2, ho'', hd'', h6, h7⟩⟩
    rcases this with this | ⟨_, a', w'', hx, _⟩
    · left
      unfold Oper.wp at this ⊢
      generalize (execOp a.eval o).run P w' = r at this
      cases r with
      | ok nx w' =>
        cases nx <;> simp only [Oper.upon] at this ⊢ <;>
          first
            | exact hp _ _ _ this
            | exact Calls.mono this (fun e w'' he => by
                cases e with
                | returned v => exact hp _ _ _ he
                | panicked c => exact absurd he.1 (by simp)
                | outgrown => exact he.elim fun a' he => he.elim fun w'' he => absurd he.1 (by simp))
            | exact Rows.mono this (fun _ _ he => hp _ _ _ he)
      | halt x w' => cases x <;> simp only [Oper.upon] at this ⊢ <;> first | exact this | exact absurd this.1 (by simp)
    · cases hx
  · have hsh := shpA_of (D := D) (ts := ts) (df := df) (a := a) (by simpa using h1) h2 (fun d' hd' => h4 d' fun i' o' hi' ho' e => hd' (hmemD i' o' d' hi' ho' e))
    have := hend (fun d => a.tmps.getD d undef) w' h3 (fun d' hd' => by
      obtain ⟨i, o, hi, ho, he⟩ := hofD d' hd'
      exact h5 i o d' hi ho he) (fun d1 hd1 d2 hd2 c1 c2 hne => by
      obtain ⟨i, o, hi, ho, he⟩ := hofD d1 hd1
      obtain ⟨j, o', hj, ho', he'⟩ := hofD d2 hd2
      exact h6 i j o o' d1 d2 hi hj ho ho' he he' c1 c2 hne)
    rw [← hsh, ← hgetl] at this
    exact this
  · have : cntUp (Array.replicate l.toArray.size false) = 0 := by
      unfold cntUp
      rw [List.count_eq_zero]
      intro h
      simp at h
    rw [this]
    omega
  · rw [getD_repl] at hl
    cases hl
  · exact getD_repl _ _
  · rw [getD_repl] at hl
    cases hl
  · rw [getD_repl] at hl
    cases hl

/-- What was there ahead of block B is as it was, and what has been told of the slots stays true. -/
def RTl (B : Nat) (T : Nat → World → Value → Prop) (w w' : World) : Prop := Below B w w' ∧ w.heap.size ≤ w'.heap.size ∧ ∀ d v, T d w v → T d w' v
theorem RTl.refl (B : Nat) (T : Nat → World → Value → Prop) (w : World) : RTl B T w w := ⟨Below.refl _ _, Nat.le_refl _, fun _ _ h => h⟩
theorem RTl.trans {B : Nat} {T : Nat → World → Value → Prop} (a b c : World) (h : RTl B T a b) (k : RTl B T b c) : RTl B T a c := ⟨h.1.trans k.1, Nat.le_trans h.2.1 k.2.1, fun d v hv => k.2.2 d v (h.2.2 d v hv)⟩
theorem RTl.nx {B : Nat} {T : Nat → World → Value → Prop} (hT : ∀ d w w' v, Nx w w' → T d w v → T d w' v) {w w' : World} (hB : B ≤ w.heap.size) (h : Nx w w') : RTl B T w w' := ⟨Below.mono (show Below w.heap.size w w' from h) hB, Below.size (show Below w.heap.size w w' from h), fun d v => hT d w w' v h⟩

/-- append to a row of one cell an element, and what becomes of the row's block. -/
theorem run_append_keep {P : Program} (w : World) (t ty : TypeId) (base : Nat) (e : TypeId) (i : TypeInfo) (z : Value) (bytes : Nat) (ht : P.underlying t = some (.slice e)) (hi : P.info? e = some i) (hz : i.zero = some z)
    (hsize : i.size = 1) (hby : i.bytes = bytes) (hzs : z.cells.size = 1)
    (v : Value) (n : Nat) (xs : List Value) (hown : w.ownsRow base e 1 v n xs) (a : Addr) (m c : Nat) (news : List Value) (hl : news.length = m) (hnews : ∀ j u, news[j]? = some u → w.cell? (a.add j) = some u) (h1 : ∀ u ∈ news, u.oneCell' = true)
    (hm : 0 < m) (h63 : n + m ≤ maxLen) (hbytes : (n + m) * bytes ≤ 140737488355328) (hbase : base ≤ w.heap.size) :
    ∃ v' w', (Builtin.append_ #[t, t] ty #[v, .slice (some a) m c]).run P w = .ok v' w' ∧ w'.ownsRow base e 1 v' (n + m) (xs ++ news) ∧ w.grownBy w' v.ownBlock ∧ (v'.ownBlock = v.ownBlock ∨ v'.ownBlock = some w.heap.size) ∧
      ∀ g, v.ownBlock = some g → w'.heap[g]? = w.heap[g]? ∨ ∃ cur cur', w.heap[g]? = some (.cells cur e (0, 0)) ∧ w'.heap[g]? = some (.cells cur' e (0, 0)) ∧ cur'.size = cur.size ∧ cur'.toList.take (n + m) = xs ++ news ∧ cur.toList.take n = xs := by
  obtain ⟨v', w', hr, h2, h3, h4⟩ := run_append_own (P := P) w base t ty e i z 1 bytes ht hi hz hsize hby hzs (by omega) v n xs hown a m c news (by rw [hl, Nat.mul_one]) hnews h1 h63 hbytes hbase
  have hat : v'.ownBlock = v.ownBlock ∨ v'.ownBlock = some w.heap.size := by
    obtain ⟨v'', w'', hr', _, _, _, h5⟩ := run_append_own_at (P := P) w base t ty e i z 1 bytes ht hi hz hsize hby hzs (by omega) v n xs hown a m c news (by rw [hl, Nat.mul_one]) hnews h1 h63 hbytes hbase
    rw [hr] at hr'
    injection hr' with e1 e2
    rw [e1]
    exact h5
  refine ⟨v', w', hr, h2, h3, hat, fun g hg => ?_⟩
  rcases hown.2 with ⟨rfl, _⟩ | ⟨g', cap, cur, rfl, hbg, hgc, hnc, hcm, hcs, htake⟩
  · cases hg
  · simp only [Value.ownBlock, Option.some.injEq] at hg
    subst hg
    rw [Nat.mul_one] at hcs htake
    have hxl : xs.length = n := by have := hown.1; omega
    by_cases hroom : n + m ≤ cap
    · have hr' := run_append_room (P := P) w t ty e i ht hi g' n cap cur hgc a m c news (by rw [hl, hsize, Nat.mul_one]) hnews h1 hroom (by rw [hsize, hl]; omega)
      rw [hr] at hr'
      injection hr' with e1 e2
      subst e2
      refine .inr ⟨cur, _, hgc, setRow_heap w g' cur _ e _ hgc, ?_, ?_, htake⟩
      · rw [hsize]
        simp only [List.size_toArray, List.length_append, List.length_take, List.length_drop, Array.length_toList]
        omega
      · rw [hsize, Nat.mul_one]
        simp only [htake]
        rw [List.take_left' (by rw [List.length_append]; omega)]
    · left
      have holds : ∀ j u, xs[j]? = some u → w.cell? ((⟨g', 0, none⟩ : Addr).add j) = some u := hown.cells (g := g') rfl
      have hr' := run_append_grow (P := P) w t ty e i z ht hi hz ⟨g', 0, none⟩ n cap xs (by rw [hsize]; exact hown.1) holds a m c news (by rw [hl, hsize, Nat.mul_one]) hnews (by omega) (by simp only [maxLen] at h63; omega) (growslice_fits (by omega) (by rw [hby]; exact hbytes))
      rw [hr] at hr'
      injection hr' with e1 e2
      subst e2
      have hlt : g' < w.heap.size := by
        rcases Nat.lt_or_ge g' w.heap.size with h | h
        · exact h
        · rw [Array.getElem?_eq_none h] at hgc; cases hgc
      exact heap_alloc_old w.drew _ hlt
/-- A row that was there ahead of an append. -/
theorem owns_kept {w w' : World} {n m : Nat} {e : TypeId} {v : Value} {xs news : List Value} (hg : w.grownBy w' v.ownBlock) (hk : ∀ g, v.ownBlock = some g → w'.heap[g]? = w.heap[g]? ∨ ∃ cur cur', w.heap[g]? = some (.cells cur e (0, 0)) ∧ w'.heap[g]? = some (.cells cur' e (0, 0)) ∧ cur'.size = cur.size ∧ cur'.toList.take (n + m) = xs ++ news ∧ cur.toList.take n = xs) (hxl : xs.length = n)
    {base' j : Nat} {u : Value} {ys : List Value} (hu : w.ownsRow base' e 1 u j ys) (hj : j ≤ n ∨ (j = n + m ∧ ys = xs ++ news)) : w'.ownsRow base' e 1 u j ys := by
  refine ⟨hu.1, ?_⟩
  rcases hu.2 with h | ⟨g, cap, cur, rfl, hbg, hgc, hnc, hcm, hcs, htake⟩
  · exact .inl h
  · right
    have hlt : g < w.heap.size := by
      rcases Nat.lt_or_ge g w.heap.size with h | h
      · exact h
      · rw [Array.getElem?_eq_none h] at hgc; cases hgc
    rw [Nat.mul_one] at htake
    by_cases hb : v.ownBlock = some g
    · rcases hk g hb with h | ⟨cur1, cur', h1, h2, h3, h4, h5⟩
      · exact ⟨g, cap, cur, rfl, hbg, by rw [h]; exact hgc, hnc, hcm, hcs, by rw [Nat.mul_one]; exact htake⟩
      · rw [hgc] at h1
        injection h1 with h1
        injection h1 with h1
        subst h1
        refine ⟨g, cap, cur', rfl, hbg, h2, hnc, hcm, by rw [h3]; exact hcs, ?_⟩
        rw [Nat.mul_one]
        rcases hj with hj | ⟨hj, hys⟩
        · have e1 : cur'.toList.take j = (xs ++ news).take j := by rw [← h4, List.take_take, Nat.min_eq_left (by omega)]
          rw [e1, List.take_append_of_le_length (by omega), ← h5, List.take_take, Nat.min_eq_left hj, htake]
        · rw [hj, h4, hys]
    · exact ⟨g, cap, cur, rfl, hbg, (hg.block g hlt (fun e => hb e.symm)).trans hgc, hnc, hcm, hcs, by rw [Nat.mul_one]; exact htake⟩
/-- A cell that was there ahead of an append. -/
theorem cell_kept {w w' : World} {n m : Nat} {e : TypeId} {v : Value} {xs news : List Value} (hg : w.grownBy w' v.ownBlock) (hk : ∀ g, v.ownBlock = some g → w'.heap[g]? = w.heap[g]? ∨ ∃ cur cur', w.heap[g]? = some (.cells cur e (0, 0)) ∧ w'.heap[g]? = some (.cells cur' e (0, 0)) ∧ cur'.size = cur.size ∧ cur'.toList.take (n + m) = xs ++ news ∧ cur.toList.take n = xs) (hxl : xs.length = n)
    {b j : Nat} {u : Value} (hc : w.cell? ⟨b, j, none⟩ = some u) (hj : j < n ∨ news[j - n]? = some u) : w'.cell? ⟨b, j, none⟩ = some u := by
  have hlt := World.block_lt_of_cell? _ _ hc
  by_cases hb : v.ownBlock = some b
  · rcases hk b hb with h | ⟨cur1, cur', h1, h2, h3, h4, h5⟩
    · rw [World.cell?_of_block (w := w) h]; exact hc
    · rw [cell_of_row w b j cur1 e (0, 0) h1] at hc
      rw [cell_of_row w' b j cur' e (0, 0) h2]
      have e1 : ∀ i, i < n + m → cur'[i]? = (xs ++ news)[i]? := fun i hi => by rw [← h4, List.getElem?_take, if_pos hi, Array.getElem?_toList]
      have e2 : ∀ i, i < n → cur1[i]? = xs[i]? := fun i hi => by rw [← h5, List.getElem?_take, if_pos hi, Array.getElem?_toList]
      by_cases hjn : j < n
      · rw [e1 j (by omega), List.getElem?_append_left (by omega), ← e2 j hjn]
        exact hc
      · have hj' : news[j - n]? = some u := hj.resolve_left hjn
        have hjm : j - n < news.length := (List.getElem?_eq_some_iff.1 hj').1
        have hsz : j < cur1.size := (Array.getElem?_eq_some_iff.1 hc).1
        have hjc : j < n + m := by
          have hl : (xs ++ news).length ≤ n + m := by rw [← h4, List.length_take]; omega
          rw [List.length_append] at hl
          omega
        rw [e1 j hjc, List.getElem?_append_right (by omega), hxl]
        exact hj'
  · rw [World.cell?_of_block (w := w) (hg.block b hlt (fun e => hb e.symm))]; exact hc
/-- At the list of operations. -/
theorem wpList_append_keep {P : Program} {w : World} {ops : Array Oper} {rest : List Oper} {o : Oper} {act : Act} {Q : Exit → Act → World → Prop} (hgd : o.guard = none) (s x : Operand) (t : TypeId)
    (ho : o.op = .call { callee := .builtin .append, args := #[s, x], argTypes := #[t, t] })
    (base : Nat) (e : TypeId) (i : TypeInfo) (z : Value) (bytes : Nat) (ht : P.underlying t = some (.slice e)) (hi : P.info? e = some i) (hz : i.zero = some z)
    (hsize : i.size = 1) (hby : i.bytes = bytes) (hzs : z.cells.size = 1)
    (v : Value) (n : Nat) (xs : List Value) (hs : act.eval s = v) (hown : w.ownsRow base e 1 v n xs) (a : Addr) (m c : Nat) (news : List Value) (hx : act.eval x = .slice (some a) m c) (hl : news.length = m) (hnews : ∀ j u, news[j]? = some u → w.cell? (a.add j) = some u) (h1 : ∀ u ∈ news, u.oneCell' = true)
    (hm : 0 < m) (h63 : n + m ≤ maxLen) (hbytes : (n + m) * bytes ≤ 140737488355328) (hbase : base ≤ w.heap.size)
    (h : ∀ v' w', w'.ownsRow base e 1 v' (n + m) (xs ++ news) → w.grownBy w' v.ownBlock → (v'.ownBlock = v.ownBlock ∨ v'.ownBlock = some w.heap.size) → (∀ g, v.ownBlock = some g → w'.heap[g]? = w.heap[g]? ∨ ∃ cur cur', w.heap[g]? = some (.cells cur e (0, 0)) ∧ w'.heap[g]? = some (.cells cur' e (0, 0)) ∧ cur'.size = cur.size ∧ cur'.toList.take (n + m) = xs ++ news ∧ cur.toList.take n = xs) → wpList P ops Q rest (act.put o.dst v') w') : wpList P ops Q (o :: rest) act w :=
  wpList_plain hgd fun _ hK => by
    obtain ⟨v', w', hr, h2, h3, h5, h4⟩ := run_append_keep (P := P) w t o.type base e i z bytes ht hi hz hsize hby hzs v n xs hown a m c news hl hnews h1 hm h63 hbytes hbase
    unfold Oper.wp execOp
    simp only [ho, resolve, invoke, builtin, Sem.run_bind, Sem.run_pure, Result.andThen_ok, List.map_toArray, List.map_cons, List.map_nil, hs, hx, hr]
    exact hK _ _ (h v' w' h2 h3 h5 h4)

end Go.Proofs.YtahegjofooahkaaGreat
