/-
  The machine with one memory, in plain words: states, moves, outcomes; there are few states. No program in sight.
-/
import Derived.Test.YtcckflijaolnkaaPrg
import Derived.Test.YtcckflijaolnkaaDfs
namespace Go.Proofs.Ytcckflijaolnkaa
set_option linter.unusedVariables false

/-- How far the threads are, registers, locations. -/
structure St where
  pc : List Nat
  regs : List Int
  mem : List Int
deriving DecidableEq
def thrP (p : Prg) (t : Nat) : List Ins := p.getD t []
def pcS (s : St) (t : Nat) : Nat := s.pc.getD t 0
def onS (p : Prg) (s : St) (t : Nat) : Bool := decide (pcS s t < (thrP p t).length)
def mvS (p : Prg) (s : St) : List Nat := (List.range p.length).filter (onS p s)
def rgI (t : Nat) (x : Ins) : Nat := t * 3 + x.reg.toNat
/-- What an instruction writes. -/
def valS (s : St) (t : Nat) (x : Ins) : Int := if x.op = 3 then s.regs.getD (rgI t x) 0 else x.val
/-- After an instruction of thread t. -/
def doS (s : St) (t : Nat) (x : Ins) : St where
  pc := s.pc.set t (pcS s t + 1)
  regs := if rdB x = true then s.regs.set (rgI t x) (s.mem.getD x.loc.toNat 0) else s.regs
  mem := if wrB x = true then s.mem.set x.loc.toNat (valS s t x) else s.mem
def insS (p : Prg) (s : St) (t : Nat) : Ins := (thrP p t).getD (pcS s t) ⟨0, 0, 0, 0⟩
def nxS (p : Prg) (s : St) (t : Nat) : St := doS s t (insS p s t)
def sucS (p : Prg) (s : St) : List St := (mvS p s).map (nxS p s)
def st0 (p : Prg) : St := ⟨List.replicate p.length 0, List.replicate (p.length * 3) 0, [0, 0, 0]⟩
def doneS (p : Prg) (s : St) : Bool := (List.range p.length).all fun t => !onS p s t
def outS (s : St) : List Int := s.regs ++ s.mem
def In03 (v : Int) : Prop := 0 ≤ v ∧ v ≤ 3
/-- What holds of all states that are reached. -/
structure StOk (p : Prg) (s : St) : Prop where
  pcl : s.pc.length = p.length
  pcb : ∀ t, pcS s t ≤ (thrP p t).length
  regl : s.regs.length = p.length * 3
  regb : ∀ v ∈ s.regs, In03 v
  meml : s.mem.length = 3
  memb : ∀ v ∈ s.mem, In03 v
theorem mem_mvS {p : Prg} {s : St} {t : Nat} : t ∈ mvS p s ↔ t < p.length ∧ pcS s t < (thrP p t).length := by
  unfold mvS onS
  rw [List.mem_filter, List.mem_range, decide_eq_true_iff]
theorem thr_ok {p : Prg} (h : PrgOk p) (t : Nat) : (thrP p t).length ≤ 7 ∧ ∀ x ∈ thrP p t, InsOk x := by
  unfold thrP
  rcases Nat.lt_or_ge t p.length with ht | ht
  · rw [List.getD_eq_getElem?_getD, List.getElem?_eq_getElem ht]
    exact h.1.2.1 _ (List.getElem_mem ht)
  · rw [List.getD_eq_getElem?_getD, List.getElem?_eq_none ht]
    exact ⟨by simp, fun x hx => by simp at hx⟩
theorem ins_get {p : Prg} {s : St} {t : Nat} (h : pcS s t < (thrP p t).length) : insS p s t = (thrP p t)[pcS s t] := by
  unfold insS
  rw [List.getD_eq_getElem?_getD, List.getElem?_eq_getElem h]
  rfl
theorem ins_ok {p : Prg} {s : St} {t : Nat} (hp : PrgOk p) (h : pcS s t < (thrP p t).length) : InsOk (insS p s t) := by
  rw [ins_get h]
  exact (thr_ok hp t).2 _ (List.getElem_mem h)
theorem getD_03 {xs : List Int} (h : ∀ v ∈ xs, In03 v) (i : Nat) : In03 (xs.getD i 0) := by
  rcases Nat.lt_or_ge i xs.length with hi | hi
  · rw [List.getD_eq_getElem?_getD, List.getElem?_eq_getElem hi]
    exact h _ (List.getElem_mem hi)
  · rw [List.getD_eq_getElem?_getD, List.getElem?_eq_none hi]
    exact ⟨by decide, by decide⟩
theorem set_03 {xs : List Int} {i : Nat} {v : Int} (h : ∀ v ∈ xs, In03 v) (hv : In03 v) : ∀ u ∈ xs.set i v, In03 u := fun u hu => by
  rcases List.mem_or_eq_of_mem_set hu with hu | rfl
  · exact h u hu
  · exact hv
theorem StOk.start (p : Prg) : StOk p (st0 p) :=
  ⟨by simp [st0], fun t => by
    have : pcS (st0 p) t = 0 := by
      unfold pcS st0
      rw [List.getD_eq_getElem?_getD]
      rcases Nat.lt_or_ge t p.length with ht | ht
      · simp [ht]
      · rw [List.getElem?_eq_none (by simpa using ht)]; rfl
    omega, by simp [st0], fun v hv => by
    have := List.eq_of_mem_replicate hv
    subst this
    exact ⟨by decide, by decide⟩, rfl, fun v hv => by
    simp only [st0, List.mem_cons, List.not_mem_nil, or_false, or_self] at hv
    subst hv
    exact ⟨by decide, by decide⟩⟩
theorem val_03 {p : Prg} {s : St} {t : Nat} (hs : StOk p s) {x : Ins} (hx : InsOk x) : In03 (valS s t x) := by
  unfold valS
  split
  · exact getD_03 hs.regb _
  · rcases hx with h | h | h | h
    · rw [h.2.2.2]; exact ⟨by decide, by decide⟩
    · exact h.2.2.2
    · rw [h.2.2.2]; exact ⟨by decide, by decide⟩
    · exact h.2.2.2
theorem pc_set {p : Prg} {s : St} (hs : StOk p s) {t : Nat} (ht : t < p.length) (x : Ins) (u : Nat) : pcS (doS s t x) u = if u = t then pcS s t + 1 else pcS s u := by
  unfold pcS doS
  simp only [List.getD_eq_getElem?_getD]
  by_cases e : u = t
  · subst e
    rw [if_pos rfl, List.getElem?_set_self (by rw [hs.pcl]; exact ht)]
    rfl
  · rw [if_neg e, List.getElem?_set_ne (fun h => e h.symm)]
theorem StOk.next {p : Prg} {s : St} (hp : PrgOk p) (hs : StOk p s) {t : Nat} (ht : t ∈ mvS p s) : StOk p (nxS p s t) := by
  obtain ⟨h1, h2⟩ := mem_mvS.1 ht
  have hx := ins_ok hp h2
  refine ⟨by simp [nxS, doS, hs.pcl], fun u => ?_, ?_, ?_, ?_, ?_⟩
  · unfold nxS
    rw [pc_set hs h1]
    split
    · rename_i e
      subst e
      exact h2
    · exact hs.pcb u
  · unfold nxS doS
    simp only
    split
    · rw [List.length_set]; exact hs.regl
    · exact hs.regl
  · unfold nxS doS
    simp only
    split
    · exact set_03 hs.regb (getD_03 hs.memb _)
    · exact hs.regb
  · unfold nxS doS
    simp only
    split
    · rw [List.length_set]; exact hs.meml
    · exact hs.meml
  · unfold nxS doS
    simp only
    split
    · exact set_03 hs.memb (val_03 hs hx)
    · exact hs.memb
theorem reach_ok {p : Prg} (hp : PrgOk p) {s : St} (h : Reach (sucS p) (st0 p) s) : StOk p s := by
  induction h with
  | start => exact .start p
  | next _ ht ih =>
    obtain ⟨t, h1, rfl⟩ := List.mem_map.1 ht
    exact ih.next hp h1
/-! How far. -/
def rkS (s : St) : Nat := s.pc.foldr (· + ·) 0
theorem sum_set : ∀ (l : List Nat) (t v : Nat), t < l.length → (l.set t v).foldr (· + ·) 0 + l.getD t 0 = l.foldr (· + ·) 0 + v
  | [], _, _, h => absurd h (Nat.not_lt_zero _)
  | a :: l, 0, v, _ => by simp; omega
  | a :: l, t + 1, v, h => by
    have := sum_set l t v (by simpa using h)
    simp only [List.set_cons_succ, List.foldr_cons, List.getD_cons_succ]
    omega
theorem rk_next {p : Prg} {s : St} (hs : StOk p s) {t : Nat} (ht : t ∈ mvS p s) : rkS (nxS p s t) = rkS s + 1 := by
  obtain ⟨h1, h2⟩ := mem_mvS.1 ht
  have := sum_set s.pc t (pcS s t + 1) (by rw [hs.pcl]; exact h1)
  unfold rkS nxS doS
  unfold pcS at this ⊢
  simp only at this ⊢
  omega
theorem rk_le {p : Prg} {s : St} (hp : PrgOk p) (hs : StOk p s) : rkS s ≤ 21 := by
  have h3 : s.pc.length ≤ 3 := by rw [hs.pcl]; exact hp.1.1
  have hb : ∀ t, s.pc.getD t 0 ≤ 7 := fun t => Nat.le_trans (hs.pcb t) (thr_ok hp t).1
  have key : ∀ (l : List Nat), (∀ t, l.getD t 0 ≤ 7) → l.foldr (· + ·) 0 ≤ l.length * 7 := fun l => by
    induction l with
    | nil => intro _; simp
    | cons a l ih =>
      intro h
      have h0 := h 0
      have := ih fun t => by have := h (t + 1); simpa using this
      simp only [List.foldr_cons, List.length_cons, List.getD_cons_zero] at h0 ⊢
      omega
  have := key s.pc hb
  unfold rkS
  have : s.pc.length * 7 ≤ 3 * 7 := Nat.mul_le_mul_right _ h3
  omega
theorem rk0 (p : Prg) : rkS (st0 p) = 0 := by
  have key : ∀ n, (List.replicate n 0).foldr (· + ·) 0 = 0 := fun n => by
    induction n with
    | zero => rfl
    | succ n ih => rw [List.replicate_succ, List.foldr_cons, ih]
  exact key _
theorem suc_le {p : Prg} (hp : PrgOk p) (s : St) : (sucS p s).length ≤ 3 := by
  unfold sucS mvS
  rw [List.length_map]
  have h := List.length_filter_le (onS p s) (List.range p.length)
  rw [List.length_range] at h
  have := hp.1.1
  omega
theorem reach_few {p : Prg} (hp : PrgOk p) {s : St} (h : Reach (sucS p) (st0 p) s) : s ∈ univ (sucS p) (st0 p) 21 :=
  reach_univ rkS (rk0 p) (fun s t hs ht => by
    obtain ⟨u, h1, rfl⟩ := List.mem_map.1 ht
    exact rk_next (reach_ok hp hs) h1) (fun s hs => rk_le hp (reach_ok hp hs)) h
theorem seq_few {p : Prg} (hp : PrgOk p) {V : List St} (hn : V.Nodup) (h : ∀ s ∈ V, Reach (sucS p) (st0 p) s) : V.length ≤ 230127770466 :=
  Nat.le_trans (nodup_le V _ hn fun s hs => reach_few hp (h s hs)) (Nat.le_trans (univ_length (suc_le hp) (by omega) 21) (by decide))
end Go.Proofs.Ytcckflijaolnkaa
