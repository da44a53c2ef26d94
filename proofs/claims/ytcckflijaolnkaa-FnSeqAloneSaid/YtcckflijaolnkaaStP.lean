/-
  Counting the states of a program on one memory, plainly: there is one of each rank; a fence at the end of a thread adds one and changes no outcome. No program in sight.
-/
import Derived.Test.YtcckflijaolnkaaSeqP
namespace Go.Proofs.Ytcckflijaolnkaa
set_option linter.unusedVariables false

theorem wSum_foldr (p : Prg) : (p.map List.length).foldr (· + ·) 0 = wSum List.length p := by
  induction p with
  | nil => rfl
  | cons t p ih => simp only [List.map_cons, List.foldr_cons, ih, wSum]
theorem done_pc {p : Prg} {s : St} (hs : StOk p s) (hd : doneS p s = true) : s.pc = p.map List.length := by
  unfold doneS at hd
  rw [List.all_eq_true] at hd
  refine List.ext_getElem (by rw [hs.pcl, List.length_map]) fun t h1 h2 => ?_
  have ht : t < p.length := by rw [← hs.pcl]; exact h1
  have h3 := hd t (List.mem_range.2 ht)
  have h4 := hs.pcb t
  unfold onS at h3
  have h5 : ¬ pcS s t < (thrP p t).length := by simpa using h3
  have h6 : pcS s t = s.pc[t] := by unfold pcS; rw [List.getD_eq_getElem?_getD, List.getElem?_eq_getElem h1]; rfl
  have h7 : thrP p t = p[t] := by unfold thrP; rw [List.getD_eq_getElem?_getD, List.getElem?_eq_getElem ht]; rfl
  rw [h7] at h4 h5
  rw [List.getElem_map]
  omega
theorem not_done {p : Prg} {s : St} (hd : ¬ doneS p s = true) : ∃ t, t ∈ mvS p s := by
  unfold doneS at hd
  rw [List.all_eq_true] at hd
  have : ∃ t, t ∈ List.range p.length ∧ ¬ (!onS p s t) = true := by
    false_or_by_contra
    rename_i hn
    exact hd fun t ht => by
      false_or_by_contra
      rename_i h
      exact hn ⟨t, ht, h⟩
  obtain ⟨t, h1, h2⟩ := this
  refine ⟨t, List.mem_filter.2 ⟨h1, ?_⟩⟩
  cases h : onS p s t <;> simp_all
theorem rank_any {p : Prg} (hp : PrgOk p) : ∀ k, k ≤ wSum List.length p → ∃ s, Reach (sucS p) (st0 p) s ∧ rkS s = k
  | 0, _ => ⟨_, .start, rk0 p⟩
  | k + 1, hk => by
    obtain ⟨s, h1, h2⟩ := rank_any hp k (by omega)
    have hok := reach_ok hp h1
    by_cases hd : doneS p s = true
    · have := done_pc hok hd
      have h3 : rkS s = wSum List.length p := by unfold rkS; rw [this, wSum_foldr]
      omega
    · obtain ⟨t, ht⟩ := not_done hd
      exact ⟨nxS p s t, .next h1 (List.mem_map.2 ⟨t, ht, rfl⟩), by rw [rk_next hok ht, h2]⟩
theorem states_many {p : Prg} (hp : PrgOk p) {V : List St} (hV : Dfs (sucS p) (st0 p) V []) : 1 + wSum List.length p ≤ V.length := by
  have h := nodup_le (List.range (wSum List.length p + 1)) (V.map rkS) List.nodup_range fun k hk => by
    obtain ⟨s, h1, h2⟩ := rank_any hp k (by have := List.mem_range.1 hk; omega)
    exact List.mem_map.2 ⟨s, hV.all.2 h1, h2⟩
  rw [List.length_range, List.length_map] at h
  omega
/-- A fence at the end of the first thread. -/
def fenI : Ins := ⟨4, 0, 0, 0⟩
def fenP : Prg → Prg
  | [] => []
  | t :: p => (t ++ [fenI]) :: p
theorem fenP_length (p : Prg) : (fenP p).length = p.length := by cases p <;> rfl
theorem st0_fen (p : Prg) : st0 (fenP p) = st0 p := by unfold st0; rw [fenP_length]
theorem thr_fen {p : Prg} {t : Nat} (h : t ≠ 0) : thrP (fenP p) t = thrP p t := by
  obtain ⟨k, rfl⟩ : ∃ k, t = k + 1 := ⟨t - 1, by omega⟩
  cases p <;> rfl
theorem thr_fen0 {p : Prg} (h : 0 < p.length) : thrP (fenP p) 0 = thrP p 0 ++ [fenI] := by
  match p, h with
  | a :: p, _ => rfl
theorem len_fen {p : Prg} (h : 0 < p.length) (t : Nat) : (thrP (fenP p) t).length = (thrP p t).length + if t = 0 then 1 else 0 := by
  by_cases ht : t = 0
  · subst ht; rw [thr_fen0 h, if_pos rfl]; simp
  · rw [thr_fen ht, if_neg ht]; rfl
theorem ins_fen {p : Prg} {s : St} {t : Nat} (h : 0 < p.length) (hl : pcS s t < (thrP p t).length) : insS (fenP p) s t = insS p s t := by
  unfold insS
  by_cases ht : t = 0
  · subst ht
    rw [thr_fen0 h, List.getD_eq_getElem?_getD, List.getElem?_append_left hl, ← List.getD_eq_getElem?_getD]
  · rw [thr_fen ht]
theorem suc_fen {p : Prg} (h : 0 < p.length) {s u : St} (hu : u ∈ sucS p s) : u ∈ sucS (fenP p) s := by
  obtain ⟨t, ht, rfl⟩ := List.mem_map.1 hu
  obtain ⟨h1, h2⟩ := mem_mvS.1 ht
  refine List.mem_map.2 ⟨t, mem_mvS.2 ⟨by rw [fenP_length]; exact h1, by rw [len_fen h]; omega⟩, ?_⟩
  unfold nxS
  rw [ins_fen h h2]
theorem reach_fen {p : Prg} (h : 0 < p.length) {s : St} (hs : Reach (sucS p) (st0 p) s) : Reach (sucS (fenP p)) (st0 (fenP p)) s := by
  induction hs with
  | start => rw [← st0_fen p]; exact .start
  | next _ hu ih => exact .next ih (suc_fen h hu)
/-- The state behind the fence. -/
def behS (s : St) : St := ⟨s.pc.set 0 (pcS s 0 + 1), s.regs, s.mem⟩
theorem do_fen (s : St) : doS s 0 fenI = behS s := rfl
theorem nx_fen {p : Prg} {s : St} (h : 0 < p.length) (hl : pcS s 0 = (thrP p 0).length) : nxS (fenP p) s 0 = behS s := by
  unfold nxS insS
  rw [thr_fen0 h, List.getD_eq_getElem?_getD, List.getElem?_append_right (by omega), hl, Nat.sub_self]
  rfl
theorem pc_beh {s : St} (h : 0 < s.pc.length) (t : Nat) : pcS (behS s) t = if t = 0 then pcS s 0 + 1 else pcS s t := by
  unfold behS
  rw [pcS, List.getD_eq_getElem?_getD, List.getElem?_set]
  by_cases ht : t = 0
  · subst ht; simp [h]
  · rw [if_neg (fun e => ht e.symm), if_neg ht, ← List.getD_eq_getElem?_getD]; rfl
theorem beh_do {s : St} {t : Nat} {x : Ins} (h : 0 < s.pc.length) (ht : t ≠ 0) : doS (behS s) t x = behS (doS s t x) := by
  have h1 : pcS (behS s) t = pcS s t := by rw [pc_beh h, if_neg ht]
  have h2 : pcS (doS s t x) 0 = pcS s 0 := by
    show (s.pc.set t (pcS s t + 1)).getD 0 0 = s.pc.getD 0 0
    rw [List.getD_eq_getElem?_getD, List.getElem?_set, if_neg ht, ← List.getD_eq_getElem?_getD]
  unfold doS at h2 ⊢
  unfold behS at h1 ⊢
  simp only [h1, h2]
  rw [List.set_comm _ _ (fun e => ht e.symm)]
  rfl
/-- What the longer program reaches. -/
theorem fen_reach {p : Prg} (hp : PrgOk p) {s : St} (hs : Reach (sucS (fenP p)) (st0 (fenP p)) s) : Reach (sucS p) (st0 p) s ∨ ∃ u, Reach (sucS p) (st0 p) u ∧ pcS u 0 = (thrP p 0).length ∧ s = behS u := by
  have h0 := hp.2.1
  induction hs with
  | start => rw [st0_fen]; exact .inl .start
  | @next s u _ hu ih =>
    obtain ⟨t, ht, rfl⟩ := List.mem_map.1 hu
    obtain ⟨h1, h2⟩ := mem_mvS.1 ht
    rw [fenP_length] at h1
    rw [len_fen h0] at h2
    rcases ih with hr | ⟨u, hr, he, rfl⟩
    · by_cases hlt : pcS s t < (thrP p t).length
      · refine .inl (.next hr (List.mem_map.2 ⟨t, mem_mvS.2 ⟨h1, hlt⟩, ?_⟩))
        unfold nxS
        rw [ins_fen h0 hlt]
      · by_cases h3 : t = 0
        · subst h3
          rw [if_pos rfl] at h2
          exact .inr ⟨s, hr, by omega, nx_fen h0 (by omega)⟩
        · rw [if_neg h3] at h2
          omega
    · have hok := reach_ok hp hr
      have hpl : 0 < u.pc.length := by rw [hok.pcl]; exact h0
      rw [pc_beh hpl] at h2
      by_cases h3 : t = 0
      · subst h3
        rw [if_pos rfl, if_pos rfl] at h2
        omega
      · rw [if_neg h3, if_neg h3] at h2
        have hm : t ∈ mvS p u := mem_mvS.2 ⟨h1, h2⟩
        refine .inr ⟨nxS p u t, .next hr (List.mem_map.2 ⟨t, hm, rfl⟩), ?_, ?_⟩
        · unfold nxS
          rw [pc_set hok h1, if_neg (fun e => h3 e.symm)]
          exact he
        · unfold nxS
          have h5 : insS (fenP p) (behS u) t = insS p u t := by
            unfold insS
            rw [thr_fen h3, pc_beh hpl, if_neg h3]
          rw [h5, beh_do hpl h3]
theorem done_iff {p : Prg} {s : St} : doneS p s = true ↔ ∀ t, t < p.length → (thrP p t).length ≤ pcS s t := by
  unfold doneS onS
  rw [List.all_eq_true]
  refine ⟨fun h t ht => ?_, fun h t ht => ?_⟩
  · have := h t (List.mem_range.2 ht)
    simpa using this
  · have := h t (List.mem_range.1 ht)
    simpa using this
theorem done_beh {p : Prg} (hp : PrgOk p) {s : St} (hs : StOk p s) (hd : doneS p s = true) : Reach (sucS p) (st0 p) s → Reach (sucS (fenP p)) (st0 (fenP p)) (behS s) ∧ doneS (fenP p) (behS s) = true := fun hr => by
  have h0 := hp.2.1
  have hpl : 0 < s.pc.length := by rw [hs.pcl]; exact h0
  have hd' := done_iff.1 hd
  have h1 : pcS s 0 = (thrP p 0).length := by have := hs.pcb 0; have := hd' 0 h0; omega
  refine ⟨.next (reach_fen h0 hr) (List.mem_map.2 ⟨0, mem_mvS.2 ⟨by rw [fenP_length]; exact h0, by rw [len_fen h0, if_pos rfl]; omega⟩, nx_fen h0 h1⟩), done_iff.2 fun t ht => ?_⟩
  rw [fenP_length] at ht
  have := hd' t ht
  rw [len_fen h0, pc_beh hpl]
  by_cases h3 : t = 0
  · subst h3; rw [if_pos rfl, if_pos rfl]; omega
  · rw [if_neg h3, if_neg h3]; omega
theorem sum_mono : ∀ (l m : List Nat), l.length = m.length → (∀ t, l.getD t 0 ≤ m.getD t 0) → l.foldr (· + ·) 0 ≤ m.foldr (· + ·) 0
  | [], [], _, _ => Nat.le_refl _
  | [], _ :: _, h, _ => by simp at h
  | _ :: _, [], h, _ => by simp at h
  | a :: l, b :: m, h, hg => by
    have h0 := hg 0
    have := sum_mono l m (by simpa using h) fun t => by have := hg (t + 1); simpa using this
    simp only [List.getD_cons_zero, List.foldr_cons] at h0 ⊢
    omega
theorem rk_most {p : Prg} {s : St} (hs : StOk p s) : rkS s ≤ (p.map List.length).foldr (· + ·) 0 :=
  sum_mono _ _ (by rw [hs.pcl, List.length_map]) fun t => by
    have h := hs.pcb t
    unfold pcS thrP at h
    have h2 : (p.map List.length).getD t 0 = (p.getD t []).length := by
      rw [List.getD_eq_getElem?_getD, List.getD_eq_getElem?_getD, List.getElem?_map]
      cases p[t]? <;> rfl
    omega
theorem exists_done {p : Prg} (hp : PrgOk p) : ∃ s, Reach (sucS p) (st0 p) s ∧ doneS p s = true := by
  obtain ⟨s, h1, h2⟩ := rank_any hp _ (Nat.le_refl _)
  refine ⟨s, h1, ?_⟩
  false_or_by_contra
  rename_i hd
  obtain ⟨t, ht⟩ := not_done hd
  have h3 := rk_next (reach_ok hp h1) ht
  have h4 : Reach (sucS p) (st0 p) (nxS p s t) := .next h1 (List.mem_map.2 ⟨t, ht, rfl⟩)
  have h5 := reach_ok hp h4
  have h6 : rkS (nxS p s t) ≤ wSum List.length p := by
    rw [← wSum_foldr]
    exact rk_most h5
  omega
theorem fen_more {p : Prg} (hp : PrgOk p) {V V' : List St} (hV : Dfs (sucS p) (st0 p) V []) (hV' : Dfs (sucS (fenP p)) (st0 (fenP p)) V' []) : V.length < V'.length := by
  have h0 := hp.2.1
  obtain ⟨s, hr, hd⟩ := exists_done hp
  have hok := reach_ok hp hr
  have hpl : 0 < s.pc.length := by rw [hok.pcl]; exact h0
  have hn : behS s ∉ V := fun h => by
    have h1 := reach_ok hp (hV.reach _ h)
    have h2 := h1.pcb 0
    rw [pc_beh hpl, if_pos rfl] at h2
    have := done_iff.1 hd 0 h0
    omega
  have h := nodup_le (behS s :: V) V' (List.nodup_cons.2 ⟨hn, hV.nd⟩) fun u hu => by
    rcases List.mem_cons.1 hu with rfl | hu
    · exact hV'.all.2 (done_beh hp hok hd hr).1
    · exact hV'.all.2 (reach_fen h0 (hV.reach _ hu))
  rw [List.length_cons] at h
  omega
theorem fen_outs {p : Prg} (hp : PrgOk p) (y : List Int) : (∃ s, Reach (sucS (fenP p)) (st0 (fenP p)) s ∧ doneS (fenP p) s = true ∧ outS s = y) ↔ ∃ s, Reach (sucS p) (st0 p) s ∧ doneS p s = true ∧ outS s = y := by
  have h0 := hp.2.1
  refine ⟨fun ⟨s, hr, hd, ho⟩ => ?_, fun ⟨s, hr, hd, ho⟩ => ?_⟩
  · have hd' := done_iff.1 hd
    rcases fen_reach hp hr with hr' | ⟨u, hr', he, rfl⟩
    · have h1 := hd' 0 (by rw [fenP_length]; exact h0)
      rw [len_fen h0, if_pos rfl] at h1
      have := (reach_ok hp hr').pcb 0
      omega
    · have hok := reach_ok hp hr'
      have hpl : 0 < u.pc.length := by rw [hok.pcl]; exact h0
      refine ⟨u, hr', done_iff.2 fun t ht => ?_, ho⟩
      have h1 := hd' t (by rw [fenP_length]; exact ht)
      rw [len_fen h0, pc_beh hpl] at h1
      by_cases h3 : t = 0
      · subst h3; omega
      · rw [if_neg h3, if_neg h3] at h1; omega
  · exact ⟨behS s, (done_beh hp (reach_ok hp hr) hd hr).1, (done_beh hp (reach_ok hp hr) hd hr).2, ho⟩

end Go.Proofs.Ytcckflijaolnkaa
