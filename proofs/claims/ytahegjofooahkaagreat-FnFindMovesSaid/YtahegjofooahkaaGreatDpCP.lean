/-
  The walk of l1Copy: the program in new memory, to be written. The walk of l1Mutate: some program of few threads and instructions. The walk of DrawProgramValid: some program of few threads and instructions.
-/
import Derived.Test.YtahegjofooahkaaGreatDpBP
import Derived.Test.YtahegjofooahkaaGreatThr2
import Derived.Deep.RegionLaw

/-! The walk of l1Copy: the program in new memory, to be written. -/
namespace Go.Proofs.YtahegjofooahkaaGreat
open Go.RowKit
set_option linter.unusedVariables false
set_option maxRecDepth 100000

theorem qin_one : ∀ (cs : Nat → Value) (y : Ins), QIn cs y → ∀ j, j < 4 → (cs j).oneCell' = true := fun cs y h j hj => by
  match j, hj with
  | 0, _ => rw [h.1]; rfl
  | 1, _ => rw [h.2.1]; rfl
  | 2, _ => rw [h.2.2.1]; rfl
  | 3, _ => rw [h.2.2.2]; rfl

def RetCp (w : World) (p : Prg) (e : Ending) (w' : World) : Prop := ∃ (v : Value) (cs : List Value) (Fs : Nat → List Nat), e = .returned v ∧ PrgW w' w.heap.size v p cs Fs ∧ Below w.heap.size w w'

set_option maxHeartbeats 2000000 in
theorem copyP_any (p : Prg) (hp : Few 1000 1000 p) (w : World) (v : Value) (hr : PrgS w v p) : Calls Tryz.prog 92 #[v] w (RetCp w p) := by
  obtain ⟨i0, hi0, hz0, hz1, hz2⟩ := info_parts Tryz.infoIns
  obtain ⟨i1, hi1, hy0, hy1, hy2⟩ := info_parts Tryz.infoInsS
  obtain ⟨A, c, rfl, _⟩ := hr.slice
  have hpl := hp.1
  have hrow0 : PrgW (w.alloc (.cells #[] 50)) w.heap.size (.slice (some ⟨w.heap.size, 0, none⟩) 0 0) (p.take 0) [] (fun _ => []) := RowW.made 1 thr (Own.new _ _ _) (Nat.le_refl _)
  have Hrow0 := Lib.hid hrow0
  clear hrow0
  go_enter Tryz.func92, Tryz.ntmps92
  go_wp2_with fail
  go_loopg [3, 4] p.length (fun g s3 s4 wr => ∃ (i : Nat) (v : Value) (cs : List Value) (Fs : Nat → List Nat), i ≤ p.length ∧ g = p.length - i ∧ v = s3 ∧ s4 = .int .i64 i ∧ Hid (PrgW wr w.heap.size v (p.take i) cs Fs) ∧ Below w.heap.size w wr)
  case atStart => exact ⟨0, _, [], _, Nat.zero_le _, rfl, rfl, rfl, Hrow0.out, (Below.refl _ _).alloc (Nat.le_refl _) _⟩
  case round =>
    obtain ⟨wo, rfl⟩ : ∃ wo : World, wo = wr := ⟨_, rfl⟩
    obtain ⟨i, v, cs, Fs, hi, rfl, rfl, rfl, hrow, hb⟩ := hrel
    by_cases hlt : i < p.length
    · obtain ⟨bb, o, A1, c1, rfl, hbl, k0, hlm, hx⟩ := SlR.getSub (PrgS.le hr (Le.below hb)) hlt
      have h1000 := hp.2 _ (List.getElem_mem hlt)
      have Htk := Lib.hid (List.take_succ_eq_append_getElem hlt)
      have hlen : (p.take i).length ≤ i := by rw [List.length_take]; omega
      have hso := hb.size
      generalize p[i] = t at hx hlm k0 h1000 Htk
      have Hx1 : Hid (InsS (wo.alloc (.cells #[] 52)) (.slice A1 t.length c1) t) := InsS.le hx (Le.alloc _ _)
      have Ht0 : Hid (RowT (wo.alloc (.cells #[] 52)) wo.heap.size (.slice (some ⟨wo.heap.size, 0, none⟩) 0 0) []) := RowOf.made _ (Own.new _ _ _) (Nat.le_refl _)
      clear hr hx
      have Hold : Hid (∀ (w2 : World), (wo.alloc (.cells #[] 52)).grownBy w2 (Value.slice (some ⟨wo.heap.size, 0, none⟩) 0 0).ownBlock → ∀ b, b < wo.heap.size → w2.heap[b]? = wo.heap[b]?) := fun w2 hg b hb =>
        (World.grownBy.block hg b (by simp; omega) (fun e => by simp only [Value.ownBlock, Option.some.injEq] at e; omega)).trans (Go.Deep.blk_alloc_lt _ _ _ hb)
      go_wp2_with (at_builtin; first
        | (refine wpList_append_list (o := ⟨some 18, _, _, _, _, _⟩) (by rfl) _ _ _ (by rfl) qin_congr (R := RIns) wo.heap.size 52 i0 _ 32 Tryz.underlying50 hi0 hz0 hz1 hz2 rfl (by omega) _ [] (by rfl) Ht0.out A1 c1 t (by rfl) Hx1.out (fun cs y h => h) qin_one (by simp [maxLen]; omega) (by simp; omega) (by simp) (wo.heap.size + 1) (by simp) ?_; intro A2 c2 w2 hrt hgrow hat2; rw [List.nil_append] at hrt hat2; have hs2 := World.grownBy.size hgrow; simp only [World.size_alloc] at hs2)
        | (refine wpList_append_lies (o := ⟨some 20, _, _, _, _, _⟩) _ (by rfl) _ _ _ (by rfl) w.heap.size 50 i1 _ 1 24 Tryz.underlying23 hi1 hy0 hy1 hy2 rfl (by omega) v (p.take i).length cs (by rfl) (owns_alloc (owns_of_block hrow.out.own (w' := w2) fun g _ _ hl => Hold.out w2 hgrow g hl) _) ⟨w2.heap.size, 0, none⟩ 1 1 [.slice A2 t.length c2] (by rfl) (by rfl) (World.news_of_block (cs := #[.slice A2 t.length c2]) (t := 50) (fr := (0, 0)) (heap_alloc_new w2 _)) (by simp [Value.oneCell']) (by omega) (by simp [maxLen]; omega) (by omega) (by simp; omega) (w2.heap.size + 1) (by simp) ?_; intro gg cap w6 hown6 hgrow6 hat6 hlt6))
      have hp6 := hrow.out.push thr_loc (X := w2.alloc (.cells #[.slice A2 t.length c2] 50)) (by simp; omega) (fun b _ hl => (Go.Deep.blk_alloc_lt _ _ _ (by omega)).trans (Hold.out w2 hgrow b hl)) hgrow6 (news := [.slice A2 t.length c2]) rfl (RowT.thr (hrt.of_block (w' := w2.alloc (.cells #[.slice A2 t.length c2] 50)) fun g _ _ hl => Go.Deep.blk_alloc_lt _ _ _ hl)) (fun b hb => (hrt.blk (mem_own.1 hb)).1) (own_nodup _) hso hown6 hat6 (by simp)
      have hB6 : Below w.heap.size w w6 := below_grown (X := w2.alloc (.cells #[.slice A2 t.length c2] 50)) (hb.trans ⟨(World.grownBy.os hgrow).trans rfl, (World.grownBy.tape hgrow).trans rfl, (World.grownBy.output hgrow).trans rfl, (by simp; omega), fun b hbl => (Go.Deep.blk_alloc_lt _ _ _ (by omega)).trans (Hold.out w2 hgrow b (by omega))⟩) hgrow6 (Nat.le_refl _) (fun g hg => owns_base' hrow.out.own hg)
      rw [← Htk.out, show (p.take i).length = i by rw [List.length_take]; omega] at hp6
      go_roundg (p.length - (i + 1))
      case measure => omega
      case rel => exact ⟨i + 1, _, _, _, by omega, rfl, rfl, by go_num, hp6, hB6⟩
    · obtain rfl : i = p.length := by omega
      go_wp2_with fail
      go_ret
      rw [List.take_length] at hrow
      exact ⟨v, cs, Fs, rfl, hrow.out, hb⟩

end Go.Proofs.YtahegjofooahkaaGreat

/-! The walk of l1Mutate: some program of few threads and instructions. -/
namespace Go.Proofs.YtahegjofooahkaaGreat
open Go.RowKit
set_option linter.unusedVariables false
set_option maxRecDepth 100000

def RetMP (w : World) (R p : Nat) (e : Ending) (w' : World) : Prop := ∃ (pr : Prg) (v : Value) (p' : Nat), e = .returned v ∧ PrgQ (above w.heap.size w') v pr ∧ Few 2000 2000 pr ∧ Mv R w w' ∧ Rd w' R p' ∧ p' ≤ p + 1000

/-- Behind l1Mutate's copy: the program in a row of its own; the source's count. -/
structure MuS (w V : World) (R q : Nat) (v : Value) (pr : Prg) (cs : List Value) (Fs : Nat → List Nat) : Prop where
  row : PrgW V w.heap.size v pr cs Fs
  mv : Mv R w V
  rd : Rd V R q
  hR : R < w.heap.size
theorem MuS.mv' {w V V' : World} {R q q' : Nat} {v : Value} {pr : Prg} {cs : List Value} {Fs : Nat → List Nat} (h : MuS w V R q v pr cs Fs) (m : Mv R V V') (r : Rd V' R q') : MuS w V' R q' v pr cs Fs :=
  ⟨h.row.move thr_loc fun b hb hl => m.block hl (by have := h.hR; omega), h.mv.trans m, r, h.hR⟩
theorem MuS.fin {w V : World} {R p q : Nat} {v : Value} {pr : Prg} {cs : List Value} {Fs : Nat → List Nat} (h : MuS w V R q v pr cs Fs) (hf : Few 2000 2000 pr) (hq : q ≤ p + 1000) : RetMP w R p (.returned v) V :=
  ⟨pr, v, q, rfl, h.row.prgQ, hf, h.mv, h.rd, hq⟩
/-- Thread i is appended to. -/
theorem MuS.set {w V X V1 : World} {R q q1 g n c i : Nat} {pr : Prg} {cs : List Value} {Fs : Nat → List Nat} {t' : List Ins} {A' : Option Addr} {c' : Nat} (h : MuS w V R q (.slice (some ⟨g, 0, none⟩) n c) pr cs Fs) (hi : i < pr.length) (m : Mv R V X) (r : Rd X R q1) (hg : X.grownBy V1 (cs.getD i undef).ownBlock)
    (ht : RowT V1 0 (.slice A' t'.length c') t') (hat : ∀ g, (Value.slice A' t'.length c').ownBlock = some g → (cs.getD i undef).ownBlock = some g ∨ V.heap.size ≤ g) :
    MuS w (V1.setCell ⟨g, i, none⟩ (.slice A' t'.length c')) R q1 (.slice (some ⟨g, 0, none⟩) n c) (pr.set i t') (cs.set i (.slice A' t'.length c')) (fun j => if j = i then (Value.slice A' t'.length c').ownBlock.toList else Fs j) := by
  obtain ⟨g', c0, e0, hgb, hgl, hc, hf, hth, hnd, hge, _⟩ := h.row.elem1 thr_loc hi
  injection e0 with e1 e2 e3
  injection e1 with e1
  injection e1 with e1
  subst e1
  have hR := h.hR
  have hFi : Fs i = (cs.getD i undef).ownBlock.toList := hth.2
  have hvs := h.mv.size
  have hms := m.size
  have hgs := World.grownBy.size hg
  have blk : ∀ b, b < V.heap.size → b ≠ R → b ∉ Fs i → V1.heap[b]? = V.heap[b]? := fun b hb hbR hn =>
    (World.grownBy.block hg b (by omega) (fun e => hn (by rw [hFi]; exact mem_own.2 e.symm))).trans (m.block hb hbR)
  refine ⟨h.row.set thr_loc hi (by omega) (fun b hb hl hn => blk b hl (by omega) hn) ⟨ht, rfl⟩ (own_nodup _) (fun b hb => ?_), ?_, ?_, hR⟩
  · rcases hat b (mem_own.1 hb) with h1 | h1
    · have h2 : b ∈ Fs i := by rw [hFi]; exact mem_own.2 h1
      exact ⟨(hge b h2).1, .inl h2⟩
    · exact ⟨by omega, .inr h1⟩
  · exact (mv_grownV (h.mv.trans m) hg (fun b hb => (hge b (by rw [hFi]; exact mem_own.2 hb)).1)).setNew (by show w.heap.size ≤ g; exact hgb) _
  · exact (rd_grown r hg (fun b hb => by have := (hge b (by rw [hFi]; exact mem_own.2 hb)).1; omega)).setNew (by show R < g; omega) _

/-- .. by one instruction x; X is the world of the append, V1 the one behind it. -/
theorem MuS.app {w V X V1 : World} {R q q1 g n c i gg cap H : Nat} {pr : Prg} {cs : List Value} {Fs : Nat → List Nat} {t : List Ins} {At : Option Addr} {ct : Nat} {cells news : List Value} (x : Ins) (h : MuS w V R q (.slice (some ⟨g, 0, none⟩) n c) pr cs Fs) (hi : i < pr.length) (hvi : cs.getD i undef = .slice At t.length ct)
    (hown : V.ownsRow 0 52 4 (.slice At t.length ct) t.length cells) (hq : ∀ i (h : i < t.length), QIn (fun j => cells.getD (i * 4 + j) undef) t[i]) (m : Mv R V X) (r : Rd X R q1) (hg : X.grownBy V1 (Value.slice At t.length ct).ownBlock) (hn : news.length = 4) (hx : QIn (fun j => news.getD j undef) x)
    (hown1 : V1.ownsRow 0 52 4 (.slice (some ⟨gg, 0, none⟩) (t.length + 1) cap) (t.length + 1) (cells ++ news)) (hat : (Value.slice At t.length ct).ownBlock = some gg ∨ gg = H) (hH : V.heap.size ≤ H) :
    ∃ cs' Fs', MuS w (V1.setCell ⟨g, i, none⟩ (.slice (some ⟨gg, 0, none⟩) (t.length + 1) cap)) R q1 (.slice (some ⟨g, 0, none⟩) n c) (pr.set i (t ++ [x])) cs' Fs' := by
  have ht : RowT V1 0 (.slice (some ⟨gg, 0, none⟩) (t ++ [x]).length cap) (t ++ [x]) := by
    rw [List.length_append, List.length_singleton]
    exact RowOf.snoc qin_congr hown hq hn hx hown1
  have h2 := h.set hi m r (by rw [hvi]; exact hg) ht (fun b hb => by
    simp only [Value.ownBlock, Option.some.injEq] at hb
    subst hb
    rw [hvi]
    rcases hat with e | e
    · exact .inl e
    · exact .inr (by omega))
  rw [List.length_append, List.length_singleton] at h2
  exact ⟨_, _, h2⟩
/-- A thread more, without instructions. -/
theorem MuS.push {w V V1 : World} {R q gg cap : Nat} {v : Value} {pr : Prg} {cs : List Value} {Fs : Nat → List Nat} (h : MuS w V R q v pr cs Fs) (hg : ((V.alloc (.cells #[] 52)).alloc (.cells #[.slice (some ⟨V.heap.size, 0, none⟩) 0 0] 50)).grownBy V1 v.ownBlock)
    (hown1 : V1.ownsRow w.heap.size 50 1 (.slice (some ⟨gg, 0, none⟩) (pr.length + 1) cap) (pr.length + 1) (cs ++ [.slice (some ⟨V.heap.size, 0, none⟩) 0 0])) (hat : v.ownBlock = some gg ∨ gg = V.heap.size + 2) :
    ∃ Fs', MuS w V1 R q (.slice (some ⟨gg, 0, none⟩) (pr.length + 1) cap) (pr ++ [[]]) (cs ++ [.slice (some ⟨V.heap.size, 0, none⟩) 0 0]) Fs' := by
  have hR := h.hR
  have hs := h.mv.size
  have hth : RowT ((V.alloc (.cells #[] 52)).alloc (.cells #[.slice (some ⟨V.heap.size, 0, none⟩) 0 0] 50)) V.heap.size (.slice (some ⟨V.heap.size, 0, none⟩) 0 0) [] := RowOf.made _ ((Own.new _ _ _).alloc _) (Nat.le_refl _)
  refine ⟨_, h.row.push thr_loc (by simp; omega) (fun b hb hl => (Go.Deep.blk_alloc_lt _ _ _ (by simp; omega)).trans (Go.Deep.blk_alloc_lt _ _ _ hl)) hg rfl hth.thr (fun b hb => (hth.blk (mem_own.1 hb)).1) (own_nodup _) hs hown1 hat (by simp), ?_, ?_, hR⟩
  · exact mv_grownV ((h.mv.alloc _).alloc _) hg (fun b hb => owns_base' h.row.own hb)
  · exact rd_grown ((h.rd.alloc _).alloc _) hg (fun b hb => by have := owns_base' h.row.own hb; omega)
theorem MuS.drop {w V : World} {R p q g n c : Nat} {pr : Prg} {cs : List Value} {Fs : Nat → List Nat} (h : MuS w V R q (.slice (some ⟨g, 0, none⟩) n c) pr cs Fs) (hf : Few 2000 2000 pr) (hl : 0 < pr.length) (hq : q ≤ p + 1000) (c' : Nat) : RetMP w R p (.returned (.slice (some ⟨g, 1, none⟩) (pr.length - 1) c')) V := by
  cases pr with
  | nil => simp at hl
  | cons t pr =>
    refine ⟨pr, _, q, ?_, PrgQ.tail h.row.prgQ c', ⟨by have := hf.1; simp at this; omega, fun x hx => hf.2 x (List.mem_cons_of_mem _ hx)⟩, h.mv, h.rd, hq⟩
    simp
theorem Few.set {n m : Nat} {p : Prg} {t : List Ins} (h : Few n m p) (i : Nat) (ht : t.length ≤ m) : Few n m (p.set i t) :=
  ⟨by rw [List.length_set]; exact h.1, fun s hs => by
    rcases List.mem_or_eq_of_mem_set hs with hs | rfl
    · exact h.2 s hs
    · exact ht⟩
theorem num4_any (X : World) (R q b : Nat) (a0 a1 a2 a3 : Int) (hq : q ≤ 1000000000) (hr : Rd X R q) (ho : Own X b 3 #[.int .i64 a0, .int .i64 a1, .int .i64 a2, .int .i64 a3]) (hb : R < b) :
    Calls Tryz.prog 51 #[.pointer (some ⟨R, 0, none⟩), .slice (some ⟨b, 0, none⟩) 4 4] X (RetNum X R q [a0, a1, a2, a3]) :=
  num_any X R q _ 4 [a0, a1, a2, a3] (by omega) hr (ints_lit [a0, a1, a2, a3] ho hb rfl (by omega) (fun i hi => by
    match i, hi with
    | 0, _ => rfl
    | 1, _ => rfl
    | 2, _ => rfl
    | 3, _ => rfl)) (by simp)
theorem num3_any (X : World) (R q b : Nat) (a0 a1 a2 : Int) (hq : q ≤ 1000000000) (hr : Rd X R q) (ho : Own X b 3 #[.int .i64 a0, .int .i64 a1, .int .i64 a2]) (hb : R < b) :
    Calls Tryz.prog 51 #[.pointer (some ⟨R, 0, none⟩), .slice (some ⟨b, 0, none⟩) 3 3] X (RetNum X R q [a0, a1, a2]) :=
  num_any X R q _ 3 [a0, a1, a2] (by omega) hr (ints_lit [a0, a1, a2] ho hb rfl (by omega) (fun i hi => by
    match i, hi with
    | 0, _ => rfl
    | 1, _ => rfl
    | 2, _ => rfl)) (by simp)
theorem own_new2 (w : World) (o : Obj) (t : TypeId) (cs : Array Value) : Own ((w.alloc o).alloc (.cells cs t)) (w.heap.size + 1) t cs := by simpa using Own.new (w.alloc o) t cs

set_option maxHeartbeats 8000000 in
theorem mutP_any (w : World) (R p : Nat) (v : Value) (pr : Prg) (hp : p ≤ 900000000) (hr : Rd w R p) (hv : PrgS w v pr) (hf : Few 1000 1000 pr) : Calls Tryz.prog 52 #[.pointer (some ⟨R, 0, none⟩), v] w (RetMP w R p) := by
  obtain ⟨i0, hi0, hz0, hz1, hz2⟩ := info_parts Tryz.infoIns
  obtain ⟨i1, hi1, hy0, hy1, hy2⟩ := info_parts Tryz.infoInsS
  obtain ⟨A, c, rfl, _⟩ := hv.slice
  have hcp := copyP_any pr hf w _ hv
  have hR := hr.lt
  have hpl := hf.1
  go_enter Tryz.func52, Tryz.ntmps52
  go_wp2_with fail
  refine hcp.mono ?_
  rintro e1 w1 ⟨v1, cs, Fs, rfl, hrow, hb1⟩
  have ms : MuS w w1 R p v1 pr cs Fs := ⟨hrow, Mv.of_below hb1, hr.below hb1, hR⟩
  have Ms := Lib.hid ms
  clear hrow hb1 hcp hr ms hv
  by_cases hl0 : pr.length = 0
  · obtain ⟨A1, c1, rfl, _⟩ := Ms.out.row.prgS.slice
    rw [hl0]
    go_wp2_with fail
    go_ret
    rw [← hl0]
    exact Ms.out.fin (hf.mono (by omega) (by omega)) (by omega)
  obtain ⟨A1, c1, rfl, _⟩ := Ms.out.row.prgS.slice
  have hpk := pick_any w1 R p pr.length (by omega) Ms.out.rd
  have hne : ((pr.length : Int) == 0) = false := by rw [beq_eq_false_iff_ne]; omega
  go_wp2_with fail
  refine hpk.mono ?_
  rintro e2 w2 ⟨i, rfl, hi0', hi1', m2, r2⟩
  obtain ⟨i, rfl⟩ : ∃ k : Nat, i = k := ⟨i.toNat, by omega⟩
  have hi : i < pr.length := by have := hi1' (by omega); omega
  have Ms2 := Lib.hid (Ms.out.mv' m2 r2)
  have hpk := pick_any w2 R (p + 1) 40 (by omega) r2
  clear hi0' hi1' m2 r2 Ms
  go_wp2_with fail
  refine hpk.mono ?_
  rintro e3 w3 ⟨k, rfl, hk0, hk1, m3, r3⟩
  have Ms3 := Lib.hid (Ms2.out.mv' m3 r3)
  have hk40 : k < 40 := hk1 (by omega)
  clear hpk m3 r3 Ms2 hk1
  obtain ⟨g, c1', e0, hgb, hgl, hc, hfr, hth, hnd, hge, hgc, hgc'⟩ := Ms3.out.row.elem1 thr_loc hi
  injection e0 with e0 e2 e3
  subst e0 e3
  clear e2
  have hti := hth.1
  simp only at hti
  obtain ⟨At, ct, hvi, htc, htc'⟩ := hti.slice
  have htl := hf.2 _ (List.getElem_mem hi)
  have Hvi := Lib.hid hvi
  have Htg : Hid ((Value.slice At pr[i].length ct).ownBlock ≠ some g) := fun e => (hge g (by rw [hth.2]; exact mem_own.2 (by rw [hvi]; exact e))).2 rfl
  have HtR : Hid (∀ b, (Value.slice At pr[i].length ct).ownBlock = some b → w.heap.size ≤ b) := fun b e => (hge b (by rw [hth.2]; exact mem_own.2 (by rw [hvi]; exact e))).1
  rw [hvi] at hc
  have Hti := Lib.hid hti
  have hii : (i : Int) < (pr.length : Int) := by omega
  generalize pr[i] = t at hc htc htl Hvi Hti Htg HtR
  clear hvi hti hth hnd hge
  have hms3 := Ms3.out.mv.size
  obtain ⟨cells, hown, hqt⟩ := Hti.out
  rw [Hvi.out] at hown
  have Hown := Lib.hid hown
  have Hqt := Lib.hid hqt
  have HM : Hid (∀ X, Mv R w3 X → X.cell? ⟨g, i, none⟩ = some (.slice At t.length ct) ∧ X.frozen? ⟨g, i, none⟩ = false ∧ w3.heap.size ≤ X.heap.size) := fun X m => ⟨m.cell hc (by show g ≠ R; omega), (World.frozen?_of_block (w := w3) (m.block (i := g) hgl (by omega))).trans hfr, m.size⟩
  clear hown hqt
  by_cases h0 : k = 0
  · subst h0
    go_wp2_with fail
    go_region_law (first
      | (go_simp; go_at_call 51; ((with_reducible refine (num4_any _ R (p + 1 + 1) _ 0 6 1 4 (by omega) ?_ ?_ ?_).mono ?_); (first | exact Ms3.out.rd.drew.alloc _ | exact (Ms3.out.rd.drew.alloc _).alloc _); (first | exact Own.new _ _ _ | exact (Own.new _ _ _).alloc _ | exact own_new2 _ _ _ _); omega; rintro e5 w5 ⟨x5, rfl, _, m5, r5⟩; have M5 : Mv R w3 w5 := (by first | exact ((Mv.refl R w3).drew.alloc _).trans m5 | exact (((Mv.refl R w3).drew.alloc _).alloc _).trans m5); obtain ⟨hc5, hf5, hs5⟩ := HM.out _ M5; have hl5 : g < w5.heap.size := Nat.lt_of_lt_of_le hgl hs5); go_wp2_with fail)
      | (go_simp; go_at_call 51; ((with_reducible refine (num3_any _ R (p + 1 + 1 + 1) _ 0 3 (-1) (by omega) ?_ ?_ ?_).mono ?_); (first | exact r5 | exact r5.alloc _); (first | exact Own.new _ _ _ | exact Own.mv ((Own.new w3.drew _ _).alloc _) m5 (by simp; omega) | exact Own.mv (own_new2 w3.drew _ _ _) m5 (by simp; omega)); (first | omega | (simp; omega)); rintro e6 w6 ⟨x6, rfl, _, m6, r6⟩; have M6 : Mv R w3 w6 := (by first | exact M5.trans m6 | exact (M5.alloc _).trans m6); obtain ⟨hc6, hf6, hs6⟩ := HM.out _ M6; have hl6 : g < w6.heap.size := Nat.lt_of_lt_of_le hgl hs6); go_wp2_with fail)
      | (refine step_append_lies _ (by rfl) _ _ _ (by rfl) 0 52 i0 _ 4 32 Tryz.underlying50 hi0 hz0 hz1 hz2 rfl (by omega) (.slice At t.length ct) t.length cells (by rfl) (owns_of_block Hown.out (fun g hv hb hlt => (Go.Deep.blk_alloc_lt _ _ _ (by omega)).trans (M6.block hlt (by have := HtR.out g hv; omega)))) ⟨w6.heap.size, 0, none⟩ 1 1 [.int .i64 x5, .int .i64 x6, .int .i64 0, .int .i64 0] (by rfl) (by rfl) (World.news_of_block (cs := #[.int .i64 x5, .int .i64 x6, .int .i64 0, .int .i64 0]) (t := 52) (fr := (0, 0)) (heap_alloc_new w6 _)) (by simp [Value.oneCell']) (by omega) (by simp [maxLen]; omega) (by omega) (by simp) (w6.heap.size + 1) (by simp) ?_; intro gg cap w7 hown7 hgrow hat7 hlt7; have q2 : w7.cell? ⟨g, i, none⟩ = some (.slice At t.length ct) := (by rw [hgrow.cell_far _ (by simp; omega) (fun e => Htg.out e.symm)]; exact (HM.out _ (M6.alloc _)).1); have qf : w7.frozen? ⟨g, i, none⟩ = false := (by rw [hgrow.frozen_far _ (by simp; omega) (fun e => Htg.out e.symm)]; exact (HM.out _ (M6.alloc _)).2.1)))
    all_goals
      obtain ⟨cs', Fs', hms⟩ := MuS.app (V := w3) ⟨x5, x6, 0, 0⟩ Ms3.out hi Hvi.out Hown.out Hqt.out (M6.alloc _) (r6.alloc _) hgrow rfl ⟨rfl, rfl, rfl, rfl⟩ hown7 hat7 (by omega)
      have HMS := Lib.hid hms
      clear hms hgrow hown7 q2 qf
      go_wp2_with fail
      go_ret
      exact HMS.out.fin ((hf.mono (by omega) (by omega)).set i (by simp; omega)) (by omega)
  have b0 : (k == 0) = false := by rw [beq_eq_false_iff_ne]; exact h0
  by_cases h1 : k = 1
  · subst h1
    go_wp2_with fail
    go_region_law (first
      | (go_simp; go_at_call 51; ((with_reducible refine (num3_any _ R (p + 1 + 1) _ 4 (-1) 3 (by omega) ?_ ?_ ?_).mono ?_); exact Ms3.out.rd.drew.alloc _; exact Own.new _ _ _; (first | omega | (simp; omega)); rintro e6 w6 ⟨x6, rfl, _, m6, r6⟩; have M6 : Mv R w3 w6 := ((Mv.refl R w3).drew.alloc _).trans m6; obtain ⟨hc6, hf6, hs6⟩ := HM.out _ M6; have hl6 : g < w6.heap.size := Nat.lt_of_lt_of_le hgl hs6); go_wp2_with fail)
      | (refine step_append_lies _ (by rfl) _ _ _ (by rfl) 0 52 i0 _ 4 32 Tryz.underlying50 hi0 hz0 hz1 hz2 rfl (by omega) (.slice At t.length ct) t.length cells (by rfl) (owns_of_block Hown.out (fun g hv hb hlt => (Go.Deep.blk_alloc_lt _ _ _ (by omega)).trans (M6.block hlt (by have := HtR.out g hv; omega)))) ⟨w6.heap.size, 0, none⟩ 1 1 [.int .i64 2, .int .i64 0, .int .i64 0, .int .i64 x6] (by rfl) (by rfl) (World.news_of_block (cs := #[.int .i64 2, .int .i64 0, .int .i64 0, .int .i64 x6]) (t := 52) (fr := (0, 0)) (heap_alloc_new w6 _)) (by simp [Value.oneCell']) (by omega) (by simp [maxLen]; omega) (by omega) (by simp) (w6.heap.size + 1) (by simp) ?_; intro gg cap w7 hown7 hgrow hat7 hlt7; have q2 : w7.cell? ⟨g, i, none⟩ = some (.slice At t.length ct) := (by rw [hgrow.cell_far _ (by simp; omega) (fun e => Htg.out e.symm)]; exact (HM.out _ (M6.alloc _)).1); have qf : w7.frozen? ⟨g, i, none⟩ = false := (by rw [hgrow.frozen_far _ (by simp; omega) (fun e => Htg.out e.symm)]; exact (HM.out _ (M6.alloc _)).2.1)))
    all_goals
      obtain ⟨cs', Fs', hms⟩ := MuS.app (V := w3) ⟨2, 0, 0, x6⟩ Ms3.out hi Hvi.out Hown.out Hqt.out (M6.alloc _) (r6.alloc _) hgrow rfl ⟨rfl, rfl, rfl, rfl⟩ hown7 hat7 (by omega)
      have HMS := Lib.hid hms
      clear hms hgrow hown7 q2 qf
      go_wp2_with fail
      go_ret
      exact HMS.out.fin ((hf.mono (by omega) (by omega)).set i (by simp; omega)) (by omega)
  have b1 : (k == 1) = false := by rw [beq_eq_false_iff_ne]; exact h1
  by_cases h2 : k = 2
  · subst h2
    have hF : Few (pr.length + 5) 1000 pr := ⟨by omega, hf.2⟩
    have HF := Lib.hid hF
    clear hF
    go_wp2_with fail
    go_loopg [5] (4 - pr.length) (fun g5 s5 wr => ∃ (v' : Value) (pr' : Prg) (cs' : List Value) (Fs' : Nat → List Nat), v' = s5 ∧ g5 = 4 - pr'.length ∧ Hid (MuS w wr R (p + 1 + 1) v' pr' cs' Fs') ∧ Hid (Few 1500 1500 pr') ∧ pr'.length ≤ 1200)
    case atStart => exact ⟨_, pr, cs, Fs, rfl, rfl, Ms3.out, hf.mono (by omega) (by omega), by omega⟩
    case round =>
      obtain ⟨v', pr', cs', Fs', rfl, rfl, HR, hf', hl'⟩ := hrel
      obtain ⟨A5, c5, rfl, _⟩ := HR.out.row.prgS.slice
      have hsw := HR.out.mv.size
      by_cases h3 : pr'.length ≤ 3
      · have b3 : decide ((pr'.length : Int) ≤ 3) = true := by rw [decide_eq_true_iff]; omega
        generalize hv5 : Value.slice A5 pr'.length c5 = v' at HR
        obtain rfl := hv5
        obtain ⟨v', hv5⟩ : ∃ v', v' = Value.slice A5 pr'.length c5 := ⟨_, rfl⟩
        go_wp2_with (at_builtin; refine wpList_append_lies _ (by rfl) _ _ _ (by rfl) w.heap.size 50 i1 _ 1 24 Tryz.underlying23 hi1 hy0 hy1 hy2 rfl (by omega) (.slice A5 pr'.length c5) pr'.length cs' (by rfl) (owns_alloc (owns_alloc HR.out.row.own _) _) ⟨wr.heap.size + 1, 0, none⟩ 1 1 [.slice (some ⟨wr.heap.size, 0, none⟩) 0 0] (by rfl) (by rfl) (World.news_of_block (cs := #[.slice (some ⟨wr.heap.size, 0, none⟩) 0 0]) (t := 50) (fr := (0, 0)) (own_new2 _ _ _ _)) (by simp [Value.oneCell']) (by omega) (by simp [maxLen]; omega) (by omega) (by simp; omega) (wr.heap.size + 2) (by simp) ?_; intro gg cap w7 hown7 hgrow hat7 hlt7)
        obtain ⟨Fs9, h9⟩ := HR.out.push hgrow hown7 hat7
        go_roundg (4 - (pr' ++ [[]]).length)
        case measure => simp; omega
        case rel => exact ⟨_, pr' ++ [[]], _, Fs9, rfl, rfl, h9, ⟨by have := hf'.out.1; simp; omega, fun x hx => by
          rcases List.mem_append.1 hx with hx | hx
          · exact hf'.out.2 x hx
          · rw [List.mem_singleton.1 hx]; simp⟩, by simp; omega⟩
      · have b3 : decide ((pr'.length : Int) ≤ 3) = false := by rw [decide_eq_false_iff_not]; omega
        go_wp2_with fail
        go_ret
        exact HR.out.fin (hf'.out.mono (by omega) (by omega)) (by omega)
  have b2 : (k == 2) = false := by rw [beq_eq_false_iff_ne]; exact h2
  by_cases h3 : k = 3
  · subst h3
    have HF := Lib.hid hf
    have hset : pr.set i pr[i] = pr := List.set_getElem_self hi
    have Hst : Hid (∃ t, t.length ≤ 1000 ∧ pr.set i t = pr) := ⟨_, hf.2 _ (List.getElem_mem hi), hset⟩
    obtain ⟨t0, ht0, hs0⟩ := Hst.out
    clear hset Hst hf
    go_wp2_with fail
    go_loopg [66] (8 - t0.length) (fun g5 s66 wr => ∃ (t' : List Ins) (cs' : List Value) (Fs' : Nat → List Nat), g5 = 8 - t'.length ∧ Hid (MuS w wr R (p + 1 + 1) (.slice (some ⟨g, 0, none⟩) pr.length c1) (pr.set i t') cs' Fs') ∧ t'.length ≤ 1500)
    case atStart => exact ⟨t0, cs, Fs, rfl, by rw [hs0]; exact Ms3.out, by omega⟩
    case round =>
      obtain ⟨t', cs', Fs', rfl, HR, hl'⟩ := hrel
      have hi5 : i < (pr.set i t').length := by simpa using hi
      obtain ⟨g5, c5', e5, hgb5, hgl5, hc5, hfr5, hth5, hnd5, hge5, _, _⟩ := HR.out.row.elem1 thr_loc hi5
      injection e5 with e5 e6 e7
      injection e5 with e5
      injection e5 with e5
      subst e5
      clear e6 e7
      have hti5 := hth5.1
      simp only at hti5
      rw [List.getElem_set_self] at hti5
      obtain ⟨A5, c5, hvi5, htc5, _⟩ := hti5.slice
      have Hvi5 := Lib.hid hvi5
      have Htg5 : Hid ((Value.slice A5 t'.length c5).ownBlock ≠ some g) := fun e => (hge5 g (by rw [hth5.2]; exact mem_own.2 (by rw [hvi5]; exact e))).2 rfl
      obtain ⟨cells5, hown5, hqt5⟩ := hti5
      rw [hvi5] at hown5 hc5
      have Hown5 := Lib.hid hown5
      have Hqt5 := Lib.hid hqt5
      have hsw := HR.out.mv.size
      clear hown5 hqt5 hvi5 hth5 hnd5 hge5
      by_cases h7 : t'.length ≤ 7
      · have b7 : decide ((t'.length : Int) ≤ 7) = true := by rw [decide_eq_true_iff]; omega
        go_wp2_with (at_builtin; refine wpList_append_lies _ (by rfl) _ _ _ (by rfl) 0 52 i0 _ 4 32 Tryz.underlying50 hi0 hz0 hz1 hz2 rfl (by omega) (.slice A5 t'.length c5) t'.length cells5 (by rfl) (owns_alloc Hown5.out _) ⟨wr.heap.size, 0, none⟩ 1 1 [.int .i64 1, .int .i64 0, .int .i64 0, .int .i64 0] (by rfl) (by rfl) (World.news_of_block (cs := #[.int .i64 1, .int .i64 0, .int .i64 0, .int .i64 0]) (t := 52) (fr := (0, 0)) (heap_alloc_new wr _)) (by simp [Value.oneCell']) (by omega) (by simp [maxLen]; omega) (by omega) (by simp) (wr.heap.size + 1) (by simp) ?_; intro gg cap w7 hown7 hgrow hat7 hlt7; have q2 : w7.cell? ⟨g, i, none⟩ = some (.slice A5 t'.length c5) := (by rw [hgrow.cell_far _ (by simp; omega) (fun e => Htg5.out e.symm), World.cell?_alloc_lt _ _ _ hgl5]; exact hc5); have qf : w7.frozen? ⟨g, i, none⟩ = false := (by rw [hgrow.frozen_far _ (by simp; omega) (fun e => Htg5.out e.symm)]; exact (World.frozen?_of_block (w := wr) (Go.Deep.blk_alloc_lt _ _ _ hgl5)).trans hfr5))
        obtain ⟨cs9, Fs9, h9⟩ := MuS.app (V := wr) ⟨1, 0, 0, 0⟩ HR.out hi5 Hvi5.out Hown5.out Hqt5.out ((Mv.refl R wr).alloc _) (HR.out.rd.alloc _) hgrow rfl ⟨rfl, rfl, rfl, rfl⟩ hown7 hat7 (by omega)
        rw [List.set_set] at h9
        go_roundg (8 - (t' ++ [(⟨1, 0, 0, 0⟩ : Ins)]).length)
        case measure => simp; omega
        case rel => exact ⟨t' ++ [(⟨1, 0, 0, 0⟩ : Ins)], cs9, Fs9, rfl, h9, by simp; omega⟩
      · have b7 : decide ((t'.length : Int) ≤ 7) = false := by rw [decide_eq_false_iff_not]; omega
        go_wp2_with fail
        go_ret
        exact HR.out.fin ((HF.out.mono (by omega) (by omega)).set i (by omega)) (by omega)
  have b3 : (k == 3) = false := by rw [beq_eq_false_iff_ne]; exact h3
  by_cases h4 : k = 4
  · subst h4
    have hin : 1 ≤ pr.length := by omega
    by_cases hc1 : c1 = 1
    · subst hc1
      have hl1 : pr.length - 1 = 0 := by omega
      go_wp2_with fail
      go_ret
      exact ⟨[], _, _, rfl, PrgQ.nil _ _ _, Few.nil _ _, Ms3.out.mv, Ms3.out.rd, by omega⟩
    · go_wp2_with fail
      go_ret
      exact Ms3.out.drop (p := p) (hf.mono (by omega) (by omega)) (by omega) (by omega) _
  have b4 : (k == 4) = false := by rw [beq_eq_false_iff_ne]; exact h4
  go_wp2_with fail
  go_ret
  exact Ms3.out.fin (hf.mono (by omega) (by omega)) (by omega)

end Go.Proofs.YtahegjofooahkaaGreat

/-! The walk of DrawProgramValid: some program of few threads and instructions. -/
namespace Go.Proofs.YtahegjofooahkaaGreat
open Go.RowKit
set_option linter.unusedVariables false
set_option maxRecDepth 100000

/-- What draws hand back: a program, somewhere. -/
def RetDrP (w : World) (e : Ending) (w' : World) : Prop := ∃ (pr : Prg) (v : Value), e = .returned v ∧ PrgS (above w.heap.size w') v pr ∧ Few 2000 2000 pr ∧ Below w.heap.size w w'
theorem Mv.belowR {w W V : World} {R : Nat} (hb : Below w.heap.size w W) (hR : w.heap.size ≤ R) (m : Mv R W V) : Below w.heap.size w V := hb.trans (m.below hR hb.size)

/-- The literal program of three empty threads. -/
theorem three {w : World} (V : World) (hV : V = (((w.alloc (.cells #[] 52)).alloc (.cells #[] 52)).alloc (.cells #[] 52)).alloc (.cells #[.slice (some ⟨w.heap.size, 0, none⟩) 0 0, .slice (some ⟨w.heap.size + 1, 0, none⟩) 0 0, .slice (some ⟨w.heap.size + 2, 0, none⟩) 0 0] 50)) :
    PrgW V w.heap.size (.slice (some ⟨w.heap.size + 3, 0, none⟩) 3 3) [[], [], []] [.slice (some ⟨w.heap.size, 0, none⟩) 0 0, .slice (some ⟨w.heap.size + 1, 0, none⟩) 0 0, .slice (some ⟨w.heap.size + 2, 0, none⟩) 0 0] (fun i => [w.heap.size + i]) := by
  have o0 : Own V w.heap.size 52 #[] := by rw [hV]; exact (((Own.new _ _ _).alloc _).alloc _).alloc _
  have o1 : Own V (w.heap.size + 1) 52 #[] := by rw [hV]; exact ((own_new2 _ _ _ _).alloc _).alloc _
  have o2 : Own V (w.heap.size + 2) 52 #[] := by
    rw [hV]
    have h := Own.new ((w.alloc (.cells #[] 52)).alloc (.cells #[] 52)) 52 #[]
    rw [World.size_alloc, World.size_alloc] at h
    exact h.alloc _
  have o3 : Own V (w.heap.size + 3) 50 #[.slice (some ⟨w.heap.size, 0, none⟩) 0 0, .slice (some ⟨w.heap.size + 1, 0, none⟩) 0 0, .slice (some ⟨w.heap.size + 2, 0, none⟩) 0 0] := by
    rw [hV]
    have h := Own.new (((w.alloc (.cells #[] 52)).alloc (.cells #[] 52)).alloc (.cells #[] 52)) 50 #[.slice (some ⟨w.heap.size, 0, none⟩) 0 0, .slice (some ⟨w.heap.size + 1, 0, none⟩) 0 0, .slice (some ⟨w.heap.size + 2, 0, none⟩) 0 0]
    rw [World.size_alloc, World.size_alloc, World.size_alloc] at h
    exact h
  have th : ∀ b, Own V b 52 #[] → thr V (fun _ => .slice (some ⟨b, 0, none⟩) 0 0) [] [b] := fun b h => ⟨RowOf.made _ h (Nat.zero_le _), rfl⟩
  refine ⟨⟨rfl, .inr ⟨_, 3, _, rfl, by omega, o3, by simp, by simp [maxLen], by simp, by simp⟩⟩, fun i hi => ?_, ?_, fun i hi b hb => ?_⟩
  · match i, hi with
    | 0, _ => exact thr_loc.congr (fun j hj => by obtain rfl : j = 0 := by omega
                                                  rfl) (th _ o0)
    | 1, _ => exact thr_loc.congr (fun j hj => by obtain rfl : j = 0 := by omega
                                                  rfl) (th _ o1)
    | 2, _ => exact thr_loc.congr (fun j hj => by obtain rfl : j = 0 := by omega
                                                  rfl) (th _ o2)
  · refine nodup_ft.2 ⟨fun i _ => by simp, fun i j _ _ hne x hx hx' => ?_⟩
    simp at hx hx'
    omega
  · simp at hb hi
    subst hb
    exact ⟨by omega, fun e => by simp only [Value.ownBlock, Option.some.injEq] at e; omega⟩

end Go.Proofs.YtahegjofooahkaaGreat
