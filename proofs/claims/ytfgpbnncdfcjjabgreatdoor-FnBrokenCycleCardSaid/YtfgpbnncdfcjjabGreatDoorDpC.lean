/-
  The walk of l1Copy: the program in new memory, to be written. The walk of l1Mutate: some program of few threads and instructions. The walk of DrawProgramValid: some program of few threads and instructions.
-/
import Derived.Test.YtfgpbnncdfcjjabGreatDoorDpB
import Derived.Test.YtfgpbnncdfcjjabGreatDoorThr2
import Derived.Deep.RegionLaw

/-! The walk of l1Copy: the program in new memory, to be written. -/
namespace Go.Proofs.YtfgpbnncdfcjjabGreatDoor
open Go.RowKit
set_option linter.unusedVariables false
set_option maxRecDepth 100000

theorem qin_one : ∀ (cs : Nat → Value) (y : Ins), QIn cs y → ∀ j, j < 4 → (cs j).oneCell' = true := fun cs y h j hj => by
  match j, hj with
  | 0, _ => rw [h.1]; rfl
  | 1, _ => rw [h.2.1]; rfl
  | 2, _ => rw [h.2.2.1]; rfl
  | 3, _ => rw [h.2.2.2]; rfl

def RetCp (w : World) (p : Prg) (e : Ending) (w' : World) : Prop := ∃ (v : Value) (cs : List Value) (Fs : Nat → List Nat), e = .returned v ∧ PrgW w' w.heap.size v p cs Fs ∧ Below w.heap.size w w'

end Go.Proofs.YtfgpbnncdfcjjabGreatDoor

/-! The walk of l1Mutate: some program of few threads and instructions. -/
namespace Go.Proofs.YtfgpbnncdfcjjabGreatDoor
open Go.RowKit
set_option linter.unusedVariables false
set_option maxRecDepth 100000

def RetMP (w : World) (R p : Nat) (e : Ending) (w' : World) : Prop := ∃ (pr : Prg) (v : Value) (p' : Nat), e = .returned v ∧ PrgQ (above w.heap.size w') v pr ∧ Few 2000 2000 pr ∧ Mv R w w' ∧ Rd w' R p' ∧ p' ≤ p + 1000

/-- Behind l1Mutate's copy: the program in a row of its own; the source's count. -/
structure MuS (w V : World) (R q : Nat) (v : Value) (pr : Prg) (cs : List Value) (Fs : Nat → List Nat) : Prop where
  row : PrgW V w.heap.size v pr cs Fs
  mv : Mv R w V
  rd : Rd V R q
  hR : R < w.heap.size
theorem MuS.mv' {w V V' : World} {R q q' : Nat} {v : Value} {pr : Prg} {cs : List Value} {Fs : Nat → List Nat} (h : MuS w V R q v pr cs Fs) (m : Mv R V V') (r : Rd V' R q') : MuS w V' R q' v pr cs Fs :=
  ⟨h.row.move thr_loc fun b hb hl => m.block hl (by have := h.hR; omega), h.mv.trans m, r, h.hR⟩
theorem MuS.fin {w V : World} {R p q : Nat} {v : Value} {pr : Prg} {cs : List Value} {Fs : Nat → List Nat} (h : MuS w V R q v pr cs Fs) (hf : Few 2000 2000 pr) (hq : q ≤ p + 1000) : RetMP w R p (.returned v) V :=
  ⟨pr, v, q, rfl, h.row.prgQ, hf, h.mv, h.rd, hq⟩
/-- Thread i is appended to. -/
theorem MuS.set {w V X V1 : World} {R q q1 g n c i : Nat} {pr : Prg} {cs : List Value} {Fs : Nat → List Nat} {t' : List Ins} {A' : Option Addr} {c' : Nat} (h : MuS w V R q (.slice (some ⟨g, 0, none⟩) n c) pr cs Fs) (hi : i < pr.length) (m : Mv R V X) (r : Rd X R q1) (hg : X.grownBy V1 (cs.getD i undef).ownBlock)
    (ht : RowT V1 0 (.slice A' t'.length c') t') (hat : ∀ g, (Value.slice A' t'.length c').ownBlock = some g → (cs.getD i undef).ownBlock = some g ∨ V.heap.size ≤ g) :
    MuS w (V1.setCell ⟨g, i, none⟩ (.slice A' t'.length c')) R q1 (.slice (some ⟨g, 0, none⟩) n c) (pr.set i t') (cs.set i (.slice A' t'.length c')) (fun j => if j = i then (Value.slice A' t'.length c').ownBlock.toList else Fs j) := by
  obtain ⟨g', c0, e0, hgb, hgl, hc, hf, hth, hnd, hge, _⟩ := h.row.elem1 thr_loc hi
  injection e0 with e1 e2 e3
  injection e1 with e1
  injection e1 with e1
  subst e1
  have hR := h.hR
  have hFi : Fs i = (cs.getD i undef).ownBlock.toList := hth.2
  have hvs := h.mv.size
  have hms := m.size
  have hgs := World.grownBy.size hg
  have blk : ∀ b, b < V.heap.size → b ≠ R → b ∉ Fs i → V1.heap[b]? = V.heap[b]? := fun b hb hbR hn =>
    (World.grownBy.block hg b (by omega) (fun e => hn (by rw [hFi]; exact mem_own.2 e.symm))).trans (m.block hb hbR)
  refine ⟨h.row.set thr_loc hi (by omega) (fun b hb hl hn => blk b hl (by omega) hn) ⟨ht, rfl⟩ (own_nodup _) (fun b hb => ?_), ?_, ?_, hR⟩
  · rcases hat b (mem_own.1 hb) with h1 | h1
    · have h2 : b ∈ Fs i := by rw [hFi]; exact mem_own.2 h1
      exact ⟨(hge b h2).1, .inl h2⟩
    · exact ⟨by omega, .inr h1⟩
  · exact (mv_grownV (h.mv.trans m) hg (fun b hb => (hge b (by rw [hFi]; exact mem_own.2 hb)).1)).setNew (by show w.heap.size ≤ g; exact hgb) _
  · exact (rd_grown r hg (fun b hb => by have := (hge b (by rw [hFi]; exact mem_own.2 hb)).1; omega)).setNew (by show R < g; omega) _

/-- .. by one instruction x; X is the world of the append, V1 the one behind it. -/
theorem MuS.app {w V X V1 : World} {R q q1 g n c i gg cap H : Nat} {pr : Prg} {cs : List Value} {Fs : Nat → List Nat} {t : List Ins} {At : Option Addr} {ct : Nat} {cells news : List Value} (x : Ins) (h : MuS w V R q (.slice (some ⟨g, 0, none⟩) n c) pr cs Fs) (hi : i < pr.length) (hvi : cs.getD i undef = .slice At t.length ct)
    (hown : V.ownsRow 0 109 4 (.slice At t.length ct) t.length cells) (hq : ∀ i (h : i < t.length), QIn (fun j => cells.getD (i * 4 + j) undef) t[i]) (m : Mv R V X) (r : Rd X R q1) (hg : X.grownBy V1 (Value.slice At t.length ct).ownBlock) (hn : news.length = 4) (hx : QIn (fun j => news.getD j undef) x)
    (hown1 : V1.ownsRow 0 109 4 (.slice (some ⟨gg, 0, none⟩) (t.length + 1) cap) (t.length + 1) (cells ++ news)) (hat : (Value.slice At t.length ct).ownBlock = some gg ∨ gg = H) (hH : V.heap.size ≤ H) :
    ∃ cs' Fs', MuS w (V1.setCell ⟨g, i, none⟩ (.slice (some ⟨gg, 0, none⟩) (t.length + 1) cap)) R q1 (.slice (some ⟨g, 0, none⟩) n c) (pr.set i (t ++ [x])) cs' Fs' := by
  have ht : RowT V1 0 (.slice (some ⟨gg, 0, none⟩) (t ++ [x]).length cap) (t ++ [x]) := by
    rw [List.length_append, List.length_singleton]
    exact RowOf.snoc qin_congr hown hq hn hx hown1
  have h2 := h.set hi m r (by rw [hvi]; exact hg) ht (fun b hb => by
    simp only [Value.ownBlock, Option.some.injEq] at hb
    subst hb
    rw [hvi]
    rcases hat with e | e
    · exact .inl e
    · exact .inr (by omega))
  rw [List.length_append, List.length_singleton] at h2
  exact ⟨_, _, h2⟩
/-- A thread more, without instructions. -/
theorem MuS.push {w V V1 : World} {R q gg cap : Nat} {v : Value} {pr : Prg} {cs : List Value} {Fs : Nat → List Nat} (h : MuS w V R q v pr cs Fs) (hg : ((V.alloc (.cells #[] 109)).alloc (.cells #[.slice (some ⟨V.heap.size, 0, none⟩) 0 0] 71)).grownBy V1 v.ownBlock)
    (hown1 : V1.ownsRow w.heap.size 71 1 (.slice (some ⟨gg, 0, none⟩) (pr.length + 1) cap) (pr.length + 1) (cs ++ [.slice (some ⟨V.heap.size, 0, none⟩) 0 0])) (hat : v.ownBlock = some gg ∨ gg = V.heap.size + 2) :
    ∃ Fs', MuS w V1 R q (.slice (some ⟨gg, 0, none⟩) (pr.length + 1) cap) (pr ++ [[]]) (cs ++ [.slice (some ⟨V.heap.size, 0, none⟩) 0 0]) Fs' := by
  have hR := h.hR
  have hs := h.mv.size
  have hth : RowT ((V.alloc (.cells #[] 109)).alloc (.cells #[.slice (some ⟨V.heap.size, 0, none⟩) 0 0] 71)) V.heap.size (.slice (some ⟨V.heap.size, 0, none⟩) 0 0) [] := RowOf.made _ ((Own.new _ _ _).alloc _) (Nat.le_refl _)
  refine ⟨_, h.row.push thr_loc (by simp; omega) (fun b hb hl => (Go.Deep.blk_alloc_lt _ _ _ (by simp; omega)).trans (Go.Deep.blk_alloc_lt _ _ _ hl)) hg rfl hth.thr (fun b hb => (hth.blk (mem_own.1 hb)).1) (own_nodup _) hs hown1 hat (by simp), ?_, ?_, hR⟩
  · exact mv_grownV ((h.mv.alloc _).alloc _) hg (fun b hb => owns_base' h.row.own hb)
  · exact rd_grown ((h.rd.alloc _).alloc _) hg (fun b hb => by have := owns_base' h.row.own hb; omega)
theorem MuS.drop {w V : World} {R p q g n c : Nat} {pr : Prg} {cs : List Value} {Fs : Nat → List Nat} (h : MuS w V R q (.slice (some ⟨g, 0, none⟩) n c) pr cs Fs) (hf : Few 2000 2000 pr) (hl : 0 < pr.length) (hq : q ≤ p + 1000) (c' : Nat) : RetMP w R p (.returned (.slice (some ⟨g, 1, none⟩) (pr.length - 1) c')) V := by
  cases pr with
  | nil => simp at hl
  | cons t pr =>
    refine ⟨pr, _, q, ?_, PrgQ.tail h.row.prgQ c', ⟨by have := hf.1; simp at this; omega, fun x hx => hf.2 x (List.mem_cons_of_mem _ hx)⟩, h.mv, h.rd, hq⟩
    simp
theorem Few.set {n m : Nat} {p : Prg} {t : List Ins} (h : Few n m p) (i : Nat) (ht : t.length ≤ m) : Few n m (p.set i t) :=
  ⟨by rw [List.length_set]; exact h.1, fun s hs => by
    rcases List.mem_or_eq_of_mem_set hs with hs | rfl
    · exact h.2 s hs
    · exact ht⟩
theorem num4_any (X : World) (R q b : Nat) (a0 a1 a2 a3 : Int) (hq : q ≤ 1000000000) (hr : Rd X R q) (ho : Own X b 3 #[.int .i64 a0, .int .i64 a1, .int .i64 a2, .int .i64 a3]) (hb : R < b) :
    Calls Tryz.prog 90 #[.pointer (some ⟨R, 0, none⟩), .slice (some ⟨b, 0, none⟩) 4 4] X (RetNum X R q [a0, a1, a2, a3]) :=
  num_any X R q _ 4 [a0, a1, a2, a3] (by omega) hr (ints_lit [a0, a1, a2, a3] ho hb rfl (by omega) (fun i hi => by
    match i, hi with
    | 0, _ => rfl
    | 1, _ => rfl
    | 2, _ => rfl
    | 3, _ => rfl)) (by simp)
theorem num3_any (X : World) (R q b : Nat) (a0 a1 a2 : Int) (hq : q ≤ 1000000000) (hr : Rd X R q) (ho : Own X b 3 #[.int .i64 a0, .int .i64 a1, .int .i64 a2]) (hb : R < b) :
    Calls Tryz.prog 90 #[.pointer (some ⟨R, 0, none⟩), .slice (some ⟨b, 0, none⟩) 3 3] X (RetNum X R q [a0, a1, a2]) :=
  num_any X R q _ 3 [a0, a1, a2] (by omega) hr (ints_lit [a0, a1, a2] ho hb rfl (by omega) (fun i hi => by
    match i, hi with
    | 0, _ => rfl
    | 1, _ => rfl
    | 2, _ => rfl)) (by simp)
theorem own_new2 (w : World) (o : Obj) (t : TypeId) (cs : Array Value) : Own ((w.alloc o).alloc (.cells cs t)) (w.heap.size + 1) t cs := by simpa using Own.new (w.alloc o) t cs

end Go.Proofs.YtfgpbnncdfcjjabGreatDoor

/-! The walk of DrawProgramValid: some program of few threads and instructions. -/
namespace Go.Proofs.YtfgpbnncdfcjjabGreatDoor
open Go.RowKit
set_option linter.unusedVariables false
set_option maxRecDepth 100000

/-- What draws hand back: a program, somewhere. -/
def RetDrP (w : World) (e : Ending) (w' : World) : Prop := ∃ (pr : Prg) (v : Value), e = .returned v ∧ PrgS (above w.heap.size w') v pr ∧ Few 2000 2000 pr ∧ Below w.heap.size w w'
theorem Mv.belowR {w W V : World} {R : Nat} (hb : Below w.heap.size w W) (hR : w.heap.size ≤ R) (m : Mv R W V) : Below w.heap.size w V := hb.trans (m.below hR hb.size)

/-- The literal program of three empty threads. -/
theorem three {w : World} (V : World) (hV : V = (((w.alloc (.cells #[] 109)).alloc (.cells #[] 109)).alloc (.cells #[] 109)).alloc (.cells #[.slice (some ⟨w.heap.size, 0, none⟩) 0 0, .slice (some ⟨w.heap.size + 1, 0, none⟩) 0 0, .slice (some ⟨w.heap.size + 2, 0, none⟩) 0 0] 71)) :
    PrgW V w.heap.size (.slice (some ⟨w.heap.size + 3, 0, none⟩) 3 3) [[], [], []] [.slice (some ⟨w.heap.size, 0, none⟩) 0 0, .slice (some ⟨w.heap.size + 1, 0, none⟩) 0 0, .slice (some ⟨w.heap.size + 2, 0, none⟩) 0 0] (fun i => [w.heap.size + i]) := by
  have o0 : Own V w.heap.size 109 #[] := by rw [hV]; exact (((Own.new _ _ _).alloc _).alloc _).alloc _
  have o1 : Own V (w.heap.size + 1) 109 #[] := by rw [hV]; exact ((own_new2 _ _ _ _).alloc _).alloc _
  have o2 : Own V (w.heap.size + 2) 109 #[] := by
    rw [hV]
    have h := Own.new ((w.alloc (.cells #[] 109)).alloc (.cells #[] 109)) 109 #[]
    rw [World.size_alloc, World.size_alloc] at h
    exact h.alloc _
  have o3 : Own V (w.heap.size + 3) 71 #[.slice (some ⟨w.heap.size, 0, none⟩) 0 0, .slice (some ⟨w.heap.size + 1, 0, none⟩) 0 0, .slice (some ⟨w.heap.size + 2, 0, none⟩) 0 0] := by
    rw [hV]
    have h := Own.new (((w.alloc (.cells #[] 109)).alloc (.cells #[] 109)).alloc (.cells #[] 109)) 71 #[.slice (some ⟨w.heap.size, 0, none⟩) 0 0, .slice (some ⟨w.heap.size + 1, 0, none⟩) 0 0, .slice (some ⟨w.heap.size + 2, 0, none⟩) 0 0]
    rw [World.size_alloc, World.size_alloc, World.size_alloc] at h
    exact h
  have th : ∀ b, Own V b 109 #[] → thr V (fun _ => .slice (some ⟨b, 0, none⟩) 0 0) [] [b] := fun b h => ⟨RowOf.made _ h (Nat.zero_le _), rfl⟩
  refine ⟨⟨rfl, .inr ⟨_, 3, _, rfl, by omega, o3, by simp, by simp [maxLen], by simp, by simp⟩⟩, fun i hi => ?_, ?_, fun i hi b hb => ?_⟩
  · match i, hi with
    | 0, _ => exact thr_loc.congr (fun j hj => by obtain rfl : j = 0 := by omega
                                                  rfl) (th _ o0)
    | 1, _ => exact thr_loc.congr (fun j hj => by obtain rfl : j = 0 := by omega
                                                  rfl) (th _ o1)
    | 2, _ => exact thr_loc.congr (fun j hj => by obtain rfl : j = 0 := by omega
                                                  rfl) (th _ o2)
  · refine nodup_ft.2 ⟨fun i _ => by simp, fun i j _ _ hne x hx hx' => ?_⟩
    simp at hx hx'
    omega
  · simp at hb hi
    subst hb
    exact ⟨by omega, fun e => by simp only [Value.ownBlock, Option.some.injEq] at e; omega⟩

end Go.Proofs.YtfgpbnncdfcjjabGreatDoor
