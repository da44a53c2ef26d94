/-
  The walks of l6Draw and l6Mutate: some candidate of a valid program; some candidate, of few elements.
-/
import Derived.Test.YtfgpbnncdfcjjabGreatDoorSpOA
import Derived.Test.YtfgpbnncdfcjjabGreatDoorDpC
namespace Go.Proofs.YtfgpbnncdfcjjabGreatDoor
open Go.RowKit
set_option linter.unusedVariables false
set_option maxRecDepth 100000

theorem Le.above_mv {R B : Nat} {a b : World} (h : Mv R a b) (hB : R < B) : Le (Go.Proofs.YtfgpbnncdfcjjabGreatDoor.above B a) (Go.Proofs.YtfgpbnncdfcjjabGreatDoor.above B b) := fun x v hc => by
  obtain ⟨h1, h2⟩ := cell_above_lt hc
  exact cell_above_of h1 (h.cell h2 (by omega))
def RetDX (w : World) (R p : Nat) (e : Ending) (w' : World) : Prop := ∃ (pr : Prg) (x : Ex) (v : Value) (A : Option Addr) (c : Nat) (B : Option Addr) (d p' : Nat), e = .returned (.tuple #[v, .agg #[.slice A x.from_.length c, .slice B x.order.length d]]) ∧ CandOk pr x ∧ PrgQ (above w.heap.size w') v pr ∧ RepX (above w.heap.size w') A c B d x ∧ Few 4 8 pr ∧ Mv R w w' ∧ Rd w' R p' ∧ p' ≤ p + 1001

set_option maxHeartbeats 4000000 in
theorem draw6_any (w : World) (R p : Nat) (hp : p ≤ 900000000) (hr : Rd w R p) : Calls Tryz.prog 52 #[.pointer (some ⟨R, 0, none⟩)] w (RetDX w R p) := by
  have hR := hr.lt
  have oR := Own.new w 34 #[.slice none 0 0, .slice none 0 0]
  have hd := drawP_any (w.alloc (.cells #[.slice none 0 0, .slice none 0 0] 34)) R p hp (hr.alloc _)
  have hm0 := (Mv.refl R w).alloc (.cells #[.slice none 0 0, .slice none 0 0] 34)
  go_enter Tryz.func52, Tryz.ntmps52
  go_wp2_with fail
  refine hd.mono ?_
  rintro e1 w1 ⟨pr, v1, p1, rfl, hok, hps, hfew, m1, r1, hp1⟩
  have hm1 := hm0.trans m1
  have o1 := oR.mv m1 (by omega)
  have hps1 : PrgQ (above (w.heap.size + 1) w1) v1 pr := by simpa using hps
  have hs1 := o1.lt
  have hal := spAll_any pr hok w1 v1 (PrgS.le hps.1 (Le.above _ _))
  have hpos := cands_pos hok
  have Hmem : Hid (∀ x ∈ cands (evs pr), CandOk pr x) := fun x hx => (mem_cands hok).1 hx
  clear hd hps m1 hm0 oR hr
  generalize cands (evs pr) = xs at hal hpos Hmem
  go_wp2_with fail
  refine hal.mono ?_
  rintro e2 w2 ⟨A2, c2, rfl, hx2, hb2⟩
  have hm2 := hm1.trans (Mv.of_below hb2)
  have r2 := r1.below hb2
  have o2 := o1.under hb2
  have hs2 := hb2.size
  have hl2 := hx2.slice
  have hl2' : xs.length ≤ 9223372036854775807 := by obtain ⟨_, _, _, h⟩ := hl2; exact h
  have hps2 : PrgQ (above (w.heap.size + 1) w2) v1 pr := PrgQ.le hps1 (Le.above_le _ (Le.below hb2))
  obtain ⟨b0, o0, _, _, _, _, rfl, hbl0, _⟩ := ExS.get hx2 hpos
  have HK : Hid (∀ k (hk : k < xs.length) (W : World), Mv R w2 W → ∃ A4 c4 B4 d4, W.cell? ⟨b0, o0 + k * 2, none⟩ = some (.slice A4 xs[k].from_.length c4) ∧ W.cell? ⟨b0, o0 + k * 2 + 1, none⟩ = some (.slice B4 xs[k].order.length d4) ∧ RepX (above (w.heap.size + 1) W) A4 c4 B4 d4 xs[k]) := fun k hk W m => by
    obtain ⟨b, o, A4, c4, B4, d4, e, _, k0, k1, hx⟩ := ExS.get hx2 hk
    injection e with e
    injection e with e1 e2
    subst e1 e2
    obtain ⟨q0, q0'⟩ := cell_above_lt k0
    obtain ⟨_, q1'⟩ := cell_above_lt k1
    exact ⟨A4, c4, B4, d4, m.cell q0' (by simp only at q0 ⊢; omega), m.cell q1' (by simp only at q0 ⊢; omega), hx.le ((Le.above_mv m (by omega)).trans (Le.above_mono (by omega) _))⟩
  have R2 := Lib.hid r2
  have M2 := Lib.hid hm2
  have O2 := Lib.hid o2
  have P2 := Lib.hid hps2
  clear hal hx2 hl2 hm1 r1 o1 hps1 hb2 hbl0 r2 hm2 o2 hps2
  go_wp2_with fail
  go_region_law (first
    | (go_simp; go_at_call 89; ((with_reducible refine (pick_any _ R p1 xs.length (by omega) R2.out.drew).mono ?_); rintro e3 w3 ⟨k, rfl, hk0, hk1, m3', r3⟩; obtain ⟨k, rfl⟩ : ∃ j : Nat, k = j := ⟨k.toNat, by omega⟩; have hkl : k < xs.length := (by have := hk1 (by omega); omega); have hkl' : (k : Int) < (xs.length : Int) := (by omega); have m3 : Mv R w2 w3 := ((Mv.refl R w2).drew.trans m3'); obtain ⟨A4, c4, B4, d4, q0, q1, hx4⟩ := HK.out k hkl w3 m3; have o3 := O2.out.mv m3 (by omega); have t0 := o3.frozen 0; have t1 := o3.frozen 1; have t2 := o3.lt; have t3 := o3.cell (i := 0) rfl; have t4 := o3.cell (i := 1) rfl; have hb0 := World.block_lt_of_cell? _ _ q0); go_wp2_with fail))
  all_goals
    go_wp2_with fail
    refine bodyPost_ret (v := .tuple #[v1, .agg #[.slice A4 xs[k].from_.length c4, .slice B4 xs[k].order.length d4]]) (by simp [results, Tryz.results52, go_sem, t3, t4]) rfl ?_
    have hle : Le (above (w.heap.size + 1) w3) (above w.heap.size ((w3.setCell ⟨w.heap.size, 0, none⟩ (.slice A4 xs[k].from_.length c4)).setCell ⟨w.heap.size, 1, none⟩ (.slice B4 xs[k].order.length d4))) := (((Le.refl _).to_above_setCell (by simp)).to_above_setCell (by simp)).trans (Le.above_mono (by omega) _)
    exact ⟨pr, xs[k], v1, A4, c4, B4, d4, p1 + 1, rfl, Hmem.out _ (List.getElem_mem hkl), PrgQ.le P2.out ((Le.above_mv m3 (by omega)).trans hle), hx4.le hle, hfew, ((M2.out.trans m3).setNew (by simp) _).setNew (by simp) _, (r3.setNew (by simp; omega) _).setNew (by simp; omega) _, by omega⟩

/-! ### Changed candidates -/
def SzX (n k : Nat) (x : Ex) : Prop := 1 ≤ x.from_.length ∧ x.from_.length ≤ n ∧ k ≤ x.order.length ∧ x.order.length ≤ 3 ∧ ∀ q ∈ x.order, q.length ≤ n
def RetMX (w : World) (R p n k : Nat) (e : Ending) (w' : World) : Prop := ∃ (x : Ex) (A : Option Addr) (c : Nat) (B : Option Addr) (d p' : Nat), e = .returned (.agg #[.slice A x.from_.length c, .slice B x.order.length d]) ∧ SzX n k x ∧ RepX (above w.heap.size w') A c B d x ∧ Mv R w w' ∧ Rd w' R p' ∧ p' ≤ p + 10
theorem RetMX.fin {w V : World} {R p q n k : Nat} {x : Ex} {A B : Option Addr} {c d nf no : Nat} {u0 u1 : Value} (h : RepX (above (w.heap.size + 2) V) A c B d x) (m : Mv R w V) (r : Rd V R q) (hq : q ≤ p + 10) (hR : R < w.heap.size) (hs : SzX n k x) (e1 : nf = x.from_.length) (e2 : no = x.order.length) :
    RetMX w R p n k (.returned (.agg #[.slice A nf c, .slice B no d])) ((V.setCell ⟨w.heap.size + 1, 0, none⟩ u0).setCell ⟨w.heap.size + 1, 1, none⟩ u1) := by
  subst e1 e2
  exact ⟨x, A, c, B, d, q, rfl, hs, h.le ((((Le.refl _).to_above_setCell (by simp)).to_above_setCell (by simp)).trans (Le.above_mono (by omega) _)), (m.setNew (by simp) _).setNew (by simp) _, (r.setNew (by simp; omega) _).setNew (by simp; omega) _, hq⟩
theorem Intss.drop1 {w : World} {b o c : Nat} {xs : List (List Int)} (h : Intss w (some ⟨b, o, none⟩) c xs) (c' : Nat) (hi : 1 ≤ xs.length) : Intss w (some ⟨b, o + 1, none⟩) c' (xs.drop 1) := by
  have hl := h.len
  refine Intss.mk (by rw [List.length_drop]; omega) fun j hj => ?_
  rw [List.length_drop] at hj
  obtain ⟨b', o', A', c', e, _, hc, hx⟩ := h.get (i := 1 + j) (by omega)
  injection e with e
  injection e with e1 e2
  subst e1 e2
  rw [List.getElem_drop, show o + 1 + j = o + (1 + j) by omega]
  exact ⟨A', c', hc, hx⟩
theorem row_of_mapN {w : World} {base n : Nat} {v : Value} {xs : List Int} (hn : n = xs.length) (h : w.ownsRow base 3 1 v n (xs.map (Value.int .i64))) : RowI w base v xs := by
  subst hn
  exact row_of_map h
theorem row_holdsN {w : World} {g : Nat} {cur : Array Value} {xs : List Int} (hg : w.heap[g]? = some (.cells cur 3 (0, 0))) (ht : cur.toList.take (xs.length * 1) = xs.map (Value.int .i64)) : ∀ j, j < xs.length → w.cell? ⟨g, j, none⟩ = some (.int .i64 (xs.getD j 0)) ∧ w.frozen? ⟨g, j, none⟩ = false := fun j hj' => by
  have hcs : cur[j]? = some (.int .i64 (xs.getD j 0)) := by
    have h1 : (xs.map (Value.int .i64))[j]? = cur.toList[j]? := by rw [← ht, List.getElem?_take, if_pos (by omega)]
    rw [← Array.getElem?_toList, ← h1]
    simp [hj']
  exact ⟨by rw [cell_of_row w g j cur 3 (0, 0) hg, hcs], by simp [World.frozen?, hg]⟩
theorem RowW.move2 {α : Type} {k : Nat} {e : TypeId} {P : OwP α} {w w' : World} {base : Nat} {v : Value} {xs : List α} {cs : List Value} {Fs : Nat → List Nat} (hP : OwLoc k P) (h : RowW k e P w base v xs cs Fs) (h1 : ∀ g, v.ownBlock = some g → w'.heap[g]? = w.heap[g]?) (h2 : ∀ i, i < xs.length → ∀ b ∈ Fs i, w'.heap[b]? = w.heap[b]?) : RowW k e P w' base v xs cs Fs :=
  ⟨owns_of_block h.own fun g hv _ _ => h1 g hv, fun i hi => hP.move (h.el i hi) fun b hm => h2 i hi b hm, h.nd, h.ge⟩
theorem RowI.ints' {w : World} {base B : Nat} {A : Option Addr} {c : Nat} {xs : List Int} (h : RowI w base (.slice A xs.length c) xs) (hB : B ≤ base) : Ints (above B w) A c xs := by
  obtain ⟨A', c', e, hI⟩ := h.ints
  injection e with e1 e2 e3
  subst e1 e3
  exact hI.le (Le.above_mono hB _)
theorem RowsI.intss' {w : World} {base B : Nat} {A : Option Addr} {c : Nat} {xs : List (List Int)} {cs : List Value} {Fs : Nat → List Nat} (h : RowsI w base (.slice A xs.length c) xs cs Fs) (hB : B ≤ base) : Intss (above B w) A c xs := by
  obtain ⟨A', c', e, hI⟩ := h.intss
  injection e with e1 e2 e3
  subst e1 e3
  exact hI.le (Le.above_mono hB _)
theorem num5_any (X : World) (R q b : Nat) (a0 a1 a2 a3 a4 : Int) (hq : q ≤ 1000000000) (hr : Rd X R q) (ho : Own X b 3 #[.int .i64 a0, .int .i64 a1, .int .i64 a2, .int .i64 a3, .int .i64 a4]) (hb : R < b) :
    Calls Tryz.prog 90 #[.pointer (some ⟨R, 0, none⟩), .slice (some ⟨b, 0, none⟩) 5 5] X (RetNum X R q [a0, a1, a2, a3, a4]) :=
  num_any X R q _ 5 [a0, a1, a2, a3, a4] (by omega) hr (ints_lit [a0, a1, a2, a3, a4] ho hb rfl (by omega) (fun i hi => by
    match i, hi with
    | 0, _ => rfl
    | 1, _ => rfl
    | 2, _ => rfl
    | 3, _ => rfl
    | 4, _ => rfl)) (by simp)

/-- The copy that is changed, as it lies in V. -/
structure MxV (w w1 V : World) (R q T : Nat) (x : Ex) (A1 : Option Addr) (c1 : Nat) (B1 : Option Addr) (d1 : Nat) : Prop where
  frm : RowI V (w.heap.size + 2) (.slice A1 x.from_.length c1) x.from_
  ord : ∃ cs Fs, RowsI V (T + 1) (.slice B1 x.order.length d1) x.order cs Fs
  box : Own V w1.heap.size 34 #[.slice A1 x.from_.length c1, .slice B1 x.order.length d1]
  res : Own V (w.heap.size + 1) 34 #[.slice none 0 0, .slice none 0 0]
  mv : Mv R w V
  rd : Rd V R q
/-- Behind an append to the first order, and its store. -/
theorem mx_app {w w1 V w6 V1 : World} {R q1 T gB d1 c1 gg cap c0 H : Nat} {x : Ex} {A1 A0 : Option Addr} {cs : List Value} {Fs : Nat → List Nat} {q0 : List Int} {y : Int} (hR : R < w.heap.size) (hT : w.heap.size + 2 ≤ T) (hV1 : w1.heap.size < V.heap.size) (hw1 : w.heap.size + 2 ≤ w1.heap.size) (hlen : 0 < x.order.length)
    (hfV : RowI V (w.heap.size + 2) (.slice A1 x.from_.length c1) x.from_) (hfb : ∀ g, (Value.slice A1 x.from_.length c1).ownBlock = some g → g < T) (hoV : RowsI V (T + 1) (.slice (some ⟨gB, 0, none⟩) x.order.length d1) x.order cs Fs)
    (hbx : Own V w1.heap.size 34 #[.slice A1 x.from_.length c1, .slice (some ⟨gB, 0, none⟩) x.order.length d1]) (hrs : Own V (w.heap.size + 1) 34 #[.slice none 0 0, .slice none 0 0]) (hmv : Mv R w V)
    (hgB : T + 1 ≤ gB ∧ gB < w1.heap.size) (hFs : Fs 0 = (Value.slice A0 q0.length c0).ownBlock.toList) (h0b : ∀ g, (Value.slice A0 q0.length c0).ownBlock = some g → T + 1 ≤ g ∧ g ≠ gB ∧ g < w1.heap.size)
    (M6 : Mv R V w6) (r6 : Rd w6 R q1) (hgrow : (w6.alloc (.cells #[.int .i64 y] 3)).grownBy V1 (Value.slice A0 q0.length c0).ownBlock)
    (hown1 : V1.ownsRow 0 3 1 (.slice (some ⟨gg, 0, none⟩) (q0.length + 1) cap) (q0.length + 1) (q0.map (Value.int .i64) ++ [.int .i64 y])) (hat : (Value.slice A0 q0.length c0).ownBlock = some gg ∨ gg = H) (hH : w6.heap.size + 1 = H) :
    MxV w w1 (V1.setCell ⟨gB, 0, none⟩ (.slice (some ⟨gg, 0, none⟩) (q0.length + 1) cap)) R q1 T ⟨x.from_, x.order.set 0 (q0 ++ [y])⟩ A1 c1 (some ⟨gB, 0, none⟩) d1 := by
  have hs6 := M6.size
  have hsg := World.grownBy.size hgrow
  simp only [World.size_alloc] at hsg
  have hold : ∀ b, b < V.heap.size → b ≠ R → (∀ g, (Value.slice A0 q0.length c0).ownBlock = some g → b ≠ g) → V1.heap[b]? = V.heap[b]? := fun b h1 h2 h3 =>
    (World.grownBy.block hgrow b (by simp; omega) (fun e => h3 b e.symm rfl)).trans ((Go.Deep.blk_alloc_lt _ _ _ (by omega)).trans (M6.block h1 h2))
  have hset := RowW.set (rowP_loc 1 3 QInt) (V := V1) (nv := .slice (some ⟨gg, 0, none⟩) (q0.length + 1) cap) (x := q0 ++ [y]) (F := [gg]) hoV (i := 0) hlen (by omega) (fun b h1 h2 h3 => hold b h2 (by omega) (fun g e e' => h3 (by rw [hFs, e']; exact mem_own.2 e)))
    ⟨row_of_mapN (n := q0.length + 1) (by simp) (by simpa using hown1), rfl⟩ (by simp) (fun b hb => by
      obtain rfl := List.mem_singleton.1 hb
      rcases hat with e | e
      · exact ⟨(h0b _ e).1, .inl (by rw [hFs]; exact mem_own.2 e)⟩
      · exact ⟨by omega, .inr (by omega)⟩)
  have far : ∀ b, b ≠ gB → (V1.setCell ⟨gB, 0, none⟩ (.slice (some ⟨gg, 0, none⟩) (q0.length + 1) cap)).heap[b]? = V1.heap[b]? := fun b h => Below.heap_setCell _ _ _ _ h
  have hord : ∃ cs Fs, RowsI (V1.setCell ⟨gB, 0, none⟩ (.slice (some ⟨gg, 0, none⟩) (q0.length + 1) cap)) (T + 1) (.slice (some ⟨gB, 0, none⟩) (x.order.set 0 (q0 ++ [y])).length d1) (x.order.set 0 (q0 ++ [y])) cs Fs := by
    rw [List.length_set]
    exact ⟨_, _, hset⟩
  refine ⟨?_, hord, ?_, ?_, ?_, ?_⟩
  · exact hfV.of_block fun g hb hv hl => (far g (by have := hfb g hv; omega)).trans (hold g hl (by omega) fun g' e e' => by have := h0b g' e; have := hfb g hv; omega)
  · rw [List.length_set]
    exact hbx.of_block ((far _ (by omega)).trans (hold _ hV1 (by omega) fun g e e' => by have := h0b g e; omega))
  · exact hrs.of_block ((far _ (by omega)).trans (hold _ (by omega) (by omega) fun g e e' => by have := h0b g e; omega))
  · exact (mv_grownV ((hmv.trans M6).alloc _) hgrow fun g e => by have := h0b g e; omega).setNew (by show w.heap.size ≤ gB; omega) _
  · exact (rd_grown (r6.alloc _) hgrow fun g e => by have := h0b g e; omega).setNew (by show R < gB; omega) _
/-- Behind the region. -/
def MxQ (w w1 V : World) (R q T : Nat) (x : Ex) (A B : Option Addr) (c d : Nat) (A1 A0 : Option Addr) (c1 c0 gB d1 : Nat) (q0 : List Int) (e : Exit) (a : Act) (w' : World) : Prop :=
  match e with | .normal => (∃ (y : Int) (b7 gg cap : Nat), a = { tmps := #[.pointer (some ⟨R, 0, none⟩), .agg #[.slice A x.from_.length c, .slice B x.order.length d], undef, .pointer (some ⟨w.heap.size, 0, none⟩), .pointer (some ⟨w.heap.size + 1, 0, none⟩), .pointer (some ⟨w1.heap.size, 0, none⟩), .agg #[.slice A x.from_.length c, .slice B x.order.length d], .agg #[.slice A1 x.from_.length c1, .slice (some ⟨gB, 0, none⟩) x.order.length d1], .pointer (some ⟨R, 0, none⟩), .int .i64 3, .bool false, .bool false, undef, undef, undef, undef, undef, undef, undef, undef, undef, undef, undef, .bool false, .bool false, undef, undef, undef, undef, undef, .bool false, .bool false, undef, undef, undef, undef, .bool true, .bool true, .pointer (some ⟨w1.heap.size, 1, none⟩), .slice (some ⟨gB, 0, none⟩) x.order.length d1, .pointer (some ⟨w1.heap.size, 1, none⟩), .slice (some ⟨gB, 0, none⟩) x.order.length d1, .pointer (some ⟨gB, 0, none⟩), .slice A0 q0.length c0, .pointer (some ⟨R, 0, none⟩), .slice (some ⟨V.heap.size, 0, none⟩) 3 3, .int .i64 y, .slice (some ⟨b7, 0, none⟩) 1 1, .slice (some ⟨gg, 0, none⟩) (q0.length + 1) cap, .pointer (some ⟨gB, 0, none⟩), undef, undef, undef, undef, undef, undef, undef], defers := [] } ∧ MxV w w1 w' R q T ⟨x.from_, x.order.set 0 (q0 ++ [y])⟩ A1 c1 (some ⟨gB, 0, none⟩) d1) | _ => False
theorem MxQ.get {w w1 V : World} {R q T : Nat} {x : Ex} {A B : Option Addr} {c d : Nat} {A1 A0 : Option Addr} {c1 c0 gB d1 : Nat} {q0 : List Int} {e : Exit} {a : Act} {w' : World} (h : MxQ w w1 V R q T x A B c d A1 A0 c1 c0 gB d1 q0 e a w') : e = .normal ∧ MxQ w w1 V R q T x A B c d A1 A0 c1 c0 gB d1 q0 .normal a w' := by
  cases e <;> first | exact ⟨rfl, h⟩ | exact h.elim

set_option maxHeartbeats 8000000 in
theorem mut6k_any (kk : Nat) (hkk : 1 ≤ kk) (w : World) (R p n : Nat) (hn : n ≤ 100) (x : Ex) (hx : SzX n (kk + 1) x) (hp : p ≤ 900000000) (hr : Rd w R p) (A B : Option Addr) (c d : Nat) (hrep : RepX w A c B d x) :
    Calls Tryz.prog 55 #[.pointer (some ⟨R, 0, none⟩), .agg #[.slice A x.from_.length c, .slice B x.order.length d]] w (RetMX w R p (n + 1) kk) := by
  obtain ⟨i0, hi0, hz0, hz1, hz2⟩ := info_parts Tryz.infoInt
  have hR := hr.lt
  obtain ⟨hf1, hfn, ho2, ho3, hq⟩ := hx
  have Hq := Lib.hid hq
  obtain ⟨W0, hW0⟩ : ∃ W0, W0 = (w.alloc (.cells #[.slice A x.from_.length c, .slice B x.order.length d] 34)).alloc (.cells #[.slice none 0 0, .slice none 0 0] 34) := ⟨_, rfl⟩
  have hs0 : W0.heap.size = w.heap.size + 2 := by rw [hW0]; simp
  have hres : Own W0 (w.heap.size + 1) 34 #[.slice none 0 0, .slice none 0 0] := by
    rw [hW0]
    simpa using Own.new (w.alloc (.cells #[.slice A x.from_.length c, .slice B x.order.length d] 34)) 34 #[.slice none 0 0, .slice none 0 0]
  have hbx0 : Own W0 w.heap.size 34 #[.slice A x.from_.length c, .slice B x.order.length d] := by rw [hW0]; exact (Own.new _ _ _).alloc _
  have hm0 : Mv R w W0 := by rw [hW0]; exact ((Mv.refl R w).alloc _).alloc _
  have hr0 : Rd W0 R p := by rw [hW0]; exact (hr.alloc _).alloc _
  have hcp := spCpW_any x (by omega) (by omega) (fun q hm => by have := hq q hm; omega) W0 A B c d (by rw [hW0]; exact (hrep.le (Le.alloc _ _)).le (Le.alloc _ _))
  have v0 := hbx0.cell (i := 0) rfl
  have v1 := hbx0.cell (i := 1) rfl
  have v2 := hbx0.lt
  have Hres0 := Lib.hid hres
  have Hm0 := Lib.hid hm0
  have Hr0 := Lib.hid hr0
  have Hs0 := Lib.hid hs0
  clear hrep hr hq hres hm0 hr0 hbx0 hs0
  go_enter Tryz.func55, Tryz.ntmps55
  go_wp2_with fail
  try rw [← hW0]
  clear hW0
  refine hcp.mono ?_
  rintro e1 w1 ⟨A1, c1, B1, d1, T, cs, Fs, rfl, hf, hfl, hT, ho, hTl, hb1⟩
  have hs0 := Hs0.out
  rw [hs0] at hf hT
  have hs1 := hb1.size
  have hs1' : w.heap.size + 2 ≤ w1.heap.size := by omega
  have hpk := pick_any (w1.alloc (.cells #[.slice A1 x.from_.length c1, .slice B1 x.order.length d1] 34)) R p 24 (by omega) ((Hr0.out.below hb1).alloc _)
  clear hcp v0 v1 v2 hs0
  have Hf1 := Lib.hid hf
  have Ho1 := Lib.hid ho
  have Hb1 := Lib.hid hb1
  clear hf ho hb1 hs1
  go_wp2_with fail
  refine hpk.mono ?_
  rintro e2 V ⟨k, rfl, hk0, hk1, m2, r2⟩
  have hk24 : k < 24 := hk1 (by omega)
  have hbl : ∀ b, b ≠ R → b < w1.heap.size → V.heap[b]? = w1.heap[b]? := fun b hb hl => (m2.block (by simp; omega) hb).trans (Go.Deep.blk_alloc_lt _ _ _ hl)
  have hfV : RowI V (w.heap.size + 2) (.slice A1 x.from_.length c1) x.from_ := Hf1.out.of_block fun g hg _ hl => hbl g (by omega) hl
  have hoV : RowsI V (T + 1) (.slice B1 x.order.length d1) x.order cs Fs := Ho1.out.move (rowP_loc _ _ _) fun b hb hl => hbl b (by omega) hl
  have hbx : Own V w1.heap.size 34 #[.slice A1 x.from_.length c1, .slice B1 x.order.length d1] := (Own.new _ _ _).mv m2 (by omega)
  have hrs : Own V (w.heap.size + 1) 34 #[.slice none 0 0, .slice none 0 0] := ((Hres0.out.under Hb1.out).alloc _).mv m2 (by omega)
  have hmv9 : Mv R w V := ((Hm0.out.trans (Mv.of_below Hb1.out)).alloc _).trans m2
  have hrd9 : Rd V R (p + 1) := r2
  have hBlt : ∀ g, (Value.slice B1 x.order.length d1).ownBlock = some g → T + 1 ≤ g ∧ g < w1.heap.size := fun g e => owns_base Ho1.out.own e
  have hFlt : ∀ i (hi : i < x.order.length), ∀ b ∈ Fs i, T + 1 ≤ b ∧ b < w1.heap.size := fun i hi b hb => ⟨(Ho1.out.ge i hi b hb).1, (rowP_loc 1 3 QInt).lt (Ho1.out.el i hi) b hb⟩
  have hV1 : w1.heap.size < V.heap.size := hbx.lt
  clear hpk hk1 m2 r2 Hf1 Ho1 Hb1 Hm0 Hr0 Hres0
  obtain ⟨k, rfl⟩ : ∃ j : Nat, k = j := ⟨k.toNat, by omega⟩
  by_cases h5 : 5 ≤ k
  · have b0 : ((k : Int) == 0) = false := by rw [beq_eq_false_iff_ne]; omega
    have b1 : ((k : Int) == 1) = false := by rw [beq_eq_false_iff_ne]; omega
    have b2 : ((k : Int) == 2) = false := by rw [beq_eq_false_iff_ne]; omega
    have b3 : ((k : Int) == 3) = false := by rw [beq_eq_false_iff_ne]; omega
    have b4 : ((k : Int) == 4) = false := by rw [beq_eq_false_iff_ne]; omega
    have hrep9 : RepX (above (w.heap.size + 2) V) A1 c1 B1 d1 x := ⟨hfV.ints' (Nat.le_refl _), hoV.intss' (by omega)⟩
    have Hsz : Hid (SzX (n + 1) kk x) := ⟨hf1, by omega, by omega, ho3, fun q hm => by have := Hq.out q hm; omega⟩
    clear hfV hoV hBlt hFlt
    have u0 := hbx.cell (i := 0) rfl
    have u1 := hbx.cell (i := 1) rfl
    have u2 := hrs.frozen 0
    have u3 := hrs.frozen 1
    have u4 := hrs.cell (i := 0) rfl
    have u5 := hrs.cell (i := 1) rfl
    have Hbx := Lib.hid hbx
    have Hrs := Lib.hid hrs
    have HR9 := Lib.hid hrep9
    have HM9 := Lib.hid hmv9
    have HD9 := Lib.hid hrd9
    clear hbx hrs hrep9 hmv9 hrd9
    go_wp2_with fail
    refine bodyPost_ret (v := .agg #[.slice A1 x.from_.length c1, .slice B1 x.order.length d1]) (by simp [results, Tryz.results55, go_sem, Hrs.out.cell (i := 0) rfl, Hrs.out.cell (i := 1) rfl]) rfl ?_
    exact RetMX.fin HR9.out HM9.out HD9.out (by omega) (by omega) Hsz.out rfl rfl
  have HO : Hid (∀ V' : World, (∀ b, T + 1 ≤ b → b < w1.heap.size → V'.heap[b]? = V.heap[b]?) → RowsI V' (T + 1) (.slice B1 x.order.length d1) x.order cs Fs) := fun V' h => RowW.move2 (rowP_loc _ _ _) hoV (fun g e => h g (hBlt g e).1 (hBlt g e).2) (fun i hi b hb => h b (hFlt i hi b hb).1 (hFlt i hi b hb).2)
  have HFm : Hid (∀ V' : World, (∀ g, (Value.slice A1 x.from_.length c1).ownBlock = some g → V'.heap[g]? = V.heap[g]?) → RowI V' (w.heap.size + 2) (.slice A1 x.from_.length c1) x.from_) := fun V' h => hfV.of_block fun g _ e _ => h g e
  have HFb : Hid (∀ g, (Value.slice A1 x.from_.length c1).ownBlock = some g → w.heap.size + 2 ≤ g ∧ g < T) := fun g e => ⟨(hfV.blk e).1, hfl g e⟩
  have hcase : k = 0 ∨ k = 1 ∨ k = 2 ∨ k = 3 ∨ k = 4 := by omega
  rcases hcase with rfl | rfl | rfl | rfl | rfl
  · -- a source is written anew
    have hm := row_to_map hfV
    rcases hm.2 with ⟨_, h0⟩ | ⟨gA, cap, cur, e, hgb, hg, hgn, hgm, hgc, hgt⟩
    · omega
    injection e with e1 _ e3
    subst e1 e3
    have hgA := HFb.out gA rfl
    have HMf : Hid (∀ X : World, Mv R V X → ∀ i, i < x.from_.length → ∃ v, X.cell? ⟨gA, i, none⟩ = some v ∧ X.frozen? ⟨gA, i, none⟩ = false ∧ gA < X.heap.size) := fun X m i hi => by
      have hgX : X.heap[gA]? = some (.cells cur 3 (0, 0)) := (m.block (by omega) (by omega)).trans hg
      obtain ⟨h1, h2⟩ := row_holdsN hgX hgt i hi
      exact ⟨_, h1, h2, (Array.getElem?_eq_some_iff.1 hgX).elim fun h _ => h⟩
    have Hbx := Lib.hid hbx
    have Hrs := Lib.hid hrs
    have HD := Lib.hid hrd9
    have HfV := Lib.hid hfV
    have hTR : w1.heap.size ≠ R := by omega
    have q0 := hbx.cell (i := 0) rfl
    have q1 := hbx.lt
    have hlf : x.from_.length ≤ 9223372036854775807 := by omega
    clear hfV hoV hBlt hFlt hbx hrs hrd9 hm hg hgn hgm hgc hgt
    go_wp2_with fail
    go_region_law (first
      | (go_simp; go_at_call 89; ((with_reducible refine (pick_any _ R (p + 1) x.from_.length (by omega) ?_).mono ?_); (first | exact HD.out.drew | exact HD.out.drew.alloc _); rintro e5 w5 ⟨i, rfl, hi0', hi1', m5, r5⟩; obtain ⟨i, rfl⟩ : ∃ j : Nat, i = j := ⟨i.toNat, by omega⟩; have hi : i < x.from_.length := (by have := hi1' (by omega); omega); have hii : (i : Int) < (x.from_.length : Int) := (by omega); have M5 : Mv R V w5 := (by first | exact ((Mv.refl R V).drew).trans m5 | exact ((Mv.refl R V).drew.alloc _).trans m5); have o5 := Hbx.out.mv M5 hTR; have k5 := o5.cell (i := 0) rfl; have kl5 := o5.lt); go_wp2_with fail)
      | (go_simp; go_at_call 90; ((with_reducible refine (num5_any _ R (p + 1 + 1) _ 0 (-1) 1 99 3 (by omega) ?_ ?_ ?_).mono ?_); (first | exact r5 | exact r5.alloc _); (first | exact Own.new _ _ _ | exact Own.mv (Own.new V.drew _ _) m5 (by show V.heap.size ≠ R; omega)); (first | omega | (simp; omega)); rintro e6 w6 ⟨y, rfl, _, m6, r6⟩; have M6 : Mv R V w6 := (by first | exact M5.trans m6 | exact (M5.alloc _).trans m6); have o6 := Hbx.out.mv M6 hTR; have k6 := o6.cell (i := 0) rfl; have kl6 := o6.lt; obtain ⟨v6, g6, gf6, gl6⟩ := HMf.out w6 M6 i hi); go_wp2_with fail))
    all_goals
      have n1 : w1.heap.size ≠ gA := by omega
      have hbx9 := o6.far (a := ⟨gA, i, none⟩) n1 (.int .i64 y)
      have hrs9 := (Hrs.out.mv M6 (by omega)).far (a := ⟨gA, i, none⟩) (by show w.heap.size + 1 ≠ gA; omega) (.int .i64 y)
      have hfr9 := RowI.set (HfV.out.of_block (w' := w6) fun g hb _ hl => M6.block hl (by omega)) hi y
      have ho9 := HO.out (w6.setCell ⟨gA, i, none⟩ (.int .i64 y)) fun b h1 h2 => (Below.heap_setCell _ _ _ _ (by show b ≠ gA; omega)).trans (M6.block (by omega) (by omega))
      have hmv6 : Mv R w (w6.setCell ⟨gA, i, none⟩ (.int .i64 y)) := (hmv9.trans M6).setNew (by show w.heap.size ≤ gA; omega) _
      have hrd6 : Rd (w6.setCell ⟨gA, i, none⟩ (.int .i64 y)) R (p + 1 + 1 + 1) := r6.setNew (by show R < gA; omega) _
      generalize w6.setCell ⟨gA, i, none⟩ (.int .i64 y) = W9 at hbx9 hrs9 hfr9 ho9 hmv6 hrd6 ⊢
      have u0 := hbx9.cell (i := 0) rfl
      have u1 := hbx9.cell (i := 1) rfl
      have u2 := hrs9.frozen 0
      have u3 := hrs9.frozen 1
      have u4 := hrs9.cell (i := 0) rfl
      have u5 := hrs9.cell (i := 1) rfl
      have Hrs9 := Lib.hid hrs9
      have HF9 := Lib.hid hfr9
      have HO9 := Lib.hid ho9
      clear hbx9 hrs9 hfr9 ho9 o6 k6 g6 gf6 gl6 m6 r6 M6 o5 k5 m5 r5 M5 q0
      go_wp2_with fail
      refine bodyPost_ret (v := .agg #[.slice (some ⟨gA, 0, none⟩) x.from_.length c1, .slice B1 x.order.length d1]) (by simp [results, Tryz.results55, go_sem, Hrs9.out.cell (i := 0) rfl, Hrs9.out.cell (i := 1) rfl]) rfl ?_
      exact RetMX.fin (x := ⟨x.from_.set i y, x.order⟩) ⟨RowI.ints' (xs := x.from_.set i y) (by rw [List.length_set]; exact HF9.out) (Nat.le_refl _), HO9.out.intss' (by omega)⟩ hmv6 hrd6 (by omega) (by omega) ⟨by simp; omega, by simp; omega, by show kk ≤ x.order.length; omega, ho3, fun q hm => by have := Hq.out q hm; omega⟩ (by simp) rfl
  · -- a source more
    have Hown := Lib.hid (row_to_map hfV)
    have HQ : Hid (∀ V1 : World, (V.alloc (.cells #[.int .i64 (-1)] 3)).grownBy V1 (Value.slice A1 x.from_.length c1).ownBlock → (∀ b, (b < w.heap.size + 2 ∨ T ≤ b) → b < V.heap.size → V1.heap[b]? = V.heap[b]?)) := fun V1 hg b h1 h2 =>
      (World.grownBy.block hg b (by simp; omega) (fun e => by have := HFb.out b e.symm; omega)).trans (Go.Deep.blk_alloc_lt _ _ _ h2)
    have Hbx := Lib.hid hbx
    have Hrs1 := Lib.hid hrs
    have hRT : w.heap.size + 1 < T := by omega
    clear hfV hoV hBlt hFlt hbx hrs
    have q0 := Hbx.out.cell (i := 0) rfl
    go_wp2_with (at_builtin; refine wpList_append_lies (o := ⟨some 28, _, _, _, _, _⟩) _ (by rfl) _ _ _ (by rfl) (w.heap.size + 2) 3 i0 _ 1 8 Tryz.underlying23 hi0 hz0 hz1 hz2 rfl (by omega) (.slice A1 x.from_.length c1) x.from_.length (x.from_.map (Value.int .i64)) (by rfl) (owns_alloc Hown.out _) ⟨V.heap.size, 0, none⟩ 1 1 [.int .i64 (-1)] (by rfl) (by rfl) (World.news_of_block (cs := #[.int .i64 (-1)]) (t := 3) (fr := (0, 0)) (heap_alloc_new V _)) (by simp [Value.oneCell']) (by omega) (by simp [maxLen]; omega) (by omega) (by simp; omega) (V.heap.size + 1) (by simp) ?_; intro gg cap V1 hown1 hgrow hat hlt1; have ob := Hbx.out.of_block (HQ.out V1 hgrow w1.heap.size (by omega) hV1); have s0 := ob.cell (i := 0) rfl; have s1 := ob.cell (i := 1) rfl; have s2 := ob.frozen 0; have s3 := ob.lt; have orr := Hrs1.out.of_block (HQ.out V1 hgrow (w.heap.size + 1) (by omega) (by omega)); have r2 := orr.frozen 0; have r3 := orr.frozen 1; have r0 := orr.cell (i := 0) rfl; have r1 := orr.cell (i := 1) rfl)
    have hfV1 : RowI V1 (w.heap.size + 2) (.slice (some ⟨gg, 0, none⟩) (x.from_ ++ [-1]).length cap) (x.from_ ++ [-1]) := by
      rw [List.length_append]
      exact row_of_mapN (n := x.from_.length + 1) (by simp) (by simpa using hown1)
    have hgT : gg ≠ w1.heap.size := by
      rcases hat with e | e
      · have := HFb.out _ e; omega
      · omega
    have hf9 : RowI (V1.setCell ⟨w1.heap.size, 0, none⟩ (.slice (some ⟨gg, 0, none⟩) (x.from_.length + 1) cap)) (w.heap.size + 2) (.slice (some ⟨gg, 0, none⟩) (x.from_ ++ [-1]).length cap) (x.from_ ++ [-1]) := hfV1.of_block fun g _ e _ => Below.heap_setCell _ _ _ _ (by
      simp only [Value.ownBlock, Option.some.injEq] at e
      show g ≠ w1.heap.size
      omega)
    have ho9 := HO.out (V1.setCell ⟨w1.heap.size, 0, none⟩ (.slice (some ⟨gg, 0, none⟩) (x.from_.length + 1) cap)) fun b h1 h2 => (Below.heap_setCell _ _ _ _ (by show b ≠ w1.heap.size; omega)).trans (HQ.out V1 hgrow b (by omega) (by omega))
    have hm9 : Mv R w V1 := mv_grownV (hmv9.alloc _) hgrow fun g e => by have := HFb.out g e; omega
    have hd9 : Rd V1 R (p + 1) := rd_grown (hrd9.alloc _) hgrow fun g e => by have := HFb.out g e; omega
    refine bodyPost_ret (v := .agg #[.slice (some ⟨gg, 0, none⟩) (x.from_.length + 1) cap, .slice B1 x.order.length d1]) (by simp [results, Tryz.results55, go_sem, orr.cell (i := 0) rfl, orr.cell (i := 1) rfl]) rfl ?_
    exact RetMX.fin (x := ⟨x.from_ ++ [-1], x.order⟩) ⟨hf9.ints' (Nat.le_refl _), ho9.intss' (by omega)⟩ (hm9.setNew (by show w.heap.size ≤ w1.heap.size; omega) _) (hd9.setNew (by show R < w1.heap.size; omega) _) (by omega) (by omega) ⟨by simp, by simp; omega, by show kk ≤ x.order.length; omega, ho3, fun q hm => by have := Hq.out q hm; omega⟩ (by simp) rfl
  · -- the first order is left out
    obtain ⟨gB, c', e, hgb, hgl, hcB, hfr, hth, hnd, hge, hgc, hgc'⟩ := hoV.elem1 (rowP_loc _ _ _) (i := 0) (by omega)
    injection e with e1 _ e3
    subst e1 e3
    have h1 : (1 : Int) ≤ (x.order.length : Int) := by omega
    have h2 : (1 : Int) ≤ (d1 : Int) := by omega
    have h3 : (x.order.length : Int) ≤ (d1 : Int) := by omega
    have hgt : 1 < d1 := by omega
    have hc1' : ¬ ((d1 : Int) = 1) := by omega
    have q0 := hbx.cell (i := 0) rfl
    have q1 := hbx.cell (i := 1) rfl
    have q2 := hbx.frozen 1
    have r0 := hrs.cell (i := 0) rfl
    have r1 := hrs.cell (i := 1) rfl
    have r2 := hrs.frozen 0
    have r3 := hrs.frozen 1
    have Hrs := Lib.hid hrs
    clear hfV hoV hcB hfr hth hnd hge hbx hrs hBlt
    go_wp2_with fail
    have hf9 := HFm.out (V.setCell ⟨w1.heap.size, 1, none⟩ (.slice (some ⟨gB, 1, none⟩) (x.order.length - 1) (d1 - 1))) (fun g e => Below.heap_setCell _ _ _ _ (by show g ≠ w1.heap.size; have := HFb.out g e; omega))
    have ho9 := HO.out (V.setCell ⟨w1.heap.size, 1, none⟩ (.slice (some ⟨gB, 1, none⟩) (x.order.length - 1) (d1 - 1))) (fun b _ h2 => Below.heap_setCell _ _ _ _ (by show b ≠ w1.heap.size; omega))
    refine bodyPost_ret (v := .agg #[.slice A1 x.from_.length c1, .slice (some ⟨gB, 1, none⟩) (x.order.length - 1) (d1 - 1)]) (by simp [results, Tryz.results55, go_sem, Hrs.out.cell (i := 0) rfl, Hrs.out.cell (i := 1) rfl]) rfl ?_
    exact RetMX.fin (x := ⟨x.from_, x.order.drop 1⟩) ⟨hf9.ints' (Nat.le_refl _), Intss.drop1 (o := 0) (ho9.intss' (by omega)) (d1 - 1) (by omega)⟩ (hmv9.setNew (by show w.heap.size ≤ w1.heap.size; omega) _) (hrd9.setNew (by show R < w1.heap.size; omega) _) (by omega) (by omega) ⟨hf1, by show x.from_.length ≤ n + 1; omega, by simp; omega, by simp; omega, fun q hm => by have := Hq.out q (List.mem_of_mem_drop hm); omega⟩ rfl (by simp)
  · -- the first order is appended to
    obtain ⟨gB, c', e, hgb, hgl, hcB, hfr, hth, hnd, hge, hgc, hgc'⟩ := hoV.elem1 (rowP_loc _ _ _) (i := 0) (by omega)
    injection e with e1 _ e3
    subst e1 e3
    have hgB := hBlt gB rfl
    obtain ⟨hti, hFs⟩ := hth
    simp only at hti hFs
    obtain ⟨A0, c0, hvi, hn0, hn0'⟩ := hti.slice
    have htl := Hq.out _ (List.getElem_mem (show 0 < x.order.length by omega))
    rw [hvi] at hcB hti hFs
    have Hvi := Lib.hid hvi
    have hown0 := row_to_map hti
    have H0b : Hid (∀ g, (Value.slice A0 x.order[0].length c0).ownBlock = some g → T + 1 ≤ g ∧ g ≠ gB ∧ g < w1.heap.size) := fun g e => by
      have hm : g ∈ Fs 0 := by rw [hFs]; exact mem_own.2 e
      exact ⟨(hge g hm).1, (hge g hm).2, (hFlt 0 (by omega) g hm).2⟩
    have HFs := Lib.hid hFs
    have Hown0 := Lib.hid hown0
    have HoV := Lib.hid hoV
    have Hset0 : Hid (x.order[0] = x.order[0]) := rfl
    have hx0 : ∃ q0, q0 = x.order[0] := ⟨_, rfl⟩
    obtain ⟨q0, hq0⟩ := hx0
    rw [← hq0] at hcB hn0 htl Hvi H0b HFs Hown0
    have hc0 : q0.length ≤ 100 := by omega
    have Hbx := Lib.hid hbx
    have Hrs := Lib.hid hrs
    have HD := Lib.hid hrd9
    have hTR : w1.heap.size ≠ R := by omega
    have hgV : gB < V.heap.size := by omega
    have HM : Hid (∀ X : World, Mv R V X → X.cell? ⟨gB, 0, none⟩ = some (.slice A0 q0.length c0) ∧ X.frozen? ⟨gB, 0, none⟩ = false ∧ gB < X.heap.size) := fun X m => ⟨m.cell hcB (by show gB ≠ R; omega), (World.frozen?_of_block (w := V) (m.block (i := gB) hgV (by omega))).trans hfr, Nat.lt_of_lt_of_le hgV m.size⟩
    have HX : Hid (∀ X V1 : World, Mv R V X → ∀ o, (X.alloc o).grownBy V1 (Value.slice A0 q0.length c0).ownBlock → (∀ b, b < V.heap.size → b ≠ R → (∀ g, (Value.slice A0 q0.length c0).ownBlock = some g → b ≠ g) → V1.heap[b]? = V.heap[b]?)) := fun X V1 m o hg b h1 h2 h3 => by
      have hsX := m.size
      exact (World.grownBy.block hg b (by simp; omega) (fun e => h3 b e.symm rfl)).trans ((Go.Deep.blk_alloc_lt _ _ _ (by omega)).trans (m.block h1 h2))
    have q1 := hbx.cell (i := 1) rfl
    have q2 := hbx.lt
    have H6 : Hid (∀ w6 : World, Mv R V w6 → w6.cell? ⟨w1.heap.size, 1, none⟩ = some (.slice (some ⟨gB, 0, none⟩) x.order.length d1) ∧ w1.heap.size < w6.heap.size ∧ w6.cell? ⟨gB, 0, none⟩ = some (.slice A0 q0.length c0) ∧ w6.frozen? ⟨gB, 0, none⟩ = false ∧ gB < w6.heap.size ∧ V.heap.size ≤ w6.heap.size) := fun w6 m => ⟨(Hbx.out.mv m hTR).cell (i := 1) rfl, (Hbx.out.mv m hTR).lt, (HM.out w6 m).1, (HM.out w6 m).2.1, (HM.out w6 m).2.2, m.size⟩
    have HA : Hid (∀ (w6 : World) (y : Int), Mv R V w6 → (w6.alloc (.cells #[.int .i64 y] 3)).ownsRow 0 3 1 (.slice A0 q0.length c0) q0.length (q0.map (Value.int .i64))) := fun w6 y m => owns_alloc (owns_of_block Hown0.out (fun g hv hb hlt => m.block hlt (by have := H0b.out g hv; omega))) _
    have H7 : Hid (∀ (w6 V1 : World) (y : Int), Mv R V w6 → (w6.alloc (.cells #[.int .i64 y] 3)).grownBy V1 (Value.slice A0 q0.length c0).ownBlock → V1.cell? ⟨w1.heap.size, 1, none⟩ = some (.slice (some ⟨gB, 0, none⟩) x.order.length d1) ∧ w1.heap.size < V1.heap.size ∧ V1.cell? ⟨gB, 0, none⟩ = some (.slice A0 q0.length c0) ∧ V1.frozen? ⟨gB, 0, none⟩ = false ∧ gB < V1.heap.size) := fun w6 V1 y m hg => by
      have o7 := Hbx.out.of_block (HX.out w6 V1 m _ hg w1.heap.size hV1 hTR (fun g e e' => by have := (H0b.out g e).2.2; omega))
      have hb := HX.out w6 V1 m _ hg gB hgV (by omega) (fun g e e' => (H0b.out g e).2.1 e'.symm)
      exact ⟨o7.cell (i := 1) rfl, o7.lt, (World.cell?_of_block (w := V) hb).trans (HM.out V (Mv.refl R V)).1, (World.frozen?_of_block (w := V) hb).trans (HM.out V (Mv.refl R V)).2.1, by have := o7.lt; omega⟩
    have HFin : Hid (∀ (w6 V1 : World) (y : Int) (gg cap : Nat), Mv R V w6 → Rd w6 R (p + 1 + 1) → (w6.alloc (.cells #[.int .i64 y] 3)).grownBy V1 (Value.slice A0 q0.length c0).ownBlock → V1.ownsRow 0 3 1 (.slice (some ⟨gg, 0, none⟩) (q0.length + 1) cap) (q0.length + 1) (q0.map (Value.int .i64) ++ [.int .i64 y]) → ((Value.slice A0 q0.length c0).ownBlock = some gg ∨ gg = w6.heap.size + 1) → MxV w w1 (V1.setCell ⟨gB, 0, none⟩ (.slice (some ⟨gg, 0, none⟩) (q0.length + 1) cap)) R (p + 1 + 1) T ⟨x.from_, x.order.set 0 (q0 ++ [y])⟩ A1 c1 (some ⟨gB, 0, none⟩) d1) :=
      fun w6 V1 y gg cap m r hg ho ha => mx_app hR hT hV1 hs1' (by omega) hfV hfl HoV.out Hbx.out Hrs.out hmv9 hgB HFs.out H0b.out m r hg ho ha rfl
    have hmax : q0.length + 1 ≤ maxLen := by simp [maxLen]; omega
    have hol0 : 0 < x.order.length := by omega
    have hol1 : (0 : Int) < (x.order.length : Int) := by omega
    have htl1 : q0.length ≤ n := htl
    have Hmv9 := Lib.hid hmv9
    clear hfV hoV hBlt hbx hrs hrd9 hti hFs hge hnd hown0 Hset0 hfr hq0 HX HM hbl hFlt HO HFm HFb Hown0 HoV HFs Hvi Hs0 hcB hmv9 hvi
    have hcB := (H6.out V (Mv.refl R V)).2.2.1
    go_wp2_with fail
    refine Code.wp_mono (Q := MxQ w w1 V R (p + 1 + 1) T x A B c d A1 A0 c1 c0 gB d1 q0) ?post ?reg
    case post =>
      rintro e a W9 hQ
      obtain ⟨rfl, y, b7, gg, cap, rfl, hF⟩ := hQ.get
      have hbx := hF.box
      have hrs := hF.res
      obtain ⟨cs9, Fs9, ho9⟩ := hF.ord
      rw [List.length_set] at hbx
      have u0 := hbx.cell (i := 0) rfl
      have u1 := hbx.cell (i := 1) rfl
      have u2 := hrs.frozen 0
      have u3 := hrs.frozen 1
      have u4 := hrs.cell (i := 0) rfl
      have u5 := hrs.cell (i := 1) rfl
      have Hrs9 := Lib.hid hrs
      have HF := Lib.hid hF
      have HO9 := Lib.hid ho9
      clear hbx hrs hQ hF ho9 H6 HA H7 HFin q1 hcB
      go_wp2_with fail
      refine bodyPost_ret (v := .agg #[.slice A1 x.from_.length c1, .slice (some ⟨gB, 0, none⟩) x.order.length d1]) (by simp [results, Tryz.results55, go_sem, Hrs9.out.cell (i := 0) rfl, Hrs9.out.cell (i := 1) rfl]) rfl ?_
      exact RetMX.fin (x := ⟨x.from_, x.order.set 0 (q0 ++ [y])⟩) ⟨HF.out.frm.ints' (Nat.le_refl _), HO9.out.intss' (by omega)⟩ HF.out.mv HF.out.rd (by omega) (by omega) ⟨hf1, by show x.from_.length ≤ n + 1; omega, by simp; omega, by simp; omega, fun q hm => by
        rcases List.mem_or_eq_of_mem_set hm with hm | rfl
        · have := Hq.out q hm; omega
        · simp; omega⟩ rfl (by simp)
    case reg =>
      have hRV : R < V.heap.size := by omega
      clear hf1 hfn ho2 ho3 hT hTl hs1' hk0 hk24 h5 hgb hgl hgc hgc' hgB hn0 hn0' htl htl1 Hq H0b Hmv9 hfl
      go_region_law (first
        | (go_simp; go_at_call 90; ((with_reducible refine (num3_any _ R (p + 1) _ 0 99 (-1) (by omega) ?_ ?_ ?_).mono ?_); exact HD.out.drew.alloc _; exact Own.new _ _ _; (first | omega | (simp; omega)); rintro e6 w6 ⟨y, rfl, _, m6, r6⟩; have M6 : Mv R V w6 := ((Mv.refl R V).drew.alloc _).trans m6; obtain ⟨k6, kl6, hc6, hf6, hg6, hl6⟩ := H6.out _ M6); go_wp2_with fail)
        | (refine step_append_lies _ (by rfl) _ _ _ (by rfl) 0 3 i0 _ 1 8 Tryz.underlying23 hi0 hz0 hz1 hz2 rfl (by omega) (.slice A0 q0.length c0) q0.length (q0.map (Value.int .i64)) (by rfl) (HA.out w6 y M6) ⟨w6.heap.size, 0, none⟩ 1 1 [.int .i64 y] (by rfl) (by rfl) (World.news_of_block (cs := #[.int .i64 y]) (t := 3) (fr := (0, 0)) (heap_alloc_new w6 _)) (by simp [Value.oneCell']) (by omega) (by exact hmax) (by omega) (by simp) (w6.heap.size + 1) (by simp) ?_; intro gg cap V1 hown1 hgrow hat hlt1; obtain ⟨k7, kl7, g2, gf, gl7⟩ := H7.out w6 V1 y M6 hgrow))
      all_goals exact (show ∃ _, _ from ⟨y, _, gg, cap, rfl, HFin.out w6 V1 y gg cap M6 r6 hgrow hown1 hat⟩)
  · -- the first order is emptied
    obtain ⟨gB, c', e, hgb, hgl, hcB, hfr, hth, hnd, hge, hgc, hgc'⟩ := hoV.elem1 (rowP_loc _ _ _) (i := 0) (by omega)
    injection e with e1 _ e3
    subst e1 e3
    have hgB := hBlt gB rfl
    have hset := RowW.set (rowP_loc 1 3 QInt) (V := V.alloc (.cells #[] 3)) (nv := .slice (some ⟨V.heap.size, 0, none⟩) 0 0) (x := []) (F := [V.heap.size]) hoV (i := 0) (by omega) (by simp) (fun b _ hl _ => Go.Deep.blk_alloc_lt _ _ _ hl) ⟨RowOf.made _ (Own.new _ _ _) (Nat.zero_le _), rfl⟩ (by simp) (fun b hb => by
      obtain rfl := List.mem_singleton.1 hb
      exact ⟨by omega, .inr (Nat.le_refl _)⟩)
    have Hset := Lib.hid hset
    have q0 := hbx.cell (i := 0) rfl
    have q1 := hbx.cell (i := 1) rfl
    have q3 := hbx.lt
    have r0 := hrs.cell (i := 0) rfl
    have r1 := hrs.cell (i := 1) rfl
    have r2 := hrs.frozen 0
    have r3 := hrs.frozen 1
    have r4 := hrs.lt
    have n1 : gB ≠ w.heap.size + 1 := by omega
    have n2 : w.heap.size + 1 ≠ gB := by omega
    have n3 : gB ≠ w1.heap.size := by omega
    have n4 : w1.heap.size ≠ gB := by omega
    have hgV : gB < V.heap.size := by omega
    have Hrs := Lib.hid hrs
    clear hfV hoV hth hnd hge hbx hrs hBlt hset
    go_wp2_with fail
    refine bodyPost_ret (v := .agg #[.slice A1 x.from_.length c1, .slice (some ⟨gB, 0, none⟩) x.order.length d1]) (by simp [results, Tryz.results55, go_sem, Hrs.out.cell (i := 0) rfl, Hrs.out.cell (i := 1) rfl, r4]) rfl ?_
    rw [← World.setCell_alloc_past _ _ _ _ (by simp [World.setCell]; omega), ← World.setCell_alloc_past _ _ _ _ (by simp [World.setCell]; omega), ← World.setCell_alloc_past _ _ _ _ (by omega)]
    have hf9 := HFm.out ((V.alloc (.cells #[] 3)).setCell ⟨gB, 0, none⟩ (.slice (some ⟨V.heap.size, 0, none⟩) 0 0)) (fun g e => (Below.heap_setCell _ _ _ _ (by show g ≠ gB; have := HFb.out g e; omega)).trans (Go.Deep.blk_alloc_lt _ _ _ (by have := HFb.out g e; omega)))
    obtain ⟨cs9, Fs9, ho9⟩ : ∃ cs9 Fs9, RowsI ((V.alloc (.cells #[] 3)).setCell ⟨gB, 0, none⟩ (.slice (some ⟨V.heap.size, 0, none⟩) 0 0)) (T + 1) (.slice (some ⟨gB, 0, none⟩) (x.order.set 0 []).length d1) (x.order.set 0 []) cs9 Fs9 := by
      rw [List.length_set]
      exact ⟨_, _, Hset.out⟩
    exact RetMX.fin (x := ⟨x.from_, x.order.set 0 []⟩) ⟨hf9.ints' (Nat.le_refl _), ho9.intss' (by omega)⟩ ((hmv9.alloc _).setNew (by show w.heap.size ≤ gB; omega) _) ((hrd9.alloc _).setNew (by show R < gB; omega) _) (by omega) (by omega) ⟨hf1, by show x.from_.length ≤ n + 1; omega, by simp; omega, by simp; omega, fun q hm => by
      rcases List.mem_or_eq_of_mem_set hm with hm | rfl
      · have := Hq.out q hm; omega
      · simp⟩ rfl (by simp)

theorem mut6_any (w : World) (R p n : Nat) (hn : n ≤ 100) (x : Ex) (hx : SzX n 2 x) (hp : p ≤ 900000000) (hr : Rd w R p) (A B : Option Addr) (c d : Nat) (hrep : RepX w A c B d x) :
    Calls Tryz.prog 55 #[.pointer (some ⟨R, 0, none⟩), .agg #[.slice A x.from_.length c, .slice B x.order.length d]] w (RetMX w R p (n + 1) 1) :=
  mut6k_any 1 (Nat.le_refl 1) w R p n hn x hx hp hr A B c d hrep

end Go.Proofs.YtfgpbnncdfcjjabGreatDoor
