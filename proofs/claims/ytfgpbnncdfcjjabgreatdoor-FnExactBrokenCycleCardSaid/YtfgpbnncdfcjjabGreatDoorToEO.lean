/-
  The walks of toRelExprS, toRelExpr, toRule, toRuleS, the copy's memory being the call's own.
-/
import Derived.Test.YtfgpbnncdfcjjabGreatDoorEq
import Derived.Test.YtfgpbnncdfcjjabGreatDoorMkA
namespace Go.Proofs.YtfgpbnncdfcjjabGreatDoor
open Go.RowKit
set_option linter.unusedVariables false
set_option maxRecDepth 100000

def RetOE (w : World) (x : RE) (e : Ending) (w' : World) : Prop := ∃ A c F, e = .returned (.agg #[.int .i64 x.op, .string x.name, .slice A x.kids.length c]) ∧ OwE w' (.slice A x.kids.length c) x.kids F ∧ F.Nodup ∧ (∀ b ∈ F, w.heap.size ≤ b) ∧ Below w.heap.size w w'
def RetOEs (w : World) (xs : List RE) (e : Ending) (w' : World) : Prop := ∃ v F, e = .returned v ∧ OwE w' v xs F ∧ F.Nodup ∧ (∀ b ∈ F, w.heap.size ≤ b) ∧ Below w.heap.size w w'
theorem OwE.under {w w' : World} {v : Value} {es : List RE} {F : List Nat} (h : OwE w v es F) (hb : Below w.heap.size w w') : OwE w' v es F := h.of_blocks fun b hm => hb.block b (h.lt b hm)
theorem flat_snoc (Fs : Nat → List Nat) (k : Nat) : ((List.range (k + 1)).map Fs).flatten = ((List.range k).map Fs).flatten ++ Fs k := by
  rw [List.range_succ, List.map_append, List.flatten_append]
  simp
theorem flat_congr {Fs Gs : Nat → List Nat} {k : Nat} (h : ∀ i, i < k → Fs i = Gs i) : ((List.range k).map Fs).flatten = ((List.range k).map Gs).flatten := by
  congr 1
  exact List.map_congr_left fun i hi => h i (List.mem_range.1 hi)

set_option maxHeartbeats 800000 in
theorem toSO_any (es : List RE) (hlen : es.length ≤ 1048576) (hns : ∀ e ∈ es, e.name.size ≤ 9223372036854775807)
    (ih : ∀ e ∈ es, ∀ (w : World) (A : Option Addr) (c : Nat), RepK w A c e → Calls Tryz.prog 84 #[.agg #[.int .i64 e.op, .string e.name, .slice A e.kids.length c]] w (RetOE w e))
    (w : World) (v : Value) (hr : SlR 3 RepE w v es) :
    Calls Tryz.prog 126 #[v] w (RetOEs w es) := by
  obtain ⟨A, c, rfl, _⟩ := hr.slice
  have hmk := run_make_any (P := Tryz.prog) 55 57 _ 3 48 Tryz.underlying55 Tryz.infoE es.length (by omega) (by omega)
  have Hns := Lib.hid hns
  clear hns
  go_enter Tryz.func126, Tryz.ntmps126
  go_wp2_with fail
  clear hmk
  go_loopg [4] es.length (fun g s4 wr => ∃ (k : Nat) (F : Nat → Value) (vs : Nat → Value) (Fs : Nat → List Nat), k ≤ es.length ∧ g = es.length - k ∧ s4 = .int .i64 k ∧ Below w.heap.size w wr ∧
    wr.rowIs w.heap.size 57 (es.length * 3) F ∧ Hid ((∀ i (h : i < k) (h' : i < es.length), F (i * 3) = .int .i64 es[i].op ∧ F (i * 3 + 1) = .string es[i].name ∧ F (i * 3 + 2) = vs i ∧ OwE wr (vs i) es[i].kids (Fs i)) ∧ ((List.range k).map Fs).flatten.Nodup ∧ (∀ b ∈ ((List.range k).map Fs).flatten, w.heap.size < b)))
  case atStart =>
    obtain ⟨F, hF⟩ := rowIs_made_any w #[.int .i64 0, .string ByteArray.empty, .slice none 0 0] (es.length * 3) 57
    exact ⟨0, F, fun _ => undef, fun _ => [], Nat.zero_le _, rfl, rfl, (Below.refl _ _).alloc (Nat.le_refl _) _, hF, fun i h => absurd h (Nat.not_lt_zero _), List.nodup_nil, fun b hb => by cases hb⟩
  case round =>
    obtain ⟨k, F, vs, Fs, hk, rfl, rfl, hb, hF, hall⟩ := hrel
    by_cases hlt : k < es.length
    · obtain ⟨b, o, A0, c0, rfl, hbl, k0, k1, k2, hre⟩ := RepEs.get (RepEs.le hr (Le.below hb)) hlt
      clear hr
      go_wp2_with fail
      refine (ih es[k] (List.getElem_mem hlt) _ _ _ hre).mono ?_
      rintro e' w' ⟨A', c', F', rfl, how, hnd, hFb, hb'⟩
      have hF' : w'.rowIs w.heap.size 57 (es.length * 3) F := hF.of_block (hb'.block _ hF.lt)
      have f0 := hF'.cell (i := k * 3) (by omega)
      have f1 := hF'.cell (i := k * 3 + 1) (by omega)
      have f2 := hF'.cell (i := k * 3 + 2) (by omega)
      have g0 := hF'.frozen (k * 3)
      have g1 := hF'.frozen (k * 3 + 1)
      have g2 := hF'.frozen (k * 3 + 2)
      have Hr := Lib.hid (And.intro how (And.intro hnd hFb))
      have hwl := hF.lt
      clear k0 k1 k2 hre how hnd hFb
      go_wp2_with fail
      go_roundg (es.length - (k + 1))
      case measure => omega
      case rel =>
        refine ⟨k + 1, _, fun i => if i = k then .slice A' es[k].kids.length c' else vs i, fun i => if i = k then F' else Fs i, by omega, rfl, by go_num, below_set3 (hb.trans (hb'.mono hb.size)) (Nat.le_refl _) _ _ _, rowIs_set3 hF' k _ _ _, fun i hi hi' => ?_, ?_, ?_⟩
        · have hblk : ∀ x, x ≠ w.heap.size → (((w'.setCell ⟨w.heap.size, k * 3, none⟩ (.int .i64 es[k].op)).setCell ⟨w.heap.size, k * 3 + 1, none⟩ (.string es[k].name)).setCell ⟨w.heap.size, k * 3 + 2, none⟩ (.slice A' es[k].kids.length c')).heap[x]? = w'.heap[x]? := fun x hx => by
            rw [Below.heap_setCell _ _ _ _ hx, Below.heap_setCell _ _ _ _ hx, Below.heap_setCell _ _ _ _ hx]
          by_cases e : i = k
          · subst e
            refine ⟨upd3_0 _ _ _ _ _, upd3_1 _ _ _ _ _, by simpa using upd3_2 _ _ _ _ _, ?_⟩
            simp only [if_true]
            exact Hr.out.1.of_blocks fun x hx => hblk x (by have := Hr.out.2.2 x hx; omega)
          · obtain ⟨h0, h1, h2, h3⟩ := hall.out.1 i (by omega) hi'
            have hne := fun j (hj : j < 3) => upd3_other F (k := k) (i := i) (j := j) (.int .i64 es[k].op) (.string es[k].name) (.slice A' es[k].kids.length c') hj e
            refine ⟨(hne 0 (by omega)).trans h0, (hne 1 (by omega)).trans h1, ?_, ?_⟩
            · simp only [if_neg e]; exact (hne 2 (by omega)).trans h2
            · simp only [if_neg e]
              refine (h3.under hb').of_blocks fun x hx => hblk x ?_
              have := hall.out.2.2 x (mem_foot (show i < k by omega) hx)
              omega
        · rw [flat_snoc, flat_congr (Gs := Fs) fun i hi => by rw [if_neg (by omega)], if_pos rfl]
          refine List.nodup_append.2 ⟨hall.out.2.1, Hr.out.2.1, fun x hx y hy e => ?_⟩
          subst e
          obtain ⟨i, hi, hxi⟩ := of_mem_foot hx
          have h1 := (hall.out.1 i hi (by omega)).2.2.2.lt x hxi
          have h2 := Hr.out.2.2 x hy
          omega
        · rw [flat_snoc, flat_congr (Gs := Fs) fun i hi => by rw [if_neg (by omega)], if_pos rfl]
          intro x hx
          rcases List.mem_append.1 hx with hx | hx
          · exact hall.out.2.2 x hx
          · have := Hr.out.2.2 x hx; omega
    · go_wp2_with fail
      go_ret
      obtain rfl : k = es.length := by omega
      refine ⟨_, _, rfl, OwE.row (by omega) hF (fun i hi => ?_) (fun i hi => (hall.out.1 i hi hi).2.2.2), ?_, ?_, hb⟩
      · obtain ⟨h0, h1, h2, _⟩ := hall.out.1 i hi hi
        exact ⟨h0, h1, h2, Hns.out _ (List.getElem_mem hi)⟩
      · exact List.nodup_cons.2 ⟨fun h => by have := hall.out.2.2 _ h; omega, hall.out.2.1⟩
      · intro x hx
        rcases List.mem_cons.1 hx with rfl | hx
        · exact Nat.le_refl _
        · exact Nat.le_of_lt (hall.out.2.2 x hx)

theorem SlR3_name {w : World} {v : Value} {es : List RE} (h : SlR 3 RepE w v es) : ∀ e ∈ es, e.name.size ≤ 9223372036854775807 := fun e he => by
  obtain ⟨i, hi, rfl⟩ := List.getElem_of_mem he
  obtain ⟨A, c, rfl, _⟩ := h.slice
  obtain ⟨_, _, _, _, _, _, _, _, _, hk⟩ := RepEs.get h hi
  exact hk.name_le

set_option maxHeartbeats 400000 in
theorem toEO_any (e : RE) : wE e ≤ 1048576 → ∀ (w : World) (A : Option Addr) (c : Nat), RepK w A c e → Calls Tryz.prog 84 #[.agg #[.int .i64 e.op, .string e.name, .slice A e.kids.length c]] w (RetOE w e) := by
  induction e using RE.ind with | h op name kids ih => ?_
  intro hw w A c ⟨hn, e2⟩
  have hwe : wE (.mk op name kids) = name.size + (kids.length + wL kids) := by rw [wE]
  simp only [RE.op, RE.name, RE.kids] at hn e2 ⊢
  have hS := fun (W : World) (hl : Le w W) => toSO_any kids (by omega) (SlR3_name e2) (fun e he => ih e he (by have := wE_mem he; omega)) W (.slice A kids.length c) (RepEs.le e2 hl)
  clear ih hwe hw
  go_enter Tryz.func84, Tryz.ntmps84
  go_wp2_with fail
  refine (hS _ (((Le.alloc _ _).to_alloc _).to_alloc _)).mono ?_
  rintro e' w' ⟨v, F, rfl, how, hnd, hFb, hb⟩
  obtain ⟨A', c', rfl⟩ := how.slice
  obtain ⟨hc, hf⟩ := bcell hb
  have hz : w.heap.size + 3 ≤ w'.heap.size := by have := hb.size; simp at this; omega
  have Hr := Lib.hid (And.intro how (And.intro hnd hFb))
  clear how hnd hFb
  go_wp2_with fail
  refine bodyPost_ret (v := .agg #[.int .i64 op, .string name, .slice A' kids.length c']) (by simp [results, Tryz.results84, go_sem, hc]) rfl ?_
  refine ⟨A', c', F, rfl, Hr.out.1.of_blocks fun x hx => ?_, Hr.out.2.1, fun x hx => ?_, ?_⟩
  · have h1 := Hr.out.2.2 x hx
    simp at h1
    repeat (rw [Below.heap_setCell _ _ _ _ (by simp; omega)])
  · have h1 := Hr.out.2.2 x hx
    simp at h1
    omega
  · repeat (refine Below.setCell ?_ (by simp <;> omega) _)
    refine Below.trans ?_ (hb.mono (B' := w.heap.size) (by simp <;> omega))
    repeat (refine Below.alloc ?_ (by simp <;> omega) _)
    exact Below.refl _ _

end Go.Proofs.YtfgpbnncdfcjjabGreatDoor
