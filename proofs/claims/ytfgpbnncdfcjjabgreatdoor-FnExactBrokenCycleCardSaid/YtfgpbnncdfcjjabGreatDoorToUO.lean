/-
  The walks of toRule, toRuleS, the copy's memory being the call's own.
-/
import Derived.Test.YtfgpbnncdfcjjabGreatDoorToEO
namespace Go.Proofs.YtfgpbnncdfcjjabGreatDoor
open Go.RowKit
set_option linter.unusedVariables false
set_option maxRecDepth 100000

def RetOU1 (w : World) (x : RU) (e : Ending) (w' : World) : Prop := ∃ A c F, e = .returned (.agg #[.int .i64 x.kind, .int .i64 x.e.op, .string x.e.name, .slice A x.e.kids.length c]) ∧ OwE w' (.slice A x.e.kids.length c) x.e.kids F ∧ F.Nodup ∧ (∀ b ∈ F, w.heap.size ≤ b) ∧ Below w.heap.size w w'
def RetOU (w : World) (xs : List RU) (e : Ending) (w' : World) : Prop := ∃ v F, e = .returned v ∧ OwU w' v xs F ∧ F.Nodup ∧ (∀ b ∈ F, w.heap.size ≤ b) ∧ Below w.heap.size w w'

set_option maxHeartbeats 400000 in
theorem toUO1_any (r : RU) (hw : wE r.e ≤ 1048576) (w : World) (A : Option Addr) (c : Nat) (hr : RepK w A c r.e) :
    Calls Tryz.prog 42 #[.agg #[.int .i64 r.kind, .int .i64 r.e.op, .string r.e.name, .slice A r.e.kids.length c]] w (RetOU1 w r) := by
  have hS := fun (W : World) (hl : Le w W) => toEO_any r.e hw W A c (hr.le hl)
  clear hr
  go_enter Tryz.func42, Tryz.ntmps42
  go_wp2_with fail
  refine (hS _ (((Le.alloc _ _).to_alloc _).to_alloc _)).mono ?_
  rintro e' w' ⟨A', c', F, rfl, how, hnd, hFb, hb⟩
  obtain ⟨hc, hf⟩ := bcell hb
  have hz : w.heap.size + 3 ≤ w'.heap.size := by have := hb.size; simp at this; omega
  have Hr := Lib.hid (And.intro how (And.intro hnd hFb))
  clear how hnd hFb
  go_wp2_with fail
  refine bodyPost_ret (v := .agg #[.int .i64 r.kind, .int .i64 r.e.op, .string r.e.name, .slice A' r.e.kids.length c']) (by simp [results, Tryz.results42, go_sem, hc]) rfl ?_
  refine ⟨A', c', F, rfl, Hr.out.1.of_blocks fun x hx => ?_, Hr.out.2.1, fun x hx => ?_, ?_⟩
  · have h1 := Hr.out.2.2 x hx
    simp at h1
    repeat (rw [Below.heap_setCell _ _ _ _ (by simp; omega)])
  · have h1 := Hr.out.2.2 x hx
    simp at h1
    omega
  · repeat (refine Below.setCell ?_ (by simp <;> omega) _)
    refine Below.trans ?_ (hb.mono (B' := w.heap.size) (by simp <;> omega))
    repeat (refine Below.alloc ?_ (by simp <;> omega) _)
    exact Below.refl _ _

set_option maxHeartbeats 800000 in
theorem toUO_any (rs : List RU) (hlen : rs.length ≤ 1048576) (hw : ∀ r ∈ rs, wE r.e ≤ 1048576) (w : World) (v : Value) (hr : SlR 4 RepU w v rs) :
    Calls Tryz.prog 13 #[v] w (RetOU w rs) := by
  obtain ⟨A, c, rfl, _⟩ := hr.slice
  have hmk := run_make_any (P := Tryz.prog) 36 59 _ 4 56 Tryz.underlying36 Tryz.infoU rs.length (by omega) (by omega)
  have Hns : Hid (∀ i (h : i < rs.length), rs[i].e.name.size ≤ 9223372036854775807) := fun i h => by
    obtain ⟨_, _, _, _, _, _, _, _, _, _, hk⟩ := RepUs.get hr h
    exact hk.name_le
  go_enter Tryz.func13, Tryz.ntmps13
  go_wp2_with fail
  clear hmk
  go_loopg [4] rs.length (fun g s4 wr => ∃ (k : Nat) (F : Nat → Value) (vs : Nat → Value) (Fs : Nat → List Nat), k ≤ rs.length ∧ g = rs.length - k ∧ s4 = .int .i64 k ∧ Below w.heap.size w wr ∧
    wr.rowIs w.heap.size 59 (rs.length * 4) F ∧ Hid ((∀ i (h : i < k) (h' : i < rs.length), F (i * 4) = .int .i64 rs[i].kind ∧ F (i * 4 + 1) = .int .i64 rs[i].e.op ∧ F (i * 4 + 2) = .string rs[i].e.name ∧ F (i * 4 + 3) = vs i ∧ OwE wr (vs i) rs[i].e.kids (Fs i)) ∧ ((List.range k).map Fs).flatten.Nodup ∧ (∀ b ∈ ((List.range k).map Fs).flatten, w.heap.size < b)))
  case atStart =>
    obtain ⟨F, hF⟩ := rowIs_made_any w #[.int .i64 0, .int .i64 0, .string ByteArray.empty, .slice none 0 0] (rs.length * 4) 59
    exact ⟨0, F, fun _ => undef, fun _ => [], Nat.zero_le _, rfl, rfl, (Below.refl _ _).alloc (Nat.le_refl _) _, hF, fun i h => absurd h (Nat.not_lt_zero _), List.nodup_nil, fun b hb => by cases hb⟩
  case round =>
    obtain ⟨k, F, vs, Fs, hk, rfl, rfl, hb, hF, hall⟩ := hrel
    by_cases hlt : k < rs.length
    · obtain ⟨b, o, A0, c0, rfl, hbl, k0, k1, k2, k3, hre⟩ := RepUs.get (RepUs.le hr (Le.below hb)) hlt
      clear hr
      go_wp2_with fail
      refine (toUO1_any rs[k] (hw _ (List.getElem_mem hlt)) _ _ _ hre).mono ?_
      rintro e' w' ⟨A', c', F', rfl, how, hnd, hFb, hb'⟩
      have hF' : w'.rowIs w.heap.size 59 (rs.length * 4) F := hF.of_block (hb'.block _ hF.lt)
      have f0 := hF'.cell (i := k * 4) (by omega)
      have f1 := hF'.cell (i := k * 4 + 1) (by omega)
      have f2 := hF'.cell (i := k * 4 + 2) (by omega)
      have f3 := hF'.cell (i := k * 4 + 3) (by omega)
      have g0 := hF'.frozen (k * 4)
      have g1 := hF'.frozen (k * 4 + 1)
      have g2 := hF'.frozen (k * 4 + 2)
      have g3 := hF'.frozen (k * 4 + 3)
      have Hr := Lib.hid (And.intro how (And.intro hnd hFb))
      have hwl := hF.lt
      clear k0 k1 k2 k3 hre how hnd hFb
      go_wp2_with fail
      go_roundg (rs.length - (k + 1))
      case measure => omega
      case rel =>
        refine ⟨k + 1, _, fun i => if i = k then .slice A' rs[k].e.kids.length c' else vs i, fun i => if i = k then F' else Fs i, by omega, rfl, by go_num, below_set4 (hb.trans (hb'.mono hb.size)) (Nat.le_refl _) _ _ _ _, rowIs_set4 hF' k _ _ _ _, fun i hi hi' => ?_, ?_, ?_⟩
        · have hblk : ∀ x, x ≠ w.heap.size → ((((w'.setCell ⟨w.heap.size, k * 4, none⟩ (.int .i64 rs[k].kind)).setCell ⟨w.heap.size, k * 4 + 1, none⟩ (.int .i64 rs[k].e.op)).setCell ⟨w.heap.size, k * 4 + 2, none⟩ (.string rs[k].e.name)).setCell ⟨w.heap.size, k * 4 + 3, none⟩ (.slice A' rs[k].e.kids.length c')).heap[x]? = w'.heap[x]? := fun x hx => by
            rw [Below.heap_setCell _ _ _ _ hx, Below.heap_setCell _ _ _ _ hx, Below.heap_setCell _ _ _ _ hx, Below.heap_setCell _ _ _ _ hx]
          by_cases e : i = k
          · subst e
            refine ⟨upd4_0 _ _ _ _ _ _, upd4_1 _ _ _ _ _ _, upd4_2 _ _ _ _ _ _, by simpa using upd4_3 _ _ _ _ _ _, ?_⟩
            simp only [if_true]
            exact Hr.out.1.of_blocks fun x hx => hblk x (by have := Hr.out.2.2 x hx; omega)
          · obtain ⟨h0, h1, h2, h3, h4⟩ := hall.out.1 i (by omega) hi'
            have hne := fun j (hj : j < 4) => upd4_other F (k := k) (i := i) (j := j) (.int .i64 rs[k].kind) (.int .i64 rs[k].e.op) (.string rs[k].e.name) (.slice A' rs[k].e.kids.length c') hj e
            refine ⟨(hne 0 (by omega)).trans h0, (hne 1 (by omega)).trans h1, (hne 2 (by omega)).trans h2, ?_, ?_⟩
            · simp only [if_neg e]; exact (hne 3 (by omega)).trans h3
            · simp only [if_neg e]
              refine (h4.under hb').of_blocks fun x hx => hblk x ?_
              have := hall.out.2.2 x (mem_foot (show i < k by omega) hx)
              omega
        · rw [flat_snoc, flat_congr (Gs := Fs) fun i hi => by rw [if_neg (by omega)], if_pos rfl]
          refine List.nodup_append.2 ⟨hall.out.2.1, Hr.out.2.1, fun x hx y hy e => ?_⟩
          subst e
          obtain ⟨i, hi, hxi⟩ := of_mem_foot hx
          have h1 := (hall.out.1 i hi (by omega)).2.2.2.2.lt x hxi
          have h2 := Hr.out.2.2 x hy
          omega
        · rw [flat_snoc, flat_congr (Gs := Fs) fun i hi => by rw [if_neg (by omega)], if_pos rfl]
          intro x hx
          rcases List.mem_append.1 hx with hx | hx
          · exact hall.out.2.2 x hx
          · have := Hr.out.2.2 x hx; omega
    · go_wp2_with fail
      go_ret
      obtain rfl : k = rs.length := by omega
      refine ⟨_, w.heap.size :: ((List.range rs.length).map Fs).flatten, rfl, Or.inr ⟨w.heap.size, _, rs.length * 4, F, Fs, rfl, hF, Nat.le_refl _, by omega, fun i hi => ?_, rfl⟩, ?_, ?_, hb⟩
      · obtain ⟨h0, h1, h2, h3, h4⟩ := hall.out.1 i hi hi
        exact ⟨h0, h1, h2, Hns.out _ hi, by rw [h3]; exact h4⟩
      · exact List.nodup_cons.2 ⟨fun h => by have := hall.out.2.2 _ h; omega, hall.out.2.1⟩
      · intro x hx
        rcases List.mem_cons.1 hx with rfl | hx
        · exact Nat.le_refl _
        · exact Nat.le_of_lt (hall.out.2.2 x hx)

end Go.Proofs.YtfgpbnncdfcjjabGreatDoor
