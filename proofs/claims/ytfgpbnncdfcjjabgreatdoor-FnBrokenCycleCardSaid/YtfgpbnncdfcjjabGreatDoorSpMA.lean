/-
  The walks of impl.FormatModel, spec.l7Words, spec.l7Model, spec.FormatModel. The walks of spec.l7Model, spec.FormatModel. The walk of spec.ParseModel (begun).
-/
import Derived.Test.YtfgpbnncdfcjjabGreatDoorWVal
import Derived.Test.YtfgpbnncdfcjjabGreatDoorWText
import Derived.Test.YtfgpbnncdfcjjabGreatDoorShelf
import Derived.Test.YtfgpbnncdfcjjabGreatDoorCut
import Derived.Test.YtfgpbnncdfcjjabGreatDoorWSp
import Derived.Deep.RegionWith

/-! The walks of impl.FormatModel, spec.l7Words, spec.l7Model, spec.FormatModel. -/
namespace Go.Proofs.YtfgpbnncdfcjjabGreatDoor
open Go.RowKit
set_option linter.unusedVariables false
set_option maxRecDepth 100000

theorem Tryz.infoS : (Tryz.prog.info? 9).map (fun i => (i.zero, i.size, i.bytes)) = some (some (.string ByteArray.empty), 1, 16) := by kernel_rfl

/-- What a cell holds. -/
def getC (W : World) (p : Addr) : Value := (W.cell? p).getD undef
theorem getC_eq {W : World} {p : Addr} {v : Value} (h : W.cell? p = some v) : W.cell? p = some (getC W p) := by unfold getC; rw [h]; rfl
/-- Five cells to be read, one to be written. -/
theorem keep5 {W W' : World} {b b0 bp j k : Nat} {v0 v1 v2 v3 v4 : Value}
    (h : W.cell? ⟨b, 0, none⟩ = some v0 ∧ W.cell? ⟨b, 1, none⟩ = some v1 ∧ W.cell? ⟨b, 2, none⟩ = some v2 ∧ W.cell? ⟨b, 3, none⟩ = some v3 ∧ W.cell? ⟨b0, j, none⟩ = some v4 ∧ W.frozen? ⟨bp, k, none⟩ = false ∧ W.cell? ⟨bp, k, none⟩ = some (getC W ⟨bp, k, none⟩)) (hb : Below W.heap.size W W') :
    W'.cell? ⟨b, 0, none⟩ = some v0 ∧ W'.cell? ⟨b, 1, none⟩ = some v1 ∧ W'.cell? ⟨b, 2, none⟩ = some v2 ∧ W'.cell? ⟨b, 3, none⟩ = some v3 ∧ W'.cell? ⟨b0, j, none⟩ = some v4 ∧ W'.frozen? ⟨bp, k, none⟩ = false ∧ W'.cell? ⟨bp, k, none⟩ = some (getC W' ⟨bp, k, none⟩) := by
  obtain ⟨h0, h1, h2, h3, h4, h5, h6⟩ := h
  have l := Le.below hb
  exact ⟨l _ _ h0, l _ _ h1, l _ _ h2, l _ _ h3, l _ _ h4, (hb.frozen (p := ⟨bp, k, none⟩) (World.block_lt_of_cell? _ _ h6)).trans h5, getC_eq (l _ _ h6)⟩
theorem keep5s {W : World} {b b0 bp j k : Nat} {v0 v1 v2 v3 v4 : Value}
    (h : W.cell? ⟨b, 0, none⟩ = some v0 ∧ W.cell? ⟨b, 1, none⟩ = some v1 ∧ W.cell? ⟨b, 2, none⟩ = some v2 ∧ W.cell? ⟨b, 3, none⟩ = some v3 ∧ W.cell? ⟨b0, j, none⟩ = some v4 ∧ W.frozen? ⟨bp, k, none⟩ = false ∧ W.cell? ⟨bp, k, none⟩ = some (getC W ⟨bp, k, none⟩)) (hb : b ≠ bp) (hb0 : b0 ≠ bp) (v : Value) :
    (W.setCell ⟨bp, k, none⟩ v).cell? ⟨b, 0, none⟩ = some v0 ∧ (W.setCell ⟨bp, k, none⟩ v).cell? ⟨b, 1, none⟩ = some v1 ∧ (W.setCell ⟨bp, k, none⟩ v).cell? ⟨b, 2, none⟩ = some v2 ∧ (W.setCell ⟨bp, k, none⟩ v).cell? ⟨b, 3, none⟩ = some v3 ∧ (W.setCell ⟨bp, k, none⟩ v).cell? ⟨b0, j, none⟩ = some v4 ∧ (W.setCell ⟨bp, k, none⟩ v).frozen? ⟨bp, k, none⟩ = false ∧ (W.setCell ⟨bp, k, none⟩ v).cell? ⟨bp, k, none⟩ = some (getC (W.setCell ⟨bp, k, none⟩ v) ⟨bp, k, none⟩) := by
  obtain ⟨h0, h1, h2, h3, h4, h5, h6⟩ := h
  have o : ∀ (b' o' : Nat), b' ≠ bp → (W.setCell ⟨bp, k, none⟩ v).cell? ⟨b', o', none⟩ = W.cell? ⟨b', o', none⟩ := fun b' o' hne => World.cell?_setCell_other W _ _ v (fun e => hne (by injection e with e1 _ _; exact e1.symm))
  exact ⟨(o _ _ hb).trans h0, (o _ _ hb).trans h1, (o _ _ hb).trans h2, (o _ _ hb).trans h3, (o _ _ hb0).trans h4, (World.frozen?_setCell _ _ _ _).trans h5, getC_eq (World.cell?_setCell_same _ _ _ h6)⟩

theorem nil_app (x : ByteArray) : (⟨#[]⟩ : ByteArray) ++ x = x := by
  apply ByteArray.ext
  simp

def RetWords (w : World) (e : Ending) (w' : World) : Prop := e = .returned (.slice (some ⟨w.heap.size, 0, none⟩) 4 4) ∧ (∀ k : Int, 1 ≤ k → k ≤ 3 → w'.cell? ⟨w.heap.size, k.toNat, none⟩ = some (.string (wd k))) ∧ Below w.heap.size w w' ∧ w.heap.size < w'.heap.size
set_option maxHeartbeats 400000 in
theorem l7Words_any (w : World) : Calls Tryz.prog 135 #[] w (RetWords w) := by
  go_enter Tryz.func135, Tryz.ntmps135
  go_wp2_with fail
  go_ret
  refine ⟨rfl, fun k h1 h3 => ?_, (Below.refl _ _).alloc (Nat.le_refl _) _, by simp⟩
  rcases kind_cases h1 h3 with rfl | rfl | rfl <;> (rw [World.cell?_alloc_new]; rfl)


end Go.Proofs.YtfgpbnncdfcjjabGreatDoor

/-! The walks of spec.l7Model, spec.FormatModel. -/
namespace Go.Proofs.YtfgpbnncdfcjjabGreatDoor
open Go.RowKit
set_option linter.unusedVariables false
set_option maxRecDepth 100000

theorem keep4 {wr X : World} {b p0 p1 p2 p3 : Nat} {v0 v1 v2 v3 : Value} (h : wr.cell? ⟨b, p0, none⟩ = some v0 ∧ wr.cell? ⟨b, p1, none⟩ = some v1 ∧ wr.cell? ⟨b, p2, none⟩ = some v2 ∧ wr.cell? ⟨b, p3, none⟩ = some v3) (hb : Below wr.heap.size wr X) :
    X.cell? ⟨b, p0, none⟩ = some v0 ∧ X.cell? ⟨b, p1, none⟩ = some v1 ∧ X.cell? ⟨b, p2, none⟩ = some v2 ∧ X.cell? ⟨b, p3, none⟩ = some v3 :=
  ⟨Le.below hb _ _ h.1, Le.below hb _ _ h.2.1, Le.below hb _ _ h.2.2.1, Le.below hb _ _ h.2.2.2⟩

set_option maxHeartbeats 2000000 in
theorem l7Model_any (rs : List RU) (hm : MOk rs) (w : World) (v : Value) (hr : SlR 4 RepU w v rs) :
    Calls Tryz.prog 137 #[v] w (RetStr w (mt rs)) := by
  obtain ⟨A, c, rfl, _⟩ := hr.slice
  go_enter Tryz.func137, Tryz.ntmps137
  have hl5 := hm.2.1
  have Hok := Lib.hid hm.2.2
  clear hm
  go_wp2_with fail
  go_loopg [3, 4] rs.length (fun g s3 s4 wr => ∃ k : Nat, k ≤ rs.length ∧ g = rs.length - k ∧ s4 = .int .i64 k ∧ s3 = .string (mt (rs.take k)) ∧ Below w.heap.size w wr)
  case atStart => exact ⟨0, Nat.zero_le _, rfl, rfl, by rw [List.take_zero, mt_nil], Below.refl _ _⟩
  case round =>
    obtain ⟨k, hk, rfl, rfl, rfl, hbr⟩ := hrel
    by_cases hlt : k < rs.length
    · obtain ⟨b, o, A0, c0, rfl, hbl, k0, k1, k2, k3, hre⟩ := RepUs.get (RepUs.le hr (Le.below hbr)) hlt
      have hu := Hok.out _ (List.getElem_mem hlt)
      obtain ⟨j, hj⟩ : ∃ j : Nat, rs[k].kind = j := ⟨rs[k].kind.toNat, by have := hu.1; omega⟩
      have hj4 : (j : Int) < 4 := by have := hu.2.1; omega
      have Hj : Hid ((1 : Int) ≤ (j : Int) ∧ (j : Int) ≤ 3) := by show _ ∧ _; have := hu.1; omega
      have hpart : part rs[k] = wd (j : Int) ++ ⟨#[32]⟩ ++ ct rs[k].e := by rw [← hj]; rfl
      have hsw := size_wd (j : Int)
      have hsc : (ct rs[k].e).size ≤ 320 := by have h2 := size_ct 12 rs[k].e hu.2.2.1; have h3 := hu.2.2.2; omega
      have hsm : (mt (rs.take k)).size ≤ 3000 := by
        have := join_len (rs.take k) (fun r hr => Hok.out r (List.mem_of_mem_take hr)) (by simp; omega)
        unfold mt
        rw [ByteArray.size_mk', List.size_toArray]
        exact this
      have Hpart := Lib.hid hpart
      have ht := fun (W : World) (h : Below wr.heap.size wr W) => l7Text_any 12 rs[k].e W A0 c0 hu.2.2.1 hu.2.2.2 (hre.le (Le.below h))
      have Ht := Lib.hid ht
      rw [hj] at k0
      have k4 := And.intro k0 (And.intro k1 (And.intro k2 k3))
      have K4 := Lib.hid k4
      clear k4 hre hr hu ht hpart
      have hs4 : ¬ 9223372036854775807 < (wd (j : Int)).size + 1 + (ct rs[k].e).size := by omega
      have hs5 : ¬ 9223372036854775807 < (wd (j : Int)).size + 1 := by omega
      have hs6 : ¬ 9223372036854775807 < (wd (j : Int)).size := by omega
      have hs0 : ¬ 9223372036854775807 < (mt (rs.take k)).size + 1 := by omega
      have hs1 : ¬ 9223372036854775807 < (mt (rs.take k)).size + 1 + (wd (j : Int)).size := by omega
      have hs2 : ¬ 9223372036854775807 < (mt (rs.take k)).size + 1 + (wd (j : Int)).size + 1 := by omega
      have hs3 : ¬ 9223372036854775807 < (mt (rs.take k)).size + 1 + (wd (j : Int)).size + 1 + (ct rs[k].e).size := by omega
      by_cases hk0 : k = 0
      · subst hk0
        clear hs0 hs1 hs2 hs3 hsm hsw hsc hj
        simp only [Nat.zero_mul, Nat.add_zero] at K4 k0 k1 k2 k3
        rw [List.take_zero, mt_nil]
        go_wp2_with fail
        go_region_with (first
            | (go_at_call 135; ((with_reducible refine (l7Words_any _).mono ?_); rintro e2 w2 ⟨rfl, hws, hb2, hlt2⟩; change wr.heap.size < w2.heap.size at hlt2; have hw2 := hws _ Hj.out.1 Hj.out.2; rw [Int.toNat_natCast] at hw2; change w2.cell? ⟨wr.heap.size, j, none⟩ = _ at hw2; obtain ⟨p0, p1, p2, p3⟩ := keep4 K4.out ((Below.refl _ _).drew.trans hb2); clear hws))
            | (go_at_call 182; ((with_reducible refine (Ht.out _ ?_).mono ?_); (exact (Below.refl _ _).drew.trans hb2); rintro e3 w3 ⟨rfl, hb3⟩; obtain ⟨p0', p1', p2', p3'⟩ := keep4 K4.out (((Below.refl _ _).drew.trans hb2).trans (hb3.mono (Nat.le_of_lt hlt2))); have hw3 := Le.below hb3 _ _ hw2)))
        all_goals
          have hb4 : Below wr.heap.size wr w3 := ((Below.refl _ _).drew.trans hb2).trans (hb3.mono (Nat.le_of_lt hlt2))
          have hb5 := hbr.trans (hb4.mono hbr.size)
          clear hb2 hb3 hb4 hw2 hlt2 hw3 p0 p1 p2 p3 p0' p1' p2' p3'
          go_wp2_with fail
          go_roundg (rs.length - (0 + 1))
          case measure => omega
          case rel =>
            refine ⟨0 + 1, by omega, rfl, by go_num, ?_, hb5⟩
            rw [List.take_succ_eq_append_getElem hlt, List.take_zero, List.nil_append, mt_one, Hpart.out, nil_app]
      · have hkp : decide ((k : Int) > 0) = true := by rw [decide_eq_true_iff]; omega
        have hne : rs.take k ≠ [] := fun h => by have := congrArg List.length h; simp only [List.length_take, List.length_nil] at this; omega
        have Hne := Lib.hid hne
        clear hne
        go_wp2_with fail
        go_region_with (first
            | (go_at_call 135; ((with_reducible refine (l7Words_any _).mono ?_); rintro e2 w2 ⟨rfl, hws, hb2, hlt2⟩; change wr.heap.size < w2.heap.size at hlt2; have hw2 := hws _ Hj.out.1 Hj.out.2; rw [Int.toNat_natCast] at hw2; change w2.cell? ⟨wr.heap.size, j, none⟩ = _ at hw2; obtain ⟨p0, p1, p2, p3⟩ := keep4 K4.out ((Below.refl _ _).drew.trans hb2); clear hws))
            | (go_at_call 182; ((with_reducible refine (Ht.out _ ?_).mono ?_); (exact (Below.refl _ _).drew.trans hb2); rintro e3 w3 ⟨rfl, hb3⟩; obtain ⟨p0', p1', p2', p3'⟩ := keep4 K4.out (((Below.refl _ _).drew.trans hb2).trans (hb3.mono (Nat.le_of_lt hlt2))); have hw3 := Le.below hb3 _ _ hw2)))
        all_goals
          have hb4 : Below wr.heap.size wr w3 := ((Below.refl _ _).drew.trans hb2).trans (hb3.mono (Nat.le_of_lt hlt2))
          have hb5 := hbr.trans (hb4.mono hbr.size)
          clear hb2 hb3 hb4 hw2 hlt2 hw3 p0 p1 p2 p3 p0' p1' p2' p3'
          go_wp2_with fail
          go_roundg (rs.length - (k + 1))
          case measure => omega
          case rel =>
            refine ⟨k + 1, by omega, rfl, by go_num, ?_, hb5⟩
            rw [List.take_succ_eq_append_getElem hlt, mt_snoc _ _ Hne.out, Hpart.out, ← ByteArray.append_assoc, ← ByteArray.append_assoc]
    · have hk' : k = rs.length := by omega
      subst hk'
      rw [List.take_length]
      go_wp2_with fail
      go_ret
      exact ⟨rfl, hbr⟩

end Go.Proofs.YtfgpbnncdfcjjabGreatDoor

/-! The walk of spec.ParseModel (begun). -/
namespace Go.Proofs.YtfgpbnncdfcjjabGreatDoor
open Go.RowKit
set_option linter.unusedVariables false
set_option maxRecDepth 100000

theorem Tryz.infoRU : (Tryz.prog.info? 59).map (fun i => (i.zero, i.size, i.bytes)) = some (some (.agg #[.int .i64 0, .int .i64 0, .string ⟨#[]⟩, .slice none 0 0]), 4, 56) := by kernel_rfl
def RetReadM (w : World) (t : ByteArray) (e : Ending) (w' : World) : Prop :=
  ∃ (rs : List RU) (v : Value) (b : Bool), e = .returned (.tuple #[v, .bool b]) ∧ ReadM t rs b ∧ SlR 4 RepU (above w.heap.size w') v rs ∧ Below w.heap.size w w'

theorem spl_pos (c : UInt8) : ∀ (bs cur : List UInt8), 0 < (spl c cur bs).length := by
  intro bs
  induction bs with
  | nil => intro cur; simp [spl_nil]
  | cons b bs ih =>
    intro cur
    by_cases h : b = c
    · subst h; rw [spl_eq]; simp
    · rw [spl_ne h]; exact ih _
theorem cut_pos (s : ByteArray) (c : UInt8) : 0 < (cutB s c).length := by unfold cutB; rw [List.length_map]; exact spl_pos _ _ _
/-- The kind found so far: none, or the one whose word it is. -/
def KindAt (wd0 : ByteArray) (k : Nat) (kind : Int) : Prop := (kind = 0 ∧ ∀ j : Int, 1 ≤ j → j < k → wd0 ≠ wd j) ∨ (1 ≤ kind ∧ kind < k ∧ wd0 = wd kind)

theorem RetReadM.fail {w W : World} {t : ByteArray} {A : Option Addr} {c : Nat} (hb : Below w.heap.size w W) (hn : ∀ qs, MOk qs → mt qs ≠ t) : RetReadM w t (.returned (.tuple #[.slice A 0 c, .bool false])) W :=
  ⟨[], _, false, rfl, Or.inr ⟨rfl, rfl, hn⟩, ⟨A, c, rfl, by simp, fun i hi => absurd hi (Nat.not_lt_zero _)⟩, hb⟩
/-- What a valid model's text gives at the i-th part. -/
theorem pre_part {t : ByteArray} {Ps : List ByteArray} {ms : List RU} {i : Nat} (hpre : ∀ qs, MOk qs → mt qs = t → Ps = qs.map part ∧ qs.take i = ms) (hi : i < Ps.length) : ∀ qs, MOk qs → mt qs = t → ∃ q, UOk q ∧ cutB Ps[i] 32 = [wd q.kind, ct q.e] ∧ qs.take (i + 1) = ms ++ [q] := fun qs hq e => by
  obtain ⟨h1, h2⟩ := hpre qs hq e
  subst h1
  have hi' : i < qs.length := by simpa using hi
  have hu := hq.2.2 qs[i] (List.getElem_mem hi')
  refine ⟨qs[i], hu, ?_, ?_⟩
  · rw [List.getElem_map]; exact cut_part hu
  · rw [List.take_succ_eq_append_getElem hi', h2]

/-- One rule more has been read. -/
theorem pre_next {t : ByteArray} {Ps Ws : List ByteArray} {ms : List RU} {i : Nat} {kind : Int} {x : RE} (hpre : ∀ qs, MOk qs → mt qs = t → Ps = qs.map part ∧ qs.take i = ms)
    (hpp : ∀ qs, MOk qs → mt qs = t → ∃ q, UOk q ∧ Ws = [wd q.kind, ct q.e] ∧ qs.take (i + 1) = ms ++ [q]) (h0 : 0 < Ws.length) (hl : Ws.length = 2) (hk : KindAt Ws[0] 4 kind) (hk0 : kind ≠ 0) (hr : Read Ws[1] x true) :
    UOk ⟨kind, x⟩ ∧ ∀ qs, MOk qs → mt qs = t → Ps = qs.map part ∧ qs.take (i + 1) = ms ++ [⟨kind, x⟩] := by
  obtain ⟨h1, h2⟩ : Val x ∧ ct x = Ws[1] := by
    rcases hr with ⟨_, h⟩ | ⟨h, _⟩
    · exact h
    · cases h
  obtain ⟨h3, h4, h5⟩ : 1 ≤ kind ∧ kind < 4 ∧ Ws[0] = wd kind := by
    rcases hk with ⟨h, _⟩ | h
    · exact absurd h hk0
    · exact h
  refine ⟨⟨h3, by show kind ≤ 3; omega, h1⟩, fun qs hq e => ⟨(hpre qs hq e).1, ?_⟩⟩
  obtain ⟨q, hu, g1, g2⟩ := hpp qs hq e
  subst g1
  have e1 : kind = q.kind := wd_inj ⟨h3, by omega⟩ ⟨hu.1, hu.2.1⟩ (by simpa using h5.symm)
  have e2 : x = q.e := ct_inj h1 hu.2.2 (by simpa using h2)
  rw [g2, e1, e2]
theorem owns_up {w W : World} {base : Nat} {e : TypeId} {k n : Nat} {v : Value} {cs : List Value} (h : w.ownsRow base e k v n cs) (hb : Below w.heap.size w W) : W.ownsRow base e k v n cs :=
  owns_of_block h fun g _ _ hlt => hb.block g hlt
theorem below_rule {B b : Nat} {a w : World} (h : Below B a w) (hb : B ≤ b) (hz : B ≤ w.heap.size) (o o' : Obj) (v1 v2 v3 : Value) :
    Below B a (((((w.setCell ⟨b, 1, none⟩ v1).setCell ⟨b, 2, none⟩ v2).setCell ⟨b, 3, none⟩ v3).alloc o).alloc o') :=
  ((((h.setCell (p := ⟨b, 1, none⟩) hb _).setCell (p := ⟨b, 2, none⟩) hb _).setCell (p := ⟨b, 3, none⟩) hb _).alloc (by simp [World.setCell]; omega) o).alloc (by simp [World.setCell]; omega) _
theorem rule_news {b : Nat} {w : World} (o o' : Obj) (v1 v2 v3 : Value) : (((((w.setCell ⟨b, 1, none⟩ v1).setCell ⟨b, 2, none⟩ v2).setCell ⟨b, 3, none⟩ v3).alloc o).alloc o').heap[w.heap.size + 1]? = some o' := by
  have h := heap_alloc_new ((((w.setCell ⟨b, 1, none⟩ v1).setCell ⟨b, 2, none⟩ v2).setCell ⟨b, 3, none⟩ v3).alloc o) o'
  rwa [show ((((w.setCell ⟨b, 1, none⟩ v1).setCell ⟨b, 2, none⟩ v2).setCell ⟨b, 3, none⟩ v3).alloc o).heap.size = w.heap.size + 1 by simp [World.setCell]] at h
theorem rule_size {b : Nat} {w : World} (o o' : Obj) (v1 v2 v3 : Value) : (((((w.setCell ⟨b, 1, none⟩ v1).setCell ⟨b, 2, none⟩ v2).setCell ⟨b, 3, none⟩ v3).alloc o).alloc o').heap.size = w.heap.size + 2 := by simp [World.setCell]

set_option maxHeartbeats 4000000 in
theorem specParseM_any (t : ByteArray) (w : World) (ht : t.size ≤ 2000000) : Calls Tryz.prog 93 #[.string t] w (RetReadM w t) := by
  obtain ⟨i0, hi0, hz0, hz1, hz2⟩ := info_parts Tryz.infoRU
  go_enter Tryz.func93, Tryz.ntmps93
  go_wp2_with fail
  refine (cut_any t 47 _ ht).mono ?_
  rintro e1 w1 ⟨A, c, rfl, hps, hb1⟩
  have hb1' : Below w.heap.size w w1 := ((Below.refl _ _).alloc (Nat.le_refl _) _).trans (hb1.mono (by simp))
  have own0 : Own w1 w.heap.size 59 #[] := (Own.new w 59 #[]).under hb1
  obtain ⟨Ps, hPs⟩ : ∃ Ps, Ps = cutB t 47 := ⟨_, rfl⟩
  rw [← hPs] at hps
  have hPl := hps.len
  have hPsz : ∀ y ∈ Ps, y.size ≤ 2000000 := fun y hy => by rw [hPs] at hy; have := cut_size hy; omega
  have HPsz := Lib.hid hPsz
  clear hPsz
  rw [World.size_alloc] at hps
  have Pre0 : Hid (∀ qs, MOk qs → mt qs = t → Ps = qs.map part ∧ qs.take 0 = []) := fun qs hq e => ⟨by rw [hPs, ← e, cut_mt hq], List.take_zero⟩
  have hrow0 : RowK 4 RepU w1 w.heap.size 59 (.slice (some ⟨w.heap.size, 0, none⟩) 0 0) [] := RowOf.made _ own0 (Nat.le_refl _)
  rw [← hPs]
  clear own0 hb1 hPs
  go_wp2_with fail
  go_loopg [4, 6] 7 (fun g s4 s6 wr => ∃ (i : Nat) (ms : List RU) (v : Value), i ≤ 6 ∧ i ≤ Ps.length ∧ g = 7 - i ∧ v = s4 ∧ s6 = .int .i64 i ∧ ms.length ≤ i ∧ Hid (ms.length = i) ∧ Hid (RowK 4 RepU wr w.heap.size 59 v ms) ∧ Below w.heap.size w wr ∧ w1.heap.size ≤ wr.heap.size ∧ Hid (Le (above (w.heap.size + 1) w1) wr) ∧
    Hid (∀ g, v.ownBlock = some g → g = w.heap.size ∨ w1.heap.size ≤ g) ∧ Hid (∀ qs, MOk qs → mt qs = t → Ps = qs.map part ∧ qs.take i = ms) ∧ Hid (∀ r ∈ ms, UOk r))
  case atStart => exact ⟨0, [], _, by omega, by omega, rfl, rfl, rfl, by simp, rfl, hrow0, hb1', Nat.le_refl _, Le.above _ _, fun g hg => by simp [Value.ownBlock] at hg; exact Or.inl hg.symm, Pre0, fun r hr => absurd hr (by simp)⟩
  case round =>
    clear Pre0 hrow0 hb1'
    obtain ⟨wo, rfl⟩ : ∃ wo : World, wo = wr := ⟨_, rfl⟩
    obtain ⟨i, ms, v, hi6, hil, rfl, rfl, rfl, hml, hmle, hrow, hb, hw1, hle, hown, hpre, hok⟩ := hrel
    by_cases hin : i < Ps.length
    · by_cases hi5 : i ≤ 5
      · obtain ⟨b, o, rfl, hbl, hc⟩ := hps.get hin
        have hc' := hle.out _ _ hc
        clear hc hbl
        go_wp2_with fail
        refine (cut_any Ps[i] 32 wo (HPsz.out _ (List.getElem_mem hin))).mono ?_
        rintro e2 w2 ⟨A2, c2, rfl, hws, hb2⟩
        have hpos := cut_pos Ps[i] 32
        obtain ⟨Ws, hWs⟩ : ∃ Ws, Ws = cutB Ps[i] 32 := ⟨_, rfl⟩
        rw [← hWs] at hws hpos ⊢
        have hWl := hws.len
        have HWs := Lib.hid hWs
        have hws2 := hws.le (Le.above _ _)
        obtain ⟨b2, o2, rfl, hbl2, hc2⟩ := hws2.get hpos
        have hbr := hb.trans (hb2.mono hb.size)
        have rul := Own.new w2 59 #[.int .i64 0, .int .i64 0, .string ⟨#[]⟩, .slice none 0 0]
        clear hWs hc' hws
        rw [Nat.add_zero] at hc2
        go_wp2_with fail
        go_loopg [9] 3 (fun g s9 wk => ∃ (k : Nat) (kind : Int), 1 ≤ k ∧ k ≤ 4 ∧ g = 4 - k ∧ s9 = .int .i64 k ∧ Own wk w2.heap.size 59 #[.int .i64 kind, .int .i64 0, .string ⟨#[]⟩, .slice none 0 0] ∧ Below w2.heap.size w2 wk ∧ Hid (KindAt (Ws[0]'hpos) k kind) ∧ 0 ≤ kind ∧ kind ≤ 3)
        case atStart => exact ⟨1, 0, by omega, by omega, rfl, rfl, rul, (Below.refl _ _).alloc (Nat.le_refl _) _, Or.inl ⟨rfl, fun j h1 h2 => by omega⟩, by omega, by omega⟩
        case round =>
          clear rul
          obtain ⟨k, kind, hk1, hk4, rfl, rfl, rul, hbk, hkd, hkd0, hkd3⟩ := hrel
          have d0 := Le.below hbk _ _ hc2
          go_wp2_with fail
          refine (l7Words_any _).mono ?_
          rintro e3 w3 ⟨rfl, _, hb3, hlt3⟩
          have rul3 := rul.under hb3
          have hbk3 := hbk.trans (hb3.mono hbk.size)
          have d3 := Le.below hb3 _ _ d0
          clear rul hbk d0
          by_cases hk : k < 4
          · have hkk : (k : Int) < 4 := by omega
            by_cases hw : Ws[0]'hpos = wd (k : Int)
            · skip
              have hsb := str_eq_true hw
              have Hw := Lib.hid hw
              clear hw
              go_wp2_with fail
              go_region_with (first | (go_at_call 135; ((with_reducible refine (l7Words_any _).mono ?_); rintro e4 w4 ⟨rfl, hws4, hb4, hlt4⟩; change w3.heap.size < w4.heap.size at hlt4; have hw4 := hws4 (k : Int) (by omega) (by omega); rw [Int.toNat_natCast] at hw4; change w4.cell? ⟨w3.heap.size, k, none⟩ = _ at hw4; have d4 : w4.cell? ⟨b2, o2, none⟩ = some (.string Ws[0]) := Le.below hb4 _ _ d3; clear hws4)))
              all_goals
                have rul4 : Own w4 w2.heap.size 59 #[.int .i64 kind, .int .i64 0, .string ⟨#[]⟩, .slice none 0 0] := Own.under (w := w3.drew) rul3 hb4
                have hbk4 : Below w2.heap.size w2 w4 := (show Below w2.heap.size w2 w3.drew from hbk3.drew).trans (hb4.mono hbk3.size)
                have r0 := rul4.cell (i := 0) rfl
                have rf := rul4.frozen 0
                clear hb4 hw4 d4 hlt4
                go_wp2_with fail
                go_roundg (4 - (k + 1))
                case measure => omega
                case rel => exact ⟨k + 1, (k : Int), by omega, by omega, rfl, by go_num, rul4.set 0 _, hbk4.setCell (Nat.le_refl _) _, Or.inr ⟨by omega, by omega, Hw.out⟩, by omega, by omega⟩
            · skip
              have hsb := str_eq_false hw
              have Hw := Lib.hid hw
              clear hw
              go_wp2_with fail
              go_region_with (first | (go_at_call 135; ((with_reducible refine (l7Words_any _).mono ?_); rintro e4 w4 ⟨rfl, hws4, hb4, hlt4⟩; change w3.heap.size < w4.heap.size at hlt4; have hw4 := hws4 (k : Int) (by omega) (by omega); rw [Int.toNat_natCast] at hw4; change w4.cell? ⟨w3.heap.size, k, none⟩ = _ at hw4; have d4 : w4.cell? ⟨b2, o2, none⟩ = some (.string Ws[0]) := Le.below hb4 _ _ d3; clear hws4)))
              all_goals
                have rul4 : Own w4 w2.heap.size 59 #[.int .i64 kind, .int .i64 0, .string ⟨#[]⟩, .slice none 0 0] := Own.under (w := w3.drew) rul3 hb4
                have hbk4 : Below w2.heap.size w2 w4 := (show Below w2.heap.size w2 w3.drew from hbk3.drew).trans (hb4.mono hbk3.size)
                clear hb4 hw4 d4 hlt4
                go_wp2_with fail
                go_roundg (4 - (k + 1))
                case measure => omega
                case rel =>
                  refine ⟨k + 1, kind, by omega, by omega, rfl, by go_num, rul4, hbk4, ?_, hkd0, hkd3⟩
                  rcases hkd.out with ⟨h1, h2⟩ | ⟨h1, h2, h3⟩
                  · refine Or.inl ⟨h1, fun j g1 g2 => ?_⟩
                    by_cases hj : j = (k : Int)
                    · rw [hj]; exact Hw.out
                    · exact h2 j g1 (by omega)
                  · exact Or.inr ⟨h1, by omega, h3⟩
          · obtain rfl : k = 4 := by omega
            have hb4 : Below w.heap.size w w3 := hbr.trans (hbk3.mono hbr.size)
            have hpp := pre_part hpre.out hin
            rw [← HWs.out] at hpp
            have Hpp := Lib.hid hpp
            clear hpp
            have r0 := rul3.cell (i := 0) rfl
            by_cases hl2 : Ws.length = 2
            · by_cases hk0 : kind = 0
              · have Hn : Hid (∀ qs, MOk qs → mt qs ≠ t) := fun qs hq e => by
                  obtain ⟨q, hu, h1, _⟩ := Hpp.out qs hq e
                  rcases hkd.out with ⟨_, h2⟩ | ⟨h2, _⟩
                  · refine h2 q.kind hu.1 (by have := hu.2.1; omega) ?_
                    simp [h1]
                  · omega
                have hl2i : ((Ws.length : Int) != 2) = false := by rw [hl2]; rfl
                subst hk0
                go_wp2_with fail
                refine bodyPost_ret (v := .tuple #[.slice (some ⟨w3.heap.size, 0, none⟩) 0 0, .bool false]) (by simp [results, Tryz.results93, go_sem]) rfl ?_
                exact RetReadM.fail (hb4.alloc hb4.size _) Hn.out
              · have hd1 : w3.cell? ⟨b2, o2 + 1, none⟩ = some (.string (Ws[1]'(by omega))) := by
                  obtain ⟨b2', o2', e2', _, hc2'⟩ := hws2.get (i := 1) (by omega)
                  injection e2' with e2'
                  injection e2' with e3' e4' _
                  subst e3'
                  subst e4'
                  exact Le.below hbk3 _ _ hc2'
                have hl2i : ((Ws.length : Int) != 2) = false := by rw [hl2]; rfl
                have hk0i : (kind == 0) = false := by rw [beq_eq_false_iff_ne]; exact hk0
                have rf0 := rul3.frozen 0
                have rl3 := rul3.lt
                go_wp2_with fail
                refine (specParse_any (Ws[1]'(by omega)) _).mono ?_
                rintro e5 w5 ⟨x, bb, A5, c5, F5, rfl, hread, ho5, hF5, hnm5, hb5⟩
                have rul5 := rul3.under hb5
                have hB5 : Below w.heap.size w w5 := hb4.trans (hb5.mono hb4.size)
                have Hread := Lib.hid hread
                clear hread hd1 r0 rul3 d3
                cases bb
                · have Hn : Hid (∀ qs, MOk qs → mt qs ≠ t) := fun qs hq e => by
                    obtain ⟨q, hu, h1, _⟩ := Hpp.out qs hq e
                    rcases Hread.out with ⟨h2, _⟩ | ⟨_, _, h2⟩
                    · cases h2
                    · exact h2 q.e hu.2.2 (by simp [h1])
                  go_wp2_with fail
                  refine bodyPost_ret (v := .tuple #[.slice (some ⟨w5.heap.size + 1, 0, none⟩) 0 0, .bool false]) (by simp [results, Tryz.results93, go_sem]) rfl ?_
                  exact RetReadM.fail ((hB5.alloc hB5.size _).alloc (by have := hB5.size; simp; omega) _) Hn.out
                · obtain ⟨r0, r1, r2, r3, g0, g1, g2, g3, rl⟩ : w5.cell? ⟨w2.heap.size, 0, none⟩ = some (.int .i64 kind) ∧ w5.cell? ⟨w2.heap.size, 1, none⟩ = some (.int .i64 0) ∧ w5.cell? ⟨w2.heap.size, 2, none⟩ = some (.string ⟨#[]⟩) ∧ w5.cell? ⟨w2.heap.size, 3, none⟩ = some (.slice none 0 0) ∧
                      w5.frozen? ⟨w2.heap.size, 0, none⟩ = false ∧ w5.frozen? ⟨w2.heap.size, 1, none⟩ = false ∧ w5.frozen? ⟨w2.heap.size, 2, none⟩ = false ∧ w5.frozen? ⟨w2.heap.size, 3, none⟩ = false ∧ w2.heap.size < w5.heap.size := ⟨rul5.cell rfl, rul5.cell rfl, rul5.cell rfl, rul5.cell rfl, rul5.frozen 0, rul5.frozen 1, rul5.frozen 2, rul5.frozen 3, rul5.lt⟩
                  obtain ⟨hu, hpre'⟩ := pre_next hpre.out Hpp.out hpos hl2 hkd.out hk0 Hread.out
                  have HU := Lib.hid hu
                  have HP := Lib.hid hpre'
                  have hbo : Below wo.heap.size wo w5 := hb2.trans ((hbk3.trans (hb5.mono hbk3.size)).mono hb2.size)
                  have hrow' : RowOf 4 (RepU (keepW (Kr w.heap.size v) wo)) wo w.heap.size 59 v ms := hrow.out
                  obtain ⟨cs, hown0, hq0⟩ := hrow'
                  have Hown := Lib.hid hown0
                  have Hq := Lib.hid hq0
                  have HO5 := Lib.hid (ho5.rep (B := w3.heap.size) hF5)
                  clear hu hpre' hown0 hq0 ho5 hF5
                  go_wp2_with (at_builtin; refine wpList_append_lies _ (by rfl) _ _ _ (by rfl) w.heap.size 59 i0 _ 4 56 Tryz.underlying36 hi0 hz0 hz1 hz2 rfl (by omega) v ms.length cs (by rfl) (owns_up Hown.out (below_rule hbo hb2.size hbo.size _ _ _ _ _)) ⟨w5.heap.size + 1, 0, none⟩ 1 1 [.int .i64 kind, .int .i64 x.op, .string x.name, .slice A5 x.kids.length c5] (by rfl) (by rfl) (World.news_of_block (cs := #[.int .i64 kind, .int .i64 x.op, .string x.name, .slice A5 x.kids.length c5]) (t := 59) (fr := (0, 0)) (rule_news _ _ _ _ _)) (by simp [Value.oneCell']) (by omega) (by simp [maxLen]; omega) (by omega) (by rw [rule_size]; have := hB5.size; omega) (w5.heap.size + 2) (rule_size _ _ _ _ _) ?_; intro gg cap w6 hown6 hgrow hat6 hlt6)
                  go_roundg (7 - (i + 1))
                  case measure => omega
                  case rel =>
                    have hX := below_rule hbo hb2.size hbo.size (.cells #[.int .i64 x.op, .string x.name, .slice A5 x.kids.length c5] 57) (.cells #[.int .i64 kind, .int .i64 x.op, .string x.name, .slice A5 x.kids.length c5] 59) (.int .i64 x.op) (.string x.name) (.slice A5 x.kids.length c5)
                    have hXb : Below w.heap.size w _ := hb.trans (hX.mono hb.size)
                    have hbase : ∀ g, v.ownBlock = some g → w.heap.size ≤ g ∧ g < wo.heap.size := fun g hg => owns_base Hown.out hg
                    refine ⟨i + 1, ms ++ [RU.mk kind x], _, by omega, by omega, rfl, rfl, by go_num, by simp; omega, by have := hmle.out; simp; omega, ?_, below_grown hXb hgrow (Nat.le_refl _) (fun g hg => (hbase g hg).1), ?_, ?_, ?_, HP, ?_⟩
                    · refine RowK.push (R := RepU) (fun a a' cs x hl h => RepU.le hl h) (fun a f g x hfg h => RepU.congr h hfg) Hown.out Hq.out hX hgrow rfl (x := RU.mk kind x) ⟨rfl, ?_⟩ hb.size hown6 hat6 (rule_size _ _ _ _ _)
                      refine RepK.toE (A := A5) (c := c5) ⟨by show x.name.size ≤ _; omega, ?_⟩ (fun j hj => by rcases (show j = 0 ∨ j = 1 ∨ j = 2 by omega) with rfl | rfl | rfl <;> rfl)
                      refine RepEs.le HO5.out (fun a u hc => ?_)
                      obtain ⟨h1, h2⟩ := cell_above_lt hc
                      refine cell_above_of (by have := (hb2.trans (hbk3.mono hb2.size)).size; omega) ?_
                      rw [World.cell?_alloc_lt _ _ _ (by simp [World.setCell]; have := World.block_lt_of_cell? _ _ h2; omega), World.cell?_alloc_lt _ _ _ (by simp [World.setCell]; exact World.block_lt_of_cell? _ _ h2)]
                      have hne : a.block ≠ w2.heap.size := by omega
                      rw [World.cell?_setCell_other _ _ _ _ (fun e => hne (by have := congrArg Addr.block e; simp at this; omega)), World.cell?_setCell_other _ _ _ _ (fun e => hne (by have := congrArg Addr.block e; simp at this; omega)), World.cell?_setCell_other _ _ _ _ (fun e => hne (by have := congrArg Addr.block e; simp at this; omega))]
                      exact h2
                    · have := World.grownBy.size hgrow
                      rw [rule_size] at this
                      have := hbo.size
                      omega
                    · intro a u hc
                      obtain ⟨h1, h2⟩ := cell_above_lt hc
                      have h3 := Le.below hX _ _ (hle.out _ _ hc)
                      have hlt := World.block_lt_of_cell? _ _ h2
                      rw [World.cell?_of_block (World.grownBy.block hgrow a.block (World.block_lt_of_cell? _ _ h3) (fun e => ?_))]
                      · exact h3
                      · rcases hown.out a.block e.symm with h | h
                        · omega
                        · omega
                    · intro g hg
                      simp only [Value.ownBlock, Option.some.injEq] at hg
                      subst hg
                      rcases hat6 with h | h
                      · exact hown.out _ h
                      · have := hbo.size
                        right; omega
                    · intro r hr
                      rcases List.mem_append.1 hr with hr | hr
                      · exact hok.out r hr
                      · rw [List.mem_singleton.1 hr]; exact HU.out
            · have Hn : Hid (∀ qs, MOk qs → mt qs ≠ t) := fun qs hq e => by
                obtain ⟨q, hu, h1, _⟩ := Hpp.out qs hq e
                exact hl2 (by rw [h1]; rfl)
              have hl2i : ((Ws.length : Int) != 2) = true := by rw [bne_iff_ne]; omega
              go_wp2_with fail
              refine bodyPost_ret (v := .tuple #[.slice (some ⟨w3.heap.size, 0, none⟩) 0 0, .bool false]) (by simp [results, Tryz.results93, go_sem]) rfl ?_
              exact RetReadM.fail (hb4.alloc hb4.size _) Hn.out
      · have Hall : Hid (∀ qs, MOk qs → mt qs = t → qs = ms) := fun qs hq e => by
          have h1 := (hpre.out qs hq e).1
          have := hq.2.1
          have h2 : Ps.length = qs.length := by rw [h1, List.length_map]
          omega
        have hcnt : ∀ r ∈ ms, cntE r.e ≤ 1048577 := fun r hr => by have := (hok.out r hr).2.2.2; omega
        have Hcnt := Lib.hid hcnt
        have hsl : SlR 4 RepU (above w.heap.size wo) v ms := RowK.slR (k := 4) (R := RepU) (by omega) (fun a a' cs x hl h => RepU.le hl h) hrow.out
        obtain ⟨A9, c9, rfl, _⟩ := hsl.slice
        have Hsl := Lib.hid hsl
        clear hsl hpre hown hle hrow hok hcnt
        go_wp2_with fail
        refine (specModValid_any ms Hcnt.out wo _ (RepUs.le Hsl.out (Le.above _ _))).mono ?_
        rintro e7 w7 ⟨rfl, hb7⟩
        have hB7 := hb.trans (hb7.mono hb.size)
        cases hv : mB ms
        · have Hn : Hid (∀ qs, MOk qs → mt qs ≠ t) := fun qs hq e => by
            rw [Hall.out qs hq e] at hq
            exact mB_false.1 hv hq
          have Hv := Lib.hid hv
          clear hv
          go_wp2_with fail
          refine bodyPost_ret (v := .tuple #[.slice (some ⟨w7.heap.size, 0, none⟩) 0 0, .bool false]) (by simp [results, Tryz.results93, go_sem]) rfl ?_
          exact RetReadM.fail (hB7.alloc hB7.size _) Hn.out
        · have hok := mB_iff.1 hv
          have Hv := Lib.hid hv
          clear hv
          go_wp2_with fail
          refine (l7Model_any ms hok _ _ (RepUs.le Hsl.out ((Le.above _ _).trans (Le.below hb7)))).mono ?_
          rintro e8 w8 ⟨rfl, hb8⟩
          have hB8 := hB7.trans (hb8.mono hB7.size)
          have hL8 : Le wo w8 := (Le.below hb7).trans (Le.below hb8)
          by_cases ht8 : mt ms = t
          · have hsb := str_eq_true ht8
            have Ht8 := Lib.hid ht8
            have Hok := Lib.hid hok
            clear ht8 hok
            go_wp2_with fail
            refine bodyPost_ret (v := .tuple #[.slice A9 ms.length c9, .bool true]) (by simp [results, Tryz.results93, go_sem]) rfl ?_
            exact ⟨ms, _, true, rfl, Or.inl ⟨rfl, Hok.out, Ht8.out⟩, RepUs.le Hsl.out (Le.above_le _ hL8), hB8⟩
          · have hsb := str_eq_false ht8
            have Hn : Hid (∀ qs, MOk qs → mt qs ≠ t) := fun qs hq e => by
              rw [Hall.out qs hq e] at e
              exact ht8 e
            clear ht8
            go_wp2_with fail
            refine bodyPost_ret (v := .tuple #[.slice (some ⟨w8.heap.size, 0, none⟩) 0 0, .bool false]) (by simp [results, Tryz.results93, go_sem]) rfl ?_
            exact RetReadM.fail (hB8.alloc hB8.size _) Hn.out
    · have Hall : Hid (∀ qs, MOk qs → mt qs = t → qs = ms) := fun qs hq e => by
        obtain ⟨h1, h2⟩ := hpre.out qs hq e
        have h3 : Ps.length = qs.length := by rw [h1, List.length_map]
        rw [List.take_of_length_le (by omega)] at h2
        exact h2
      have hcnt : ∀ r ∈ ms, cntE r.e ≤ 1048577 := fun r hr => by have := (hok.out r hr).2.2.2; omega
      have Hcnt := Lib.hid hcnt
      have hsl : SlR 4 RepU (above w.heap.size wo) v ms := RowK.slR (k := 4) (R := RepU) (by omega) (fun a a' cs x hl h => RepU.le hl h) hrow.out
      obtain ⟨A9, c9, rfl, _⟩ := hsl.slice
      have Hsl := Lib.hid hsl
      clear hsl hpre hown hle hrow hok hcnt
      go_wp2_with fail
      refine (specModValid_any ms Hcnt.out wo _ (RepUs.le Hsl.out (Le.above _ _))).mono ?_
      rintro e7 w7 ⟨rfl, hb7⟩
      have hB7 := hb.trans (hb7.mono hb.size)
      cases hv : mB ms
      · have Hn : Hid (∀ qs, MOk qs → mt qs ≠ t) := fun qs hq e => by
          rw [Hall.out qs hq e] at hq
          exact mB_false.1 hv hq
        have Hv := Lib.hid hv
        clear hv
        go_wp2_with fail
        refine bodyPost_ret (v := .tuple #[.slice (some ⟨w7.heap.size, 0, none⟩) 0 0, .bool false]) (by simp [results, Tryz.results93, go_sem]) rfl ?_
        exact RetReadM.fail (hB7.alloc hB7.size _) Hn.out
      · have hok := mB_iff.1 hv
        have Hv := Lib.hid hv
        clear hv
        go_wp2_with fail
        refine (l7Model_any ms hok _ _ (RepUs.le Hsl.out ((Le.above _ _).trans (Le.below hb7)))).mono ?_
        rintro e8 w8 ⟨rfl, hb8⟩
        have hB8 := hB7.trans (hb8.mono hB7.size)
        have hL8 : Le wo w8 := (Le.below hb7).trans (Le.below hb8)
        by_cases ht8 : mt ms = t
        · have hsb := str_eq_true ht8
          have Ht8 := Lib.hid ht8
          have Hok := Lib.hid hok
          clear ht8 hok
          go_wp2_with fail
          refine bodyPost_ret (v := .tuple #[.slice A9 ms.length c9, .bool true]) (by simp [results, Tryz.results93, go_sem]) rfl ?_
          exact ⟨ms, _, true, rfl, Or.inl ⟨rfl, Hok.out, Ht8.out⟩, RepUs.le Hsl.out (Le.above_le _ hL8), hB8⟩
        · have hsb := str_eq_false ht8
          have Hn : Hid (∀ qs, MOk qs → mt qs ≠ t) := fun qs hq e => by
            rw [Hall.out qs hq e] at e
            exact ht8 e
          clear ht8
          go_wp2_with fail
          refine bodyPost_ret (v := .tuple #[.slice (some ⟨w8.heap.size, 0, none⟩) 0 0, .bool false]) (by simp [results, Tryz.results93, go_sem]) rfl ?_
          exact RetReadM.fail (hB8.alloc hB8.size _) Hn.out

end Go.Proofs.YtfgpbnncdfcjjabGreatDoor
