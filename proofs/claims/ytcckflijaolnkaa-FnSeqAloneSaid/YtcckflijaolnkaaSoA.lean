/-
  Sorting outcomes: slices.Compare, slices.SortFunc at rows of ints of one's own; slices.CompactFunc.
-/
import Derived.Test.YtcckflijaolnkaaMch
import Derived.Test.YtcckflijaolnkaaLexP
import Derived.Test.YtcckflijaolnkaaInts
namespace Go.Proofs.Ytcckflijaolnkaa
open Go.RowKit
set_option linter.unusedVariables false
set_option maxRecDepth 100000

theorem lexC_drop {xs ys : List Int} {k : Nat} (h : k < xs.length) (h' : k < ys.length) : lexC (xs.drop k) (ys.drop k) = if xs[k] < ys[k] then -1 else if ys[k] < xs[k] then 1 else lexC (xs.drop (k + 1)) (ys.drop (k + 1)) := by
  rw [List.drop_eq_getElem_cons h, List.drop_eq_getElem_cons h', lexC]
theorem lexC_more {xs ys : List Int} {k : Nat} (h : k < xs.length) (h' : ¬ k < ys.length) : lexC (xs.drop k) (ys.drop k) = 1 := by
  rw [List.drop_eq_getElem_cons h, List.drop_eq_nil_of_le (show ys.length ≤ k by omega), lexC]
theorem lexC_less {xs ys : List Int} {k : Nat} (h : ¬ k < xs.length) (h' : k < ys.length) : lexC (xs.drop k) (ys.drop k) = -1 := by
  rw [List.drop_eq_getElem_cons h', List.drop_eq_nil_of_le (show xs.length ≤ k by omega), lexC]
theorem lexC_both {xs ys : List Int} {k : Nat} (h : ¬ k < xs.length) (h' : ¬ k < ys.length) : lexC (xs.drop k) (ys.drop k) = 0 := by
  rw [List.drop_eq_nil_of_le (show ys.length ≤ k by omega), List.drop_eq_nil_of_le (show xs.length ≤ k by omega), lexC]

set_option maxHeartbeats 1000000 in
theorem cmpC_any (xs ys : List Int) (w : World) (A A' : Option Addr) (c c' : Nat) (hr : Ints w A c xs) (hr' : Ints w A' c' ys) :
    Calls Try.prog 96 #[.slice A xs.length c, .slice A' ys.length c'] w (fun e w' => e = .returned (.int .i64 (lexC xs ys)) ∧ w = w') := by
  have hm := hr.len
  have hm' := hr'.len
  go_enter Try.func96, Try.ntmps96
  go_wp2_with fail
  go_loopg [11] xs.length (fun g s11 wr => ∃ k : Nat, k ≤ xs.length ∧ k ≤ ys.length ∧ g = xs.length - k ∧ s11 = .int .i64 k ∧ Hid (lexC xs ys = lexC (xs.drop k) (ys.drop k)) ∧ w = wr)
  case atStart => exact ⟨0, Nat.zero_le _, Nat.zero_le _, rfl, rfl, rfl, rfl⟩
  case round =>
    obtain ⟨k, hk, hk', rfl, rfl, hpre, rfl⟩ := hrel
    by_cases hlt : k < xs.length
    · obtain ⟨b, o, rfl, hbl, k0⟩ := hr.get hlt
      by_cases hlt' : k < ys.length
      · obtain ⟨b', o', rfl, hbl', d0⟩ := hr'.get hlt'
        have Hd := Lib.hid (lexC_drop hlt hlt')
        have hc := Try.cmp_Compare_int xs[k] ys[k] w
        unfold Lib.compareInt at hc
        generalize xs[k] = x at k0 Hd hc
        generalize ys[k] = y at d0 Hd hc
        clear hr hr'
        by_cases h1 : x < y
        · rw [if_pos h1] at hc
          have Hp : Hid (lexC xs ys = -1) := by show _ = _; rw [hpre.out, Hd.out, if_pos h1]
          clear hpre Hd h1
          go_wp2_with fail
          refine hc.mono ?_
          rintro e5 w5 ⟨rfl, rfl⟩
          clear hc
          go_wp2_with fail
          go_ret
          exact ⟨by rw [Hp.out]; rfl, rfl⟩
        · by_cases h2 : x > y
          · rw [if_neg h1, if_pos h2] at hc
            have Hp : Hid (lexC xs ys = 1) := by show _ = _; rw [hpre.out, Hd.out, if_neg h1, if_pos h2]
            clear hpre Hd h1 h2
            go_wp2_with fail
            refine hc.mono ?_
            rintro e5 w5 ⟨rfl, rfl⟩
            clear hc
            go_wp2_with fail
            go_ret
            exact ⟨by rw [Hp.out]; rfl, rfl⟩
          · rw [if_neg h1, if_neg h2] at hc
            have Hp : Hid (lexC xs ys = lexC (xs.drop (k + 1)) (ys.drop (k + 1))) := by show _ = _; rw [hpre.out, Hd.out, if_neg h1, if_neg h2]
            clear hpre Hd h1 h2
            go_wp2_with fail
            refine hc.mono ?_
            rintro e5 w5 ⟨rfl, rfl⟩
            clear hc
            go_wp2_with fail
            go_roundg (xs.length - (k + 1))
            case measure => omega
            case rel => exact ⟨k + 1, by omega, by omega, rfl, by go_num, Hp.out, rfl⟩
      · have Hp : Hid (lexC xs ys = 1) := by show _ = _; rw [hpre.out, lexC_more hlt hlt']
        obtain rfl : k = ys.length := by omega
        clear hpre
        go_wp2_with fail
        go_ret
        exact ⟨by rw [Hp.out]; rfl, rfl⟩
    · obtain rfl : k = xs.length := by omega
      by_cases hlt' : xs.length < ys.length
      · have Hp : Hid (lexC xs ys = -1) := by show _ = _; rw [hpre.out, lexC_less hlt hlt']
        clear hpre
        go_wp2_with fail
        go_ret
        exact ⟨by rw [Hp.out]; rfl, rfl⟩
      · have Hp : Hid (lexC xs ys = 0) := by show _ = _; rw [hpre.out, lexC_both hlt hlt']
        clear hpre
        go_wp2_with fail
        go_ret
        exact ⟨by rw [Hp.out]; rfl, rfl⟩

section
variable {α : Type} (enc : α → Value)
theorem rowV_of {w : World} {base : Nat} {e : TypeId} {v : Value} {xs : List α} (h : w.ownsRow base e 1 v xs.length (xs.map enc)) : RowOf 1 (fun cs x => cs 0 = enc x) w base e v xs :=
  ⟨_, h, fun i hi => by show List.getD _ _ _ = _; simp [hi]⟩
theorem rowV_to {w : World} {base : Nat} {e : TypeId} {v : Value} {xs : List α} (h : RowOf 1 (fun cs x => cs 0 = enc x) w base e v xs) : w.ownsRow base e 1 v xs.length (xs.map enc) := by
  obtain ⟨cs, h1, h2⟩ := h
  have hl := h1.1
  have : cs = xs.map enc := by
    apply List.ext_getElem
    · simp [hl]
    · intro i h3 h4
      have hi : i < xs.length := by simpa using h4
      have := h2 i hi
      simp only [Nat.mul_one, Nat.add_zero] at this
      rw [List.getD_eq_getElem?_getD, List.getElem?_eq_getElem h3] at this
      simpa using this
  rw [← this]
  exact h1
theorem take_putV [Inhabited α] (d : Array α) (cur : Array Value) (h : d.size ≤ cur.size) : (Go.Sort.putCells enc 0 d cur).toList.take d.size = d.toList.map enc := by
  apply List.ext_getElem?
  intro i
  rw [List.getElem?_take]
  by_cases hi : i < d.size
  · rw [if_pos hi]
    simp only [Go.Sort.putCells, Array.getElem?_toList, Array.getElem?_mapIdx, List.getElem?_map]
    have h1 : cur[i]? = some cur[i] := by simp [show i < cur.size by omega]
    rw [h1]
    simp [hi]
  · rw [if_neg hi]
    exact (List.getElem?_eq_none (by simp; omega)).symm
theorem sortWorld_grown [Inhabited α] (w : World) (g off n : Nat) (d : Array α) (os : Array Obj) : w.grownBy (Go.Proofs.sortWorld enc w g off n d os) (some g) := by
  unfold Go.Proofs.sortWorld
  refine ⟨rfl, rfl, rfl, by simp [Go.Sort.grow, Go.Sort.ahead, Go.Sort.putRow, Go.Sort.mapBlock], fun i hi hne => ?_⟩
  rw [Go.Sort.heap_grow_old _ _ (by simpa [Go.Sort.ahead, Go.Sort.putRow, Go.Sort.mapBlock] using hi)]
  simp only [Go.Sort.putRow, Go.Sort.mapBlock, Array.getElem?_modify, Go.Sort.ahead]
  rw [if_neg (fun e => hne (by rw [e]))]
end
/-- An outcome that can be read. -/
abbrev OA (a : World) : Type := {o : OE // Ints a (some ⟨o.g, 0, none⟩) o.c o.x}
instance (a : World) : Inhabited (OA a) := ⟨⟨⟨0, 0, []⟩, ⟨_, _, rfl, by simp, fun i hi => absurd hi (Nat.not_lt_zero _)⟩⟩⟩
def cfO (a : World) (x y : OA a) : Int := lexC x.1.x y.1.x
theorem cfO_swo (a : World) : Go.Sort.SWO (Go.Proofs.ltOf (cfO a)) where
  irrefl x := by unfold Go.Proofs.ltOf cfO; rw [lexC_self]; decide
  trans x y z h k := by
    unfold Go.Proofs.ltOf cfO at *
    rw [decide_eq_true_iff] at *
    exact lexC_trans _ _ _ h k
  ntrans x y z h k := by
    unfold Go.Proofs.ltOf cfO at *
    rw [decide_eq_false_iff_not] at *
    exact lexC_ntrans _ _ _ h k

theorem sortO_any (os : List OE) (w : World) (base : Nat) (v : Value) (h : RowOf 1 QOE w base 35 v os) (hpos : 0 < os.length) (hl : os.length ≤ 5000000000000) (a : World) (hin : ∀ o ∈ os, Ints a (some ⟨o.g, 0, none⟩) o.c o.x) (ha : ∀ w', w.grownBy w' v.ownBlock → Le a w') :
    Calls Try.prog 95 #[v, .func (.func 96) #[] #[]] w (fun e w' => e = .returned (.tuple #[]) ∧ ∃ os' : List OE, RowOf 1 QOE w' base 35 v os' ∧ os'.Perm os ∧ (∀ i j (hj : j < os'.length) (hi : i < j), ¬ lexC os'[j].x (os'[i]'(Nat.lt_trans hi hj)).x < 0) ∧ w.grownBy w' v.ownBlock) := by
  have hm := rowV_to OE.v h
  rcases hm.2 with ⟨_, h0⟩ | ⟨g, cap, cur, rfl, hb, hg, hn, hcm, hc, ht⟩
  · omega
  · have hgl : g < w.heap.size := (Array.getElem?_eq_some_iff.1 hg).elim fun h _ => h
    obtain ⟨L, hL⟩ : ∃ L : List (OA a), L = os.pmap (fun o h => ⟨o, h⟩) hin := ⟨_, rfl⟩
    have hLm : L.map Subtype.val = os := by rw [hL, List.map_pmap]; simp
    have hLl : L.length = os.length := by rw [← hLm]; simp
    have hLe : L.map (fun x => OE.v x.1) = os.map OE.v := by rw [← hLm, List.map_map]; rfl
    have hH : Go.Sort.Holds (fun x : OA a => OE.v x.1) w g 0 L.toArray := fun j hj => by
      have hj' : j < L.length := by simpa using hj
      refine ⟨?_, by simp [World.frozen?, hg]⟩
      have h1 : (os.map OE.v)[j]? = cur.toList[j]? := by rw [← ht, List.getElem?_take, if_pos (by omega)]
      rw [Nat.zero_add, cell_of_row w g j cur 35 (0, 0) hg, ← Array.getElem?_toList, ← h1, ← hLe]
      simp [hj']
    have hcmp : Go.Proofs.CmpLays1 Try.prog 96 #[] (fun x : OA a => OE.v x.1) (cfO a) g 0 L.toArray.size w := fun m os' dk hs x y => by
      have hle := ha _ (sortWorld_grown (fun x : OA a => OE.v x.1) w g 0 m dk os')
      refine (cmpC_any x.1.x y.1.x _ _ _ _ _ (Ints.le x.2 hle) (Ints.le y.2 hle)).mono fun e w' ⟨h1, h2⟩ => ⟨h1, 0, #[], ?_⟩
      rw [← h2, Go.Sort.grow_empty]
      rfl
    have hS := Try.slices_SortFunc (fun x : OA a => OE.v x.1) (fun x => rfl) (cfO a) (cfO_swo a) 96 #[] g 0 cap L.toArray w (fun args w => by kernel_rfl) hcmp hH hgl (by simp; omega)
    rw [show L.toArray.size = os.length by simp [hLl]] at hS
    refine hS.mono fun e w' ⟨h1, d', n, os', hp, hs, hw⟩ => ⟨h1, d'.toList.map Subtype.val, ?_, ?_, ?_, ?_⟩
    · have hds : d'.size = os.length := by rw [hp.1]; simp [hLl]
      have hmap : w'.heap[g]? = some (.cells (Go.Sort.putCells (fun x : OA a => OE.v x.1) 0 d' cur) 35 (0, 0)) := by
        rw [hw]
        unfold Go.Proofs.sortWorld
        rw [Go.Sort.heap_grow_old _ _ (by simpa [Go.Sort.ahead, Go.Sort.putRow, Go.Sort.mapBlock] using hgl)]
        simp [Go.Sort.putRow, Go.Sort.mapBlock, Array.getElem?_modify, Go.Sort.ahead, hg, Go.Sort.onCells]
      have hlen : (d'.toList.map Subtype.val).length = os.length := by simp [hds]
      exact rowV_of OE.v ⟨by simp, .inr ⟨g, cap, _, by rw [hlen], hb, hmap, by rw [hlen]; exact hn, hcm, by simpa [Go.Sort.putCells] using hc, by
        have := take_putV (fun x : OA a => OE.v x.1) d' cur (by omega)
        rw [hlen, Nat.mul_one, ← hds, this, List.map_map]
        rfl⟩⟩
    · have h2 := hp.2.2
      have hds : d'.size = os.length := by rw [hp.1]; simp [hLl]
      rw [show d'.extract 0 os.length = d' by rw [← hds]; simp, show L.toArray.extract 0 os.length = L.toArray by rw [← hLl]; simp] at h2
      have := h2.map Subtype.val
      rwa [show L.toArray.toList.map Subtype.val = os by simpa using hLm] at this
    · intro i j hj hi
      have hj' : j < d'.size := by simpa using hj
      have hds : d'.size = os.length := by rw [hp.1]; simp [hLl]
      have h2 := hs i j (Nat.zero_le _) hi (by omega)
      unfold Go.Proofs.ltOf cfO at h2
      rw [decide_eq_false_iff_not, getElem!_pos d' j hj', getElem!_pos d' i (by omega)] at h2
      simpa using h2
    · rw [hw]
      exact sortWorld_grown _ w g 0 n d' os'

end Go.Proofs.Ytcckflijaolnkaa
