/-
  The walks of impl.within, impl.ModelValid (with its function, slices.ContainsFunc and slices.IndexFunc), spec.ModelValid.
-/
import Derived.Test.YtapelogbceoojaaDoorRule
import Derived.Test.YtapelogbceoojaaDoorWSpecVal
namespace Go.Proofs.YtapelogbceoojaaDoor
open Go.RowKit
set_option linter.unusedVariables false
set_option maxRecDepth 100000

/-- A well formed rule, a well formed model. -/
def UOk (r : RU) : Prop := 1 ≤ r.kind ∧ r.kind ≤ 3 ∧ Val r.e
open Classical in
noncomputable def uB (r : RU) : Bool := decide (UOk r)
theorem uB_iff {r : RU} : uB r = true ↔ UOk r := by simp [uB]
theorem uB_false {r : RU} : uB r = false ↔ ¬ UOk r := by simp [uB]
def MOk (rs : List RU) : Prop := 1 ≤ rs.length ∧ rs.length ≤ 5 ∧ ∀ r ∈ rs, UOk r
open Classical in
noncomputable def mB (rs : List RU) : Bool := decide (MOk rs)
theorem mB_iff {rs : List RU} : mB rs = true ↔ MOk rs := by simp [mB]
theorem mB_false {rs : List RU} : mB rs = false ↔ ¬ MOk rs := by simp [mB]

set_option maxHeartbeats 400000 in
theorem within_any (n a b : Int) (w : World) : Calls Tryd.prog 58 #[.int .i64 n, .int .i64 a, .int .i64 b] w (RetQ w (decide (a ≤ n) && decide (n ≤ b))) := by
  by_cases h1 : a ≤ n
  · by_cases h2 : n ≤ b
    · go_enter Tryd.func58, Tryd.ntmps58
      go_wp2_with fail
      go_ret
      exact ⟨ret_bool (by simp [h1, h2]), rfl⟩
    · go_enter Tryd.func58, Tryd.ntmps58
      go_wp2_with fail
      go_ret
      exact ⟨ret_bool (by simp [h2]), rfl⟩
  · go_enter Tryd.func58, Tryd.ntmps58
    go_wp2_with fail
    go_ret
    exact ⟨ret_bool (by rw [decide_eq_false (show ¬ a ≤ n by omega)]; rfl), rfl⟩

set_option maxHeartbeats 1000000 in
theorem modFun_any (r : RU) (w : World) (A : Option Addr) (c : Nat) (hg : GN w) (hr : RepK w A c r.e) :
    Calls Tryd.prog 60 #[.agg #[.int .i64 r.kind, .int .i64 r.e.op, .string r.e.name, .slice A r.e.kids.length c]] w (RetB w (!uB r)) := by
  have hb1 : Below w.heap.size w (w.alloc (.cells #[.int .i64 r.kind, .int .i64 r.e.op, .string r.e.name, .slice A r.e.kids.length c] 72)) := (Below.refl _ _).alloc (Nat.le_refl _) _
  have Hb1 := Lib.hid hb1
  clear hb1
  have hv := fun W (hW : Below (w.alloc (.cells #[.int .i64 r.kind, .int .i64 r.e.op, .string r.e.name, .slice A r.e.kids.length c] 72)).heap.size (w.alloc (.cells #[.int .i64 r.kind, .int .i64 r.e.op, .string r.e.name, .slice A r.e.kids.length c] 72)) W) =>
    valid_any r.e W A c ((hg.le (Le.alloc _ _)).le (Le.below hW)) ((hr.le (Le.alloc _ _)).le (Le.below hW))
  have hw := fun W => within_any r.kind 1 3 W
  clear hg hr
  cases hk : (decide (1 ≤ r.kind) && decide (r.kind ≤ 3))
  · rw [hk] at hw
    have Hk := Lib.hid hk
    clear hk
    go_enter Tryd.func60, Tryd.ntmps60
    go_wp2_with fail
    refine (hw _).mono ?_
    rintro e1 w1 ⟨rfl, rfl⟩
    go_wp2_with fail
    go_ret
    refine ⟨ret_bool ?_, Hb1.out⟩
    have h : ¬ UOk r := fun h => by
      have := Hk.out
      simp [h.1, h.2.1] at this
    rw [uB_false.2 h]
    rfl
  · rw [hk] at hw
    have Hk := Lib.hid hk
    clear hk
    go_enter Tryd.func60, Tryd.ntmps60
    go_wp2_with fail
    refine (hw _).mono ?_
    rintro e1 w1 ⟨rfl, rfl⟩
    go_wp2_with fail
    refine (hv _ (Below.refl _ _)).mono ?_
    rintro e2 wn ⟨rfl, hbn⟩
    go_wp2_with fail
    go_ret
    refine ⟨ret_bool ?_, Hb1.out.trans (hbn.mono (by simp))⟩
    have h := Hk.out
    simp only [Bool.and_eq_true, decide_eq_true_iff] at h
    congr 1
    rw [Bool.eq_iff_iff, valB_iff, uB_iff]
    exact ⟨fun hv => ⟨h.1, h.2, hv⟩, fun hu => hu.2.2⟩

/-- Where the first rule lies that is not well formed. -/
def IdxU (rs : List RU) (i : Int) : Prop := (i = -1 ∧ ∀ r ∈ rs, UOk r) ∨ ∃ k : Nat, i = k ∧ ∃ h : k < rs.length, ¬ UOk rs[k]
def RetIdxU (w : World) (rs : List RU) (e : Ending) (w' : World) : Prop := ∃ i, e = .returned (.int .i64 i) ∧ IdxU rs i ∧ Below w.heap.size w w'

set_option maxHeartbeats 1000000 in
theorem idxFun_any (rs : List RU) (w : World) (v : Value) (hg : GN w) (hr : SlR 4 RepU w v rs) :
    Calls Tryd.prog 88 #[v, .func (.func 60) #[] #[]] w (RetIdxU w rs) := by
  obtain ⟨A, c, rfl, hm⟩ := hr.slice
  go_enter Tryd.func88, Tryd.ntmps88
  go_wp2_with fail
  go_loopg [8] rs.length (fun g s8 wr => ∃ k : Nat, k ≤ rs.length ∧ g = rs.length - k ∧ s8 = .int .i64 k ∧ Hid (∀ j (hj : j < k) (hj' : j < rs.length), UOk rs[j]) ∧ Below w.heap.size w wr)
  case atStart => exact ⟨0, Nat.zero_le _, rfl, rfl, fun j hj => absurd hj (Nat.not_lt_zero _), Below.refl _ _⟩
  case round =>
    obtain ⟨k, hk, rfl, rfl, hpre, hb⟩ := hrel
    by_cases hlt : k < rs.length
    · obtain ⟨b, o, A0, c0, rfl, hbl, k0, k1, k2, k3, hre⟩ := RepUs.get (RepUs.le hr (Le.below hb)) hlt
      clear hr
      go_wp2_with fail
      refine (modFun_any rs[k] _ _ _ ((hg.le (Le.below hb)).le ?_) (hre.le ?_)).mono ?_
      · first | exact Le.refl _ | exact (Le.alloc _ _)
      · first | exact Le.refl _ | exact (Le.alloc _ _)
      rintro e' w' ⟨rfl, hb'⟩
      have hb'' : Below w.heap.size w w' := by first | exact hb.trans (hb'.mono hb.size) | exact (hb.alloc hb.size _).trans (hb'.mono (by have := hb.size; simp; omega))
      clear k0 k1 k2 k3 hre hb'
      cases hu : uB rs[k]
      · have Hu := Lib.hid hu
        clear hu
        go_wp2_with fail
        go_ret
        exact ⟨_, rfl, Or.inr ⟨k, rfl, hlt, uB_false.1 Hu.out⟩, hb''⟩
      · have Hu := Lib.hid hu
        clear hu
        go_wp2_with fail
        go_roundg (rs.length - (k + 1))
        case measure => omega
        case rel =>
          refine ⟨k + 1, by omega, rfl, by go_num, fun j hj hj' => ?_, hb''⟩
          by_cases e : j = k
          · subst e
            exact uB_iff.1 Hu.out
          · exact hpre.out j (by omega) hj'
    · go_wp2_with fail
      go_ret
      refine ⟨_, rfl, Or.inl ⟨rfl, fun r hr => ?_⟩, hb⟩
      obtain ⟨i, hi, h⟩ := List.getElem_of_mem hr
      rw [← h]
      exact hpre.out i (by omega) hi

open Classical in
noncomputable def allU (rs : List RU) : Bool := decide (∀ r ∈ rs, UOk r)

set_option maxHeartbeats 1000000 in
theorem conFun_any (rs : List RU) (w : World) (v : Value) (hg : GN w) (hr : SlR 4 RepU w v rs) :
    Calls Tryd.prog 59 #[v, .func (.func 60) #[] #[]] w (RetB w (!allU rs)) := by
  go_enter Tryd.func59, Tryd.ntmps59
  go_wp2_with fail
  refine (idxFun_any rs _ v hg hr).mono ?_
  rintro e' w' ⟨i, rfl, hi, hb⟩
  have hm : decide (0 ≤ i) = !allU rs := by
    classical
    unfold allU
    rcases hi with ⟨rfl, h⟩ | ⟨k, rfl, hk, h⟩
    · simpa using h
    · have : ¬ ∀ r ∈ rs, UOk r := fun hh => h (hh _ (List.getElem_mem hk))
      rw [decide_eq_false this]
      simp
  have Hm := Lib.hid hm
  clear hm hi
  go_wp2_with fail
  go_ret
  exact ⟨ret_bool (by rw [← Hm.out]), hb⟩

set_option maxHeartbeats 1000000 in
theorem modValid_any (rs : List RU) (w : World) (v : Value) (hg : GN w) (hr : SlR 4 RepU w v rs) :
    Calls Tryd.prog 26 #[v] w (RetB w (mB rs)) := by
  obtain ⟨A, c, rfl, hm⟩ := hr.slice
  have hw := fun W => within_any (rs.length : Int) 1 5 W
  have hc := fun W (hW : Below w.heap.size w W) => conFun_any rs W _ (hg.le (Le.below hW)) (RepUs.le hr (Le.below hW))
  clear hg hr
  cases hk : (decide (1 ≤ (rs.length : Int)) && decide ((rs.length : Int) ≤ 5))
  · rw [hk] at hw
    have Hk := Lib.hid hk
    clear hk
    go_enter Tryd.func26, Tryd.ntmps26
    go_wp2_with fail
    refine (hw _).mono ?_
    rintro e1 w1 ⟨rfl, rfl⟩
    go_wp2_with fail
    go_ret
    refine ⟨ret_bool ?_, Below.refl _ _⟩
    have h : ¬ MOk rs := fun h => by
      have := Hk.out
      rw [decide_eq_true (show 1 ≤ (rs.length : Int) by have := h.1; omega), decide_eq_true (show (rs.length : Int) ≤ 5 by have := h.2.1; omega)] at this
      cases this
    rw [mB_false.2 h]
  · rw [hk] at hw
    have Hk := Lib.hid hk
    clear hk
    go_enter Tryd.func26, Tryd.ntmps26
    go_wp2_with fail
    refine (hw _).mono ?_
    rintro e1 w1 ⟨rfl, rfl⟩
    go_wp2_with fail
    refine (hc _ (Below.refl _ _)).mono ?_
    rintro e2 wn ⟨rfl, hbn⟩
    go_wp2_with fail
    go_ret
    refine ⟨ret_bool ?_, hbn⟩
    have h := Hk.out
    simp only [Bool.and_eq_true, decide_eq_true_iff] at h
    rw [Bool.eq_iff_iff, mB_iff]
    unfold allU MOk
    simp only [decide_eq_true_iff]
    exact ⟨fun hv => ⟨by omega, by omega, hv⟩, fun hu => hu.2.2⟩

set_option maxHeartbeats 2000000 in
theorem specModValid_any (rs : List RU) (hcnt : ∀ r ∈ rs, cntE r.e ≤ 1048577) (w : World) (v : Value) (hr : SlR 4 RepU w v rs) :
    Calls Tryd.prog 24 #[v] w (RetB w (mB rs)) := by
  obtain ⟨A, c, rfl, hm⟩ := hr.slice
  go_enter Tryd.func24, Tryd.ntmps24
  go_wp2_with fail
  go_loopg [3] rs.length (fun g s3 wr => ∃ k : Nat, k ≤ rs.length ∧ k ≤ 6 ∧ g = rs.length - k ∧ s3 = .int .i64 k ∧ Hid (∀ j (hj : j < k) (hj' : j < rs.length), UOk rs[j]) ∧ Below w.heap.size w wr)
  case atStart => exact ⟨0, Nat.zero_le _, by omega, rfl, rfl, fun j hj => absurd hj (Nat.not_lt_zero _), Below.refl _ _⟩
  case round =>
    obtain ⟨k, hk, hk6, rfl, rfl, hpre, hb⟩ := hrel
    by_cases hlt : k < rs.length
    · by_cases h5 : k ≤ 5
      · have hl5 : decide ((k : Int) ≤ 5) = true := by rw [decide_eq_true_iff]; omega
        obtain ⟨b, o, A0, c0, rfl, hbl, k0, k1, k2, k3, hre⟩ := RepUs.get (RepUs.le hr (Le.below hb)) hlt
        clear hr
        have hcr := hcnt _ (List.getElem_mem hlt)
        by_cases hk1 : rs[k].kind < 1
        · have bk1 : decide (rs[k].kind < 1) = true := by simpa using hk1
          have Hk := Lib.hid hk1
          clear hk1
          go_wp2_with fail
          go_ret
          refine ⟨ret_bool (mB_false.2 fun h => ?_).symm, hb⟩
          have h1 := h.2.2 _ (List.getElem_mem hlt)
          have h2 := Hk.out
          have h3 := h1.1
          omega
        have bk1 : decide (rs[k].kind < 1) = false := by simpa using hk1
        by_cases hk3 : 3 < rs[k].kind
        · have bk3 : decide (3 < rs[k].kind) = true := by simpa using hk3
          have bk3' : decide (rs[k].kind > 3) = true := by simpa using hk3
          have Hk := Lib.hid hk3
          clear hk1 hk3
          go_wp2_with fail
          go_ret
          refine ⟨ret_bool (mB_false.2 fun h => ?_).symm, hb⟩
          have h1 := h.2.2 _ (List.getElem_mem hlt)
          have h2 := Hk.out
          have h3 := h1.2.1
          omega
        have bk3 : decide (3 < rs[k].kind) = false := by simpa using hk3
        have bk3' : decide (rs[k].kind > 3) = false := by simpa using hk3
        have Hk := Lib.hid (And.intro hk1 hk3)
        clear hk1 hk3
        go_wp2_with fail
        refine (specValid_any rs[k].e _ A0 c0 hcr hre).mono ?_
        rintro e' w' ⟨rfl, hb'⟩
        have hb'' := hb.trans (hb'.mono hb.size)
        clear k0 k1 k2 k3 hre hb'
        cases hu : valB rs[k].e
        · have Hu := Lib.hid hu
          clear hu
          go_wp2_with fail
          go_ret
          refine ⟨ret_bool (mB_false.2 fun h => ?_).symm, hb''⟩
          have h1 := valB_iff.2 (h.2.2 _ (List.getElem_mem hlt)).2.2
          exact Bool.noConfusion (Hu.out.symm.trans h1)
        · have Hu := Lib.hid hu
          clear hu
          go_wp2_with fail
          go_roundg (rs.length - (k + 1))
          case measure => omega
          case rel =>
            refine ⟨k + 1, by omega, by omega, rfl, by go_num, fun j hj hj' => ?_, hb''⟩
            by_cases e : j = k
            · subst e
              have h1 := Hk.out
              exact ⟨by omega, by omega, valB_iff.1 Hu.out⟩
            · exact hpre.out j (by omega) hj'
      · have hl5 : decide ((k : Int) ≤ 5) = false := by rw [decide_eq_false_iff_not]; omega
        have hz1 : decide ((rs.length : Int) > 0) = true := by rw [decide_eq_true_iff]; omega
        have hz2 : decide ((rs.length : Int) ≤ 5) = false := by rw [decide_eq_false_iff_not]; omega
        go_wp2_with fail
        go_ret
        refine ⟨ret_bool (mB_false.2 fun h => ?_).symm, hb⟩
        have h1 := h.2.1
        omega
    · obtain rfl : k = rs.length := by omega
      by_cases h0 : 0 < rs.length
      · go_wp2_with fail
        go_ret
        refine ⟨ret_bool ?_, hb⟩
        rw [Bool.eq_iff_iff, mB_iff, decide_eq_true_iff]
        refine ⟨fun h5 => ⟨by omega, by omega, fun r hr => ?_⟩, fun h => by have := h.2.1; omega⟩
        obtain ⟨i, hi, h⟩ := List.getElem_of_mem hr
        rw [← h]
        exact hpre.out i (by omega) hi
      · go_wp2_with fail
        go_ret
        refine ⟨ret_bool (mB_false.2 fun h => ?_).symm, hb⟩
        have h1 := h.1
        omega

end Go.Proofs.YtapelogbceoojaaDoor
