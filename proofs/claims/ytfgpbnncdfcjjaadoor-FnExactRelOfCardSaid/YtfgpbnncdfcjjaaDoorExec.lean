/-
  Candidates for executions, as they lie in memory; the walks of szExec, toExec, eqExec, impl.ExecSame.
-/
import Derived.Test.YtfgpbnncdfcjjaaDoorWInts
import Derived.Test.YtfgpbnncdfcjjaaDoorEqInts
namespace Go.Proofs.YtfgpbnncdfcjjaaDoor
open Go.RowKit
set_option linter.unusedVariables false
set_option maxRecDepth 100000

structure Ex where
  from_ : List Int
  order : List (List Int)

/-- A candidate whose two slices lie at A and B. -/
def RepX (w : World) (A : Option Addr) (c : Nat) (B : Option Addr) (d : Nat) (x : Ex) : Prop := Ints w A c x.from_ ∧ Intss w B d x.order
theorem RepX.le {w w' : World} {A B : Option Addr} {c d : Nat} {x : Ex} (h : RepX w A c B d x) (hl : Le w w') : RepX w' A c B d x := ⟨h.1.le hl, h.2.le hl⟩
def wX (x : Ex) : Nat := x.from_.length + (x.order.length + wSum List.length x.order)
def RetX (w : World) (x : Ex) (e : Ending) (w' : World) : Prop := ∃ A c B d, e = .returned (.agg #[.slice A x.from_.length c, .slice B x.order.length d]) ∧ RepX (above w.heap.size w') A c B d x ∧ Below w.heap.size w w'
theorem eqX_iff {x y : Ex} : eqB x y = (eqB x.from_ y.from_ && eqB x.order y.order) := by
  rw [Bool.eq_iff_iff, Bool.and_eq_true, eqB_iff, eqB_iff, eqB_iff]
  obtain ⟨a, b⟩ := x
  obtain ⟨c, d⟩ := y
  simp

set_option maxHeartbeats 400000 in
theorem szX_any (x : Ex) (w : World) (A B : Option Addr) (c d : Nat) (l : Int) (hr : RepX w A c B d x) (h0 : 0 ≤ l) (h1 : l ≤ 1048576) :
    Calls Tryd.prog 9 #[.agg #[.slice A x.from_.length c, .slice B x.order.length d], .int .i64 l] w (RetI w (restI l (wX x))) := by
  have hlen := hr.1.len
  have hwx : wX x = x.from_.length + (x.order.length + wSum List.length x.order) := rfl
  have Hwx := Lib.hid hwx
  clear hwx
  go_enter Tryd.func9, Tryd.ntmps9
  go_wp2_with fail
  refine (szInts_any x.from_ _ _ _ l hlen h0 h1).mono ?_
  rintro e1 w1 ⟨rfl, hb1⟩
  have hb : Below w.heap.size w w1 := ((Below.refl _ _).alloc (Nat.le_refl _) _).trans (hb1.mono (by simp))
  by_cases hf : (x.from_.length : Int) ≤ l
  · have hr2 := (hr.2.le (Le.alloc _ _)).le (Le.below hb1)
    have hc1 := (bcell hb1).1
    rw [restI_le hf]
    go_wp2_with fail
    refine (szIntss_any x.order _ _ _ _ hr2 (by omega) (by omega)).mono ?_
    rintro e2 w2 ⟨rfl, hb2⟩
    have hb' := hb.trans (hb2.mono hb.size)
    by_cases hg : ((x.order.length + wSum List.length x.order : Nat) : Int) ≤ l - x.from_.length
    · rw [restI_le hg]
      clear hc1 hb1 hb2
      go_wp2_with fail
      go_ret
      exact ⟨ret_int (by rw [Hwx.out, restI_le (by omega)]; omega), hb'⟩
    · rw [restI_gt (Int.not_le.1 hg)]
      clear hc1 hb1 hb2
      go_wp2_with fail
      go_ret
      exact ⟨ret_int (by rw [Hwx.out, restI_gt (by omega)]), hb'⟩
  · rw [restI_gt (Int.not_le.1 hf)]
    go_wp2_with fail
    go_ret
    exact ⟨ret_int (by rw [Hwx.out, restI_gt (by omega)]), hb⟩

set_option maxHeartbeats 400000 in
theorem toX_any (x : Ex) (hw : wX x ≤ 1048576) (w : World) (A B : Option Addr) (c d : Nat) (hr : RepX w A c B d x) :
    Calls Tryd.prog 12 #[.agg #[.slice A x.from_.length c, .slice B x.order.length d]] w (RetX w x) := by
  have hwx : wX x = x.from_.length + (x.order.length + wSum List.length x.order) := rfl
  have h1 : x.from_.length ≤ 1048576 := by omega
  have h2 : x.order.length ≤ 1048576 := by omega
  have h3 : ∀ xs ∈ x.order, xs.length ≤ 1048576 := fun xs hx => by have := wSum_mem List.length hx; omega
  clear hwx hw
  go_enter Tryd.func12, Tryd.ntmps12
  go_wp2_with fail
  refine (toInts_any x.from_ h1 _ A c (hr.1.le (((Le.alloc _ _).to_alloc _).to_alloc _))).mono ?_
  rintro e1 w1 ⟨A1, c1, rfl, hk1, hb1⟩
  have hb : Below w.heap.size w w1 := ((((Below.refl _ _).alloc (Nat.le_refl _) _).alloc (by simp) _).alloc (by simp <;> omega) _).trans (hb1.mono (by simp <;> omega))
  have hk1' : Ints (above (w.heap.size + 3) w1) A1 c1 x.from_ := by simpa using hk1
  have oR := ((Own.new (w.alloc (.cells #[.slice A x.from_.length c, .slice B x.order.length d] 26)) 32 #[.slice none 0 0, .slice none 0 0]).alloc (.cells #[.slice none 0 0, .slice none 0 0] 32)).under hb1
  have oO := (Own.new ((w.alloc (.cells #[.slice A x.from_.length c, .slice B x.order.length d] 26)).alloc (.cells #[.slice none 0 0, .slice none 0 0] 32)) 32 #[.slice none 0 0, .slice none 0 0]).under hb1
  have oA := (((Own.new w 26 #[.slice A x.from_.length c, .slice B x.order.length d]).alloc (.cells #[.slice none 0 0, .slice none 0 0] 32)).alloc (.cells #[.slice none 0 0, .slice none 0 0] 32)).under hb1
  simp only [World.size_alloc] at oR oO oA
  have hz1 := oO.lt
  clear hk1 hb1
  have q0 := oO.cell (i := 0) rfl
  have q1 := oO.frozen 0
  have q2 := oA.cell (i := 1) rfl
  go_wp2_with fail
  have hb1' := hb.setCell (p := ⟨w.heap.size + 1 + 1, 0, none⟩) (by simp <;> omega) (.slice A1 x.from_.length c1)
  refine (toIntss_any x.order h2 h3 _ B d (hr.2.le ((Le.below hb).to_setCell (p := ⟨w.heap.size + 1 + 1, 0, none⟩) (by simp <;> omega) _))).mono ?_
  rintro e2 w2 ⟨A2, c2, rfl, hk2, hb2⟩
  have hb3 := hb1'.trans (hb2.mono hb1'.size)
  have hkf : Ints (above (w.heap.size + 3) w2) A1 c1 x.from_ := hk1'.le (((Le.refl _).to_above_setCell (p := ⟨w.heap.size + 1 + 1, 0, none⟩) (by simp)).to_above_le (Le.below hb2))
  have hko : Intss (above (w.heap.size + 3) w2) A2 c2 x.order := hk2.le (Le.above_mono (by simp <;> omega) _)
  have oO2 := (oO.set 0 (.slice A1 x.from_.length c1)).under hb2
  have oR2 := (oR.far (a := ⟨w.heap.size + 1 + 1, 0, none⟩) (by simp) (.slice A1 x.from_.length c1)).under hb2
  clear q0 q1 q2 hb2 hk2 hb1' oO oR oA hz1
  have q0 := oO2.cell (i := 0) rfl
  have q1 := oO2.cell (i := 1) rfl
  have q2 := oO2.frozen 1
  have r0 := oR2.cell (i := 0) rfl
  have r1 := oR2.cell (i := 1) rfl
  have r2 := oR2.frozen 0
  have r3 := oR2.frozen 1
  clear oO2 oR2
  go_wp2_with fail
  refine bodyPost_ret (v := .agg #[.slice A1 x.from_.length c1, .slice A2 x.order.length c2]) (by simp [results, Tryd.results12, go_sem, r0, r1]) rfl ?_
  have hle : Le (above (w.heap.size + 3) w2) (above w.heap.size (((w2.setCell ⟨w.heap.size + 1 + 1, 1, none⟩ (.slice A2 x.order.length c2)).setCell ⟨w.heap.size + 1, 0, none⟩ (.slice A1 x.from_.length c1)).setCell ⟨w.heap.size + 1, 1, none⟩ (.slice A2 x.order.length c2))) :=
    ((((Le.refl _).to_above_setCell (by simp)).to_above_setCell (by simp)).to_above_setCell (by simp)).trans (Le.above_mono (by omega) _)
  exact ⟨A1, c1, A2, c2, rfl, ⟨hkf.le hle, hko.le hle⟩, ((hb3.setCell (by simp <;> omega) _).setCell (by simp) _).setCell (by simp) _⟩

set_option maxHeartbeats 400000 in
theorem eqX_any (x y : Ex) (w : World) (A B A' B' : Option Addr) (c d c' d' : Nat) (hx : RepX w A c B d x) (hy : RepX w A' c' B' d' y) :
    Calls Tryd.prog 16 #[.agg #[.slice A x.from_.length c, .slice B x.order.length d], .agg #[.slice A' y.from_.length c', .slice B' y.order.length d']] w (RetB w (eqB x y)) := by
  have he := eqX_iff (x := x) (y := y)
  have He := Lib.hid he
  clear he
  go_enter Tryd.func16, Tryd.ntmps16
  go_wp2_with fail
  refine (eqInts_any x.from_ y.from_ _ _ _ _ _ (hx.1.le (((Le.refl _).to_alloc _).to_alloc _)) (hy.1.le (((Le.refl _).to_alloc _).to_alloc _))).mono ?_
  rintro e1 w1 ⟨rfl, hb1⟩
  have hb : Below w.heap.size w w1 := (((Below.refl _ _).alloc (Nat.le_refl _) _).alloc (by simp) _).trans (hb1.mono (by simp <;> omega))
  have hc1 := (bcell hb1).1
  have hz : w.heap.size + 2 ≤ w1.heap.size := by have := hb1.size; simp at this; omega
  cases h : eqB x.from_ y.from_
  · rw [h] at He
    go_wp2_with fail
    go_ret
    exact ⟨ret_bool (by rw [He.out]; rfl), hb⟩
  · rw [h] at He
    go_wp2_with fail
    refine (eqIntss_any x.order y.order _ _ _ _ _ (hx.2.le (Le.below hb)) (hy.2.le (Le.below hb))).mono ?_
    rintro e2 w2 ⟨rfl, hb2⟩
    have hb' := hb.trans (hb2.mono hb.size)
    clear hb1 hc1 hb2
    cases h' : eqB x.order y.order <;> (go_wp2_with fail; go_ret; exact ⟨ret_bool (by rw [He.out, h']; rfl), hb'⟩)

end Go.Proofs.YtfgpbnncdfcjjaaDoor
