/-
  The walks of DrawParseModel and of wmModel at equal models.
-/
import Derived.Test.YtapelogbceoojaaDoorDrM2
import Derived.Test.YtapelogbceoojaaDoorDrp
import Derived.Test.YtapelogbceoojaaDoorSameE
namespace Go.Proofs.YtapelogbceoojaaDoor
open Go.RowKit
set_option linter.unusedVariables false
set_option maxRecDepth 100000

def bendM : List ByteArray := [⟨#[]⟩, ⟨#[47]⟩, ⟨#[32]⟩, ⟨#[40]⟩, ⟨#[124]⟩, ⟨#[97, 99, 121, 99, 108, 105, 99]⟩, ⟨#[120]⟩]
theorem mt_size {rs : List RU} (h : MOk rs) : (mt rs).size ≤ 3000 := by
  unfold mt
  rw [ByteArray.size_mk', List.size_toArray]
  exact join_len rs h.2.2 h.2.1

set_option maxHeartbeats 1000000 in
theorem drawPM_any (w : World) (A : Option Addr) (n c : Nat) (h : Bys w A n) (hnc : n ≤ c) (hA : A = none → n = 0) : Calls Tryd.prog 42 #[.slice A n c] w (RetDrT w) := by
  have hop := open_any w A n c h hnc hA
  clear h
  go_enter Tryd.func42, Tryd.ntmps42
  go_wp2_with fail
  refine hop.mono ?_
  rintro e1 w1 ⟨R, rfl, hR, rd1, hb1⟩
  have hR1 := rd1.lt
  clear hop
  go_wp2_with fail
  refine (rules_any w1 R 0 (by omega) rd1).mono ?_
  rintro e2 w2 ⟨rs, v, p2, rfl, hok, hsl, m2, rd2, hp2⟩
  have hB2 : Below w.heap.size w w2 := hb1.trans (m2.below hR hb1.size)
  have hcs := mt_size hok
  have hR2 := rd2.lt
  have hx := RepUs.le hsl (Le.above _ _)
  have Hok := Lib.hid hok
  clear m2 rd1 hsl hok
  go_wp2_with fail
  refine (l7Model_any rs Hok.out w2 _ hx).mono ?_
  rintro e3 w3 ⟨rfl, hb3⟩
  have rd3 := (rd2.below hb3).alloc (.cells #[.string ⟨#[]⟩, .string ⟨#[47]⟩, .string ⟨#[32]⟩, .string ⟨#[40]⟩, .string ⟨#[124]⟩, .string ⟨#[97, 99, 121, 99, 108, 105, 99]⟩, .string ⟨#[120]⟩] 9)
  have hB3 : Below w.heap.size w w3 := hB2.trans (hb3.mono hB2.size)
  have il := Own.new w3 9 #[.string ⟨#[]⟩, .string ⟨#[47]⟩, .string ⟨#[32]⟩, .string ⟨#[40]⟩, .string ⟨#[124]⟩, .string ⟨#[97, 99, 121, 99, 108, 105, 99]⟩, .string ⟨#[120]⟩]
  have hs3 := hb3.size
  have hil : Strs (above (R + 1) (w3.alloc (.cells #[.string ⟨#[]⟩, .string ⟨#[47]⟩, .string ⟨#[32]⟩, .string ⟨#[40]⟩, .string ⟨#[124]⟩, .string ⟨#[97, 99, 121, 99, 108, 105, 99]⟩, .string ⟨#[120]⟩] 9))) (some ⟨w3.heap.size, 0, none⟩) 7 bendM := strs_lit bendM il (by omega) rfl (by omega) (fun i hi => by
    match i, hi with
    | 0, _ => rfl
    | 1, _ => rfl
    | 2, _ => rfl
    | 3, _ => rfl
    | 4, _ => rfl
    | 5, _ => rfl
    | 6, _ => rfl)
  have hB3' := hB3.alloc hB3.size (.cells #[.string ⟨#[]⟩, .string ⟨#[47]⟩, .string ⟨#[32]⟩, .string ⟨#[40]⟩, .string ⟨#[124]⟩, .string ⟨#[97, 99, 121, 99, 108, 105, 99]⟩, .string ⟨#[120]⟩] 9)
  have hbend := bend_any _ R p2 (mt rs) _ 7 bendM (by omega) rd3 (by omega) hil (by simp [bendM]) (fun t ht => by
    simp only [bendM, List.mem_cons, List.not_mem_nil, or_false] at ht
    rcases ht with rfl | rfl | rfl | rfl | rfl | rfl | rfl <;> decide)
  clear rd2 hb3 hx il hil rd3 hB2 hB3
  go_wp2_with fail
  refine hbend.mono ?_
  rintro e4 w4 ⟨t, p4, rfl, ht, m4, _, _⟩
  have hB4 : Below w.heap.size w w4 := hB3'.trans (m4.below hR hB3'.size)
  clear hbend m4
  go_wp2_with fail
  go_ret
  exact ⟨t, rfl, ht, hB4⟩

theorem Same_ext {w0 : World} (n : Ext w0) {x : RE} {A A' : Option Addr} {c c' : Nat} (hx : RepK w0 A c x) (hy : RepK w0 A' c' x) :
    Calls Tryd.prog 19 #[.agg #[.int .i64 x.op, .string x.name, .slice A x.kids.length c], .agg #[.int .i64 x.op, .string x.name, .slice A' x.kids.length c']] n.val fun e w'' => e = .returned (.bool true) ∧ ∃ m : Ext w0, w'' = m.val :=
  Ext.call n fun W hW => by
    have h := same_any x W A A' c c' x (hx.le (Le.below hW)) (hy.le (Le.below hW))
    rw [sameB_iff.2 rfl] at h
    exact h

set_option maxHeartbeats 1000000 in
theorem wm_any (rs : List RU) (w : World) (v u : Value) (hr : SlR 4 RepU w v rs) (hr' : SlR 4 RepU w u rs) : Calls Tryd.prog 41 #[v, u] w (RetB w true) := by
  obtain ⟨A, c, rfl, hlen⟩ := hr.slice
  obtain ⟨A', c', rfl, _⟩ := hr'.slice
  go_enter Tryd.func41, Tryd.ntmps41
  go_wp2_with fail
  go_loopg [5] rs.length (fun g s5 wr => ∃ i : Nat, i ≤ rs.length ∧ g = rs.length - i ∧ s5 = .int .i64 i ∧ Below w.heap.size w wr)
  case atStart => exact ⟨0, Nat.zero_le _, rfl, rfl, Below.refl _ _⟩
  case round =>
    obtain ⟨i, hi, rfl, rfl, hb⟩ := hrel
    by_cases hlt : i < rs.length
    · obtain ⟨b, o, A0, c0, rfl, hbl, k0, k1, k2, k3, hx⟩ := RepUs.get (RepUs.le hr (Le.below hb)) hlt
      obtain ⟨b', o', A0', c0', rfl, hbl', k0', k1', k2', k3', hy⟩ := RepUs.get (RepUs.le hr' (Le.below hb)) hlt
      have f0 := fun n : Ext wr => n.le _ _ k0
      have f1 := fun n : Ext wr => n.le _ _ k1
      have f2 := fun n : Ext wr => n.le _ _ k2
      have f3 := fun n : Ext wr => n.le _ _ k3
      have f0' := fun n : Ext wr => n.le _ _ k0'
      have f1' := fun n : Ext wr => n.le _ _ k1'
      have f2' := fun n : Ext wr => n.le _ _ k2'
      have f3' := fun n : Ext wr => n.le _ _ k3'
      have Cal := Lib.hid (fun n : Ext wr => Same_ext n hx hy)
      clear hr hr' hx hy
      go_wp2_with fail
      refine wp_region_ext _ (by kernel_rfl) (by kernel_rfl) (Below.refl _ _) ?_
      repeat (go_big_quiet_step ((go_at_call 19; exact Cal.out _)))
      refine wpQuiet_nil ?_
      rintro wn ⟨⟨_, hbn⟩, rfl⟩
      have hb2 := hb.trans (hbn.mono hb.size)
      clear hbn k0 k1 k2 k3 k0' k1' k2' k3' f0 f1 f2 f3 f0' f1' f2' f3' Cal hb
      go_wp2_with fail
      go_roundg (rs.length - (i + 1))
      case measure => omega
      case rel => exact ⟨i + 1, by omega, rfl, by go_num, hb2⟩
    · obtain rfl : i = rs.length := by omega
      go_wp2_with fail
      go_ret
      exact ⟨rfl, hb⟩

/-- One element's own slice. -/
theorem SlR.one {α : Type} {k : Nat} {Rp : World → (Nat → Value) → α → Prop} {w : World} {b o n c c' : Nat} {xs : List α} (h : SlR k Rp w (.slice (some ⟨b, o, none⟩) n c) xs) {i : Nat} (hi : i < xs.length) : SlR k Rp w (.slice (some ⟨b, o + i * k, none⟩) 1 c') [xs[i]] := by
  obtain ⟨A, c1, e, hm, h⟩ := h
  injection e with e1 _ _
  subst e1
  refine ⟨_, _, rfl, by simp, fun j hj => ?_⟩
  obtain rfl : j = 0 := by simpa using hj
  obtain ⟨b', o', e, cs, h1, h2⟩ := h i hi
  injection e with e
  injection e with e1 e2 _
  subst e1
  subst e2
  exact ⟨b, o + i * k, rfl, cs, fun j hj => by rw [Nat.zero_mul, Nat.add_zero]; exact h1 j hj, h2⟩

end Go.Proofs.YtapelogbceoojaaDoor
