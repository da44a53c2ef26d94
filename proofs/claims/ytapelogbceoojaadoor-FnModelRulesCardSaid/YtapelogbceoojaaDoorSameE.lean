/-
  The walks of impl.RelExprSame and slices.EqualFunc at it: structural equality.
-/
import Derived.Test.YtapelogbceoojaaDoorRE
namespace Go.Proofs.YtapelogbceoojaaDoor
open Go.RowKit
set_option linter.unusedVariables false
set_option maxRecDepth 100000

theorem take_eq_of {xs ys : List RE} {k : Nat} (hx : k < xs.length) (hy : k < ys.length) (h : xs.take k = ys.take k) (he : xs[k] = ys[k]) : xs.take (k + 1) = ys.take (k + 1) := by
  rw [List.take_succ_eq_append_getElem hx, List.take_succ_eq_append_getElem hy, h, he]

set_option maxHeartbeats 400000 in
theorem eqFunc_any (xs : List RE)
    (ih : ∀ e ∈ xs, ∀ (w : World) (A A' : Option Addr) (c c' : Nat) (y : RE), RepK w A c e → RepK w A' c' y → Calls Tryd.prog 19 #[.agg #[.int .i64 e.op, .string e.name, .slice A e.kids.length c], .agg #[.int .i64 y.op, .string y.name, .slice A' y.kids.length c']] w (RetB w (sameB e y)))
    (w : World) (v u : Value) (ys : List RE) (hr : SlR 3 RepE w v xs) (hr' : SlR 3 RepE w u ys) :
    Calls Tryd.prog 53 #[v, u, .func (.func 19) #[] #[]] w (RetB w (samesB xs ys)) := by
  obtain ⟨A, c, rfl, hm⟩ := hr.slice
  obtain ⟨A', c', rfl, hm'⟩ := hr'.slice
  go_enter Tryd.func53, Tryd.ntmps53
  by_cases hlen : xs.length = ys.length
  · have hne : ((xs.length : Int) != (ys.length : Int)) = false := by simp [hlen]
    have Hlen := Lib.hid hlen
    clear hlen
    go_wp2_with fail
    go_loopg [17] xs.length (fun g s17 wr => ∃ k : Nat, k ≤ xs.length ∧ g = xs.length - k ∧ s17 = .int .i64 k ∧ Hid (xs.take k = ys.take k) ∧ Below w.heap.size w wr)
    case atStart => exact ⟨0, Nat.zero_le _, rfl, rfl, rfl, Below.refl _ _⟩
    case round =>
      obtain ⟨k, hk, rfl, rfl, hpre, hb⟩ := hrel
      by_cases hlt : k < xs.length
      · have hlt' : k < ys.length := by have := Hlen.out; omega
        obtain ⟨b, o, A0, c0, rfl, hbl, k0, k1, k2, hre⟩ := RepEs.get (RepEs.le hr (Le.below hb)) hlt
        obtain ⟨b', o', A1, c1, rfl, hbl', d0, d1, d2, hre'⟩ := RepEs.get (RepEs.le hr' (Le.below hb)) hlt'
        clear hr hr'
        go_wp2_with fail
        refine (ih xs[k] (List.getElem_mem hlt) _ _ _ _ _ ys[k] (hre.le ?_) (hre'.le ?_)).mono ?_
        · exact ((Le.refl _).to_alloc _).to_alloc _
        · exact ((Le.refl _).to_alloc _).to_alloc _
        rintro e' w' ⟨rfl, hb'⟩
        have hb'' : Below w.heap.size w w' := ((hb.alloc hb.size _).alloc (by have := hb.size; simp; omega) _).trans (hb'.mono (by have := hb.size; simp; omega))
        clear k0 k1 k2 d0 d1 d2 hre hre' hbl hbl'
        go_wp2_with fail
        · go_ret
          refine ⟨ret_bool ?_, hb''⟩
          have hs : sameB xs[k] ys[k] = false := by simpa using ‹(!sameB xs[k] ys[k]) = true›
          rw [eq_comm, samesB_false]
          intro he
          rw [sameB_false] at hs
          exact hs (by simp only [he])
        · go_roundg (xs.length - (k + 1))
          case measure => omega
          case rel =>
            have hs : sameB xs[k] ys[k] = true := by simpa using ‹(!sameB xs[k] ys[k]) = false›
            exact ⟨k + 1, by omega, rfl, by go_num, take_eq_of hlt hlt' hpre.out (sameB_iff.1 hs), hb''⟩
      · go_wp2_with fail
        go_ret
        refine ⟨ret_bool ?_, hb⟩
        obtain rfl : k = xs.length := by omega
        rw [eq_comm, samesB_iff]
        have h := hpre.out
        rw [List.take_length, Hlen.out, List.take_length] at h
        exact h
  · have hne : ((xs.length : Int) != (ys.length : Int)) = true := by simp; omega
    go_wp2_with fail
    go_ret
    refine ⟨ret_bool ?_, Below.refl _ _⟩
    rw [eq_comm, samesB_false]
    rintro rfl
    exact hlen rfl

theorem re_ext {a b : RE} : a = b ↔ a.op = b.op ∧ a.name = b.name ∧ a.kids = b.kids := by
  obtain ⟨o1, n1, k1⟩ := a
  obtain ⟨o2, n2, k2⟩ := b
  simp [RE.op, RE.name, RE.kids]

set_option maxHeartbeats 400000 in
theorem same_any (x : RE) : ∀ (w : World) (A A' : Option Addr) (c c' : Nat) (y : RE), RepK w A c x → RepK w A' c' y →
    Calls Tryd.prog 19 #[.agg #[.int .i64 x.op, .string x.name, .slice A x.kids.length c], .agg #[.int .i64 y.op, .string y.name, .slice A' y.kids.length c']] w (RetB w (sameB x y)) := by
  induction x using RE.ind with | h op name kids ih => ?_
  intro w A A' c c' y hx hy
  have hS := fun (W : World) (hl : Le w W) => eqFunc_any kids ih W _ _ y.kids (RepEs.le hx.2 hl) (RepEs.le hy.2 hl)
  clear ih hx hy
  obtain ⟨op', name', kids'⟩ := y
  simp only [RE.op, RE.name, RE.kids] at hS ⊢
  go_enter Tryd.func19, Tryd.ntmps19
  by_cases ho : op = op'
  · subst ho
    by_cases hn : name = name'
    · subst hn
      go_wp2_with fail
      refine (hS _ (((Le.refl _).to_alloc _).to_alloc _)).mono ?_
      rintro e' w' ⟨rfl, hb'⟩
      go_wp2_with fail
      go_ret
      refine ⟨ret_bool ?_, (((Below.refl _ _).alloc (Nat.le_refl _) _).alloc (by simp) _).trans (hb'.mono (by simp; omega))⟩
      rw [Bool.eq_iff_iff, sameB_iff, samesB_iff]
      simp
    · have hnb := str_eq_false hn
      clear hS
      go_wp2_with fail
      go_ret
      refine ⟨ret_bool ?_, (((Below.refl _ _).alloc (Nat.le_refl _) _).alloc (by simp) _)⟩
      rw [eq_comm, sameB_false]
      simp [hn]
  · have hob : ((op : Int) == op') = false := by simpa using ho
    clear hS
    go_wp2_with fail
    go_ret
    refine ⟨ret_bool ?_, (((Below.refl _ _).alloc (Nat.le_refl _) _).alloc (by simp) _)⟩
    rw [eq_comm, sameB_false]
    simp [ho]
end Go.Proofs.YtapelogbceoojaaDoor
