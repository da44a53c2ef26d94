/-
  The walks of spec.l6Writers, impl.writersOf, spec.l6Place, spec.l6Order. The walk of spec.ExecValid.
-/
import Derived.Test.YtfgpbnncdfcjjabGreatDoorCands
import Derived.Test.YtfgpbnncdfcjjabGreatDoorSl
import Derived.Test.YtfgpbnncdfcjjabGreatDoorSpEv

/-! The walks of spec.l6Writers, impl.writersOf, spec.l6Place, spec.l6Order. -/
namespace Go.Proofs.YtfgpbnncdfcjjabGreatDoor
open Go.RowKit
set_option linter.unusedVariables false
set_option maxRecDepth 100000

theorem own_new2' (w : World) (o : Obj) (t : TypeId) (cs : Array Value) : Own ((w.alloc o).alloc (.cells cs t)) (w.heap.size + 1) t cs := by simpa using Own.new (w.alloc o) t cs

set_option maxHeartbeats 2000000 in
theorem spWr_any (L : List Ev) (loc : Int) (hl : L.length ≤ 1000) (w : World) (v : Value) (hr : EvS w v L) : Calls Tryz.prog 100 #[v, .int .i64 loc] w (RetRowI w (wrs L loc)) := by
  obtain ⟨i0, hi0, hz0, hz1, hz2⟩ := info_parts Tryz.infoInt
  obtain ⟨A, c, rfl, _⟩ := SlR.slice hr
  have hrow0 : RowI (w.alloc (.cells #[] 3)) w.heap.size (.slice (some ⟨w.heap.size, 0, none⟩) 0 0) (wrs (L.take 0) loc) := RowOf.made _ (Own.new _ _ _) (Nat.le_refl _)
  have Hrow0 := Lib.hid hrow0
  clear hrow0
  go_enter Tryz.func100, Tryz.ntmps100
  go_wp2_with fail
  go_loopg [5, 6] L.length (fun g s5 s6 wr => ∃ (k : Nat) (v : Value), k ≤ L.length ∧ g = L.length - k ∧ v = s5 ∧ s6 = .int .i64 k ∧ Hid (RowI wr w.heap.size v (wrs (L.take k) loc)) ∧ Below w.heap.size w wr)
  case atStart => exact ⟨0, _, Nat.zero_le _, rfl, rfl, rfl, Hrow0.out, (Below.refl _ _).alloc (Nat.le_refl _) _⟩
  case round =>
    obtain ⟨k, v, hk, rfl, rfl, rfl, hrow, hb⟩ := hrel
    have hsb := hb.size
    by_cases hlt : k < L.length
    · obtain ⟨b, o, rfl, hbl, c0, c1, c2, c3, c4⟩ := EvS.get (EvS.le hr (Le.below hb)) hlt
      have Ht := Lib.hid (wrs_take L loc k hlt)
      have hlw := wrs_length (L.take k) loc
      rw [List.length_take] at hlw
      generalize L[k] = e at c0 c1 c2 c3 c4 Ht
      obtain ⟨thr, idx, lc, rd, wrt⟩ := e
      simp only at c0 c1 c2 c3 c4
      cases wrt
      · have Hn : Hid (wrs (L.take (k + 1)) loc = wrs (L.take k) loc) := by show _ = _; rw [Ht.out]; simp [wrl]
        clear Ht
        go_wp2_with fail
        go_roundg (L.length - (k + 1))
        case measure => omega
        case rel => exact ⟨k + 1, v, by omega, rfl, rfl, by go_num, by rw [Hn.out]; exact hrow.out, hb⟩
      · by_cases hq : lc = loc
        · have Hn : Hid (wrs (L.take (k + 1)) loc = wrs (L.take k) loc ++ [(k : Int)]) := by show _ = _; rw [Ht.out]; simp [wrl, hq]
          have hqb : ((lc : Int) == loc) = true := by rw [beq_iff_eq]; exact hq
          obtain ⟨cs, hown, hqq⟩ := hrow.out
          have Hown := Lib.hid hown
          have Hq := Lib.hid hqq
          clear Ht hq hown hqq
          go_wp2_with (at_builtin; refine wpList_append_lies _ (by rfl) _ _ _ (by rfl) w.heap.size 3 i0 _ 1 8 Tryz.underlying23 hi0 hz0 hz1 hz2 rfl (by omega) v (wrs (L.take k) loc).length cs (by rfl) (owns_alloc Hown.out _) ⟨wr.heap.size, 0, none⟩ 1 1 [.int .i64 k] (by rfl) (by rfl) (World.news_of_block (cs := #[.int .i64 k]) (t := 3) (fr := (0, 0)) (heap_alloc_new wr _)) (by simp [Value.oneCell']) (by omega) (by simp [maxLen]; omega) (by omega) (by simp; omega) (wr.heap.size + 1) (by simp) ?_; intro gg cap w1 hown1 hgrow hat1 hlt1)
          go_roundg (L.length - (k + 1))
          case measure => omega
          case rel => exact ⟨k + 1, _, by omega, rfl, rfl, by go_num, by rw [Hn.out]; exact RowOf.snoc (news := [.int .i64 k]) qint_congr Hown.out Hq.out rfl rfl hown1, below_grown (hb.alloc hsb _) hgrow (Nat.le_refl _) (fun g hg => owns_base' Hown.out hg)⟩
        · have Hn : Hid (wrs (L.take (k + 1)) loc = wrs (L.take k) loc) := by show _ = _; rw [Ht.out]; simp [wrl, hq]
          have hqb : ((lc : Int) == loc) = false := by rw [beq_eq_false_iff_ne]; exact hq
          clear Ht hq
          go_wp2_with fail
          go_roundg (L.length - (k + 1))
          case measure => omega
          case rel => exact ⟨k + 1, v, by omega, rfl, rfl, by go_num, by rw [Hn.out]; exact hrow.out, hb⟩
    · obtain rfl : k = L.length := by omega
      rw [List.take_length] at hrow
      go_wp2_with fail
      go_ret
      exact RetRowI.mk hrow.out hb

set_option maxHeartbeats 2000000 in
theorem imWr_any (L : List Ev) (loc : Int) (hl : L.length ≤ 1000) (w : World) (v : Value) (hr : EvS w v L) : Calls Tryz.prog 63 #[v, .int .i64 loc] w (RetRowI w (wrs L loc)) := by
  obtain ⟨i0, hi0, hz0, hz1, hz2⟩ := info_parts Tryz.infoInt
  obtain ⟨A, c, rfl, _⟩ := SlR.slice hr
  have hrow0 : RowI w w.heap.size (.slice none 0 0) (wrs (L.take 0) loc) := RowOf.nil _ _ _ _ _
  have Hrow0 := Lib.hid hrow0
  clear hrow0
  go_enter Tryz.func63, Tryz.ntmps63
  go_wp2_with fail
  go_loopg [5, 10] L.length (fun g s5 s10 wr => ∃ (k : Nat) (v : Value), k ≤ L.length ∧ g = L.length - k ∧ v = s5 ∧ s10 = .int .i64 k ∧ Hid (RowI wr w.heap.size v (wrs (L.take k) loc)) ∧ Below w.heap.size w wr)
  case atStart => exact ⟨0, _, Nat.zero_le _, rfl, rfl, rfl, Hrow0.out, Below.refl _ _⟩
  case round =>
    obtain ⟨k, v, hk, rfl, rfl, rfl, hrow, hb⟩ := hrel
    have hsb := hb.size
    by_cases hlt : k < L.length
    · obtain ⟨b, o, rfl, hbl, c0, c1, c2, c3, c4⟩ := EvS.get (EvS.le hr (Le.below hb)) hlt
      have Ht := Lib.hid (wrs_take L loc k hlt)
      have hlw := wrs_length (L.take k) loc
      rw [List.length_take] at hlw
      generalize L[k] = e at c0 c1 c2 c3 c4 Ht
      obtain ⟨thr, idx, lc, rd, wrt⟩ := e
      simp only at c0 c1 c2 c3 c4
      cases wrt
      · have Hn : Hid (wrs (L.take (k + 1)) loc = wrs (L.take k) loc) := by show _ = _; rw [Ht.out]; simp [wrl]
        clear Ht
        go_wp2_with fail
        go_roundg (L.length - (k + 1))
        case measure => omega
        case rel => exact ⟨k + 1, v, by omega, rfl, rfl, by go_num, by rw [Hn.out]; exact hrow.out.below ((Below.refl _ _).alloc (Nat.le_refl _) _), hb.alloc hsb _⟩
      · by_cases hq : lc = loc
        · have Hn : Hid (wrs (L.take (k + 1)) loc = wrs (L.take k) loc ++ [(k : Int)]) := by show _ = _; rw [Ht.out]; simp [wrl, hq]
          have hqb : ((lc : Int) == loc) = true := by rw [beq_iff_eq]; exact hq
          obtain ⟨cs, hown, hqq⟩ := hrow.out
          have Hown := Lib.hid hown
          have Hq := Lib.hid hqq
          clear Ht hq hown hqq
          go_wp2_with (at_builtin; refine wpList_append_lies _ (by rfl) _ _ _ (by rfl) w.heap.size 3 i0 _ 1 8 Tryz.underlying23 hi0 hz0 hz1 hz2 rfl (by omega) v (wrs (L.take k) loc).length cs (by rfl) (owns_alloc (owns_alloc Hown.out _) _) ⟨wr.heap.size + 1, 0, none⟩ 1 1 [.int .i64 k] (by rfl) (by rfl) (World.news_of_block (cs := #[.int .i64 k]) (t := 3) (fr := (0, 0)) (own_new2' _ _ _ _)) (by simp [Value.oneCell']) (by omega) (by simp [maxLen]; omega) (by omega) (by simp; omega) (wr.heap.size + 2) (by simp) ?_; intro gg cap w1 hown1 hgrow hat1 hlt1)
          go_roundg (L.length - (k + 1))
          case measure => omega
          case rel => exact ⟨k + 1, _, by omega, rfl, rfl, by go_num, by rw [Hn.out]; exact RowOf.snoc (news := [.int .i64 k]) qint_congr Hown.out Hq.out rfl rfl hown1, below_grown ((hb.alloc hsb _).alloc (by simp; omega) _) hgrow (Nat.le_refl _) (fun g hg => owns_base' Hown.out hg)⟩
        · have Hn : Hid (wrs (L.take (k + 1)) loc = wrs (L.take k) loc) := by show _ = _; rw [Ht.out]; simp [wrl, hq]
          have hqb : ((lc : Int) == loc) = false := by rw [beq_eq_false_iff_ne]; exact hq
          clear Ht hq
          go_wp2_with fail
          go_roundg (L.length - (k + 1))
          case measure => omega
          case rel => exact ⟨k + 1, v, by omega, rfl, rfl, by go_num, by rw [Hn.out]; exact hrow.out.below ((Below.refl _ _).alloc (Nat.le_refl _) _), hb.alloc hsb _⟩
    · obtain rfl : k = L.length := by omega
      rw [List.take_length] at hrow
      go_wp2_with fail
      go_ret
      exact RetRowI.mk hrow.out hb

/-- Where a number stands for the first time, or -1. -/
def plF : Nat → List Int → Int → Int
  | _, [], _ => -1
  | i, x :: xs, n => if x = n then i else plF (i + 1) xs n
def plI (xs : List Int) (n : Int) : Int := plF 0 xs n
theorem plF_lt {n : Int} : ∀ {xs : List Int} {i : Nat}, plF i xs n < 0 ↔ n ∉ xs
  | [], i => by simp [plF]
  | x :: xs, i => by
    rw [plF]
    by_cases h : x = n
    · rw [if_pos h]; simp [h]
    · rw [if_neg h, plF_lt]
      simp [Ne.symm h]
theorem plI_lt {xs : List Int} {n : Int} : plI xs n < 0 ↔ n ∉ xs := plF_lt
theorem plF_take {n : Int} : ∀ {xs : List Int} {i k : Nat} (h : k < xs.length), n ∉ xs.take k → xs[k] = n → plF i xs n = (i + k : Nat)
  | [], _, _, h, _, _ => by simp at h
  | x :: xs, i, 0, _, _, he => by rw [plF, if_pos (by simpa using he)]; rfl
  | x :: xs, i, k + 1, h, hn, he => by
    simp only [List.take_succ_cons, List.mem_cons, not_or] at hn
    rw [plF, if_neg (Ne.symm hn.1), plF_take (by simpa using h) hn.2 (by simpa using he)]
    omega
theorem plI_at {xs : List Int} {n : Int} {k : Nat} (h : k < xs.length) (hn : n ∉ xs.take k) (he : xs[k] = n) : plI xs n = k := by
  unfold plI; rw [plF_take h hn he]; simp
theorem plI_none {xs : List Int} {n : Int} (h : n ∉ xs) : plI xs n = -1 := by
  unfold plI
  have key : ∀ i, plF i xs n = -1 := by
    induction xs with
    | nil => intro i; rfl
    | cons x xs ih =>
      intro i
      rw [plF, if_neg (fun e => h (by rw [e]; simp)), ih (fun hm => h (List.mem_cons_of_mem _ hm))]
  exact key 0

def RetQI (w : World) (n : Int) (e : Ending) (w' : World) : Prop := e = .returned (.int .i64 n) ∧ w = w'
set_option maxHeartbeats 1000000 in
theorem place6_any (xs : List Int) (n : Int) (w : World) (A : Option Addr) (c : Nat) (h : Ints w A c xs) : Calls Tryz.prog 99 #[.slice A xs.length c, .int .i64 n] w (RetQI w (plI xs n)) := by
  have hlen := h.len
  go_enter Tryz.func99, Tryz.ntmps99
  go_wp2_with fail
  go_loopg [5] xs.length (fun g s5 wr => ∃ k : Nat, k ≤ xs.length ∧ g = xs.length - k ∧ s5 = .int .i64 k ∧ Hid (n ∉ xs.take k) ∧ w = wr)
  case atStart => exact ⟨0, Nat.zero_le _, rfl, rfl, by simp [Hid], rfl⟩
  case round =>
    obtain ⟨k, hk, rfl, rfl, hpre, rfl⟩ := hrel
    by_cases hlt : k < xs.length
    · obtain ⟨b, o, rfl, hbl, c0⟩ := h.get hlt
      by_cases he : xs[k] = n
      · have hv := Lib.hid (plI_at hlt hpre.out he)
        have hb : ((xs[k] : Int) == n) = true := by rw [beq_iff_eq]; exact he
        clear he
        go_wp2_with fail
        go_ret
        exact ⟨ret_int hv.out.symm, rfl⟩
      · have hb : ((xs[k] : Int) == n) = false := by rw [beq_eq_false_iff_ne]; exact he
        have Hn : Hid (n ∉ xs.take (k + 1)) := by
          show ¬ _
          rw [List.take_succ_eq_append_getElem hlt, List.mem_append, List.mem_singleton]
          rintro (h | h)
          · exact hpre.out h
          · exact he h.symm
        clear he
        go_wp2_with fail
        go_roundg (xs.length - (k + 1))
        case measure => omega
        case rel => exact ⟨k + 1, by omega, rfl, by go_num, Hn.out, rfl⟩
    · obtain rfl : k = xs.length := by omega
      rw [List.take_length] at hpre
      go_wp2_with fail
      go_ret
      exact ⟨ret_int (plI_none hpre.out).symm, rfl⟩

/-- What l6Order answers. -/
def OrdOk (o ws : List Int) : Prop := o.length = ws.length ∧ o.head? = ws.head? ∧ ∀ w ∈ ws, w ∈ o
instance (o ws : List Int) : Decidable (OrdOk o ws) := inferInstanceAs (Decidable (_ ∧ _ ∧ _))
def ordB (o ws : List Int) : Bool := decide (OrdOk o ws)
theorem ordB_false {o ws : List Int} : ordB o ws = false ↔ ¬ OrdOk o ws := by simp [ordB]
theorem ordB_true {o ws : List Int} : ordB o ws = true ↔ OrdOk o ws := by simp [ordB]
def RetBD (w : World) (b : Bool) (e : Ending) (w' : World) : Prop := e = .returned (.bool b) ∧ ∃ q, w' = w.drewN q
set_option maxHeartbeats 1000000 in
theorem order6_any (o ws : List Int) (w : World) (A A' : Option Addr) (c c' : Nat) (h : Ints w A c o) (h' : Ints w A' c' ws) (hws : 0 < ws.length) : Calls Tryz.prog 101 #[.slice A o.length c, .slice A' ws.length c'] w (RetBD w (ordB o ws)) := by
  have hlen := h.len
  have hlen' := h'.len
  go_enter Tryz.func101, Tryz.ntmps101
  go_wp2_with fail
  by_cases hl : o.length = ws.length
  · have hne : ((o.length : Int) != (ws.length : Int)) = false := by simp [hl]
    have hol : 0 < o.length := by omega
    obtain ⟨b, f, rfl, hbl, c0⟩ := h.get hol
    obtain ⟨b', f', rfl, hbl', d0⟩ := h'.get (i := 0) hws
    rw [Nat.add_zero] at c0 d0
    by_cases hh : o[0] = ws[0]
    · have hb : ((o[0] : Int) != ws[0]) = false := by simp [hh]
      have Hh : Hid (o.head? = ws.head?) := by
        show _ = _
        rw [List.head?_eq_getElem?, List.head?_eq_getElem?, List.getElem?_eq_getElem hol, List.getElem?_eq_getElem hws, hh]
      have Hl := Lib.hid hl
      clear hh hl
      go_quiet (fail)
      go_wp2_with fail
      go_loopg [5] ws.length (fun g s5 wr => ∃ k : Nat, k ≤ ws.length ∧ g = ws.length - k ∧ s5 = .int .i64 k ∧ Hid (∀ x ∈ ws.take k, x ∈ o) ∧ ∃ q, wr = w.drewN q)
      case atStart => exact ⟨0, Nat.zero_le _, rfl, rfl, (by simp [Hid]), _, rfl⟩
      case round =>
        obtain ⟨k, hk, rfl, rfl, hpre, q, rfl⟩ := hrel
        by_cases hlt : k < ws.length
        · obtain ⟨b2, f2, e2, hbl2, k0⟩ := h'.get hlt
          injection e2 with e2
          injection e2 with e2 e3
          subst e2 e3
          have hp := place6_any o ws[k] (w.drewN q) _ c (h.le (Le.drewN _ _))
          by_cases hm : ws[k] ∈ o
          · have hneg : ¬ plI o ws[k] < 0 := fun e => plI_lt.1 e hm
            have Hpre : Hid (∀ x ∈ ws.take (k + 1), x ∈ o) := fun x hx => by
              rw [List.take_succ_eq_append_getElem hlt, List.mem_append, List.mem_singleton] at hx
              rcases hx with hx | rfl
              · exact hpre.out x hx
              · exact hm
            have Hp := Lib.hid hp
            clear hm hp
            go_wp2_with fail
            refine Hp.out.mono ?_
            rintro e w' ⟨rfl, rfl⟩
            go_wp2_with fail
            go_roundg (ws.length - (k + 1))
            case measure => omega
            case rel => exact ⟨k + 1, by omega, rfl, by go_num, Hpre.out, _, rfl⟩
          · have hneg : plI o ws[k] < 0 := plI_lt.2 hm
            have Hv : Hid (ordB o ws = false) := ordB_false.2 fun h => hm (h.2.2 _ (List.getElem_mem hlt))
            have Hp := Lib.hid hp
            clear hm hp
            go_wp2_with fail
            refine Hp.out.mono ?_
            rintro e w' ⟨rfl, rfl⟩
            go_wp2_with fail
            go_ret
            exact ⟨ret_bool Hv.out.symm, _, rfl⟩
        · obtain rfl : k = ws.length := by omega
          rw [List.take_length] at hpre
          have Hv : Hid (ordB o ws = true) := ordB_true.2 ⟨Hl.out, Hh.out, hpre.out⟩
          go_wp2_with fail
          go_ret
          exact ⟨ret_bool Hv.out.symm, _, rfl⟩
    · have hb : ((o[0] : Int) != ws[0]) = true := by simpa using hh
      have Hv : Hid (ordB o ws = false) := ordB_false.2 fun h => hh (by
        have := h.2.1
        rw [List.head?_eq_getElem?, List.head?_eq_getElem?, List.getElem?_eq_getElem hol, List.getElem?_eq_getElem hws] at this
        exact Option.some.inj this)
      clear hh hl
      go_quiet (fail)
      go_wp2_with fail
      go_ret
      exact ⟨ret_bool Hv.out.symm, _, rfl⟩
  · have hne : ((o.length : Int) != (ws.length : Int)) = true := by simp; omega
    have Hv : Hid (ordB o ws = false) := ordB_false.2 fun h => hl h.1
    clear hl
    go_quiet (fail)
    go_wp2_with fail
    go_ret
    exact ⟨ret_bool Hv.out.symm, _, rfl⟩

end Go.Proofs.YtfgpbnncdfcjjabGreatDoor

/-! The walk of spec.ExecValid. -/
namespace Go.Proofs.YtfgpbnncdfcjjabGreatDoor
open Go.RowKit
set_option linter.unusedVariables false
set_option maxRecDepth 100000

theorem below_of_drew {B : Nat} {a b : World} (h : Below B a.drew b) : Below B a b := ⟨h.os, h.tape, h.output, h.size, h.block⟩
/-- Of event i of a candidate. -/
def okF1 (L : List Ev) (f : List Int) (i : Nat) (e : Ev) : Prop := if e.rd = true then f.getD i 0 ∈ wrs L e.loc ∧ f.getD i 0 ≠ i else f.getD i 0 = -1
theorem okF_of {L : List Ev} {f : List Int} (hl : f.length = L.length) (h : ∀ j, j < L.length → ∀ hj : j < L.length, okF1 L f j L[j]) : OkF L f := ⟨hl, fun i hi => h i hi hi⟩
theorem cand_len {p : Prg} (h : PrgOk p) : (evs p).length ≤ 15 := by
  rw [evs_length]
  have := h.1.2.2
  omega

theorem row_ints {w : World} {base : Nat} {A : Option Addr} {c : Nat} {xs : List Int} (h : RowI w base (.slice A xs.length c) xs) : Ints w A c xs := by
  obtain ⟨A', c', e, h⟩ := h.ints
  injection e with e1 _ e3
  subst e1 e3
  exact h.le (Le.above _ _)

set_option maxHeartbeats 8000000 in
theorem specCand_any (p : Prg) (hl : p.length ≤ 1048576) (x : Ex) (w : World) (v : Value) (A B : Option Addr) (c d : Nat) (hp : PrgS w v p) (hr : RepX w A c B d x) :
    Calls Tryz.prog 57 #[v, .agg #[.slice A x.from_.length c, .slice B x.order.length d]] w (RetB w (candB p x)) := by
  obtain ⟨Ap, cp, rfl, _⟩ := SlR.slice hp
  have hlf := hr.1.len
  have hlo := hr.2.len
  obtain ⟨w0, hw0⟩ : ∃ w0, w0 = w.alloc (.cells #[.slice A x.from_.length c, .slice B x.order.length d] 34) := ⟨_, rfl⟩
  have bx0 : Own w0 w.heap.size 34 #[.slice A x.from_.length c, .slice B x.order.length d] := by rw [hw0]; exact Own.new _ _ _
  have hB0 : Below w.heap.size w w0 := by rw [hw0]; exact (Below.refl _ _).alloc (Nat.le_refl _) _
  have hp0 : PrgS w0 (.slice Ap p.length cp) p := by rw [hw0]; exact PrgS.le hp (Le.alloc _ _)
  have hr0 : RepX w0 A c B d x := by rw [hw0]; exact hr.le (Le.alloc _ _)
  have hpv := specPrg_any p hl w0 _ hp0
  have Bx0 := Lib.hid bx0
  clear hp hr bx0
  go_enter Tryz.func57, Tryz.ntmps57
  go_wp2_with fail
  rw [← hw0]
  clear hw0
  cases hv : prgB p
  · rw [hv] at hpv
    have Hv : Hid (candB p x = false) := candB_false.2 fun h => prgB_false.1 hv h.1
    clear hv
    refine hpv.mono ?_
    rintro e1 w1 ⟨rfl, hb1⟩
    go_wp2_with fail
    go_ret
    exact ⟨ret_bool Hv.out.symm, hB0.trans (hb1.mono hB0.size)⟩
  rw [hv] at hpv
  have hok := prgB_iff.1 hv
  have Hok := Lib.hid hok
  have hL15 := cand_len hok
  clear hv
  refine hpv.mono ?_
  rintro e1 w1 ⟨rfl, hb1⟩
  have hB1 := hB0.trans (hb1.mono hB0.size)
  have hev := l6Events_any p hok.1 w1 _ (PrgS.le hp0 (Le.below hb1))
  have hr1 := hr0.le (Le.below hb1)
  have Bx1 := Lib.hid (Bx0.out.under hb1)
  clear hpv hb1 hp0 hr0 Bx0 hok
  go_wp2_with fail
  refine hev.mono ?_
  rintro e2 w2 ⟨u, rfl, hrow, hb2⟩
  have hL : EvS w2 u (evs p) := EvS.le hrow.evS (Le.above _ _)
  have hB2 := hB1.trans (hb2.mono hB1.size)
  have hr2 := hr1.le (Le.below hb2)
  have Bx2 := Lib.hid (Bx1.out.under hb2)
  obtain ⟨Au, cu, rfl, _⟩ := SlR.slice hL
  have q0 := Bx2.out.cell (i := 0) (v := .slice A x.from_.length c) rfl
  have q1 := Bx2.out.cell (i := 1) (v := .slice B x.order.length d) rfl
  have Hcb : Hid (candB p x = true ↔ OkF (evs p) x.from_ ∧ OkO (evs p) x.order) := by
    show _ ↔ _
    rw [candB_iff]
    exact ⟨fun h => h.2, fun h => ⟨Hok.out, h⟩⟩
  have Hw : Hid (∀ l : Nat, l ≤ 2 → ∃ r, wrs (evs p) l = (l : Int) :: r) := fun l hl => wrs_evs p l hl
  clear hev hrow hr1 Bx1
  generalize evs p = L at hL hL15 Hcb Hw
  have Hcf : Hid (¬ (OkF L x.from_ ∧ OkO L x.order) → candB p x = false) := fun h => by
    cases hc : candB p x
    · rfl
    · exact absurd (Hcb.out.1 hc) h
  by_cases hl1 : x.from_.length = L.length
  · by_cases hl2 : x.order.length = 3
    · have b1 : ((x.from_.length : Int) != (L.length : Int)) = false := by simp [hl1]
      have b2 : ((x.order.length : Int) != 3) = false := by simp [hl2]
      have Hl1 := Lib.hid hl1
      have Hl2 := Lib.hid hl2
      clear hl1 hl2
      go_wp2_with fail
      go_loopg [6] L.length (fun g s6 wr => ∃ k : Nat, k ≤ L.length ∧ g = L.length - k ∧ s6 = .int .i64 k ∧ Hid (∀ j, j < k → ∀ hj : j < L.length, okF1 L x.from_ j L[j]) ∧ Below w2.heap.size w2 wr)
      case atStart => exact ⟨0, Nat.zero_le _, rfl, rfl, (fun j hj => absurd hj (Nat.not_lt_zero _)), Below.refl _ _⟩
      case round =>
        obtain ⟨k, hk, rfl, rfl, hpre, hb⟩ := hrel
        by_cases hlt : k < L.length
        · have hLr := EvS.le hL (Le.below hb)
          obtain ⟨b, o, rfl, hbl, c0, c1, c2, c3, c4⟩ := EvS.get hLr hlt
          have hkf : k < x.from_.length := by rw [Hl1.out]; exact hlt
          obtain ⟨bf, of, rfl, hblf, f0⟩ := (hr2.1.le (Le.below hb)).get hkf
          have r0 := Le.below hb _ _ q0
          have Hnext : Hid (okF1 L x.from_ k L[k] → ∀ j, j < k + 1 → ∀ hj : j < L.length, okF1 L x.from_ j L[j]) := fun h j hj hj' => by
            by_cases e : j = k
            · subst e; exact h
            · exact hpre.out j (by omega) hj'
          have Hbad : Hid (¬ okF1 L x.from_ k L[k] → candB p x = false) := fun h => Hcf.out fun ⟨h1, _⟩ => h (by have := h1.2 k hlt; exact this)
          have hwl := wrs_length L L[k].loc
          have hlk : x.from_[k] = x.from_.getD k 0 := by simp [hkf]
          rw [hlk] at f0
          unfold okF1 at Hnext Hbad
          generalize L[k] = e at c0 c1 c2 c3 c4 Hnext Hbad hwl
          generalize x.from_.getD k 0 = fr at f0 Hnext Hbad
          obtain ⟨thr, idx, lc, rd, wrt⟩ := e
          simp only at c0 c1 c2 c3 c4 Hnext Hbad hwl
          have Hr := Lib.hid hLr
          clear hlk hLr c0 c1 c4 hl hblf
          cases rd
          · simp only [Bool.false_eq_true, if_false] at Hnext Hbad
            go_wp2_with fail
            go_quiet (fail)
            by_cases hm : fr = -1
            · have bm : ((fr : Int) != -1) = false := by simp [hm]
              have bk : ((fr : Int) == (k : Int)) = false := by rw [beq_eq_false_iff_ne]; omega
              have Hn := Lib.hid (Hnext.out hm)
              clear hm
              go_wp2_with fail
              go_roundg (L.length - (k + 1))
              case measure => omega
              case rel => exact ⟨k + 1, by omega, rfl, by go_num, Hn.out, below_drewN hb _⟩
            · have bm : ((fr : Int) != -1) = true := by simpa using hm
              have Hv := Lib.hid (Hbad.out hm)
              clear hm
              go_wp2_with fail
              go_ret
              exact ⟨ret_bool Hv.out.symm, hB2.trans ((below_drewN hb _).mono hB2.size)⟩
          · simp only [if_true] at Hnext Hbad
            go_wp2_with fail
            go_region_held3 (fun W => W.cell? ⟨b, o + k * 5 + 3, none⟩ = some (.bool true) ∧ W.cell? ⟨b, o + k * 5 + 2, none⟩ = some (.int .i64 lc) ∧ W.cell? ⟨w.heap.size, 0, none⟩ = some (.slice (some ⟨bf, of, none⟩) x.from_.length c) ∧ W.cell? ⟨bf, of + k, none⟩ = some (.int .i64 fr))
              ((first | exact ⟨c3, c2, r0, f0⟩ | exact ⟨Le.below hb5 _ _ c3, Le.below hb5 _ _ c2, Le.below hb5 _ _ r0, Le.below hb5 _ _ f0⟩))
              (first
                | (go_at_call 100; ((with_reducible refine (spWr_any L lc (by omega) _ _ (EvS.le Hr.out (Le.drew _))).mono ?_); rintro e5 w5 ⟨A5, c5, rfl, hrow5, hb5⟩; have hi5 : Ints w5 A5 c5 (wrs L lc) := (row_ints hrow5)))
                | (go_at_call 99; ((with_reducible refine (place6_any (wrs L lc) fr _ A5 c5 hi5).mono ?_); rintro e6 w6 ⟨rfl, rfl⟩)))
            have hb5' : Below w2.heap.size w2 w5 := hb.drew.trans (hb5.mono hb.size)
            have g0 := Le.below hb5 _ _ c3
            have g1 := Le.below hb5 _ _ r0
            have g2 := Le.below hb5 _ _ f0
            by_cases hin : fr ∈ wrs L lc
            · have hneg : ¬ plI (wrs L lc) fr < 0 := fun e => plI_lt.1 e hin
              have bneg : decide (plI (wrs L lc) fr < 0) = false := by rw [decide_eq_false_iff_not]; exact hneg
              by_cases hki : fr = k
              · have bk : ((fr : Int) == (k : Int)) = true := by rw [beq_iff_eq]; exact hki
                have Hv := Lib.hid (Hbad.out fun h => h.2 hki)
                clear hki hin c2 c3 r0 f0 hrow5
                go_wp2_with fail
                go_ret
                exact ⟨ret_bool Hv.out.symm, hB2.trans (hb5'.mono hB2.size)⟩
              · have bk : ((fr : Int) == (k : Int)) = false := by rw [beq_eq_false_iff_ne]; exact hki
                have Hn := Lib.hid (Hnext.out ⟨hin, hki⟩)
                clear hki hin c2 c3 r0 f0 hrow5
                go_wp2_with fail
                go_roundg (L.length - (k + 1))
                case measure => omega
                case rel => exact ⟨k + 1, by omega, rfl, by go_num, Hn.out, hb5'⟩
            · have hneg : plI (wrs L lc) fr < 0 := plI_lt.2 hin
              have bneg : decide (plI (wrs L lc) fr < 0) = true := by rw [decide_eq_true_iff]; exact hneg
              have Hv := Lib.hid (Hbad.out fun h => hin h.1)
              clear hin c2 c3 r0 f0 hrow5
              go_wp2_with fail
              go_ret
              exact ⟨ret_bool Hv.out.symm, hB2.trans (hb5'.mono hB2.size)⟩
        · obtain rfl : k = L.length := by omega
          have HF : Hid (OkF L x.from_) := okF_of Hl1.out hpre.out
          have q1r := Le.below hb _ _ q1
          clear hpre
          go_wp2_with fail
          go_loopg [7] 3 (fun g s7 w9 => ∃ l : Nat, l ≤ 3 ∧ g = 3 - l ∧ s7 = .int .i64 l ∧ Hid (∀ j, j < l → okO1 L j (x.order.getD j [])) ∧ Below wr.heap.size wr w9)
          case atStart => exact ⟨0, by omega, rfl, rfl, (fun j hj => absurd hj (Nat.not_lt_zero _)), Below.refl _ _⟩
          case round =>
            obtain ⟨l, hl3, rfl, rfl, hpre, hb9⟩ := hrel
            by_cases hlt3 : l ≤ 2
            · have bl : decide ((l : Int) ≤ 2) = true := by rw [decide_eq_true_iff]; omega
              have hlo' : l < x.order.length := by rw [Hl2.out]; omega
              obtain ⟨bo, oo, Ao, co, rfl, hblo, k0, hio⟩ := (hr2.2.le (Le.below (hb.trans (hb9.mono hb.size)))).get hlo'
              have hlk : x.order[l] = x.order.getD l [] := by simp [hlo']
              rw [hlk] at k0 hio
              have Hnext : Hid (okO1 L l (x.order.getD l []) → ∀ j, j < l + 1 → okO1 L j (x.order.getD j [])) := fun h j hj => by
                by_cases e : j = l
                · subst e; exact h
                · exact hpre.out j (by omega)
              have Hbad : Hid (¬ okO1 L l (x.order.getD l []) → candB p x = false) := fun h => Hcf.out fun ⟨_, h1⟩ => h (h1.2 l (by omega))
              have Hsp : Hid (okO1 L l (x.order.getD l []) ↔ OrdOk (x.order.getD l []) (wrs L l)) := okO1_sp (Hw.out l hlt3)
              have hpos : 0 < (wrs L l).length := by obtain ⟨r, hr⟩ := Hw.out l hlt3; rw [hr]; simp
              generalize x.order.getD l [] = od at k0 hio Hnext Hbad Hsp
              have q9 := Le.below hb9 _ _ q1r
              have hL9 := EvS.le hL (Le.below (hb.trans (hb9.mono hb.size)))
              have HL9 := Lib.hid hL9
              have Hio := Lib.hid hio
              clear hlk hL9 hpre
              go_wp2_with fail
              go_region_held3 (fun W => W.cell? ⟨w.heap.size, 1, none⟩ = some (.slice (some ⟨bo, oo, none⟩) x.order.length d) ∧ W.cell? ⟨bo, oo + l, none⟩ = some (.slice Ao od.length co))
                ((first | exact ⟨q9, k0⟩ | exact ⟨Le.below hb5 _ _ q9, Le.below hb5 _ _ k0⟩))
                (first
                  | (go_at_call 100; ((with_reducible refine (spWr_any L l (by omega) _ _ (EvS.le HL9.out (Le.drew _))).mono ?_); rintro e5 w5 ⟨A5, c5, rfl, hrow5, hb5⟩; have hi5 : Ints w5 A5 c5 (wrs L l) := (row_ints hrow5); have ho5 : Ints w5 Ao co od := Hio.out.le ((Le.drew _).to_below hb5)))
                  | (go_at_call 101; ((with_reducible refine (order6_any od (wrs L l) _ Ao A5 co c5 ho5 hi5 hpos).mono ?_); rintro e6 w6 ⟨rfl, q6, rfl⟩)))
              have hb5' : Below wr.heap.size wr (w5.drewN q6) := below_drewN (below_of_drew hb5) q6
              cases hob : ordB od (wrs L l)
              · have Hv := Lib.hid (Hbad.out fun h => ordB_false.1 hob (Hsp.out.1 h))
                clear hob
                go_wp2_with fail
                go_ret
                exact ⟨ret_bool Hv.out.symm, hB2.trans ((hb.trans ((hb9.trans (hb5'.mono hb9.size)).mono hb.size)).mono hB2.size)⟩
              · have Hn := Lib.hid (Hnext.out (Hsp.out.2 (ordB_true.1 hob)))
                clear hob
                go_wp2_with fail
                go_roundg (3 - (l + 1))
                case measure => omega
                case rel => exact ⟨l + 1, by omega, rfl, by go_num, Hn.out, hb9.trans (hb5'.mono hb9.size)⟩
            · obtain rfl : l = 3 := by omega
              have Hv : Hid (candB p x = true) := Hcb.out.2 ⟨HF.out, Hl2.out, hpre.out⟩
              go_wp2_with fail
              go_ret
              exact ⟨ret_bool Hv.out.symm, hB2.trans ((hb.trans (hb9.mono hb.size)).mono hB2.size)⟩
    · have b1 : ((x.from_.length : Int) != (L.length : Int)) = false := by simp [hl1]
      have b2 : ((x.order.length : Int) != 3) = true := by simp; omega
      have Hv := Lib.hid (Hcf.out fun h => hl2 h.2.1)
      clear hl1 hl2
      go_wp2_with fail
      go_ret
      exact ⟨ret_bool Hv.out.symm, hB2⟩
  · have b1 : ((x.from_.length : Int) != (L.length : Int)) = true := by simp; omega
    have Hv := Lib.hid (Hcf.out fun h => hl1 h.1.1)
    clear hl1
    go_wp2_with fail
    go_ret
    exact ⟨ret_bool Hv.out.symm, hB2⟩

end Go.Proofs.YtfgpbnncdfcjjabGreatDoor
