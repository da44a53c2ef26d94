/-
  The walks of spec.l6Writers, impl.writersOf, spec.l6Place, spec.l6Order.
-/
import Derived.Test.YtfgpbnncdfcjjaaDoorCands
import Derived.Test.YtfgpbnncdfcjjaaDoorSl
import Derived.Test.YtfgpbnncdfcjjaaDoorSpEv
namespace Go.Proofs.YtfgpbnncdfcjjaaDoor
open Go.RowKit
set_option linter.unusedVariables false
set_option maxRecDepth 100000

theorem own_new2' (w : World) (o : Obj) (t : TypeId) (cs : Array Value) : Own ((w.alloc o).alloc (.cells cs t)) (w.heap.size + 1) t cs := by simpa using Own.new (w.alloc o) t cs

set_option maxHeartbeats 2000000 in
theorem spWr_any (L : List Ev) (loc : Int) (hl : L.length ≤ 1000) (w : World) (v : Value) (hr : EvS w v L) : Calls Tryd.prog 58 #[v, .int .i64 loc] w (RetRowI w (wrs L loc)) := by
  obtain ⟨i0, hi0, hz0, hz1, hz2⟩ := info_parts Tryd.infoInt
  obtain ⟨A, c, rfl, _⟩ := SlR.slice hr
  have hrow0 : RowI (w.alloc (.cells #[] 3)) w.heap.size (.slice (some ⟨w.heap.size, 0, none⟩) 0 0) (wrs (L.take 0) loc) := RowOf.made _ (Own.new _ _ _) (Nat.le_refl _)
  have Hrow0 := Lib.hid hrow0
  clear hrow0
  go_enter Tryd.func58, Tryd.ntmps58
  go_wp2_with fail
  go_loopg [5, 6] L.length (fun g s5 s6 wr => ∃ (k : Nat) (v : Value), k ≤ L.length ∧ g = L.length - k ∧ v = s5 ∧ s6 = .int .i64 k ∧ Hid (RowI wr w.heap.size v (wrs (L.take k) loc)) ∧ Below w.heap.size w wr)
  case atStart => exact ⟨0, _, Nat.zero_le _, rfl, rfl, rfl, Hrow0.out, (Below.refl _ _).alloc (Nat.le_refl _) _⟩
  case round =>
    obtain ⟨k, v, hk, rfl, rfl, rfl, hrow, hb⟩ := hrel
    have hsb := hb.size
    by_cases hlt : k < L.length
    · obtain ⟨b, o, rfl, hbl, c0, c1, c2, c3, c4⟩ := EvS.get (EvS.le hr (Le.below hb)) hlt
      have Ht := Lib.hid (wrs_take L loc k hlt)
      have hlw := wrs_length (L.take k) loc
      rw [List.length_take] at hlw
      generalize L[k] = e at c0 c1 c2 c3 c4 Ht
      obtain ⟨thr, idx, lc, rd, wrt⟩ := e
      simp only at c0 c1 c2 c3 c4
      cases wrt
      · have Hn : Hid (wrs (L.take (k + 1)) loc = wrs (L.take k) loc) := by show _ = _; rw [Ht.out]; simp [wrl]
        clear Ht
        go_wp2_with fail
        go_roundg (L.length - (k + 1))
        case measure => omega
        case rel => exact ⟨k + 1, v, by omega, rfl, rfl, by go_num, by rw [Hn.out]; exact hrow.out, hb⟩
      · by_cases hq : lc = loc
        · have Hn : Hid (wrs (L.take (k + 1)) loc = wrs (L.take k) loc ++ [(k : Int)]) := by show _ = _; rw [Ht.out]; simp [wrl, hq]
          have hqb : ((lc : Int) == loc) = true := by rw [beq_iff_eq]; exact hq
          obtain ⟨cs, hown, hqq⟩ := hrow.out
          have Hown := Lib.hid hown
          have Hq := Lib.hid hqq
          clear Ht hq hown hqq
          go_wp2_with (at_builtin; refine wpList_append_lies _ (by rfl) _ _ _ (by rfl) w.heap.size 3 i0 _ 1 8 Tryd.underlying23 hi0 hz0 hz1 hz2 rfl (by omega) v (wrs (L.take k) loc).length cs (by rfl) (owns_alloc Hown.out _) ⟨wr.heap.size, 0, none⟩ 1 1 [.int .i64 k] (by rfl) (by rfl) (World.news_of_block (cs := #[.int .i64 k]) (t := 3) (fr := (0, 0)) (heap_alloc_new wr _)) (by simp [Value.oneCell']) (by omega) (by simp [maxLen]; omega) (by omega) (by simp; omega) (wr.heap.size + 1) (by simp) ?_; intro gg cap w1 hown1 hgrow hat1 hlt1)
          go_roundg (L.length - (k + 1))
          case measure => omega
          case rel => exact ⟨k + 1, _, by omega, rfl, rfl, by go_num, by rw [Hn.out]; exact RowOf.snoc (news := [.int .i64 k]) qint_congr Hown.out Hq.out rfl rfl hown1, below_grown (hb.alloc hsb _) hgrow (Nat.le_refl _) (fun g hg => owns_base' Hown.out hg)⟩
        · have Hn : Hid (wrs (L.take (k + 1)) loc = wrs (L.take k) loc) := by show _ = _; rw [Ht.out]; simp [wrl, hq]
          have hqb : ((lc : Int) == loc) = false := by rw [beq_eq_false_iff_ne]; exact hq
          clear Ht hq
          go_wp2_with fail
          go_roundg (L.length - (k + 1))
          case measure => omega
          case rel => exact ⟨k + 1, v, by omega, rfl, rfl, by go_num, by rw [Hn.out]; exact hrow.out, hb⟩
    · obtain rfl : k = L.length := by omega
      rw [List.take_length] at hrow
      go_wp2_with fail
      go_ret
      exact RetRowI.mk hrow.out hb

set_option maxHeartbeats 2000000 in
theorem imWr_any (L : List Ev) (loc : Int) (hl : L.length ≤ 1000) (w : World) (v : Value) (hr : EvS w v L) : Calls Tryd.prog 51 #[v, .int .i64 loc] w (RetRowI w (wrs L loc)) := by
  obtain ⟨i0, hi0, hz0, hz1, hz2⟩ := info_parts Tryd.infoInt
  obtain ⟨A, c, rfl, _⟩ := SlR.slice hr
  have hrow0 : RowI w w.heap.size (.slice none 0 0) (wrs (L.take 0) loc) := RowOf.nil _ _ _ _ _
  have Hrow0 := Lib.hid hrow0
  clear hrow0
  go_enter Tryd.func51, Tryd.ntmps51
  go_wp2_with fail
  go_loopg [5, 10] L.length (fun g s5 s10 wr => ∃ (k : Nat) (v : Value), k ≤ L.length ∧ g = L.length - k ∧ v = s5 ∧ s10 = .int .i64 k ∧ Hid (RowI wr w.heap.size v (wrs (L.take k) loc)) ∧ Below w.heap.size w wr)
  case atStart => exact ⟨0, _, Nat.zero_le _, rfl, rfl, rfl, Hrow0.out, Below.refl _ _⟩
  case round =>
    obtain ⟨k, v, hk, rfl, rfl, rfl, hrow, hb⟩ := hrel
    have hsb := hb.size
    by_cases hlt : k < L.length
    · obtain ⟨b, o, rfl, hbl, c0, c1, c2, c3, c4⟩ := EvS.get (EvS.le hr (Le.below hb)) hlt
      have Ht := Lib.hid (wrs_take L loc k hlt)
      have hlw := wrs_length (L.take k) loc
      rw [List.length_take] at hlw
      generalize L[k] = e at c0 c1 c2 c3 c4 Ht
      obtain ⟨thr, idx, lc, rd, wrt⟩ := e
      simp only at c0 c1 c2 c3 c4
      cases wrt
      · have Hn : Hid (wrs (L.take (k + 1)) loc = wrs (L.take k) loc) := by show _ = _; rw [Ht.out]; simp [wrl]
        clear Ht
        go_wp2_with fail
        go_roundg (L.length - (k + 1))
        case measure => omega
        case rel => exact ⟨k + 1, v, by omega, rfl, rfl, by go_num, by rw [Hn.out]; exact hrow.out.below ((Below.refl _ _).alloc (Nat.le_refl _) _), hb.alloc hsb _⟩
      · by_cases hq : lc = loc
        · have Hn : Hid (wrs (L.take (k + 1)) loc = wrs (L.take k) loc ++ [(k : Int)]) := by show _ = _; rw [Ht.out]; simp [wrl, hq]
          have hqb : ((lc : Int) == loc) = true := by rw [beq_iff_eq]; exact hq
          obtain ⟨cs, hown, hqq⟩ := hrow.out
          have Hown := Lib.hid hown
          have Hq := Lib.hid hqq
          clear Ht hq hown hqq
          go_wp2_with (at_builtin; refine wpList_append_lies _ (by rfl) _ _ _ (by rfl) w.heap.size 3 i0 _ 1 8 Tryd.underlying23 hi0 hz0 hz1 hz2 rfl (by omega) v (wrs (L.take k) loc).length cs (by rfl) (owns_alloc (owns_alloc Hown.out _) _) ⟨wr.heap.size + 1, 0, none⟩ 1 1 [.int .i64 k] (by rfl) (by rfl) (World.news_of_block (cs := #[.int .i64 k]) (t := 3) (fr := (0, 0)) (own_new2' _ _ _ _)) (by simp [Value.oneCell']) (by omega) (by simp [maxLen]; omega) (by omega) (by simp; omega) (wr.heap.size + 2) (by simp) ?_; intro gg cap w1 hown1 hgrow hat1 hlt1)
          go_roundg (L.length - (k + 1))
          case measure => omega
          case rel => exact ⟨k + 1, _, by omega, rfl, rfl, by go_num, by rw [Hn.out]; exact RowOf.snoc (news := [.int .i64 k]) qint_congr Hown.out Hq.out rfl rfl hown1, below_grown ((hb.alloc hsb _).alloc (by simp; omega) _) hgrow (Nat.le_refl _) (fun g hg => owns_base' Hown.out hg)⟩
        · have Hn : Hid (wrs (L.take (k + 1)) loc = wrs (L.take k) loc) := by show _ = _; rw [Ht.out]; simp [wrl, hq]
          have hqb : ((lc : Int) == loc) = false := by rw [beq_eq_false_iff_ne]; exact hq
          clear Ht hq
          go_wp2_with fail
          go_roundg (L.length - (k + 1))
          case measure => omega
          case rel => exact ⟨k + 1, v, by omega, rfl, rfl, by go_num, by rw [Hn.out]; exact hrow.out.below ((Below.refl _ _).alloc (Nat.le_refl _) _), hb.alloc hsb _⟩
    · obtain rfl : k = L.length := by omega
      rw [List.take_length] at hrow
      go_wp2_with fail
      go_ret
      exact RetRowI.mk hrow.out hb

/-- Where a number stands for the first time, or -1. -/
def plF : Nat → List Int → Int → Int
  | _, [], _ => -1
  | i, x :: xs, n => if x = n then i else plF (i + 1) xs n
def plI (xs : List Int) (n : Int) : Int := plF 0 xs n
theorem plF_lt {n : Int} : ∀ {xs : List Int} {i : Nat}, plF i xs n < 0 ↔ n ∉ xs
  | [], i => by simp [plF]
  | x :: xs, i => by
    rw [plF]
    by_cases h : x = n
    · rw [if_pos h]; simp [h]
    · rw [if_neg h, plF_lt]
      simp [Ne.symm h]
theorem plI_lt {xs : List Int} {n : Int} : plI xs n < 0 ↔ n ∉ xs := plF_lt
theorem plF_take {n : Int} : ∀ {xs : List Int} {i k : Nat} (h : k < xs.length), n ∉ xs.take k → xs[k] = n → plF i xs n = (i + k : Nat)
  | [], _, _, h, _, _ => by simp at h
  | x :: xs, i, 0, _, _, he => by rw [plF, if_pos (by simpa using he)]; rfl
  | x :: xs, i, k + 1, h, hn, he => by
    simp only [List.take_succ_cons, List.mem_cons, not_or] at hn
    rw [plF, if_neg (Ne.symm hn.1), plF_take (by simpa using h) hn.2 (by simpa using he)]
    omega
theorem plI_at {xs : List Int} {n : Int} {k : Nat} (h : k < xs.length) (hn : n ∉ xs.take k) (he : xs[k] = n) : plI xs n = k := by
  unfold plI; rw [plF_take h hn he]; simp
theorem plI_none {xs : List Int} {n : Int} (h : n ∉ xs) : plI xs n = -1 := by
  unfold plI
  have key : ∀ i, plF i xs n = -1 := by
    induction xs with
    | nil => intro i; rfl
    | cons x xs ih =>
      intro i
      rw [plF, if_neg (fun e => h (by rw [e]; simp)), ih (fun hm => h (List.mem_cons_of_mem _ hm))]
  exact key 0

def RetQI (w : World) (n : Int) (e : Ending) (w' : World) : Prop := e = .returned (.int .i64 n) ∧ w = w'
set_option maxHeartbeats 1000000 in
theorem place6_any (xs : List Int) (n : Int) (w : World) (A : Option Addr) (c : Nat) (h : Ints w A c xs) : Calls Tryd.prog 57 #[.slice A xs.length c, .int .i64 n] w (RetQI w (plI xs n)) := by
  have hlen := h.len
  go_enter Tryd.func57, Tryd.ntmps57
  go_wp2_with fail
  go_loopg [5] xs.length (fun g s5 wr => ∃ k : Nat, k ≤ xs.length ∧ g = xs.length - k ∧ s5 = .int .i64 k ∧ Hid (n ∉ xs.take k) ∧ w = wr)
  case atStart => exact ⟨0, Nat.zero_le _, rfl, rfl, by simp [Hid], rfl⟩
  case round =>
    obtain ⟨k, hk, rfl, rfl, hpre, rfl⟩ := hrel
    by_cases hlt : k < xs.length
    · obtain ⟨b, o, rfl, hbl, c0⟩ := h.get hlt
      by_cases he : xs[k] = n
      · have hv := Lib.hid (plI_at hlt hpre.out he)
        have hb : ((xs[k] : Int) == n) = true := by rw [beq_iff_eq]; exact he
        clear he
        go_wp2_with fail
        go_ret
        exact ⟨ret_int hv.out.symm, rfl⟩
      · have hb : ((xs[k] : Int) == n) = false := by rw [beq_eq_false_iff_ne]; exact he
        have Hn : Hid (n ∉ xs.take (k + 1)) := by
          show ¬ _
          rw [List.take_succ_eq_append_getElem hlt, List.mem_append, List.mem_singleton]
          rintro (h | h)
          · exact hpre.out h
          · exact he h.symm
        clear he
        go_wp2_with fail
        go_roundg (xs.length - (k + 1))
        case measure => omega
        case rel => exact ⟨k + 1, by omega, rfl, by go_num, Hn.out, rfl⟩
    · obtain rfl : k = xs.length := by omega
      rw [List.take_length] at hpre
      go_wp2_with fail
      go_ret
      exact ⟨ret_int (plI_none hpre.out).symm, rfl⟩

/-- What l6Order answers. -/
def OrdOk (o ws : List Int) : Prop := o.length = ws.length ∧ o.head? = ws.head? ∧ ∀ w ∈ ws, w ∈ o
instance (o ws : List Int) : Decidable (OrdOk o ws) := inferInstanceAs (Decidable (_ ∧ _ ∧ _))
def ordB (o ws : List Int) : Bool := decide (OrdOk o ws)
theorem ordB_false {o ws : List Int} : ordB o ws = false ↔ ¬ OrdOk o ws := by simp [ordB]
theorem ordB_true {o ws : List Int} : ordB o ws = true ↔ OrdOk o ws := by simp [ordB]
def RetBD (w : World) (b : Bool) (e : Ending) (w' : World) : Prop := e = .returned (.bool b) ∧ ∃ q, w' = w.drewN q
set_option maxHeartbeats 1000000 in
theorem order6_any (o ws : List Int) (w : World) (A A' : Option Addr) (c c' : Nat) (h : Ints w A c o) (h' : Ints w A' c' ws) (hws : 0 < ws.length) : Calls Tryd.prog 59 #[.slice A o.length c, .slice A' ws.length c'] w (RetBD w (ordB o ws)) := by
  have hlen := h.len
  have hlen' := h'.len
  go_enter Tryd.func59, Tryd.ntmps59
  go_wp2_with fail
  by_cases hl : o.length = ws.length
  · have hne : ((o.length : Int) != (ws.length : Int)) = false := by simp [hl]
    have hol : 0 < o.length := by omega
    obtain ⟨b, f, rfl, hbl, c0⟩ := h.get hol
    obtain ⟨b', f', rfl, hbl', d0⟩ := h'.get (i := 0) hws
    rw [Nat.add_zero] at c0 d0
    by_cases hh : o[0] = ws[0]
    · have hb : ((o[0] : Int) != ws[0]) = false := by simp [hh]
      have Hh : Hid (o.head? = ws.head?) := by
        show _ = _
        rw [List.head?_eq_getElem?, List.head?_eq_getElem?, List.getElem?_eq_getElem hol, List.getElem?_eq_getElem hws, hh]
      have Hl := Lib.hid hl
      clear hh hl
      go_quiet (fail)
      go_wp2_with fail
      go_loopg [5] ws.length (fun g s5 wr => ∃ k : Nat, k ≤ ws.length ∧ g = ws.length - k ∧ s5 = .int .i64 k ∧ Hid (∀ x ∈ ws.take k, x ∈ o) ∧ ∃ q, wr = w.drewN q)
      case atStart => exact ⟨0, Nat.zero_le _, rfl, rfl, (by simp [Hid]), _, rfl⟩
      case round =>
        obtain ⟨k, hk, rfl, rfl, hpre, q, rfl⟩ := hrel
        by_cases hlt : k < ws.length
        · obtain ⟨b2, f2, e2, hbl2, k0⟩ := h'.get hlt
          injection e2 with e2
          injection e2 with e2 e3
          subst e2 e3
          have hp := place6_any o ws[k] (w.drewN q) _ c (h.le (Le.drewN _ _))
          by_cases hm : ws[k] ∈ o
          · have hneg : ¬ plI o ws[k] < 0 := fun e => plI_lt.1 e hm
            have Hpre : Hid (∀ x ∈ ws.take (k + 1), x ∈ o) := fun x hx => by
              rw [List.take_succ_eq_append_getElem hlt, List.mem_append, List.mem_singleton] at hx
              rcases hx with hx | rfl
              · exact hpre.out x hx
              · exact hm
            have Hp := Lib.hid hp
            clear hm hp
            go_wp2_with fail
            refine Hp.out.mono ?_
            rintro e w' ⟨rfl, rfl⟩
            go_wp2_with fail
            go_roundg (ws.length - (k + 1))
            case measure => omega
            case rel => exact ⟨k + 1, by omega, rfl, by go_num, Hpre.out, _, rfl⟩
          · have hneg : plI o ws[k] < 0 := plI_lt.2 hm
            have Hv : Hid (ordB o ws = false) := ordB_false.2 fun h => hm (h.2.2 _ (List.getElem_mem hlt))
            have Hp := Lib.hid hp
            clear hm hp
            go_wp2_with fail
            refine Hp.out.mono ?_
            rintro e w' ⟨rfl, rfl⟩
            go_wp2_with fail
            go_ret
            exact ⟨ret_bool Hv.out.symm, _, rfl⟩
        · obtain rfl : k = ws.length := by omega
          rw [List.take_length] at hpre
          have Hv : Hid (ordB o ws = true) := ordB_true.2 ⟨Hl.out, Hh.out, hpre.out⟩
          go_wp2_with fail
          go_ret
          exact ⟨ret_bool Hv.out.symm, _, rfl⟩
    · have hb : ((o[0] : Int) != ws[0]) = true := by simpa using hh
      have Hv : Hid (ordB o ws = false) := ordB_false.2 fun h => hh (by
        have := h.2.1
        rw [List.head?_eq_getElem?, List.head?_eq_getElem?, List.getElem?_eq_getElem hol, List.getElem?_eq_getElem hws] at this
        exact Option.some.inj this)
      clear hh hl
      go_quiet (fail)
      go_wp2_with fail
      go_ret
      exact ⟨ret_bool Hv.out.symm, _, rfl⟩
  · have hne : ((o.length : Int) != (ws.length : Int)) = true := by simp; omega
    have Hv : Hid (ordB o ws = false) := ordB_false.2 fun h => hl h.1
    clear hl
    go_quiet (fail)
    go_wp2_with fail
    go_ret
    exact ⟨ret_bool Hv.out.symm, _, rfl⟩

end Go.Proofs.YtfgpbnncdfcjjaaDoor
