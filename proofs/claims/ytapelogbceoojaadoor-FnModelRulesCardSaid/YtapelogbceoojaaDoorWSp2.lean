/-
  The walks of the reference's reading of expressions: l7Prime.
-/
import Derived.Test.YtapelogbceoojaaDoorWSp
import Derived.Test.YtapelogbceoojaaDoorOwn
namespace Go.Proofs.YtapelogbceoojaaDoor
open Go.RowKit
set_option linter.unusedVariables false
set_option maxRecDepth 100000

def RetSp (c : Cmd) (w : World) (s : ByteArray) (k d : Nat) (e : Ending) (w' : World) : Prop :=
  ∃ (x : RE) (A : Option Addr) (cc : Nat) (F : List Nat) (nx : Int), e = .returned (.tuple #[.agg #[.int .i64 x.op, .string x.name, .slice A x.kids.length cc], .int .i64 nx]) ∧ OwE w' (.slice A x.kids.length cc) x.kids F ∧ (∀ b ∈ F, w.heap.size ≤ b) ∧ x.name.size ≤ 300 ∧ Below w.heap.size w w' ∧ -1 ≤ nx ∧ nx ≤ s.size ∧
    (0 ≤ nx → (k : Int) < nx ∧ (cntE x : Int) ≤ nx - k) ∧ (nx < 0 → cntE x ≤ d + 1) ∧ (∀ x0 u, Ps c (rest s k) x0 u → Shp d x0 → x0 = x ∧ 0 ≤ nx ∧ rest s nx.toNat = u)

theorem cntE_mk (op : Int) (name : ByteArray) : cntE (.mk op name []) = 1 := by rw [cntE, cntL]
/-- Nothing read: the empty expression, -1. -/
theorem RetSp.fail {c : Cmd} {w W : World} {s : ByteArray} {k d : Nat} (hb : Below w.heap.size w W) (hn : ∀ x0 u, Ps c (rest s k) x0 u → ¬ Shp d x0) : RetSp c w s k d (.returned (.tuple #[.agg #[.int .i64 0, .string ⟨#[]⟩, .slice none 0 0], .int .i64 (-1)])) W :=
  ⟨.mk 0 ⟨#[]⟩ [], none, 0, [], -1, rfl, .nil, (fun b hb => by cases hb), (by show ByteArray.size ⟨#[]⟩ ≤ 300; decide), hb, by omega, by omega, by omega, fun _ => by rw [cntE_mk]; omega, fun x0 u hp hs => absurd hs (hn x0 u hp)⟩

theorem own_setN {w : World} {v : Value} {es : List RE} {F : List Nat} (h : OwE w v es F) {b : Nat} (hb : ∀ x ∈ F, x ≠ b) (o : Nat) (u : Value) : OwE (w.setCell ⟨b, o, none⟩ u) v es F :=
  h.of_blocks fun x hx => Below.heap_setCell _ _ _ _ (hb x hx)
theorem own_allocN {w : World} {v : Value} {es : List RE} {F : List Nat} (h : OwE w v es F) (o : Obj) : OwE (w.alloc o) v es F := h.of_blocks fun b hb => Go.Deep.blk_alloc_lt _ _ _ (h.lt b hb)
theorem own_below {w w' : World} {v : Value} {es : List RE} {F : List Nat} (h : OwE w v es F) (hb : Below w.heap.size w w') : OwE w' v es F := h.of_blocks fun b hm => hb.block b (h.lt b hm)
theorem Own.res' {w : World} {b : Nat} {t : TypeId} {v0 v1 v2 : Value} (h : Own w b t #[v0, v1, v2]) : w.cell? ⟨b, 0, none⟩ = some v0 ∧ w.cell? ⟨b, 1, none⟩ = some v1 ∧ w.cell? ⟨b, 2, none⟩ = some v2 ∧ w.frozen? ⟨b, 0, none⟩ = false ∧ w.frozen? ⟨b, 1, none⟩ = false ∧ w.frozen? ⟨b, 2, none⟩ = false ∧ b < w.heap.size :=
  ⟨h.cell rfl, h.cell rfl, h.cell rfl, h.frozen 0, h.frozen 1, h.frozen 2, h.lt⟩
theorem size_set3' (W : World) (a b c : Addr) (v0 v1 v2 : Value) : (((W.setCell a v0).setCell b v1).setCell c v2).heap.size = W.heap.size := by simp [World.setCell]

/-- What the reading says, for an expression x read up to nx. -/
def SpOk (c : Cmd) (s : ByteArray) (k d : Nat) (x : RE) (nx : Int) : Prop :=
  -1 ≤ nx ∧ nx ≤ s.size ∧ (0 ≤ nx → (k : Int) < nx ∧ (cntE x : Int) ≤ nx - k) ∧ (nx < 0 → cntE x ≤ d + 1) ∧ (∀ x0 u, Ps c (rest s k) x0 u → Shp d x0 → x0 = x ∧ 0 ≤ nx ∧ rest s nx.toNat = u)
/-- The block of the result is written. -/
theorem RetSp.fin {c : Cmd} {w W : World} {s : ByteArray} {k d : Nat} {x : RE} {A : Option Addr} {cc : Nat} {F : List Nat} {nx : Int} {v0 v1 v2 : Value} (ho : OwE W (.slice A x.kids.length cc) x.kids F) (hF : ∀ b ∈ F, w.heap.size < b)
    (hn : x.name.size ≤ 300) (m : Below w.heap.size w W) (hp : SpOk c s k d x nx) :
    RetSp c w s k d (.returned (.tuple #[.agg #[.int .i64 x.op, .string x.name, .slice A x.kids.length cc], .int .i64 nx])) (((W.setCell ⟨w.heap.size, 0, none⟩ v0).setCell ⟨w.heap.size, 1, none⟩ v1).setCell ⟨w.heap.size, 2, none⟩ v2) := by
  have hne : ∀ b ∈ F, b ≠ w.heap.size := fun b hb => by have := hF b hb; omega
  exact ⟨x, A, cc, F, nx, rfl, own_setN (own_setN (own_setN ho hne _ _) hne _ _) hne _ _, fun b hb => Nat.le_of_lt (hF b hb), hn, ((m.setCell (Nat.le_refl _) _).setCell (Nat.le_refl _) _).setCell (Nat.le_refl _) _, hp⟩
theorem RetSp.alloc {c : Cmd} {w W : World} {s : ByteArray} {k d : Nat} {e : Ending} (h : RetSp c w s k d e W) (o : Obj) : RetSp c w s k d e (W.alloc o) := by
  obtain ⟨x, A, cc, F, nx, h1, h2, h3, h4, h5, h6⟩ := h
  exact ⟨x, A, cc, F, nx, h1, own_allocN h2 o, h3, h4, h5.alloc h5.size _, h6⟩
/-- .. of one operand, in a block made last. -/
theorem RetSp.fin1 {c : Cmd} {w V : World} {s : ByteArray} {k d m : Nat} {op : Int} {x : RE} {A : Option Addr} {cc : Nat} {F : List Nat} {nx : Int} (ho : OwE V (.slice A x.kids.length cc) x.kids F) (hF : ∀ b ∈ F, w.heap.size < b)
    (hn : x.name.size ≤ 300) (hm : V.heap.size = m) (hb : Below w.heap.size w V) (hp : SpOk c s k d (.mk op ⟨#[]⟩ [x]) nx) :
    RetSp c w s k d (.returned (.tuple #[.agg #[.int .i64 op, .string ⟨#[]⟩, .slice (some ⟨m, 0, none⟩) 1 1], .int .i64 nx])) (V.alloc (.cells #[.int .i64 x.op, .string x.name, .slice A x.kids.length cc] 29)) := by
  subst hm
  have one := ho.one (by omega)
  refine ⟨.mk op ⟨#[]⟩ [x], _, 1, _, nx, rfl, one, fun b hm => ?_, (by show ByteArray.size ⟨#[]⟩ ≤ 300; decide), hb.alloc hb.size _, hp⟩
  rcases List.mem_cons.1 hm with rfl | hm
  · exact hb.size
  · exact Nat.le_of_lt (hF b hm)

theorem ext_rest (s : ByteArray) (k j : Nat) : (s.extract k j).data.toList = (rest s k).take (j - k) := by
  unfold rest
  rw [ByteArray.data_extract, Array.toList_extract, List.extract_eq_take_drop]
theorem take_rest (s : ByteArray) {k j : Nat} (h : k ≤ j) : (rest s k).take (j - k) ++ rest s j = rest s k := by
  have h1 : rest s j = (rest s k).drop (j - k) := by
    unfold rest
    rw [List.drop_drop, show k + (j - k) = j by omega]
  rw [h1, List.take_append_drop]
theorem rest_get {s : ByteArray} {k j : Nat} (h : k ≤ j) (hj : j < s.size) (hl : j - k < (rest s k).length) : (rest s k)[j - k]'hl = s[j] := by
  have h1 := List.getElem_drop (xs := s.data.toList) (i := k) (j := j - k) (h := hl)
  simp only [show k + (j - k) = j by omega] at h1
  exact h1
/-- What the reading of a name comes to. -/
theorem name_done {s : ByteArray} {k d j : Nat} (hkj : k ≤ j) (hj : j ≤ s.size) (hs : s.size ≤ 300) (hlet : ∀ c ∈ (rest s k).take (j - k), isLet c) (hno : ¬ letHead (rest s j)) (hne : k ≠ j) (hd : d ≠ 0) : SpOk .atom s k d (.mk 1 (s.extract k j) []) j := by
  refine ⟨by omega, by omega, fun _ => ⟨by omega, by rw [cntE_mk]; omega⟩, fun h => by omega, fun x0 u hp _ => ?_⟩
  have hn : (rest s k).take (j - k) ≠ [] := fun e => by
    have h1 := congrArg List.length e
    unfold rest at h1
    simp at h1
    omega
  rw [← take_rest s hkj] at hp
  obtain ⟨rfl, rfl⟩ := hp.atom_name hn hlet hno
  rw [← ext_rest, toArray_data']
  exact ⟨rfl, by omega, by rw [Int.toNat_natCast]⟩
theorem name_none {s : ByteArray} {k : Nat} (hk : k < s.size) (h40 : s[k] ≠ 40) (h126 : s[k] ≠ 126) (h43 : s[k] ≠ 43) (hno : ¬ letHead (rest s k)) : ∀ x0 u, ¬ Ps .atom (rest s k) x0 u := fun x0 u hp => by
  obtain ⟨c, t', h, hc⟩ := hp.atom_none
  have h1 := h
  rw [rest_lt hk] at h1
  injection h1 with h1 _
  rcases hc with rfl | rfl | rfl | hc
  · exact h40 h1
  · exact h126 h1
  · exact h43 h1
  · rw [h] at hno; exact hno hc

set_option maxHeartbeats 2000000 in
theorem prime_of (s : ByteArray) (hs : s.size ≤ 300) (k d : Nat) (hk : k ≤ 301) (hd : d ≤ 12)
    (ihP : ∀ k', k < k' → k' ≤ 301 → ∀ d, d ≤ 12 → ∀ w, Calls Tryd.prog 62 #[.string s, .int .i64 (k' : Nat), .int .i64 (d : Nat), .int .i64 3] w (RetSp (.lev 3) w s k' d))
    (ihA : ∀ k', k < k' → k' ≤ 301 → ∀ d, d ≤ 12 → ∀ w, Calls Tryd.prog 89 #[.string s, .int .i64 (k' : Nat), .int .i64 (d : Nat)] w (RetSp .atom w s k' d))
    (w : World) : Calls Tryd.prog 89 #[.string s, .int .i64 k, .int .i64 d] w (RetSp .atom w s k d) := by
  have rb := Own.new w 29 #[.int .i64 0, .string ByteArray.empty, .slice none 0 0]
  go_enter Tryd.func89, Tryd.ntmps89
  by_cases hd0 : d = 0
  · subst hd0
    go_wp2_with fail
    refine bodyPost_ret (v := .tuple #[.agg #[.int .i64 0, .string ⟨#[]⟩, .slice none 0 0], .int .i64 (-1)]) (by simp [results, Tryd.results89, go_sem]) rfl ?_
    exact RetSp.fail ((Below.refl _ _).alloc (Nat.le_refl _) _) (fun x0 u hp hs => hs)
  have bd : decide ((d : Int) < 1) = false := by rw [decide_eq_false_iff_not]; omega
  have bk0 : decide ((k : Int) < 0) = false := by rw [decide_eq_false_iff_not]; omega
  by_cases hks : s.size ≤ k
  · have hkb : decide ((k : Int) ≥ (s.size : Int)) = true := by rw [decide_eq_true_iff]; omega
    have Hn : Hid (∀ x0 u, Ps .atom (rest s k) x0 u → ¬ Shp d x0) := fun x0 u hp _ => by
      rw [rest_ge hks] at hp
      obtain ⟨c, t', h, _⟩ := hp.atom_none
      cases h
    go_wp2_with fail
    refine bodyPost_ret (v := .tuple #[.agg #[.int .i64 0, .string ⟨#[]⟩, .slice none 0 0], .int .i64 (-1)]) (by simp [results, Tryd.results89, go_sem]) rfl ?_
    exact RetSp.fail ((Below.refl _ _).alloc (Nat.le_refl _) _) Hn.out
  have hlt : k < s.size := by omega
  have hc := rest_lt hlt
  have hcb : s[k].toNat < 256 := UInt8.toNat_lt _
  by_cases c40 : s[k] = 40
  · have b40 : ((s[k].toNat : Int) == 40) = true := by rw [c40]; rfl
    have Hc := Lib.hid hc
    have Hc40 := Lib.hid c40
    clear hc c40 ihA
    go_wp2_with fail
    refine (ihP (k + 1) (by omega) (by omega) d hd _).mono ?_
    rintro e1 w1 ⟨x, A, cc, F, nx, rfl, ho, hF, hnm, hb1, hn1, hn2, hn3, hn4, hps⟩
    have hb2 : Below w.heap.size w w1 := ((Below.refl _ _).alloc (Nat.le_refl _) _).trans (hb1.mono (by simp))
    have rb1 := rb.under hb1
    have hFlt : ∀ b ∈ F, w.heap.size < b := fun b hb => by have := hF b hb; simp at this; omega
    have hlt1 := rb1.lt
    obtain ⟨r0, r1, r2, g0, g1, g2, rl⟩ := rb1.res'
    have hps' : ∀ x0 u, Ps .atom (rest s k) x0 u → Shp d x0 → x0 = x ∧ 0 ≤ nx ∧ rest s nx.toNat = 41 :: u := fun x0 u hp hsh => by
      rw [Hc.out, Hc40.out] at hp
      exact hps _ _ hp.atom_par hsh
    have Hps := Lib.hid hps'
    have Hn3 := Lib.hid hn3
    clear hps hps' hn3 hb1 hF hn4 ihP
    by_cases hneg : nx < 0
    · go_wp2_with fail
      refine (l7Is_neg s nx hneg 41 _).mono ?_
      rintro e2 w2 ⟨rfl, rfl⟩
      go_wp2_with fail
      refine bodyPost_ret (v := .tuple #[.agg #[.int .i64 0, .string ⟨#[]⟩, .slice none 0 0], .int .i64 (-1)]) (by simp [results, Tryd.results89, go_sem, r0, r1, r2, World.cell?_alloc_lt, rl]) rfl ?_
      refine RetSp.fail ?_ (fun x0 u hp hsh => by have := (Hps.out x0 u hp hsh).2.1; omega)
      repeat (first | exact hb2 | refine Below.alloc ?_ (by simp <;> omega) _ | refine Below.setCell ?_ (by simp <;> omega) _)
    · obtain ⟨n, rfl⟩ : ∃ n : Nat, nx = n := ⟨nx.toNat, by omega⟩
      go_wp2_with fail
      refine (l7Is_any s n 41 _).mono ?_
      rintro e2 w2 ⟨rfl, rfl⟩
      cases hh : headB s n 41
      · have Hh := Lib.hid hh
        go_wp2_with fail
        refine bodyPost_ret (v := .tuple #[.agg #[.int .i64 0, .string ⟨#[]⟩, .slice none 0 0], .int .i64 (-1)]) (by simp [results, Tryd.results89, go_sem, r0, r1, r2, World.cell?_alloc_lt, rl]) rfl ?_
        refine RetSp.fail ?_ (fun x0 u hp hsh => ?_)
        · repeat (first | exact hb2 | refine Below.alloc ?_ (by simp <;> omega) _ | refine Below.setCell ?_ (by simp <;> omega) _)
        · have h1 := (Hps.out x0 u hp hsh).2.2
          have h2 := Hh.out
          unfold headB at h2
          simp only [Int.toNat_natCast] at h1
          rw [h1] at h2
          simp at h2
      · have hnlt : n < s.size := by
          apply Classical.byContradiction
          intro hge
          unfold headB at hh
          rw [rest_ge (by omega)] at hh
          simp at hh
        have hok : SpOk .atom s k d x ((n : Int) + 1) := by
          refine ⟨by omega, by omega, fun _ => ?_, fun h => by omega, fun x0 u hp hsh => ?_⟩
          · have := Hn3.out (by omega)
            omega
          · obtain ⟨h1, _, h3⟩ := Hps.out x0 u hp hsh
            refine ⟨h1, by omega, ?_⟩
            rw [Int.toNat_natCast, rest_lt hnlt] at h3
            injection h3 with _ h3
        have Hok := Lib.hid hok
        clear hok hh
        go_wp2_with fail
        refine bodyPost_ret (v := .tuple #[.agg #[.int .i64 x.op, .string x.name, .slice A x.kids.length cc], .int .i64 ((n : Int) + 1)]) (by simp [results, Tryd.results89, go_sem, r0, r1, r2, World.cell?_alloc_lt, rl]) rfl ?_
        exact (RetSp.fin ho hFlt hnm hb2 Hok.out).alloc _
  have b40 : ((s[k].toNat : Int) == 40) = false := by
    rw [beq_eq_false_iff_ne]
    exact fun e => c40 (UInt8.toNat_inj.1 (by show s[k].toNat = 40; omega))
  by_cases c126 : s[k] = 126
  · have b126 : ((s[k].toNat : Int) == 126) = true := by rw [c126]; rfl
    have b43 : ((s[k].toNat : Int) == 43) = false := by rw [c126]; rfl
    have Hc := Lib.hid hc
    have Hc126 := Lib.hid c126
    have ihA' : ∀ w, Calls Tryd.prog 89 #[.string s, .int .i64 ((k : Int) + 1), .int .i64 ((d : Int) - 1)] w (RetSp .atom w s (k + 1) (d - 1)) := fun w => by
      have h := ihA (k + 1) (by omega) (by omega) (d - 1) (by omega) w
      rw [show ((k + 1 : Nat) : Int) = (k : Int) + 1 by omega, show ((d - 1 : Nat) : Int) = (d : Int) - 1 by omega] at h
      exact h
    clear hc c126 c40 ihP ihA
    go_wp2_with fail
    refine (ihA' _).mono ?_
    rintro e1 w1 ⟨x, A, cc, F, nx, rfl, ho, hF, hnm, hb1, hn1, hn2, hn3, hn4, hps⟩
    have hb2 : Below w.heap.size w w1 := ((Below.refl _ _).alloc (Nat.le_refl _) _).trans (hb1.mono (by simp))
    have rb1 := rb.under hb1
    have hFlt : ∀ b ∈ F, w.heap.size < b := fun b hb => by have := hF b hb; simp at this; omega
    have hlt1 := rb1.lt
    obtain ⟨r0, r1, r2, g0, g1, g2, rl⟩ := rb1.res'
    have hok : SpOk .atom s k d (.mk 6 ⟨#[]⟩ [x]) nx := by
      refine ⟨hn1, hn2, fun h => ?_, fun h => ?_, fun x0 u hp hsh => ?_⟩
      · rw [cntE, cntL, cntL]; have := hn3 h; omega
      · rw [cntE, cntL, cntL]; have := hn4 h; omega
      · rw [Hc.out, show s[k] = sg 6 from Hc126.out] at hp
        obtain ⟨e1, h1, rfl⟩ := hp.atom_pre (Or.inl rfl)
        obtain ⟨h2, h3, h4⟩ := hps _ _ h1 (by
          obtain ⟨d', rfl⟩ : ∃ d', d = d' + 1 := ⟨d - 1, by omega⟩
          exact hsh.kid' (by simp [RE.kids]))
        exact ⟨by rw [h2], h3, h4⟩
    have Hok := Lib.hid hok
    have hne : ∀ b ∈ F, b ≠ w.heap.size := fun b hb => by have := hFlt b hb; omega
    clear hok hn3 hn4 hps hb1 hF
    go_wp2_with fail
    refine bodyPost_ret (v := .tuple #[.agg #[.int .i64 6, .string ⟨#[]⟩, .slice (some ⟨w1.heap.size + 1, 0, none⟩) 1 1], .int .i64 nx]) (by simp [results, Tryd.results89, go_sem, r0, r1, r2, World.cell?_alloc_lt, rl]) rfl ?_
    refine RetSp.fin1 (own_allocN (own_setN (own_setN (own_setN ho hne _ _) hne _ _) hne _ _) _) hFlt hnm (by simp [World.setCell]) ?_ Hok.out
    repeat (first | exact hb2 | refine Below.alloc ?_ (by simp <;> omega) _ | refine Below.setCell ?_ (by simp <;> omega) _)
  have b126 : ((s[k].toNat : Int) == 126) = false := by
    rw [beq_eq_false_iff_ne]
    exact fun e => c126 (UInt8.toNat_inj.1 (by show s[k].toNat = 126; omega))
  by_cases c43 : s[k] = 43
  · have b43 : ((s[k].toNat : Int) == 43) = true := by rw [c43]; rfl
    have Hc := Lib.hid hc
    have Hc43 := Lib.hid c43
    have ihA' : ∀ w, Calls Tryd.prog 89 #[.string s, .int .i64 ((k : Int) + 1), .int .i64 ((d : Int) - 1)] w (RetSp .atom w s (k + 1) (d - 1)) := fun w => by
      have h := ihA (k + 1) (by omega) (by omega) (d - 1) (by omega) w
      rw [show ((k + 1 : Nat) : Int) = (k : Int) + 1 by omega, show ((d - 1 : Nat) : Int) = (d : Int) - 1 by omega] at h
      exact h
    clear hc c43 c126 c40 ihP ihA
    go_wp2_with fail
    refine (ihA' _).mono ?_
    rintro e1 w1 ⟨x, A, cc, F, nx, rfl, ho, hF, hnm, hb1, hn1, hn2, hn3, hn4, hps⟩
    have hb2 : Below w.heap.size w w1 := ((Below.refl _ _).alloc (Nat.le_refl _) _).trans (hb1.mono (by simp))
    have rb1 := rb.under hb1
    have hFlt : ∀ b ∈ F, w.heap.size < b := fun b hb => by have := hF b hb; simp at this; omega
    have hlt1 := rb1.lt
    obtain ⟨r0, r1, r2, g0, g1, g2, rl⟩ := rb1.res'
    have hok : SpOk .atom s k d (.mk 7 ⟨#[]⟩ [x]) nx := by
      refine ⟨hn1, hn2, fun h => ?_, fun h => ?_, fun x0 u hp hsh => ?_⟩
      · rw [cntE, cntL, cntL]; have := hn3 h; omega
      · rw [cntE, cntL, cntL]; have := hn4 h; omega
      · rw [Hc.out, show s[k] = sg 7 from Hc43.out] at hp
        obtain ⟨e1, h1, rfl⟩ := hp.atom_pre (Or.inr rfl)
        obtain ⟨h2, h3, h4⟩ := hps _ _ h1 (by
          obtain ⟨d', rfl⟩ : ∃ d', d = d' + 1 := ⟨d - 1, by omega⟩
          exact hsh.kid' (by simp [RE.kids]))
        exact ⟨by rw [h2], h3, h4⟩
    have Hok := Lib.hid hok
    have hne : ∀ b ∈ F, b ≠ w.heap.size := fun b hb => by have := hFlt b hb; omega
    clear hok hn3 hn4 hps hb1 hF
    go_wp2_with fail
    refine bodyPost_ret (v := .tuple #[.agg #[.int .i64 7, .string ⟨#[]⟩, .slice (some ⟨w1.heap.size + 1, 0, none⟩) 1 1], .int .i64 nx]) (by simp [results, Tryd.results89, go_sem, r0, r1, r2, World.cell?_alloc_lt, rl]) rfl ?_
    refine RetSp.fin1 (own_allocN (own_setN (own_setN (own_setN ho hne _ _) hne _ _) hne _ _) _) hFlt hnm (by simp [World.setCell]) ?_ Hok.out
    repeat (first | exact hb2 | refine Below.alloc ?_ (by simp <;> omega) _ | refine Below.setCell ?_ (by simp <;> omega) _)
  have b43 : ((s[k].toNat : Int) == 43) = false := by
    rw [beq_eq_false_iff_ne]
    exact fun e => c43 (UInt8.toNat_inj.1 (by show s[k].toNat = 43; omega))
  have Nn : Hid (¬ letHead (rest s k) → ∀ x0 u, Ps .atom (rest s k) x0 u → ¬ Shp d x0) := fun h x0 u hp _ => name_none hlt c40 c126 c43 h x0 u hp
  clear hc ihP ihA c40 c126 c43
  obtain ⟨W, hW⟩ : ∃ W, W = w.alloc (.cells #[.int .i64 0, .string ⟨#[]⟩, .slice none 0 0] 29) := ⟨_, rfl⟩
  have hbW : Below w.heap.size w W := by rw [hW]; exact (Below.refl _ _).alloc (Nat.le_refl _) _
  have rbW : Own W w.heap.size 29 #[.int .i64 0, .string ByteArray.empty, .slice none 0 0] := by rw [hW]; exact rb
  clear rb
  go_wp2_with fail
  rw [← hW]
  clear hW
  obtain ⟨r0, r1, r2, g0, g1, g2, rl⟩ := rbW.res'
  go_loopg [13] (s.size - k) (fun g s13 wr => ∃ j : Nat, k ≤ j ∧ j ≤ s.size ∧ g = s.size - j ∧ s13 = .int .i64 j ∧ Hid (∀ c ∈ (rest s k).take (j - k), isLet c) ∧ W = wr)
  case atStart => exact ⟨k, Nat.le_refl _, by omega, rfl, rfl, fun c hc => by simp at hc, rfl⟩
  case round =>
    obtain ⟨j, hkj, hj, rfl, rfl, hall, rfl⟩ := hrel
    have fin : ¬ letHead (rest s j) → k ≠ j → SpOk .atom s k d (.mk 1 (s.extract k j) []) j := fun h1 h2 => name_done hkj hj hs hall.out h1 h2 hd0
    have Fin := Lib.hid fin
    have hszn : (s.extract k j).size ≤ 300 := by rw [ByteArray.size_extract]; omega
    clear fin
    have fin2 : ¬ letHead (rest s j) → (k = j → ∀ x0 u, Ps .atom (rest s k) x0 u → ¬ Shp d x0) := fun h e => by subst e; exact Nn.out h
    have Fin2 := Lib.hid fin2
    clear fin2 Nn
    have hno : ∀ h : j < s.size, ¬ isLet s[j] → ¬ letHead (rest s j) := fun h hn hl => by rw [rest_lt h] at hl; exact hn hl
    have hno2 : s.size ≤ j → ¬ letHead (rest s j) := fun h hl => by rw [rest_ge h] at hl; exact hl
    have Hno := Lib.hid hno
    have Hno2 := Lib.hid hno2
    clear hno hno2
    by_cases hlj : j < s.size
    · by_cases h97 : (97 : Int) ≤ (s[j].toNat : Int)
      · by_cases h122 : (s[j].toNat : Int) ≤ 122
        · have d1 : decide ((s[j].toNat : Int) ≥ 97) = true := by simpa using h97
          have d2 : decide ((s[j].toNat : Int) ≤ 122) = true := by simpa using h122
          have Hl := Lib.hid ((let_iff s[j]).2 ⟨h97, h122⟩)
          clear h97 h122
          go_wp2_with fail
          go_roundg (s.size - (j + 1))
          case measure => omega
          case rel =>
            refine ⟨j + 1, by omega, by omega, rfl, by go_num, fun c hc => ?_, rfl⟩
            have hlen : j - k < (rest s k).length := by unfold rest; simp; omega
            have hgj : (rest s k)[j - k]'hlen = s[j] := rest_get hkj hlj hlen
            rw [show j + 1 - k = (j - k) + 1 by omega, List.take_succ_eq_append_getElem hlen, List.mem_append, List.mem_singleton] at hc
            rcases hc with hc | rfl
            · exact hall.out c hc
            · rw [hgj]; exact Hl.out
        · have d1 : decide ((s[j].toNat : Int) ≥ 97) = true := by simpa using h97
          have d2 : decide ((s[j].toNat : Int) ≤ 122) = false := by simpa using h122
          have Hl := Lib.hid (Hno.out hlj fun h => h122 ((let_iff _).1 h).2)
          clear h97 h122
          by_cases hjk : j = k
          · have Hf := Lib.hid (Fin2.out Hl.out hjk.symm)
            subst j
            go_wp2_with fail
            refine bodyPost_ret (v := .tuple #[.agg #[.int .i64 0, .string ⟨#[]⟩, .slice none 0 0], .int .i64 (-1)]) (by simp [results, Tryd.results89, go_sem, r0, r1, r2]) rfl ?_
            refine RetSp.fail ?_ Hf.out
            repeat (first | exact hbW | refine Below.setCell ?_ (by simp <;> omega) _)
          · have Hf := Lib.hid (Fin.out Hl.out (fun e => hjk e.symm))
            have bjk : ((j : Int) == (k : Int)) = false := by rw [beq_eq_false_iff_ne]; omega
            clear hjk
            go_wp2_with fail
            refine bodyPost_ret (v := .tuple #[.agg #[.int .i64 1, .string (s.extract k j), .slice none 0 0], .int .i64 j]) (by simp [results, Tryd.results89, go_sem, r0, r1, r2]) rfl ?_
            exact RetSp.fin (x := .mk 1 (s.extract k j) []) .nil (fun b hb => by cases hb) hszn hbW Hf.out
      · have d1 : decide ((s[j].toNat : Int) ≥ 97) = false := by simpa using h97
        have Hl := Lib.hid (Hno.out hlj fun h => h97 ((let_iff _).1 h).1)
        clear h97
        by_cases hjk : j = k
        · have Hf := Lib.hid (Fin2.out Hl.out hjk.symm)
          subst j
          go_wp2_with fail
          refine bodyPost_ret (v := .tuple #[.agg #[.int .i64 0, .string ⟨#[]⟩, .slice none 0 0], .int .i64 (-1)]) (by simp [results, Tryd.results89, go_sem, r0, r1, r2]) rfl ?_
          refine RetSp.fail ?_ Hf.out
          repeat (first | exact hbW | refine Below.setCell ?_ (by simp <;> omega) _)
        · have Hf := Lib.hid (Fin.out Hl.out (fun e => hjk e.symm))
          have bjk : ((j : Int) == (k : Int)) = false := by rw [beq_eq_false_iff_ne]; omega
          clear hjk
          go_wp2_with fail
          refine bodyPost_ret (v := .tuple #[.agg #[.int .i64 1, .string (s.extract k j), .slice none 0 0], .int .i64 j]) (by simp [results, Tryd.results89, go_sem, r0, r1, r2]) rfl ?_
          exact RetSp.fin (x := .mk 1 (s.extract k j) []) .nil (fun b hb => by cases hb) hszn hbW Hf.out
    · have Hl := Lib.hid (Hno2.out (by omega))
      by_cases hjk : j = k
      · omega
      · have Hf := Lib.hid (Fin.out Hl.out (fun e => hjk e.symm))
        have bjk : ((j : Int) == (k : Int)) = false := by rw [beq_eq_false_iff_ne]; omega
        clear hjk
        go_wp2_with fail
        refine bodyPost_ret (v := .tuple #[.agg #[.int .i64 1, .string (s.extract k j), .slice none 0 0], .int .i64 j]) (by simp [results, Tryd.results89, go_sem, r0, r1, r2]) rfl ?_
        exact RetSp.fin (x := .mk 1 (s.extract k j) []) .nil (fun b hb => by cases hb) hszn hbW Hf.out

end Go.Proofs.YtapelogbceoojaaDoor
