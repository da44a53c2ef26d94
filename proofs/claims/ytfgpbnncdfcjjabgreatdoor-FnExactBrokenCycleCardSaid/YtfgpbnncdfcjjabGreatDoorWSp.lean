/-
  The walks of the reference's reading of expressions: l7Is, l7Op. The walks of the reference's reading of expressions: l7Prime. The walks of the reference's reading of expressions: l7Parse. The walk of spec.ParseRelExpr.
-/
import Derived.Test.YtfgpbnncdfcjjabGreatDoorVal
import Derived.Test.YtfgpbnncdfcjjabGreatDoorWPars
import Derived.Test.YtfgpbnncdfcjjabGreatDoorWText
import Derived.Test.YtfgpbnncdfcjjabGreatDoorRE

/-! The walks of the reference's reading of expressions: l7Is, l7Op. -/
namespace Go.Proofs.YtfgpbnncdfcjjabGreatDoor
open Go.RowKit
set_option linter.unusedVariables false
set_option maxRecDepth 100000

/-- What is left of a text at an offset. -/
def rest (s : ByteArray) (at_ : Nat) : List UInt8 := s.data.toList.drop at_
theorem rest_lt {s : ByteArray} {k : Nat} (h : k < s.size) : rest s k = s[k] :: rest s (k + 1) := by
  unfold rest
  exact List.drop_eq_getElem_cons (by simpa using h)
theorem rest_ge {s : ByteArray} {k : Nat} (h : s.size ≤ k) : rest s k = [] := by
  unfold rest
  exact List.drop_of_length_le (by simpa using h)
def headB (s : ByteArray) (k : Nat) (c : UInt8) : Bool := decide ((rest s k).head? = some c)

set_option maxHeartbeats 400000 in
theorem l7Is_any (s : ByteArray) (k : Nat) (c : UInt8) (w : World) : Calls Tryz.prog 214 #[.string s, .int .i64 k, .int .u8 c.toNat] w (RetQ w (headB s k c)) := by
  by_cases hk : k < s.size
  · by_cases hc : s[k] = c
    · have hcb : ((s[k].toNat : Int) == (c.toNat : Int)) = true := by rw [hc]; simp
      have hh : headB s k c = true := by unfold headB; rw [rest_lt hk]; simp [hc]
      have Hh := Lib.hid hh
      clear hc hh
      go_enter Tryz.func214, Tryz.ntmps214
      go_wp2_with fail
      go_ret
      exact ⟨ret_bool (by rw [Hh.out]), rfl⟩
    · have hcb : ((s[k].toNat : Int) == (c.toNat : Int)) = false := by
        rw [beq_eq_false_iff_ne]
        intro e
        exact hc (UInt8.toNat_inj.1 (by omega))
      have hh : headB s k c = false := by unfold headB; rw [rest_lt hk]; simp [hc]
      have Hh := Lib.hid hh
      clear hc hh
      go_enter Tryz.func214, Tryz.ntmps214
      go_wp2_with fail
      go_ret
      exact ⟨ret_bool (by rw [Hh.out]), rfl⟩
  · have hh : headB s k c = false := by unfold headB; rw [rest_ge (by omega)]; simp
    have Hh := Lib.hid hh
    clear hh
    go_enter Tryz.func214, Tryz.ntmps214
    go_wp2_with fail
    go_ret
    exact ⟨ret_bool (by rw [Hh.out]), rfl⟩

set_option maxHeartbeats 400000 in
theorem l7Is_neg (s : ByteArray) (a : Int) (h : a < 0) (c : UInt8) (w : World) : Calls Tryz.prog 214 #[.string s, .int .i64 a, .int .u8 c.toNat] w (RetQ w false) := by
  have d : decide (a ≥ 0) = false := by rw [decide_eq_false_iff_not]; omega
  go_enter Tryz.func214, Tryz.ntmps214
  go_wp2_with fail
  go_ret
  exact ⟨rfl, rfl⟩

theorem sgn_size' {o : Int} (h1 : 2 ≤ o) (h2 : o ≤ 5) : 0 < (sgn o).size := by
  have h : o = 2 ∨ o = 3 ∨ o = 4 ∨ o = 5 := by omega
  rcases h with rfl | rfl | rfl | rfl <;> decide
theorem sgn_sg' {o : Int} (h1 : 2 ≤ o) (h2 : o ≤ 5) : (sgn o)[0]'(sgn_size' h1 h2) = sg o := by
  have h : o = 2 ∨ o = 3 ∨ o = 4 ∨ o = 5 := by omega
  rcases h with rfl | rfl | rfl | rfl <;> rfl
def RetOp (w : World) (s : ByteArray) (k : Nat) (l : Int) (e : Ending) (w' : World) : Prop :=
  ∃ op : Int, e = .returned (.int .i64 op) ∧ Below w.heap.size w w' ∧ ((op = 0 ∧ ∀ o : Int, 2 ≤ o → o ≤ 5 → lvl o = l → headB s k (sg o) = false) ∨ (2 ≤ op ∧ op ≤ 5 ∧ lvl op = l ∧ headB s k (sg op) = true))

set_option maxHeartbeats 1000000 in
theorem l7Op_any (s : ByteArray) (k : Nat) (l : Int) (w : World) : Calls Tryz.prog 202 #[.string s, .int .i64 k, .int .i64 l] w (RetOp w s k l) := by
  go_enter Tryz.func202, Tryz.ntmps202
  go_wp2_with fail
  go_loopg [7] 4 (fun g s7 wr => ∃ i : Nat, i ≤ 4 ∧ g = 4 - i ∧ s7 = .int .i64 ((i : Int) + 2) ∧ Below w.heap.size w wr ∧ Hid (∀ o : Int, 2 ≤ o → o < i + 2 → lvl o = l → headB s k (sg o) = false))
  case atStart => exact ⟨0, by omega, rfl, by go_num, Below.refl _ _, fun o h1 h2 => by omega⟩
  case round =>
    obtain ⟨i, hi4, rfl, rfl, hb, hno⟩ := hrel
    by_cases hi : i < 4
    · have step : (lvl ((i : Int) + 2) = l → headB s k (sg ((i : Int) + 2)) = false) → ∀ o : Int, 2 ≤ o → o < (i + 1 : Nat) + 2 → lvl o = l → headB s k (sg o) = false := fun h o g1 g2 g3 => by
        by_cases he : o = (i : Int) + 2
        · subst he; exact h g3
        · exact hno.out o g1 (by omega) g3
      have Step := Lib.hid step
      clear step
      by_cases hlv : lvl ((i : Int) + 2) = l
      · have blv : (lvl ((i : Int) + 2) == l) = true := by rw [beq_iff_eq]; exact hlv
        have hsz := sgn_size' (o := (i : Int) + 2) (by omega) (by omega)
        have hszi : (0 : Int) < ((sgn ((i : Int) + 2)).size : Int) := by omega
        have hsg := sgn_sg' (o := (i : Int) + 2) (by omega) (by omega)
        go_wp2_with fail
        refine (l7Level_any _ _).mono ?_
        rintro e3 w3 ⟨rfl, rfl⟩
        go_wp2_with fail
        refine (l7Sign_any _ _ (by omega) (by omega)).mono ?_
        rintro e4 w4 ⟨rfl, hb4⟩
        have hb5 := hb.trans (hb4.mono hb.size)
        go_wp2_with fail
        refine (l7Is_any s k (sg ((i : Int) + 2)) _).mono ?_
        rintro e5 w5 ⟨rfl, rfl⟩
        cases hh : headB s k (sg ((i : Int) + 2))
        · go_wp2_with fail
          go_roundg (4 - (i + 1))
          case measure => omega
          case rel => exact ⟨i + 1, by omega, rfl, by go_num, hb5, Step.out fun _ => hh⟩
        · go_wp2_with fail
          go_ret
          exact ⟨_, rfl, hb5, Or.inr ⟨by omega, by omega, hlv, hh⟩⟩
      · have blv : (lvl ((i : Int) + 2) == l) = false := by rw [beq_eq_false_iff_ne]; exact hlv
        go_wp2_with fail
        refine (l7Level_any _ _).mono ?_
        rintro e3 w3 ⟨rfl, rfl⟩
        go_wp2_with fail
        go_roundg (4 - (i + 1))
        case measure => omega
        case rel => exact ⟨i + 1, by omega, rfl, by go_num, hb, Step.out fun h => absurd h hlv⟩
    · go_wp2_with fail
      go_ret
      exact ⟨0, rfl, hb, Or.inl ⟨rfl, fun o g1 g2 g3 => hno.out o g1 (by omega) g3⟩⟩

end Go.Proofs.YtfgpbnncdfcjjabGreatDoor

/-! The walks of the reference's reading of expressions: l7Prime. -/
namespace Go.Proofs.YtfgpbnncdfcjjabGreatDoor
open Go.RowKit
set_option linter.unusedVariables false
set_option maxRecDepth 100000

def RetSp (c : Cmd) (w : World) (s : ByteArray) (k d : Nat) (e : Ending) (w' : World) : Prop :=
  ∃ (x : RE) (A : Option Addr) (cc : Nat) (F : List Nat) (nx : Int), e = .returned (.tuple #[.agg #[.int .i64 x.op, .string x.name, .slice A x.kids.length cc], .int .i64 nx]) ∧ OwE w' (.slice A x.kids.length cc) x.kids F ∧ (∀ b ∈ F, w.heap.size ≤ b) ∧ x.name.size ≤ 300 ∧ Below w.heap.size w w' ∧ -1 ≤ nx ∧ nx ≤ s.size ∧
    (0 ≤ nx → (k : Int) < nx ∧ (cntE x : Int) ≤ nx - k) ∧ (nx < 0 → cntE x ≤ d + 1) ∧ (∀ x0 u, Ps c (rest s k) x0 u → Shp d x0 → x0 = x ∧ 0 ≤ nx ∧ rest s nx.toNat = u)

theorem cntE_mk (op : Int) (name : ByteArray) : cntE (.mk op name []) = 1 := by rw [cntE, cntL]
/-- Nothing read: the empty expression, -1. -/
theorem RetSp.fail {c : Cmd} {w W : World} {s : ByteArray} {k d : Nat} (hb : Below w.heap.size w W) (hn : ∀ x0 u, Ps c (rest s k) x0 u → ¬ Shp d x0) : RetSp c w s k d (.returned (.tuple #[.agg #[.int .i64 0, .string ⟨#[]⟩, .slice none 0 0], .int .i64 (-1)])) W :=
  ⟨.mk 0 ⟨#[]⟩ [], none, 0, [], -1, rfl, .nil, (fun b hb => by cases hb), (by show ByteArray.size ⟨#[]⟩ ≤ 300; decide), hb, by omega, by omega, by omega, fun _ => by rw [cntE_mk]; omega, fun x0 u hp hs => absurd hs (hn x0 u hp)⟩

theorem own_setN {w : World} {v : Value} {es : List RE} {F : List Nat} (h : OwE w v es F) {b : Nat} (hb : ∀ x ∈ F, x ≠ b) (o : Nat) (u : Value) : OwE (w.setCell ⟨b, o, none⟩ u) v es F :=
  h.of_blocks fun x hx => Below.heap_setCell _ _ _ _ (hb x hx)
theorem own_allocN {w : World} {v : Value} {es : List RE} {F : List Nat} (h : OwE w v es F) (o : Obj) : OwE (w.alloc o) v es F := h.of_blocks fun b hb => Go.Deep.blk_alloc_lt _ _ _ (h.lt b hb)
theorem own_below {w w' : World} {v : Value} {es : List RE} {F : List Nat} (h : OwE w v es F) (hb : Below w.heap.size w w') : OwE w' v es F := h.of_blocks fun b hm => hb.block b (h.lt b hm)
theorem Own.res' {w : World} {b : Nat} {t : TypeId} {v0 v1 v2 : Value} (h : Own w b t #[v0, v1, v2]) : w.cell? ⟨b, 0, none⟩ = some v0 ∧ w.cell? ⟨b, 1, none⟩ = some v1 ∧ w.cell? ⟨b, 2, none⟩ = some v2 ∧ w.frozen? ⟨b, 0, none⟩ = false ∧ w.frozen? ⟨b, 1, none⟩ = false ∧ w.frozen? ⟨b, 2, none⟩ = false ∧ b < w.heap.size :=
  ⟨h.cell rfl, h.cell rfl, h.cell rfl, h.frozen 0, h.frozen 1, h.frozen 2, h.lt⟩
theorem size_set3' (W : World) (a b c : Addr) (v0 v1 v2 : Value) : (((W.setCell a v0).setCell b v1).setCell c v2).heap.size = W.heap.size := by simp [World.setCell]

/-- What the reading says, for an expression x read up to nx. -/
def SpOk (c : Cmd) (s : ByteArray) (k d : Nat) (x : RE) (nx : Int) : Prop :=
  -1 ≤ nx ∧ nx ≤ s.size ∧ (0 ≤ nx → (k : Int) < nx ∧ (cntE x : Int) ≤ nx - k) ∧ (nx < 0 → cntE x ≤ d + 1) ∧ (∀ x0 u, Ps c (rest s k) x0 u → Shp d x0 → x0 = x ∧ 0 ≤ nx ∧ rest s nx.toNat = u)
/-- The block of the result is written. -/
theorem RetSp.fin {c : Cmd} {w W : World} {s : ByteArray} {k d : Nat} {x : RE} {A : Option Addr} {cc : Nat} {F : List Nat} {nx : Int} {v0 v1 v2 : Value} (ho : OwE W (.slice A x.kids.length cc) x.kids F) (hF : ∀ b ∈ F, w.heap.size < b)
    (hn : x.name.size ≤ 300) (m : Below w.heap.size w W) (hp : SpOk c s k d x nx) :
    RetSp c w s k d (.returned (.tuple #[.agg #[.int .i64 x.op, .string x.name, .slice A x.kids.length cc], .int .i64 nx])) (((W.setCell ⟨w.heap.size, 0, none⟩ v0).setCell ⟨w.heap.size, 1, none⟩ v1).setCell ⟨w.heap.size, 2, none⟩ v2) := by
  have hne : ∀ b ∈ F, b ≠ w.heap.size := fun b hb => by have := hF b hb; omega
  exact ⟨x, A, cc, F, nx, rfl, own_setN (own_setN (own_setN ho hne _ _) hne _ _) hne _ _, fun b hb => Nat.le_of_lt (hF b hb), hn, ((m.setCell (Nat.le_refl _) _).setCell (Nat.le_refl _) _).setCell (Nat.le_refl _) _, hp⟩
theorem RetSp.alloc {c : Cmd} {w W : World} {s : ByteArray} {k d : Nat} {e : Ending} (h : RetSp c w s k d e W) (o : Obj) : RetSp c w s k d e (W.alloc o) := by
  obtain ⟨x, A, cc, F, nx, h1, h2, h3, h4, h5, h6⟩ := h
  exact ⟨x, A, cc, F, nx, h1, own_allocN h2 o, h3, h4, h5.alloc h5.size _, h6⟩
/-- .. of one operand, in a block made last. -/
theorem RetSp.fin1 {c : Cmd} {w V : World} {s : ByteArray} {k d m : Nat} {op : Int} {x : RE} {A : Option Addr} {cc : Nat} {F : List Nat} {nx : Int} (ho : OwE V (.slice A x.kids.length cc) x.kids F) (hF : ∀ b ∈ F, w.heap.size < b)
    (hn : x.name.size ≤ 300) (hm : V.heap.size = m) (hb : Below w.heap.size w V) (hp : SpOk c s k d (.mk op ⟨#[]⟩ [x]) nx) :
    RetSp c w s k d (.returned (.tuple #[.agg #[.int .i64 op, .string ⟨#[]⟩, .slice (some ⟨m, 0, none⟩) 1 1], .int .i64 nx])) (V.alloc (.cells #[.int .i64 x.op, .string x.name, .slice A x.kids.length cc] 57)) := by
  subst hm
  have one := ho.one (by omega)
  refine ⟨.mk op ⟨#[]⟩ [x], _, 1, _, nx, rfl, one, fun b hm => ?_, (by show ByteArray.size ⟨#[]⟩ ≤ 300; decide), hb.alloc hb.size _, hp⟩
  rcases List.mem_cons.1 hm with rfl | hm
  · exact hb.size
  · exact Nat.le_of_lt (hF b hm)

theorem ext_rest (s : ByteArray) (k j : Nat) : (s.extract k j).data.toList = (rest s k).take (j - k) := by
  unfold rest
  rw [ByteArray.data_extract, Array.toList_extract, List.extract_eq_take_drop]
theorem take_rest (s : ByteArray) {k j : Nat} (h : k ≤ j) : (rest s k).take (j - k) ++ rest s j = rest s k := by
  have h1 : rest s j = (rest s k).drop (j - k) := by
    unfold rest
    rw [List.drop_drop, show k + (j - k) = j by omega]
  rw [h1, List.take_append_drop]
theorem rest_get {s : ByteArray} {k j : Nat} (h : k ≤ j) (hj : j < s.size) (hl : j - k < (rest s k).length) : (rest s k)[j - k]'hl = s[j] := by
  have h1 := List.getElem_drop (xs := s.data.toList) (i := k) (j := j - k) (h := hl)
  simp only [show k + (j - k) = j by omega] at h1
  exact h1
/-- What the reading of a name comes to. -/
theorem name_done {s : ByteArray} {k d j : Nat} (hkj : k ≤ j) (hj : j ≤ s.size) (hs : s.size ≤ 300) (hlet : ∀ c ∈ (rest s k).take (j - k), isLet c) (hno : ¬ letHead (rest s j)) (hne : k ≠ j) (hd : d ≠ 0) : SpOk .atom s k d (.mk 1 (s.extract k j) []) j := by
  refine ⟨by omega, by omega, fun _ => ⟨by omega, by rw [cntE_mk]; omega⟩, fun h => by omega, fun x0 u hp _ => ?_⟩
  have hn : (rest s k).take (j - k) ≠ [] := fun e => by
    have h1 := congrArg List.length e
    unfold rest at h1
    simp at h1
    omega
  rw [← take_rest s hkj] at hp
  obtain ⟨rfl, rfl⟩ := hp.atom_name hn hlet hno
  rw [← ext_rest, toArray_data']
  exact ⟨rfl, by omega, by rw [Int.toNat_natCast]⟩
theorem name_none {s : ByteArray} {k : Nat} (hk : k < s.size) (h40 : s[k] ≠ 40) (h126 : s[k] ≠ 126) (h43 : s[k] ≠ 43) (hno : ¬ letHead (rest s k)) : ∀ x0 u, ¬ Ps .atom (rest s k) x0 u := fun x0 u hp => by
  obtain ⟨c, t', h, hc⟩ := hp.atom_none
  have h1 := h
  rw [rest_lt hk] at h1
  injection h1 with h1 _
  rcases hc with rfl | rfl | rfl | hc
  · exact h40 h1
  · exact h126 h1
  · exact h43 h1
  · rw [h] at hno; exact hno hc

set_option maxHeartbeats 2000000 in
theorem prime_of (s : ByteArray) (hs : s.size ≤ 300) (k d : Nat) (hk : k ≤ 301) (hd : d ≤ 12)
    (ihP : ∀ k', k < k' → k' ≤ 301 → ∀ d, d ≤ 12 → ∀ w, Calls Tryz.prog 180 #[.string s, .int .i64 (k' : Nat), .int .i64 (d : Nat), .int .i64 3] w (RetSp (.lev 3) w s k' d))
    (ihA : ∀ k', k < k' → k' ≤ 301 → ∀ d, d ≤ 12 → ∀ w, Calls Tryz.prog 201 #[.string s, .int .i64 (k' : Nat), .int .i64 (d : Nat)] w (RetSp .atom w s k' d))
    (w : World) : Calls Tryz.prog 201 #[.string s, .int .i64 k, .int .i64 d] w (RetSp .atom w s k d) := by
  have rb := Own.new w 57 #[.int .i64 0, .string ByteArray.empty, .slice none 0 0]
  go_enter Tryz.func201, Tryz.ntmps201
  by_cases hd0 : d = 0
  · subst hd0
    go_wp2_with fail
    refine bodyPost_ret (v := .tuple #[.agg #[.int .i64 0, .string ⟨#[]⟩, .slice none 0 0], .int .i64 (-1)]) (by simp [results, Tryz.results201, go_sem]) rfl ?_
    exact RetSp.fail ((Below.refl _ _).alloc (Nat.le_refl _) _) (fun x0 u hp hs => hs)
  have bd : decide ((d : Int) < 1) = false := by rw [decide_eq_false_iff_not]; omega
  have bk0 : decide ((k : Int) < 0) = false := by rw [decide_eq_false_iff_not]; omega
  by_cases hks : s.size ≤ k
  · have hkb : decide ((k : Int) ≥ (s.size : Int)) = true := by rw [decide_eq_true_iff]; omega
    have Hn : Hid (∀ x0 u, Ps .atom (rest s k) x0 u → ¬ Shp d x0) := fun x0 u hp _ => by
      rw [rest_ge hks] at hp
      obtain ⟨c, t', h, _⟩ := hp.atom_none
      cases h
    go_wp2_with fail
    refine bodyPost_ret (v := .tuple #[.agg #[.int .i64 0, .string ⟨#[]⟩, .slice none 0 0], .int .i64 (-1)]) (by simp [results, Tryz.results201, go_sem]) rfl ?_
    exact RetSp.fail ((Below.refl _ _).alloc (Nat.le_refl _) _) Hn.out
  have hlt : k < s.size := by omega
  have hc := rest_lt hlt
  have hcb : s[k].toNat < 256 := UInt8.toNat_lt _
  by_cases c40 : s[k] = 40
  · have b40 : ((s[k].toNat : Int) == 40) = true := by rw [c40]; rfl
    have Hc := Lib.hid hc
    have Hc40 := Lib.hid c40
    clear hc c40 ihA
    go_wp2_with fail
    refine (ihP (k + 1) (by omega) (by omega) d hd _).mono ?_
    rintro e1 w1 ⟨x, A, cc, F, nx, rfl, ho, hF, hnm, hb1, hn1, hn2, hn3, hn4, hps⟩
    have hb2 : Below w.heap.size w w1 := ((Below.refl _ _).alloc (Nat.le_refl _) _).trans (hb1.mono (by simp))
    have rb1 := rb.under hb1
    have hFlt : ∀ b ∈ F, w.heap.size < b := fun b hb => by have := hF b hb; simp at this; omega
    have hlt1 := rb1.lt
    obtain ⟨r0, r1, r2, g0, g1, g2, rl⟩ := rb1.res'
    have hps' : ∀ x0 u, Ps .atom (rest s k) x0 u → Shp d x0 → x0 = x ∧ 0 ≤ nx ∧ rest s nx.toNat = 41 :: u := fun x0 u hp hsh => by
      rw [Hc.out, Hc40.out] at hp
      exact hps _ _ hp.atom_par hsh
    have Hps := Lib.hid hps'
    have Hn3 := Lib.hid hn3
    clear hps hps' hn3 hb1 hF hn4 ihP
    by_cases hneg : nx < 0
    · go_wp2_with fail
      refine (l7Is_neg s nx hneg 41 _).mono ?_
      rintro e2 w2 ⟨rfl, rfl⟩
      go_wp2_with fail
      refine bodyPost_ret (v := .tuple #[.agg #[.int .i64 0, .string ⟨#[]⟩, .slice none 0 0], .int .i64 (-1)]) (by simp [results, Tryz.results201, go_sem, r0, r1, r2, World.cell?_alloc_lt, rl]) rfl ?_
      refine RetSp.fail ?_ (fun x0 u hp hsh => by have := (Hps.out x0 u hp hsh).2.1; omega)
      repeat (first | exact hb2 | refine Below.alloc ?_ (by simp <;> omega) _ | refine Below.setCell ?_ (by simp <;> omega) _)
    · obtain ⟨n, rfl⟩ : ∃ n : Nat, nx = n := ⟨nx.toNat, by omega⟩
      go_wp2_with fail
      refine (l7Is_any s n 41 _).mono ?_
      rintro e2 w2 ⟨rfl, rfl⟩
      cases hh : headB s n 41
      · have Hh := Lib.hid hh
        go_wp2_with fail
        refine bodyPost_ret (v := .tuple #[.agg #[.int .i64 0, .string ⟨#[]⟩, .slice none 0 0], .int .i64 (-1)]) (by simp [results, Tryz.results201, go_sem, r0, r1, r2, World.cell?_alloc_lt, rl]) rfl ?_
        refine RetSp.fail ?_ (fun x0 u hp hsh => ?_)
        · repeat (first | exact hb2 | refine Below.alloc ?_ (by simp <;> omega) _ | refine Below.setCell ?_ (by simp <;> omega) _)
        · have h1 := (Hps.out x0 u hp hsh).2.2
          have h2 := Hh.out
          unfold headB at h2
          simp only [Int.toNat_natCast] at h1
          rw [h1] at h2
          simp at h2
      · have hnlt : n < s.size := by
          apply Classical.byContradiction
          intro hge
          unfold headB at hh
          rw [rest_ge (by omega)] at hh
          simp at hh
        have hok : SpOk .atom s k d x ((n : Int) + 1) := by
          refine ⟨by omega, by omega, fun _ => ?_, fun h => by omega, fun x0 u hp hsh => ?_⟩
          · have := Hn3.out (by omega)
            omega
          · obtain ⟨h1, _, h3⟩ := Hps.out x0 u hp hsh
            refine ⟨h1, by omega, ?_⟩
            rw [Int.toNat_natCast, rest_lt hnlt] at h3
            injection h3 with _ h3
        have Hok := Lib.hid hok
        clear hok hh
        go_wp2_with fail
        refine bodyPost_ret (v := .tuple #[.agg #[.int .i64 x.op, .string x.name, .slice A x.kids.length cc], .int .i64 ((n : Int) + 1)]) (by simp [results, Tryz.results201, go_sem, r0, r1, r2, World.cell?_alloc_lt, rl]) rfl ?_
        exact (RetSp.fin ho hFlt hnm hb2 Hok.out).alloc _
  have b40 : ((s[k].toNat : Int) == 40) = false := by
    rw [beq_eq_false_iff_ne]
    exact fun e => c40 (UInt8.toNat_inj.1 (by show s[k].toNat = 40; omega))
  by_cases c126 : s[k] = 126
  · have b126 : ((s[k].toNat : Int) == 126) = true := by rw [c126]; rfl
    have b43 : ((s[k].toNat : Int) == 43) = false := by rw [c126]; rfl
    have Hc := Lib.hid hc
    have Hc126 := Lib.hid c126
    have ihA' : ∀ w, Calls Tryz.prog 201 #[.string s, .int .i64 ((k : Int) + 1), .int .i64 ((d : Int) - 1)] w (RetSp .atom w s (k + 1) (d - 1)) := fun w => by
      have h := ihA (k + 1) (by omega) (by omega) (d - 1) (by omega) w
      rw [show ((k + 1 : Nat) : Int) = (k : Int) + 1 by omega, show ((d - 1 : Nat) : Int) = (d : Int) - 1 by omega] at h
      exact h
    clear hc c126 c40 ihP ihA
    go_wp2_with fail
    refine (ihA' _).mono ?_
    rintro e1 w1 ⟨x, A, cc, F, nx, rfl, ho, hF, hnm, hb1, hn1, hn2, hn3, hn4, hps⟩
    have hb2 : Below w.heap.size w w1 := ((Below.refl _ _).alloc (Nat.le_refl _) _).trans (hb1.mono (by simp))
    have rb1 := rb.under hb1
    have hFlt : ∀ b ∈ F, w.heap.size < b := fun b hb => by have := hF b hb; simp at this; omega
    have hlt1 := rb1.lt
    obtain ⟨r0, r1, r2, g0, g1, g2, rl⟩ := rb1.res'
    have hok : SpOk .atom s k d (.mk 6 ⟨#[]⟩ [x]) nx := by
      refine ⟨hn1, hn2, fun h => ?_, fun h => ?_, fun x0 u hp hsh => ?_⟩
      · rw [cntE, cntL, cntL]; have := hn3 h; omega
      · rw [cntE, cntL, cntL]; have := hn4 h; omega
      · rw [Hc.out, show s[k] = sg 6 from Hc126.out] at hp
        obtain ⟨e1, h1, rfl⟩ := hp.atom_pre (Or.inl rfl)
        obtain ⟨h2, h3, h4⟩ := hps _ _ h1 (by
          obtain ⟨d', rfl⟩ : ∃ d', d = d' + 1 := ⟨d - 1, by omega⟩
          exact hsh.kid' (by simp [RE.kids]))
        exact ⟨by rw [h2], h3, h4⟩
    have Hok := Lib.hid hok
    have hne : ∀ b ∈ F, b ≠ w.heap.size := fun b hb => by have := hFlt b hb; omega
    clear hok hn3 hn4 hps hb1 hF
    go_wp2_with fail
    refine bodyPost_ret (v := .tuple #[.agg #[.int .i64 6, .string ⟨#[]⟩, .slice (some ⟨w1.heap.size + 1, 0, none⟩) 1 1], .int .i64 nx]) (by simp [results, Tryz.results201, go_sem, r0, r1, r2, World.cell?_alloc_lt, rl]) rfl ?_
    refine RetSp.fin1 (own_allocN (own_setN (own_setN (own_setN ho hne _ _) hne _ _) hne _ _) _) hFlt hnm (by simp [World.setCell]) ?_ Hok.out
    repeat (first | exact hb2 | refine Below.alloc ?_ (by simp <;> omega) _ | refine Below.setCell ?_ (by simp <;> omega) _)
  have b126 : ((s[k].toNat : Int) == 126) = false := by
    rw [beq_eq_false_iff_ne]
    exact fun e => c126 (UInt8.toNat_inj.1 (by show s[k].toNat = 126; omega))
  by_cases c43 : s[k] = 43
  · have b43 : ((s[k].toNat : Int) == 43) = true := by rw [c43]; rfl
    have Hc := Lib.hid hc
    have Hc43 := Lib.hid c43
    have ihA' : ∀ w, Calls Tryz.prog 201 #[.string s, .int .i64 ((k : Int) + 1), .int .i64 ((d : Int) - 1)] w (RetSp .atom w s (k + 1) (d - 1)) := fun w => by
      have h := ihA (k + 1) (by omega) (by omega) (d - 1) (by omega) w
      rw [show ((k + 1 : Nat) : Int) = (k : Int) + 1 by omega, show ((d - 1 : Nat) : Int) = (d : Int) - 1 by omega] at h
      exact h
    clear hc c43 c126 c40 ihP ihA
    go_wp2_with fail
    refine (ihA' _).mono ?_
    rintro e1 w1 ⟨x, A, cc, F, nx, rfl, ho, hF, hnm, hb1, hn1, hn2, hn3, hn4, hps⟩
    have hb2 : Below w.heap.size w w1 := ((Below.refl _ _).alloc (Nat.le_refl _) _).trans (hb1.mono (by simp))
    have rb1 := rb.under hb1
    have hFlt : ∀ b ∈ F, w.heap.size < b := fun b hb => by have := hF b hb; simp at this; omega
    have hlt1 := rb1.lt
    obtain ⟨r0, r1, r2, g0, g1, g2, rl⟩ := rb1.res'
    have hok : SpOk .atom s k d (.mk 7 ⟨#[]⟩ [x]) nx := by
      refine ⟨hn1, hn2, fun h => ?_, fun h => ?_, fun x0 u hp hsh => ?_⟩
      · rw [cntE, cntL, cntL]; have := hn3 h; omega
      · rw [cntE, cntL, cntL]; have := hn4 h; omega
      · rw [Hc.out, show s[k] = sg 7 from Hc43.out] at hp
        obtain ⟨e1, h1, rfl⟩ := hp.atom_pre (Or.inr rfl)
        obtain ⟨h2, h3, h4⟩ := hps _ _ h1 (by
          obtain ⟨d', rfl⟩ : ∃ d', d = d' + 1 := ⟨d - 1, by omega⟩
          exact hsh.kid' (by simp [RE.kids]))
        exact ⟨by rw [h2], h3, h4⟩
    have Hok := Lib.hid hok
    have hne : ∀ b ∈ F, b ≠ w.heap.size := fun b hb => by have := hFlt b hb; omega
    clear hok hn3 hn4 hps hb1 hF
    go_wp2_with fail
    refine bodyPost_ret (v := .tuple #[.agg #[.int .i64 7, .string ⟨#[]⟩, .slice (some ⟨w1.heap.size + 1, 0, none⟩) 1 1], .int .i64 nx]) (by simp [results, Tryz.results201, go_sem, r0, r1, r2, World.cell?_alloc_lt, rl]) rfl ?_
    refine RetSp.fin1 (own_allocN (own_setN (own_setN (own_setN ho hne _ _) hne _ _) hne _ _) _) hFlt hnm (by simp [World.setCell]) ?_ Hok.out
    repeat (first | exact hb2 | refine Below.alloc ?_ (by simp <;> omega) _ | refine Below.setCell ?_ (by simp <;> omega) _)
  have b43 : ((s[k].toNat : Int) == 43) = false := by
    rw [beq_eq_false_iff_ne]
    exact fun e => c43 (UInt8.toNat_inj.1 (by show s[k].toNat = 43; omega))
  have Nn : Hid (¬ letHead (rest s k) → ∀ x0 u, Ps .atom (rest s k) x0 u → ¬ Shp d x0) := fun h x0 u hp _ => name_none hlt c40 c126 c43 h x0 u hp
  clear hc ihP ihA c40 c126 c43
  obtain ⟨W, hW⟩ : ∃ W, W = w.alloc (.cells #[.int .i64 0, .string ⟨#[]⟩, .slice none 0 0] 57) := ⟨_, rfl⟩
  have hbW : Below w.heap.size w W := by rw [hW]; exact (Below.refl _ _).alloc (Nat.le_refl _) _
  have rbW : Own W w.heap.size 57 #[.int .i64 0, .string ByteArray.empty, .slice none 0 0] := by rw [hW]; exact rb
  clear rb
  go_wp2_with fail
  rw [← hW]
  clear hW
  obtain ⟨r0, r1, r2, g0, g1, g2, rl⟩ := rbW.res'
  go_loopg [13] (s.size - k) (fun g s13 wr => ∃ j : Nat, k ≤ j ∧ j ≤ s.size ∧ g = s.size - j ∧ s13 = .int .i64 j ∧ Hid (∀ c ∈ (rest s k).take (j - k), isLet c) ∧ W = wr)
  case atStart => exact ⟨k, Nat.le_refl _, by omega, rfl, rfl, fun c hc => by simp at hc, rfl⟩
  case round =>
    obtain ⟨j, hkj, hj, rfl, rfl, hall, rfl⟩ := hrel
    have fin : ¬ letHead (rest s j) → k ≠ j → SpOk .atom s k d (.mk 1 (s.extract k j) []) j := fun h1 h2 => name_done hkj hj hs hall.out h1 h2 hd0
    have Fin := Lib.hid fin
    have hszn : (s.extract k j).size ≤ 300 := by rw [ByteArray.size_extract]; omega
    clear fin
    have fin2 : ¬ letHead (rest s j) → (k = j → ∀ x0 u, Ps .atom (rest s k) x0 u → ¬ Shp d x0) := fun h e => by subst e; exact Nn.out h
    have Fin2 := Lib.hid fin2
    clear fin2 Nn
    have hno : ∀ h : j < s.size, ¬ isLet s[j] → ¬ letHead (rest s j) := fun h hn hl => by rw [rest_lt h] at hl; exact hn hl
    have hno2 : s.size ≤ j → ¬ letHead (rest s j) := fun h hl => by rw [rest_ge h] at hl; exact hl
    have Hno := Lib.hid hno
    have Hno2 := Lib.hid hno2
    clear hno hno2
    by_cases hlj : j < s.size
    · by_cases h97 : (97 : Int) ≤ (s[j].toNat : Int)
      · by_cases h122 : (s[j].toNat : Int) ≤ 122
        · have d1 : decide ((s[j].toNat : Int) ≥ 97) = true := by simpa using h97
          have d2 : decide ((s[j].toNat : Int) ≤ 122) = true := by simpa using h122
          have Hl := Lib.hid ((let_iff s[j]).2 ⟨h97, h122⟩)
          clear h97 h122
          go_wp2_with fail
          go_roundg (s.size - (j + 1))
          case measure => omega
          case rel =>
            refine ⟨j + 1, by omega, by omega, rfl, by go_num, fun c hc => ?_, rfl⟩
            have hlen : j - k < (rest s k).length := by unfold rest; simp; omega
            have hgj : (rest s k)[j - k]'hlen = s[j] := rest_get hkj hlj hlen
            rw [show j + 1 - k = (j - k) + 1 by omega, List.take_succ_eq_append_getElem hlen, List.mem_append, List.mem_singleton] at hc
            rcases hc with hc | rfl
            · exact hall.out c hc
            · rw [hgj]; exact Hl.out
        · have d1 : decide ((s[j].toNat : Int) ≥ 97) = true := by simpa using h97
          have d2 : decide ((s[j].toNat : Int) ≤ 122) = false := by simpa using h122
          have Hl := Lib.hid (Hno.out hlj fun h => h122 ((let_iff _).1 h).2)
          clear h97 h122
          by_cases hjk : j = k
          · have Hf := Lib.hid (Fin2.out Hl.out hjk.symm)
            subst j
            go_wp2_with fail
            refine bodyPost_ret (v := .tuple #[.agg #[.int .i64 0, .string ⟨#[]⟩, .slice none 0 0], .int .i64 (-1)]) (by simp [results, Tryz.results201, go_sem, r0, r1, r2]) rfl ?_
            refine RetSp.fail ?_ Hf.out
            repeat (first | exact hbW | refine Below.setCell ?_ (by simp <;> omega) _)
          · have Hf := Lib.hid (Fin.out Hl.out (fun e => hjk e.symm))
            have bjk : ((j : Int) == (k : Int)) = false := by rw [beq_eq_false_iff_ne]; omega
            clear hjk
            go_wp2_with fail
            refine bodyPost_ret (v := .tuple #[.agg #[.int .i64 1, .string (s.extract k j), .slice none 0 0], .int .i64 j]) (by simp [results, Tryz.results201, go_sem, r0, r1, r2]) rfl ?_
            exact RetSp.fin (x := .mk 1 (s.extract k j) []) .nil (fun b hb => by cases hb) hszn hbW Hf.out
      · have d1 : decide ((s[j].toNat : Int) ≥ 97) = false := by simpa using h97
        have Hl := Lib.hid (Hno.out hlj fun h => h97 ((let_iff _).1 h).1)
        clear h97
        by_cases hjk : j = k
        · have Hf := Lib.hid (Fin2.out Hl.out hjk.symm)
          subst j
          go_wp2_with fail
          refine bodyPost_ret (v := .tuple #[.agg #[.int .i64 0, .string ⟨#[]⟩, .slice none 0 0], .int .i64 (-1)]) (by simp [results, Tryz.results201, go_sem, r0, r1, r2]) rfl ?_
          refine RetSp.fail ?_ Hf.out
          repeat (first | exact hbW | refine Below.setCell ?_ (by simp <;> omega) _)
        · have Hf := Lib.hid (Fin.out Hl.out (fun e => hjk e.symm))
          have bjk : ((j : Int) == (k : Int)) = false := by rw [beq_eq_false_iff_ne]; omega
          clear hjk
          go_wp2_with fail
          refine bodyPost_ret (v := .tuple #[.agg #[.int .i64 1, .string (s.extract k j), .slice none 0 0], .int .i64 j]) (by simp [results, Tryz.results201, go_sem, r0, r1, r2]) rfl ?_
          exact RetSp.fin (x := .mk 1 (s.extract k j) []) .nil (fun b hb => by cases hb) hszn hbW Hf.out
    · have Hl := Lib.hid (Hno2.out (by omega))
      by_cases hjk : j = k
      · omega
      · have Hf := Lib.hid (Fin.out Hl.out (fun e => hjk e.symm))
        have bjk : ((j : Int) == (k : Int)) = false := by rw [beq_eq_false_iff_ne]; omega
        clear hjk
        go_wp2_with fail
        refine bodyPost_ret (v := .tuple #[.agg #[.int .i64 1, .string (s.extract k j), .slice none 0 0], .int .i64 j]) (by simp [results, Tryz.results201, go_sem, r0, r1, r2]) rfl ?_
        exact RetSp.fin (x := .mk 1 (s.extract k j) []) .nil (fun b hb => by cases hb) hszn hbW Hf.out

end Go.Proofs.YtfgpbnncdfcjjabGreatDoor

/-! The walks of the reference's reading of expressions: l7Parse. -/
namespace Go.Proofs.YtfgpbnncdfcjjabGreatDoor
open Go.RowKit
set_option linter.unusedVariables false
set_option maxRecDepth 100000

set_option maxHeartbeats 1000000 in
theorem sp_zero (s : ByteArray) (k d : Nat) (ih : ∀ w, Calls Tryz.prog 201 #[.string s, .int .i64 k, .int .i64 d] w (RetSp .atom w s k d))
    (w : World) : Calls Tryz.prog 180 #[.string s, .int .i64 k, .int .i64 d, .int .i64 0] w (RetSp (.lev 0) w s k d) := by
  have rb := Own.new w 57 #[.int .i64 0, .string ByteArray.empty, .slice none 0 0]
  go_enter Tryz.func180, Tryz.ntmps180
  go_wp2_with fail
  refine (ih _).mono ?_
  rintro e1 w1 ⟨x, A, cc, F, nx, rfl, ho, hF, hnm, hb1, hp⟩
  have hb2 : Below w.heap.size w w1 := ((Below.refl _ _).alloc (Nat.le_refl _) _).trans (hb1.mono (by simp))
  have rb1 := rb.under hb1
  have hFlt : ∀ b ∈ F, w.heap.size < b := fun b hb => by have := hF b hb; simp at this; omega
  obtain ⟨r0, r1, r2, g0, g1, g2, rl⟩ := rb1.res'
  have hok : SpOk (.lev 0) s k d x nx := ⟨hp.1, hp.2.1, hp.2.2.1, hp.2.2.2.1, fun x0 u h => hp.2.2.2.2 x0 u h.lev_zero⟩
  have Hok := Lib.hid hok
  clear hok hp hb1 hF
  go_wp2_with fail
  refine bodyPost_ret (v := .tuple #[.agg #[.int .i64 x.op, .string x.name, .slice A x.kids.length cc], .int .i64 nx]) (by simp [results, Tryz.results180, go_sem, r0, r1, r2]) rfl ?_
  exact RetSp.fin ho hFlt hnm hb2 Hok.out

/-- The loop of l7Parse: what is on the left so far, and where it ends. -/
def SpLp (s : ByteArray) (k d l : Nat) (x : RE) (nx : Int) : Prop :=
  -1 ≤ nx ∧ nx ≤ s.size ∧ (0 ≤ nx → (k : Int) < nx ∧ (cntE x : Int) ≤ nx - k) ∧ (∀ x0 u, Ps (.lev (l + 1)) (rest s k) x0 u → Shp d x0 → 0 ≤ nx ∧ Ps (.loop (l + 1) x) (rest s nx.toNat) x0 u)
theorem SpLp.start {s : ByteArray} {k d l : Nat} {x : RE} {nx : Int} (h : SpOk (.lev l) s k d x nx) : SpLp s k d l x nx := by
  refine ⟨h.1, h.2.1, h.2.2.1, fun x0 u hp hs => ?_⟩
  obtain ⟨e, v, h1, h2⟩ := hp.lev_succ
  obtain ⟨rfl, h3, rfl⟩ := h.2.2.2.2 _ _ h1 (h2.loop_shp rfl hs)
  exact ⟨h3, h2⟩
theorem SpLp.stop {s : ByteArray} {k d l : Nat} {x : RE} {n : Nat} (h : SpLp s k d l x n) (hno : ∀ o : Int, 2 ≤ o → o ≤ 5 → lvl o = ((l : Int) + 1) → headB s n (sg o) = false) : SpOk (.lev (l + 1)) s k d x n := by
  refine ⟨h.1, h.2.1, h.2.2.1, fun h => by omega, fun x0 u hp hs => ?_⟩
  obtain ⟨_, h2⟩ := h.2.2.2 x0 u hp hs
  rw [Int.toNat_natCast] at h2 ⊢
  obtain ⟨rfl, rfl⟩ := h2.loop_done fun op h1 h3 h4 => by
    have := hno op h1 h3 (by omega)
    unfold headB at this
    exact of_decide_eq_false this
  exact ⟨rfl, by omega, rfl⟩
theorem head_lt {s : ByteArray} {n : Nat} {c : UInt8} (h : headB s n c = true) : n < s.size ∧ rest s n = c :: rest s (n + 1) := by
  unfold headB at h
  have h1 := of_decide_eq_true h
  have hlt : n < s.size := by
    apply Classical.byContradiction
    intro hge
    rw [rest_ge (by omega)] at h1
    cases h1
  refine ⟨hlt, ?_⟩
  rw [rest_lt hlt] at h1 ⊢
  simp only [List.head?_cons, Option.some.injEq] at h1
  rw [h1]
theorem SpLp.next {s : ByteArray} {k d l n : Nat} {x y : RE} {nx op : Int} (h : SpLp s k d l x n) (h2 : 2 ≤ op) (h5 : op ≤ 5) (hl : lvl op = (l : Int) + 1) (hh : headB s n (sg op) = true)
    (hy : SpOk (.lev l) s (n + 1) d y nx) : SpLp s k d l (.mk op ⟨#[]⟩ [x, y]) nx := by
  refine ⟨hy.1, hy.2.1, fun hn => ?_, fun x0 u hp hs => ?_⟩
  · have h1 := h.2.2.1 (by omega)
    have h3 := hy.2.2.1 hn
    rw [cntE, cntL, cntL, cntL]
    omega
  · obtain ⟨_, h3⟩ := h.2.2.2 x0 u hp hs
    rw [Int.toNat_natCast, (head_lt hh).2] at h3
    obtain ⟨e2, v, h4, h6⟩ := h3.loop_more h2 h5 (by omega)
    have hsh := h6.loop_shp rfl hs
    obtain ⟨rfl, h7, rfl⟩ := hy.2.2.2.2 _ _ h4 (hsh.kid (by simp [RE.kids]))
    exact ⟨h7, h6⟩
theorem SpLp.none {s : ByteArray} {k d l : Nat} {x : RE} {nx : Int} (h : SpLp s k d l x nx) (hn : nx < 0) : ∀ x0 u, Ps (.lev (l + 1)) (rest s k) x0 u → ¬ Shp d x0 := fun x0 u hp hs => by
  have := (h.2.2.2 x0 u hp hs).1
  omega
/-- How far the loop still has to go. -/
def spGap (s : ByteArray) (nx : Int) : Nat := if nx < 0 then 0 else s.size + 1 - nx.toNat
theorem spGap_lt {s : ByteArray} {n : Nat} {nx : Int} (hn : n ≤ s.size) (h : 0 ≤ nx → (n : Int) < nx) : spGap s nx < spGap s n := by
  unfold spGap
  by_cases h0 : nx < 0
  · rw [if_pos h0, if_neg (by omega)]; omega
  · have := h (by omega)
    rw [if_neg h0, if_neg (by omega)]; omega

theorem own_two {w : World} {x y : RE} {v u : Value} {F G : List Nat} {m : Nat} (h : OwE w v x.kids F) (k : OwE w u y.kids G) (hn : x.name.size ≤ 9223372036854775807) (hm : y.name.size ≤ 9223372036854775807) (e : w.heap.size = m) :
    OwE (w.alloc (.cells #[.int .i64 x.op, .string x.name, v, .int .i64 y.op, .string y.name, u] 57)) (.slice (some ⟨m, 0, none⟩) 2 2) [x, y] (m :: (F ++ G)) := by
  subst e
  exact h.two k hn hm

set_option maxHeartbeats 2000000 in
theorem sp_succ (s : ByteArray) (hs : s.size ≤ 300) (l : Nat) (hl : l ≤ 2) (k d : Nat) (hk : k ≤ 301) (hd : d ≤ 12)
    (ihL : ∀ k', k < k' → k' ≤ 301 → ∀ w, Calls Tryz.prog 180 #[.string s, .int .i64 (k' : Nat), .int .i64 (d : Nat), .int .i64 (l : Int)] w (RetSp (.lev l) w s k' d))
    (ih : ∀ w, Calls Tryz.prog 180 #[.string s, .int .i64 k, .int .i64 (d : Nat), .int .i64 (l : Int)] w (RetSp (.lev l) w s k d))
    (w : World) : Calls Tryz.prog 180 #[.string s, .int .i64 k, .int .i64 d, .int .i64 ((l : Int) + 1)] w (RetSp (.lev (l + 1)) w s k d) := by
  have rb := Own.new w 57 #[.int .i64 0, .string ByteArray.empty, .slice none 0 0]
  have hl0 : ((l : Int) + 1 == 0) = false := by rw [beq_eq_false_iff_ne]; omega
  have hl1 : (l : Int) + 1 - 1 = l := by omega
  go_enter Tryz.func180, Tryz.ntmps180
  go_wp2_with fail
  refine (ih _).mono ?_
  rintro e1 w1 ⟨x, A, cc, F, nx, rfl, ho, hF, hnm, hb1, hp⟩
  have hb2 : Below w.heap.size w w1 := ((Below.refl _ _).alloc (Nat.le_refl _) _).trans (hb1.mono (by simp))
  have rb1 := rb.under hb1
  have hFlt : ∀ b ∈ F, w.heap.size < b := fun b hb => by have := hF b hb; simp at this; omega
  have hltb := rb1.lt
  have eb := Own.new w1 57 #[.int .i64 x.op, .string x.name, .slice A x.kids.length cc]
  have Hst := Lib.hid (SpLp.start hp)
  clear hp hb1 hF rb ih
  go_wp2_with fail
  go_loopg [11] (spGap s nx) (fun g s11 wr => ∃ (x : RE) (A : Option Addr) (cc : Nat) (F : List Nat) (nx : Int), g = spGap s nx ∧ s11 = .int .i64 nx ∧ OwE wr (.slice A x.kids.length cc) x.kids F ∧ (∀ b ∈ F, w.heap.size < b ∧ b ≠ w1.heap.size) ∧ x.name.size ≤ 300 ∧ Below w.heap.size w wr ∧
    Own wr w.heap.size 57 #[.int .i64 0, .string ByteArray.empty, .slice none 0 0] ∧ Own wr w1.heap.size 57 #[.int .i64 x.op, .string x.name, .slice A x.kids.length cc] ∧ Hid (SpLp s k d l x nx))
  case atStart => exact ⟨x, A, cc, F, nx, rfl, rfl, own_allocN ho _, fun b hb => ⟨hFlt b hb, by have := ho.lt b hb; omega⟩, hnm, hb2.alloc hb2.size _, rb1.alloc _, eb, Hst⟩
  case round =>
    clear Hst ho hFlt hnm hb2 rb1 eb
    obtain ⟨x, A, cc, F, nx, rfl, rfl, ho, hF, hnm, hb, rb, eb, hlp⟩ := hrel
    obtain ⟨r0, r1, r2, g0, g1, g2, rl⟩ := rb.res'
    have hFlt : ∀ b ∈ F, w.heap.size < b := fun b hb => (hF b hb).1
    by_cases hneg : nx < 0
    · have bn : decide (nx ≥ 0) = false := by rw [decide_eq_false_iff_not]; omega
      have Hn := Lib.hid (hlp.out.none hneg)
      clear hneg
      go_wp2_with fail
      refine bodyPost_ret (v := .tuple #[.agg #[.int .i64 0, .string ⟨#[]⟩, .slice none 0 0], .int .i64 (-1)]) (by simp [results, Tryz.results180, go_sem, r0, r1, r2]) rfl ?_
      refine RetSp.fail ?_ Hn.out
      repeat (first | exact hb | refine Below.setCell ?_ (by simp <;> omega) _)
    · obtain ⟨n, rfl⟩ : ∃ n : Nat, nx = n := ⟨nx.toNat, by omega⟩
      have bn : decide ((n : Int) ≥ 0) = true := by rw [decide_eq_true_iff]; omega
      have hns : n ≤ s.size := by have := hlp.out.2.1; omega
      have hkn : k < n := by have := (hlp.out.2.2.1 (by omega)).1; omega
      clear hneg
      go_wp2_with fail
      refine (l7Op_any s n ((l : Int) + 1) _).mono ?_
      rintro e3 w3 ⟨op, rfl, hb3, hop⟩
      have hbw3 := hb.trans (hb3.mono hb.size)
      have rb3 := rb.under hb3
      have eb3 := eb.under hb3
      have ho3 := own_below ho hb3
      clear rb eb ho hb hb3
      obtain ⟨r0, r1, r2, g0, g1, g2, rl⟩ := rb3.res'
      obtain ⟨x0, x1, x2, y0, y1, y2, xl⟩ := eb3.res'
      rcases hop with ⟨rfl, hno⟩ | ⟨h2, h5, hlv, hh⟩
      · have Hok := Lib.hid (hlp.out.stop hno)
        clear hno
        go_wp2_with fail
        refine bodyPost_ret (v := .tuple #[.agg #[.int .i64 x.op, .string x.name, .slice A x.kids.length cc], .int .i64 n]) (by simp [results, Tryz.results180, go_sem, r0, r1, r2]) rfl ?_
        exact RetSp.fin ho3 hFlt hnm hbw3 Hok.out
      · have bop : (op == 0) = false := by rw [beq_eq_false_iff_ne]; omega
        have hnlt := (head_lt hh).1
        have ihR : ∀ w, Calls Tryz.prog 180 #[.string s, .int .i64 ((n : Int) + 1), .int .i64 (d : Nat), .int .i64 (l : Int)] w (RetSp (.lev l) w s (n + 1) d) := fun w => by
          have h := ihL (n + 1) (by omega) (by omega) w
          rw [show ((n + 1 : Nat) : Int) = (n : Int) + 1 by omega] at h
          exact h
        have hnext := fun (y : RE) (nx : Int) (hy : SpOk (.lev l) s (n + 1) d y nx) => hlp.out.next h2 h5 hlv hh hy
        have Next := Lib.hid hnext
        clear hnext hh hlp ihL
        go_wp2_with fail
        refine (ihR _).mono ?_
        rintro e4 w4 ⟨y, A', cc', F', nx, rfl, hoy, hFy, hny, hb4, hpy⟩
        have hbw4 := hbw3.trans (hb4.mono hbw3.size)
        have rb4 := rb3.under hb4
        have eb4 := eb3.under hb4
        have ho4 := own_below ho3 hb4
        have hz4 := hb4.size
        have hz3 := hbw3.size
        have hF4 := ho3.lt
        have Hlp := Lib.hid (Next.out y nx hpy)
        have hgap : spGap s nx < spGap s n := spGap_lt hns fun h => by have := (hpy.2.2.1 h).1; omega
        clear hpy rb3 eb3 ho3 hb4 x0 x1 x2 y0 y1 y2 Next ihR r0 r1 r2 g0 g1 g2
        obtain ⟨x0, x1, x2, y0, y1, y2, xl4⟩ := eb4.res'
        have hE1 : ∀ b ∈ F, b ≠ w1.heap.size := fun b hb => (hF b hb).2
        have hE2 : ∀ b ∈ F', b ≠ w1.heap.size := fun b hb => by have := hFy b hb; omega
        have two := own_two (own_allocN (own_setN (own_setN (own_setN ho4 hE1 0 (.int .i64 op)) hE1 1 (.string ⟨#[]⟩)) hE1 2 (.slice (some ⟨w4.heap.size + 1, 0, none⟩) 2 2)) (.cells #[.int .i64 y.op, .string y.name, .slice A' y.kids.length cc'] 57))
          (own_allocN (own_setN (own_setN (own_setN hoy hE2 0 (.int .i64 op)) hE2 1 (.string ⟨#[]⟩)) hE2 2 (.slice (some ⟨w4.heap.size + 1, 0, none⟩) 2 2)) (.cells #[.int .i64 y.op, .string y.name, .slice A' y.kids.length cc'] 57)) (by omega) (by omega) (m := w4.heap.size + 1) (by simp [World.setCell])
        have hF2 : ∀ b ∈ ((w4.heap.size + 1) :: (F ++ F')), w.heap.size < b ∧ b ≠ w1.heap.size := fun b hb => by
          rcases List.mem_cons.1 hb with rfl | hb
          · omega
          · rcases List.mem_append.1 hb with hb | hb
            · exact hF b hb
            · have := hFy b hb; omega
        have R4 := ((rb4.far (by show w.heap.size ≠ w1.heap.size; omega) (a := ⟨w1.heap.size, 0, none⟩) (.int .i64 op)).far (by show w.heap.size ≠ w1.heap.size; omega) (a := ⟨w1.heap.size, 1, none⟩) (.string ⟨#[]⟩)).far (by show w.heap.size ≠ w1.heap.size; omega) (a := ⟨w1.heap.size, 2, none⟩) (.slice (some ⟨w4.heap.size + 1, 0, none⟩) 2 2)
        have E4 := ((eb4.set 0 (.int .i64 op)).set 1 (.string ⟨#[]⟩)).set 2 (.slice (some ⟨w4.heap.size + 1, 0, none⟩) 2 2)
        have Two := Lib.hid two
        clear two ho4 hoy rb4 eb4
        go_wp2_with fail
        go_roundg (spGap s nx)
        case measure => exact hgap
        case rel =>
          refine ⟨.mk op ⟨#[]⟩ [x, y], _, 2, _, nx, rfl, rfl, Two.out, hF2, (by show ByteArray.size ⟨#[]⟩ ≤ 300; decide), ?_, (R4.alloc _).alloc _, (E4.alloc _).alloc _, Hlp⟩
          repeat (first | exact hbw4 | refine Below.alloc ?_ (by simp <;> omega) _ | refine Below.setCell ?_ (by simp <;> omega) _)

/-- l7Prime and l7Parse, wherever they begin. -/
theorem sp_all (s : ByteArray) (hs : s.size ≤ 300) (N : Nat) : ∀ k : Nat, 301 - k = N → k ≤ 301 → ∀ d : Nat, d ≤ 12 →
    (∀ w, Calls Tryz.prog 201 #[.string s, .int .i64 k, .int .i64 d] w (RetSp .atom w s k d)) ∧
    ∀ l : Nat, l ≤ 3 → ∀ w, Calls Tryz.prog 180 #[.string s, .int .i64 k, .int .i64 d, .int .i64 (l : Int)] w (RetSp (.lev l) w s k d) := by
  induction N using Nat.strongRecOn with
  | _ N ih =>
    intro k hN hk d hd
    have smA := fun (k' : Nat) (h : k < k') (h' : k' ≤ 301) (d : Nat) (hd : d ≤ 12) => (ih (301 - k') (by omega) k' rfl h' d hd).1
    have smL := fun (l : Nat) (hl : l ≤ 3) (k' : Nat) (h : k < k') (h' : k' ≤ 301) (d : Nat) (hd : d ≤ 12) => (ih (301 - k') (by omega) k' rfl h' d hd).2 l hl
    have hA := prime_of s hs k d hk hd (fun k' h h' d hd => smL 3 (by omega) k' h h' d hd) smA
    have h0 := sp_zero s k d hA
    have h1 := sp_succ s hs 0 (by omega) k d hk hd (fun k' h h' => smL 0 (by omega) k' h h' d hd) h0
    have h2 := sp_succ s hs 1 (by omega) k d hk hd (fun k' h h' => smL 1 (by omega) k' h h' d hd) h1
    have h3 := sp_succ s hs 2 (by omega) k d hk hd (fun k' h h' => smL 2 (by omega) k' h h' d hd) h2
    refine ⟨hA, fun l hl => ?_⟩
    match l, hl with
    | 0, _ => exact h0
    | 1, _ => exact h1
    | 2, _ => exact h2
    | 3, _ => exact h3

end Go.Proofs.YtfgpbnncdfcjjabGreatDoor

/-! The walk of spec.ParseRelExpr. -/
namespace Go.Proofs.YtfgpbnncdfcjjabGreatDoor
open Go.RowKit
set_option linter.unusedVariables false
set_option maxRecDepth 100000

theorem rest_zero (s : ByteArray) : rest s 0 = s.data.toList := by unfold rest; rw [List.drop_zero]
theorem rest_nil {s : ByteArray} {k : Nat} (h : rest s k = []) : s.size ≤ k := by
  unfold rest at h
  rw [List.drop_eq_nil_iff] at h
  simpa using h

def RetReadS (w : World) (t : ByteArray) (e : Ending) (w' : World) : Prop :=
  ∃ (x : RE) (b : Bool) (A : Option Addr) (k : Nat) (F : List Nat), e = .returned (.tuple #[.agg #[.int .i64 x.op, .string x.name, .slice A x.kids.length k], .bool b]) ∧ Read t x b ∧ OwE w' (.slice A x.kids.length k) x.kids F ∧ (∀ b ∈ F, w.heap.size ≤ b) ∧ x.name.size ≤ 300 ∧ Below w.heap.size w w'
theorem RetReadS.fail {w W : World} {t : ByteArray} (hb : Below w.heap.size w W) (hn : ∀ y, Val y → ct y ≠ t) : RetReadS w t (.returned (.tuple #[.agg #[.int .i64 0, .string ⟨#[]⟩, .slice none 0 0], .bool false])) W :=
  ⟨.mk 0 ⟨#[]⟩ [], false, none, 0, [], rfl, Or.inr ⟨rfl, rfl, hn⟩, .nil, (fun b hb => by cases hb), (by show ByteArray.size ⟨#[]⟩ ≤ 300; decide), hb⟩

set_option maxHeartbeats 2000000 in
theorem specParse_any (t : ByteArray) (w : World) : Calls Tryz.prog 136 #[.string t] w (RetReadS w t) := by
  have rb := Own.new w 57 #[.int .i64 0, .string ByteArray.empty, .slice none 0 0]
  go_enter Tryz.func136, Tryz.ntmps136
  by_cases hsz : (300 : Int) < (t.size : Int)
  · have hd : decide ((t.size : Int) > 300) = true := by simpa using hsz
    go_wp2_with fail
    refine bodyPost_ret (v := .tuple #[.agg #[.int .i64 0, .string ⟨#[]⟩, .slice none 0 0], .bool false]) (by simp [results, Tryz.results136, go_sem]) rfl ?_
    refine ⟨.mk 0 ⟨#[]⟩ [], false, none, 0, [], rfl, Or.inr ⟨rfl, rfl, fun y hy e => ?_⟩, .nil, (fun b hb => by cases hb), (by show ByteArray.size ⟨#[]⟩ ≤ 300; decide), (Below.refl _ _).alloc (Nat.le_refl _) _⟩
    have := ct_size hy
    rw [e] at this
    omega
  · have hd : decide ((t.size : Int) > 300) = false := by simpa using hsz
    have hp := ((sp_all t (by omega) 301 0 rfl (by omega) 12 (by omega)).2 3 (by omega))
    go_wp2_with fail
    refine (hp _).mono ?_
    rintro e1 w1 ⟨x, A, c, F, nx, rfl, ho, hF, hnm, hb1', hn1, hn2, hn3, hn4, hps⟩
    have hb1 : Below w.heap.size w w1 := ((Below.refl _ _).alloc (Nat.le_refl _) _).trans (hb1'.mono (by simp))
    have rb1 := rb.under hb1'
    have hkey : ∀ y, Val y → ct y = t → y = x ∧ nx = t.size := fun y hy e => by
      have h2 := read_back hy
      rw [e, ← rest_zero] at h2
      obtain ⟨h3, h4, h5⟩ := hps _ _ h2 hy.1
      have := rest_nil h5
      exact ⟨h3, by omega⟩
    have hcnt : cntE x ≤ 1048577 := by
      by_cases h : nx < 0
      · have := hn4 h; omega
      · have := (hn3 (by omega)).2; omega
    have Hkey := Lib.hid hkey
    clear hkey hps hp rb hn3 hn4 hb1'
    obtain ⟨r0, r1, r2, g0, g1, g2, rl⟩ := rb1.res'
    by_cases hnx : nx = t.size
    · subst hnx
      have hrep : RepK w1 A c x := ⟨by omega, RepEs.le (ho.rep (B := 0) (fun b hb => Nat.zero_le _)) (Le.above _ _)⟩
      go_wp2_with fail
      refine (specFormat_any x _ A c hcnt (hrep.le (Le.alloc _ _))).mono ?_
      rintro e2 w2 ⟨rfl, hb2⟩
      have B2 : Below w.heap.size w w2 := (hb1.alloc hb1.size _).trans (hb2.mono (by have := hb1.size; simp; omega))
      have eb2 := ((Own.new w1 57 #[.int .i64 x.op, .string x.name, .slice A x.kids.length c]).under hb2).res'
      obtain ⟨x0, x1, x2, _, _, _, xl⟩ := eb2
      obtain ⟨q0, q1, q2, f0, f1, f2, ql⟩ := ((rb1.alloc (.cells #[.int .i64 x.op, .string x.name, .slice A x.kids.length c] 57)).under hb2).res'
      have ho2 := own_below (own_allocN ho (.cells #[.int .i64 x.op, .string x.name, .slice A x.kids.length c] 57)) hb2
      have hFlt : ∀ b ∈ F, w.heap.size < b := fun b hb => by have := hF b hb; simp at this; omega
      have hFne : ∀ b ∈ F, b ≠ w.heap.size := fun b hb => by have := hFlt b hb; omega
      clear hrep hb2 r0 r1 r2 g0 g1 g2 rl
      by_cases hfm : fmt x = t
      · have hsb := str_eq_true hfm
        by_cases ht : t = ⟨#[]⟩
        · subst ht
          go_wp2_with fail
          refine bodyPost_ret (v := .tuple #[.agg #[.int .i64 0, .string ⟨#[]⟩, .slice none 0 0], .bool false]) (by simp [results, Tryz.results136, go_sem, q0, q1, q2]) rfl ?_
          refine RetReadS.fail ?_ (fun y hy e => ct_ne hy e)
          repeat (first | exact B2 | refine Below.setCell ?_ (by simp <;> omega) _)
        · have hne := str_ne_nil ht
          have hv : Val x := by
            cases hvb : valB x
            · rw [fmt_false hvb] at hfm
              exact absurd hfm.symm ht
            · exact valB_iff.1 hvb
          have hct : ct x = t := by rw [← fmt_true (valB_iff.2 hv)]; exact hfm
          have Hfm := Lib.hid hct
          clear hfm hct
          go_wp2_with fail
          refine bodyPost_ret (v := .tuple #[.agg #[.int .i64 x.op, .string x.name, .slice A x.kids.length c], .bool true]) (by simp [results, Tryz.results136, go_sem, q0, q1, q2]) rfl ?_
          refine ⟨x, true, A, c, F, rfl, Or.inl ⟨rfl, hv, Hfm.out⟩, own_setN (own_setN (own_setN ho2 hFne _ _) hFne _ _) hFne _ _, (fun b hb => Nat.le_of_lt (hFlt b hb)), hnm, ?_⟩
          repeat (first | exact B2 | refine Below.setCell ?_ (by simp <;> omega) _)
      · have hsb := str_eq_false hfm
        have Hn : Hid (∀ y, Val y → ct y ≠ t) := fun y hy e => by
          have h5 := (Hkey.out y hy e).1
          subst h5
          exact hfm (by rw [fmt_true (valB_iff.2 hy), e])
        go_wp2_with fail
        refine bodyPost_ret (v := .tuple #[.agg #[.int .i64 0, .string ⟨#[]⟩, .slice none 0 0], .bool false]) (by simp [results, Tryz.results136, go_sem, q0, q1, q2]) rfl ?_
        refine RetReadS.fail ?_ Hn.out
        repeat (first | exact B2 | refine Below.setCell ?_ (by simp <;> omega) _)
    · have bnx : (nx != (t.size : Int)) = true := by rw [bne_iff_ne]; exact hnx
      have Hn : Hid (∀ y, Val y → ct y ≠ t) := fun y hy e => hnx (Hkey.out y hy e).2
      go_wp2_with fail
      refine bodyPost_ret (v := .tuple #[.agg #[.int .i64 0, .string ⟨#[]⟩, .slice none 0 0], .bool false]) (by simp [results, Tryz.results136, go_sem, r0, r1, r2, World.cell?_alloc_lt, rl]) rfl ?_
      refine RetReadS.fail ?_ Hn.out
      repeat (first | exact hb1 | refine Below.alloc ?_ (by simp <;> omega) _ | refine Below.setCell ?_ (by simp <;> omega) _)

end Go.Proofs.YtfgpbnncdfcjjabGreatDoor
