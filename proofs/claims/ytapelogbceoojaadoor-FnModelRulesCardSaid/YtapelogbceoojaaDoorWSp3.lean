/-
  The walks of the reference's reading of expressions: l7Parse.
-/
import Derived.Test.YtapelogbceoojaaDoorWSp2
namespace Go.Proofs.YtapelogbceoojaaDoor
open Go.RowKit
set_option linter.unusedVariables false
set_option maxRecDepth 100000

set_option maxHeartbeats 1000000 in
theorem sp_zero (s : ByteArray) (k d : Nat) (ih : ∀ w, Calls Tryd.prog 89 #[.string s, .int .i64 k, .int .i64 d] w (RetSp .atom w s k d))
    (w : World) : Calls Tryd.prog 62 #[.string s, .int .i64 k, .int .i64 d, .int .i64 0] w (RetSp (.lev 0) w s k d) := by
  have rb := Own.new w 29 #[.int .i64 0, .string ByteArray.empty, .slice none 0 0]
  go_enter Tryd.func62, Tryd.ntmps62
  go_wp2_with fail
  refine (ih _).mono ?_
  rintro e1 w1 ⟨x, A, cc, F, nx, rfl, ho, hF, hnm, hb1, hp⟩
  have hb2 : Below w.heap.size w w1 := ((Below.refl _ _).alloc (Nat.le_refl _) _).trans (hb1.mono (by simp))
  have rb1 := rb.under hb1
  have hFlt : ∀ b ∈ F, w.heap.size < b := fun b hb => by have := hF b hb; simp at this; omega
  obtain ⟨r0, r1, r2, g0, g1, g2, rl⟩ := rb1.res'
  have hok : SpOk (.lev 0) s k d x nx := ⟨hp.1, hp.2.1, hp.2.2.1, hp.2.2.2.1, fun x0 u h => hp.2.2.2.2 x0 u h.lev_zero⟩
  have Hok := Lib.hid hok
  clear hok hp hb1 hF
  go_wp2_with fail
  refine bodyPost_ret (v := .tuple #[.agg #[.int .i64 x.op, .string x.name, .slice A x.kids.length cc], .int .i64 nx]) (by simp [results, Tryd.results62, go_sem, r0, r1, r2]) rfl ?_
  exact RetSp.fin ho hFlt hnm hb2 Hok.out

/-- The loop of l7Parse: what is on the left so far, and where it ends. -/
def SpLp (s : ByteArray) (k d l : Nat) (x : RE) (nx : Int) : Prop :=
  -1 ≤ nx ∧ nx ≤ s.size ∧ (0 ≤ nx → (k : Int) < nx ∧ (cntE x : Int) ≤ nx - k) ∧ (∀ x0 u, Ps (.lev (l + 1)) (rest s k) x0 u → Shp d x0 → 0 ≤ nx ∧ Ps (.loop (l + 1) x) (rest s nx.toNat) x0 u)
theorem SpLp.start {s : ByteArray} {k d l : Nat} {x : RE} {nx : Int} (h : SpOk (.lev l) s k d x nx) : SpLp s k d l x nx := by
  refine ⟨h.1, h.2.1, h.2.2.1, fun x0 u hp hs => ?_⟩
  obtain ⟨e, v, h1, h2⟩ := hp.lev_succ
  obtain ⟨rfl, h3, rfl⟩ := h.2.2.2.2 _ _ h1 (h2.loop_shp rfl hs)
  exact ⟨h3, h2⟩
theorem SpLp.stop {s : ByteArray} {k d l : Nat} {x : RE} {n : Nat} (h : SpLp s k d l x n) (hno : ∀ o : Int, 2 ≤ o → o ≤ 5 → lvl o = ((l : Int) + 1) → headB s n (sg o) = false) : SpOk (.lev (l + 1)) s k d x n := by
  refine ⟨h.1, h.2.1, h.2.2.1, fun h => by omega, fun x0 u hp hs => ?_⟩
  obtain ⟨_, h2⟩ := h.2.2.2 x0 u hp hs
  rw [Int.toNat_natCast] at h2 ⊢
  obtain ⟨rfl, rfl⟩ := h2.loop_done fun op h1 h3 h4 => by
    have := hno op h1 h3 (by omega)
    unfold headB at this
    exact of_decide_eq_false this
  exact ⟨rfl, by omega, rfl⟩
theorem head_lt {s : ByteArray} {n : Nat} {c : UInt8} (h : headB s n c = true) : n < s.size ∧ rest s n = c :: rest s (n + 1) := by
  unfold headB at h
  have h1 := of_decide_eq_true h
  have hlt : n < s.size := by
    apply Classical.byContradiction
    intro hge
    rw [rest_ge (by omega)] at h1
    cases h1
  refine ⟨hlt, ?_⟩
  rw [rest_lt hlt] at h1 ⊢
  simp only [List.head?_cons, Option.some.injEq] at h1
  rw [h1]
theorem SpLp.next {s : ByteArray} {k d l n : Nat} {x y : RE} {nx op : Int} (h : SpLp s k d l x n) (h2 : 2 ≤ op) (h5 : op ≤ 5) (hl : lvl op = (l : Int) + 1) (hh : headB s n (sg op) = true)
    (hy : SpOk (.lev l) s (n + 1) d y nx) : SpLp s k d l (.mk op ⟨#[]⟩ [x, y]) nx := by
  refine ⟨hy.1, hy.2.1, fun hn => ?_, fun x0 u hp hs => ?_⟩
  · have h1 := h.2.2.1 (by omega)
    have h3 := hy.2.2.1 hn
    rw [cntE, cntL, cntL, cntL]
    omega
  · obtain ⟨_, h3⟩ := h.2.2.2 x0 u hp hs
    rw [Int.toNat_natCast, (head_lt hh).2] at h3
    obtain ⟨e2, v, h4, h6⟩ := h3.loop_more h2 h5 (by omega)
    have hsh := h6.loop_shp rfl hs
    obtain ⟨rfl, h7, rfl⟩ := hy.2.2.2.2 _ _ h4 (hsh.kid (by simp [RE.kids]))
    exact ⟨h7, h6⟩
theorem SpLp.none {s : ByteArray} {k d l : Nat} {x : RE} {nx : Int} (h : SpLp s k d l x nx) (hn : nx < 0) : ∀ x0 u, Ps (.lev (l + 1)) (rest s k) x0 u → ¬ Shp d x0 := fun x0 u hp hs => by
  have := (h.2.2.2 x0 u hp hs).1
  omega
/-- How far the loop still has to go. -/
def spGap (s : ByteArray) (nx : Int) : Nat := if nx < 0 then 0 else s.size + 1 - nx.toNat
theorem spGap_lt {s : ByteArray} {n : Nat} {nx : Int} (hn : n ≤ s.size) (h : 0 ≤ nx → (n : Int) < nx) : spGap s nx < spGap s n := by
  unfold spGap
  by_cases h0 : nx < 0
  · rw [if_pos h0, if_neg (by omega)]; omega
  · have := h (by omega)
    rw [if_neg h0, if_neg (by omega)]; omega

theorem own_two {w : World} {x y : RE} {v u : Value} {F G : List Nat} {m : Nat} (h : OwE w v x.kids F) (k : OwE w u y.kids G) (hn : x.name.size ≤ 9223372036854775807) (hm : y.name.size ≤ 9223372036854775807) (e : w.heap.size = m) :
    OwE (w.alloc (.cells #[.int .i64 x.op, .string x.name, v, .int .i64 y.op, .string y.name, u] 29)) (.slice (some ⟨m, 0, none⟩) 2 2) [x, y] (m :: (F ++ G)) := by
  subst e
  exact h.two k hn hm

set_option maxHeartbeats 2000000 in
theorem sp_succ (s : ByteArray) (hs : s.size ≤ 300) (l : Nat) (hl : l ≤ 2) (k d : Nat) (hk : k ≤ 301) (hd : d ≤ 12)
    (ihL : ∀ k', k < k' → k' ≤ 301 → ∀ w, Calls Tryd.prog 62 #[.string s, .int .i64 (k' : Nat), .int .i64 (d : Nat), .int .i64 (l : Int)] w (RetSp (.lev l) w s k' d))
    (ih : ∀ w, Calls Tryd.prog 62 #[.string s, .int .i64 k, .int .i64 (d : Nat), .int .i64 (l : Int)] w (RetSp (.lev l) w s k d))
    (w : World) : Calls Tryd.prog 62 #[.string s, .int .i64 k, .int .i64 d, .int .i64 ((l : Int) + 1)] w (RetSp (.lev (l + 1)) w s k d) := by
  have rb := Own.new w 29 #[.int .i64 0, .string ByteArray.empty, .slice none 0 0]
  have hl0 : ((l : Int) + 1 == 0) = false := by rw [beq_eq_false_iff_ne]; omega
  have hl1 : (l : Int) + 1 - 1 = l := by omega
  go_enter Tryd.func62, Tryd.ntmps62
  go_wp2_with fail
  refine (ih _).mono ?_
  rintro e1 w1 ⟨x, A, cc, F, nx, rfl, ho, hF, hnm, hb1, hp⟩
  have hb2 : Below w.heap.size w w1 := ((Below.refl _ _).alloc (Nat.le_refl _) _).trans (hb1.mono (by simp))
  have rb1 := rb.under hb1
  have hFlt : ∀ b ∈ F, w.heap.size < b := fun b hb => by have := hF b hb; simp at this; omega
  have hltb := rb1.lt
  have eb := Own.new w1 29 #[.int .i64 x.op, .string x.name, .slice A x.kids.length cc]
  have Hst := Lib.hid (SpLp.start hp)
  clear hp hb1 hF rb ih
  go_wp2_with fail
  go_loopg [11] (spGap s nx) (fun g s11 wr => ∃ (x : RE) (A : Option Addr) (cc : Nat) (F : List Nat) (nx : Int), g = spGap s nx ∧ s11 = .int .i64 nx ∧ OwE wr (.slice A x.kids.length cc) x.kids F ∧ (∀ b ∈ F, w.heap.size < b ∧ b ≠ w1.heap.size) ∧ x.name.size ≤ 300 ∧ Below w.heap.size w wr ∧
    Own wr w.heap.size 29 #[.int .i64 0, .string ByteArray.empty, .slice none 0 0] ∧ Own wr w1.heap.size 29 #[.int .i64 x.op, .string x.name, .slice A x.kids.length cc] ∧ Hid (SpLp s k d l x nx))
  case atStart => exact ⟨x, A, cc, F, nx, rfl, rfl, own_allocN ho _, fun b hb => ⟨hFlt b hb, by have := ho.lt b hb; omega⟩, hnm, hb2.alloc hb2.size _, rb1.alloc _, eb, Hst⟩
  case round =>
    clear Hst ho hFlt hnm hb2 rb1 eb
    obtain ⟨x, A, cc, F, nx, rfl, rfl, ho, hF, hnm, hb, rb, eb, hlp⟩ := hrel
    obtain ⟨r0, r1, r2, g0, g1, g2, rl⟩ := rb.res'
    have hFlt : ∀ b ∈ F, w.heap.size < b := fun b hb => (hF b hb).1
    by_cases hneg : nx < 0
    · have bn : decide (nx ≥ 0) = false := by rw [decide_eq_false_iff_not]; omega
      have Hn := Lib.hid (hlp.out.none hneg)
      clear hneg
      go_wp2_with fail
      refine bodyPost_ret (v := .tuple #[.agg #[.int .i64 0, .string ⟨#[]⟩, .slice none 0 0], .int .i64 (-1)]) (by simp [results, Tryd.results62, go_sem, r0, r1, r2]) rfl ?_
      refine RetSp.fail ?_ Hn.out
      repeat (first | exact hb | refine Below.setCell ?_ (by simp <;> omega) _)
    · obtain ⟨n, rfl⟩ : ∃ n : Nat, nx = n := ⟨nx.toNat, by omega⟩
      have bn : decide ((n : Int) ≥ 0) = true := by rw [decide_eq_true_iff]; omega
      have hns : n ≤ s.size := by have := hlp.out.2.1; omega
      have hkn : k < n := by have := (hlp.out.2.2.1 (by omega)).1; omega
      clear hneg
      go_wp2_with fail
      refine (l7Op_any s n ((l : Int) + 1) _).mono ?_
      rintro e3 w3 ⟨op, rfl, hb3, hop⟩
      have hbw3 := hb.trans (hb3.mono hb.size)
      have rb3 := rb.under hb3
      have eb3 := eb.under hb3
      have ho3 := own_below ho hb3
      clear rb eb ho hb hb3
      obtain ⟨r0, r1, r2, g0, g1, g2, rl⟩ := rb3.res'
      obtain ⟨x0, x1, x2, y0, y1, y2, xl⟩ := eb3.res'
      rcases hop with ⟨rfl, hno⟩ | ⟨h2, h5, hlv, hh⟩
      · have Hok := Lib.hid (hlp.out.stop hno)
        clear hno
        go_wp2_with fail
        refine bodyPost_ret (v := .tuple #[.agg #[.int .i64 x.op, .string x.name, .slice A x.kids.length cc], .int .i64 n]) (by simp [results, Tryd.results62, go_sem, r0, r1, r2]) rfl ?_
        exact RetSp.fin ho3 hFlt hnm hbw3 Hok.out
      · have bop : (op == 0) = false := by rw [beq_eq_false_iff_ne]; omega
        have hnlt := (head_lt hh).1
        have ihR : ∀ w, Calls Tryd.prog 62 #[.string s, .int .i64 ((n : Int) + 1), .int .i64 (d : Nat), .int .i64 (l : Int)] w (RetSp (.lev l) w s (n + 1) d) := fun w => by
          have h := ihL (n + 1) (by omega) (by omega) w
          rw [show ((n + 1 : Nat) : Int) = (n : Int) + 1 by omega] at h
          exact h
        have hnext := fun (y : RE) (nx : Int) (hy : SpOk (.lev l) s (n + 1) d y nx) => hlp.out.next h2 h5 hlv hh hy
        have Next := Lib.hid hnext
        clear hnext hh hlp ihL
        go_wp2_with fail
        refine (ihR _).mono ?_
        rintro e4 w4 ⟨y, A', cc', F', nx, rfl, hoy, hFy, hny, hb4, hpy⟩
        have hbw4 := hbw3.trans (hb4.mono hbw3.size)
        have rb4 := rb3.under hb4
        have eb4 := eb3.under hb4
        have ho4 := own_below ho3 hb4
        have hz4 := hb4.size
        have hz3 := hbw3.size
        have hF4 := ho3.lt
        have Hlp := Lib.hid (Next.out y nx hpy)
        have hgap : spGap s nx < spGap s n := spGap_lt hns fun h => by have := (hpy.2.2.1 h).1; omega
        clear hpy rb3 eb3 ho3 hb4 x0 x1 x2 y0 y1 y2 Next ihR r0 r1 r2 g0 g1 g2
        obtain ⟨x0, x1, x2, y0, y1, y2, xl4⟩ := eb4.res'
        have hE1 : ∀ b ∈ F, b ≠ w1.heap.size := fun b hb => (hF b hb).2
        have hE2 : ∀ b ∈ F', b ≠ w1.heap.size := fun b hb => by have := hFy b hb; omega
        have two := own_two (own_allocN (own_setN (own_setN (own_setN ho4 hE1 0 (.int .i64 op)) hE1 1 (.string ⟨#[]⟩)) hE1 2 (.slice (some ⟨w4.heap.size + 1, 0, none⟩) 2 2)) (.cells #[.int .i64 y.op, .string y.name, .slice A' y.kids.length cc'] 29))
          (own_allocN (own_setN (own_setN (own_setN hoy hE2 0 (.int .i64 op)) hE2 1 (.string ⟨#[]⟩)) hE2 2 (.slice (some ⟨w4.heap.size + 1, 0, none⟩) 2 2)) (.cells #[.int .i64 y.op, .string y.name, .slice A' y.kids.length cc'] 29)) (by omega) (by omega) (m := w4.heap.size + 1) (by simp [World.setCell])
        have hF2 : ∀ b ∈ ((w4.heap.size + 1) :: (F ++ F')), w.heap.size < b ∧ b ≠ w1.heap.size := fun b hb => by
          rcases List.mem_cons.1 hb with rfl | hb
          · omega
          · rcases List.mem_append.1 hb with hb | hb
            · exact hF b hb
            · have := hFy b hb; omega
        have R4 := ((rb4.far (by show w.heap.size ≠ w1.heap.size; omega) (a := ⟨w1.heap.size, 0, none⟩) (.int .i64 op)).far (by show w.heap.size ≠ w1.heap.size; omega) (a := ⟨w1.heap.size, 1, none⟩) (.string ⟨#[]⟩)).far (by show w.heap.size ≠ w1.heap.size; omega) (a := ⟨w1.heap.size, 2, none⟩) (.slice (some ⟨w4.heap.size + 1, 0, none⟩) 2 2)
        have E4 := ((eb4.set 0 (.int .i64 op)).set 1 (.string ⟨#[]⟩)).set 2 (.slice (some ⟨w4.heap.size + 1, 0, none⟩) 2 2)
        have Two := Lib.hid two
        clear two ho4 hoy rb4 eb4
        go_wp2_with fail
        go_roundg (spGap s nx)
        case measure => exact hgap
        case rel =>
          refine ⟨.mk op ⟨#[]⟩ [x, y], _, 2, _, nx, rfl, rfl, Two.out, hF2, (by show ByteArray.size ⟨#[]⟩ ≤ 300; decide), ?_, (R4.alloc _).alloc _, (E4.alloc _).alloc _, Hlp⟩
          repeat (first | exact hbw4 | refine Below.alloc ?_ (by simp <;> omega) _ | refine Below.setCell ?_ (by simp <;> omega) _)

/-- l7Prime and l7Parse, wherever they begin. -/
theorem sp_all (s : ByteArray) (hs : s.size ≤ 300) (N : Nat) : ∀ k : Nat, 301 - k = N → k ≤ 301 → ∀ d : Nat, d ≤ 12 →
    (∀ w, Calls Tryd.prog 89 #[.string s, .int .i64 k, .int .i64 d] w (RetSp .atom w s k d)) ∧
    ∀ l : Nat, l ≤ 3 → ∀ w, Calls Tryd.prog 62 #[.string s, .int .i64 k, .int .i64 d, .int .i64 (l : Int)] w (RetSp (.lev l) w s k d) := by
  induction N using Nat.strongRecOn with
  | _ N ih =>
    intro k hN hk d hd
    have smA := fun (k' : Nat) (h : k < k') (h' : k' ≤ 301) (d : Nat) (hd : d ≤ 12) => (ih (301 - k') (by omega) k' rfl h' d hd).1
    have smL := fun (l : Nat) (hl : l ≤ 3) (k' : Nat) (h : k < k') (h' : k' ≤ 301) (d : Nat) (hd : d ≤ 12) => (ih (301 - k') (by omega) k' rfl h' d hd).2 l hl
    have hA := prime_of s hs k d hk hd (fun k' h h' d hd => smL 3 (by omega) k' h h' d hd) smA
    have h0 := sp_zero s k d hA
    have h1 := sp_succ s hs 0 (by omega) k d hk hd (fun k' h h' => smL 0 (by omega) k' h h' d hd) h0
    have h2 := sp_succ s hs 1 (by omega) k d hk hd (fun k' h h' => smL 1 (by omega) k' h h' d hd) h1
    have h3 := sp_succ s hs 2 (by omega) k d hk hd (fun k' h h' => smL 2 (by omega) k' h h' d hd) h2
    refine ⟨hA, fun l hl => ?_⟩
    match l, hl with
    | 0, _ => exact h0
    | 1, _ => exact h1
    | 2, _ => exact h2
    | 3, _ => exact h3

end Go.Proofs.YtapelogbceoojaaDoor
