/-
  The walks of relOf$1, impl.pairsOf with it, impl.relOf, impl.RelOf.
-/
import Derived.Test.YtfgpbnncdfcjjaaGreatDoorImPr
import Derived.Test.YtfgpbnncdfcjjaaGreatDoorRelS
import Derived.Test.YtfgpbnncdfcjjaaGreatDoorThr2
import Derived.Test.YtfgpbnncdfcjjaaGreatDoorImCV
namespace Go.Proofs.YtfgpbnncdfcjjaaGreatDoor
open Go.RowKit
set_option linter.unusedVariables false
set_option maxRecDepth 100000

theorem imPair_any (p : Prg) (x : Ex) (hok : CandOk p x) (i k : Nat) (hi : i < (evs p).length) (hk : k < (evs p).length) (j : Nat) (hj : j < 10) (w : World) (vp : Value) (A B AL : Option Addr) (c d cL : Nat) (hp : PrgS w vp p) (hr : Room w vp p) (hx : RepX w A c B d x) (hL : EvS w (.slice AL (evs p).length cL) (evs p)) :
    Calls Tryz.prog 123 #[vp, .agg #[.slice A x.from_.length c, .slice B x.order.length d], .slice AL (evs p).length cL, .string (nmAt j), .int .i64 i, .int .i64 k] w (RetB w (pairB p x (evs p) j i k)) := by
  have hn := cand_len hok.1
  have hlf := hok.2.1.1
  have hlo := hok.2.2.1
  obtain ⟨Ap, cp, rfl, _⟩ := SlR.slice hp
  obtain ⟨bL, oL, hAL, hbL, a0, a1, a2, a3, a4⟩ := EvS.get hL hi
  obtain ⟨bL', oL', hAL', _, b0, b1, b2, b3, b4⟩ := EvS.get hL hk
  obtain ⟨rfl, rfl⟩ : bL = bL' ∧ oL = oL' := by rw [hAL] at hAL'; injection hAL' with h; injection h with h1 h2; exact ⟨h1, h2⟩
  obtain ⟨bf, of, hA, _, fi0⟩ := hx.1.get (show i < x.from_.length by omega)
  obtain ⟨bf', of', hA', _, fk0⟩ := hx.1.get (show k < x.from_.length by omega)
  obtain ⟨rfl, rfl⟩ : bf = bf' ∧ of = of' := by rw [hA] at hA'; injection hA' with h; injection h with h1 h2; exact ⟨h1, h2⟩
  obtain ⟨l, hl2, hloc, _⟩ := cand_loc hok hi
  have e1 : x.from_[i]'(by omega) = x.from_.getD i 0 := by simp [show i < x.from_.length by omega]
  have e2 : x.from_[k]'(by omega) = x.from_.getD k 0 := by simp [show k < x.from_.length by omega]
  rw [e1] at fi0
  rw [e2] at fk0
  rw [← pairI_eq hi hk hj]
  refine imPair0_any p.length x.from_.length x.order.length _ _ _ _ i k w AL Ap A B cL cp c d (evs p).length bL oL hAL hi hk (by omega) hbL a0 a1 a2 a3 a4 b0 b1 b2 b3 b4 bf of hA (by omega) (by omega) fi0 fk0 _ _ ?_ ?_ j hj
  · intro s t W hW
    have h := isBef_any x l s t W A B c d (hx.le (Le.below hW)) (by omega)
    rw [hloc]
    have e : ordAt x (l : Int) = x.order.getD l [] := by unfold ordAt; rw [Int.toNat_natCast]
    rw [e]
    exact h
  · intro hpo
    obtain ⟨t, ht, e1, i', j', hij, e2, e3, hj', e4, e5⟩ := po_at (List.getElem_mem hi) (List.getElem_mem hk) hpo
    obtain ⟨bp, op', A', c', rfl, h2, h3, _, h4⟩ := SlR.getSub hp ht
    have hroom := hr _ _ _ _ rfl t ht _ _ _ h3
    obtain ⟨bq, oq, rfl, _⟩ := InsS.get h4 (show i' < p[t].length by omega)
    refine ⟨t, bp, op', bq, oq, c', p[t].length, i', j', e1, e2, e3, hij, by omega, rfl, ht, h2, h3, fun W c'' hW => ?_⟩
    rw [e4, ← e5]
    have hs : InsS W (.slice (some ⟨bq, oq, none⟩) j' c') (p[t].take j') := InsS.take (InsS.le h4 (Le.below hW)) j' c' (by omega)
    have hl : (p[t].take j').length = j' := by rw [List.length_take]; omega
    have hd := InsS.drop hs i' (j' - i') c'' (by rw [hl]; omega)
    have := conF_any ((p[t].take j').drop i') W _ c'' (by rw [List.length_drop, hl]; exact hd)
    rw [List.length_drop, hl] at this
    exact this

/-- What relOf$1 finds in the boxes that it captures. -/
structure Cap4 (W : World) (P X L S : Nat) (vp : Value) (A : Option Addr) (nF c : Nat) (B : Option Addr) (nO d : Nat) (vL : Value) (s : ByteArray) : Prop where
  hp : W.cell? ⟨P, 0, none⟩ = some vp
  x0 : W.cell? ⟨X, 0, none⟩ = some (.slice A nF c)
  x1 : W.cell? ⟨X, 1, none⟩ = some (.slice B nO d)
  hL : W.cell? ⟨L, 0, none⟩ = some vL
  hs : W.cell? ⟨S, 0, none⟩ = some (.string s)
theorem Cap4.le {W W' : World} {P X L S : Nat} {vp : Value} {A : Option Addr} {nF c : Nat} {B : Option Addr} {nO d : Nat} {vL : Value} {s : ByteArray} (h : Cap4 W P X L S vp A nF c B nO d vL s) (hl : Le W W') : Cap4 W' P X L S vp A nF c B nO d vL s :=
  ⟨hl _ _ h.hp, hl _ _ h.x0, hl _ _ h.x1, hl _ _ h.hL, hl _ _ h.hs⟩

theorem relF_any (p : Prg) (x : Ex) (hok : CandOk p x) (i k : Nat) (hi : i < (evs p).length) (hk : k < (evs p).length) (j : Nat) (hj : j < 10) (w : World) (vp : Value) (A B AL : Option Addr) (c d cL : Nat) (hp : PrgS w vp p) (hr : Room w vp p) (hx : RepX w A c B d x) (hL : EvS w (.slice AL (evs p).length cL) (evs p))
    (bP bX bL bS : Nat) (hc : Cap4 w bP bX bL bS vp A x.from_.length c B x.order.length d (.slice AL (evs p).length cL) (nmAt j)) :
    Calls Tryz.prog 122 #[.int .i64 i, .int .i64 k, .pointer (some ⟨bP, 0, none⟩), .pointer (some ⟨bX, 0, none⟩), .pointer (some ⟨bL, 0, none⟩), .pointer (some ⟨bS, 0, none⟩)] w (RetB w (pairB p x (evs p) j i k)) := by
  obtain ⟨Ap, cp, rfl, _⟩ := SlR.slice hp
  have hcall := imPair_any p x hok i k hi hk j hj w _ A B AL c d cL hp hr hx hL
  obtain ⟨c0, c1, c2, c3, c4⟩ := hc
  have l0 := World.block_lt_of_cell? _ _ c0
  clear hp hr hx hL
  go_enter Tryz.func122, Tryz.ntmps122
  go_wp2_with fail
  refine hcall.mono ?_
  rintro e1 w1 ⟨rfl, hb1⟩
  go_wp2_with fail
  go_ret
  exact ⟨rfl, hb1⟩

set_option maxHeartbeats 4000000 in
theorem pairsRel_any (R : Rel) (n : Nat) (hn : n ≤ 16) (w : World) (bP bX bL bS : Nat)
    (hcall : ∀ i k : Nat, i < n → k < n → ∀ W, Below w.heap.size w W → Calls Tryz.prog 122 #[.int .i64 i, .int .i64 k, .pointer (some ⟨bP, 0, none⟩), .pointer (some ⟨bX, 0, none⟩), .pointer (some ⟨bL, 0, none⟩), .pointer (some ⟨bS, 0, none⟩)] W (RetB W (R i k))) :
    Calls Tryz.prog 77 #[.int .i64 n, .func (.func 122) #[] #[.pointer (some ⟨bP, 0, none⟩), .pointer (some ⟨bX, 0, none⟩), .pointer (some ⟨bL, 0, none⟩), .pointer (some ⟨bS, 0, none⟩)]] w (RetRowI w (relN R n)) := by
  have hmk := run_make_any (P := Tryz.prog) 24 3 _ 1 8 Tryz.underlying24 Tryz.infoInt n (by omega) (by omega)
  have Hcall := Lib.hid hcall
  clear hcall
  go_enter Tryz.func77, Tryz.ntmps77
  go_wp2_with fail
  clear hmk
  go_loopg [6, 7, 11, 15] n (fun g s6 s7 s11 s15 wr => ∃ i : Nat, i ≤ n ∧ g = n - i ∧ s11 = .int .i64 i ∧ BitR wr w.heap.size n (midR R n i 0) ∧ Below w.heap.size w wr)
  case atStart => exact ⟨0, Nat.zero_le _, rfl, rfl, by rw [midR_zero]; simpa using BitR.made w n, (Below.refl _ _).alloc (Nat.le_refl _) _⟩
  case round =>
    obtain ⟨i, hin, rfl, rfl, hrow, hb⟩ := hrel
    by_cases hlt : i < n
    · go_wp2_with fail
      go_loopg [7, 15] n (fun g s7 s15 wq => ∃ k : Nat, k ≤ n ∧ g = n - k ∧ s15 = .int .i64 k ∧ BitR wq w.heap.size n (midR R n i k) ∧ Below w.heap.size w wq)
      case atStart => exact ⟨0, Nat.zero_le _, rfl, rfl, hrow, hb⟩
      case round =>
        obtain ⟨k, hkn, rfl, rfl, hrow2, hbq⟩ := hrel
        by_cases hltk : k < n
        · have hc := Hcall.out i k hlt hltk _ hbq
          cases hR : R i k
          · rw [hR] at hc
            have Hn := Lib.hid (midR_same R n i k hR)
            clear hR
            go_wp2_with fail
            refine hc.mono ?_
            rintro e5 w5 ⟨rfl, hb5⟩
            have hb5' := hbq.trans (hb5.mono hbq.size)
            have hrow5 := hrow2.under hb5
            clear hc hb5
            go_wp2_with fail
            go_roundg (n - (k + 1))
            case measure => omega
            case rel => exact ⟨k + 1, by omega, rfl, by go_num, by rw [Hn.out]; exact hrow5, hb5'⟩
          · rw [hR] at hc
            have Hs := Lib.hid (midR_set R n i k)
            have Hn := Lib.hid (bitN_step (R i) k (by omega) hR)
            clear hR
            go_wp2_with fail
            refine hc.mono ?_
            rintro e5 w5 ⟨rfl, hb5⟩
            have hb5' := hbq.trans (hb5.mono hbq.size)
            have hrow5 := hrow2.under hb5
            have q0 := hrow5.cell hlt
            have hg : (midR R n i k).getD i 0 = ((bitN (R i) k : Nat) : Int) := by
              have h1 : i < (midR R n i k).length := by rw [midR_length]; exact hlt
              rw [List.getD_eq_getElem?_getD, List.getElem?_eq_getElem h1]
              exact midR_get R n i k h1
            rw [hg] at q0
            have hfz := hrow5.frozen i
            clear hc hb5 hg
            go_wp2_with fail
            go_region_with (fail)
            all_goals (go_wp2_with fail)
            go_roundg (n - (k + 1))
            case measure => omega
            case rel => exact ⟨k + 1, by omega, rfl, by go_num, by rw [← IntWalk.i64_left, Hn.out, ← Hs.out]; exact (hrow5.set i _).of_block rfl, (hb5'.setCell (p := ⟨w.heap.size, i, none⟩) (Nat.le_refl _) _).drew⟩
        · obtain rfl : k = n := by omega
          go_wp2_with fail
          go_roundg (k - (i + 1))
          case measure => omega
          case rel => exact ⟨i + 1, by omega, rfl, by go_num, by rw [← midR_next]; exact hrow2, hbq⟩
    · obtain rfl : i = n := by omega
      rw [midR_all] at hrow
      go_wp2_with fail
      go_ret
      exact hrow.ret (Nat.le_refl _) (by omega) hb

set_option maxHeartbeats 4000000 in
theorem relOf_any (p : Prg) (x : Ex) (hok : CandOk p x) (j : Nat) (hj : j < 10) (w : World) (vp : Value) (A B : Option Addr) (c d : Nat) (hp : PrgS w vp p) (hr : Room w vp p) (hx : RepX w A c B d x) :
    Calls Tryz.prog 61 #[vp, .agg #[.slice A x.from_.length c, .slice B x.order.length d], .string (nmAt j)] w (RetRowI w (relO p x j)) := by
  have hn := cand_len hok.1
  obtain ⟨Ap, cp, rfl, _⟩ := SlR.slice hp
  obtain ⟨w0, hw0⟩ : ∃ w0, w0 = ((w.alloc (.cells #[.slice Ap p.length cp] 23)).alloc (.cells #[.slice A x.from_.length c, .slice B x.order.length d] 27)).alloc (.cells #[.string (nmAt j)] 9) := ⟨_, rfl⟩
  have oP : Own w0 w.heap.size 23 #[.slice Ap p.length cp] := by rw [hw0]; exact ((Own.new _ _ _).alloc _).alloc _
  have oX : Own w0 (w.heap.size + 1) 27 #[.slice A x.from_.length c, .slice B x.order.length d] := by rw [hw0]; simpa using (Own.new (w.alloc (.cells #[.slice Ap p.length cp] 23)) 27 #[.slice A x.from_.length c, .slice B x.order.length d]).alloc _
  have oS : Own w0 (w.heap.size + 1 + 1) 9 #[.string (nmAt j)] := by rw [hw0]; simpa using Own.new ((w.alloc (.cells #[.slice Ap p.length cp] 23)).alloc (.cells #[.slice A x.from_.length c, .slice B x.order.length d] 27)) 9 #[.string (nmAt j)]
  have hB0 : Below w.heap.size w w0 := by rw [hw0]; exact (((Below.refl _ _).alloc (Nat.le_refl _) _).alloc (by simp) _).alloc (by simp; omega) _
  have hp0 := PrgS.le hp (Le.below hB0)
  have hr0 := hr.le hp (Le.below hB0)
  have hx0 := hx.le (Le.below hB0)
  have hev := events_any p hok.1.1 w0 _ hp0
  have q0 := oP.cell (i := 0) (v := .slice Ap p.length cp) rfl
  clear hp hr hx
  go_enter Tryz.func61, Tryz.ntmps61
  go_wp2_with fail
  rw [← hw0]
  clear hw0
  refine hev.mono ?_
  rintro e1 w1 ⟨u, rfl, hrow, hb1⟩
  have hL : EvS w1 u (evs p) := EvS.le hrow.evS (Le.above _ _)
  have hB1 := hB0.trans (hb1.mono hB0.size)
  obtain ⟨Au, cu, rfl, _⟩ := SlR.slice hL
  obtain ⟨w2, hw2⟩ : ∃ w2, w2 = w1.alloc (.cells #[.slice Au (evs p).length cu] 91) := ⟨_, rfl⟩
  have hb2 : Below w1.heap.size w1 w2 := by rw [hw2]; exact (Below.refl _ _).alloc (Nat.le_refl _) _
  have oL : Own w2 w1.heap.size 91 #[.slice Au (evs p).length cu] := by rw [hw2]; exact Own.new _ _ _
  have hB2 := hB1.trans (hb2.mono hB1.size)
  have hl12 := (Le.below hb1).trans (Le.below hb2)
  have hc : Cap4 w2 w.heap.size (w.heap.size + 1) w1.heap.size (w.heap.size + 1 + 1) (.slice Ap p.length cp) A x.from_.length c B x.order.length d (.slice Au (evs p).length cu) (nmAt j) :=
    ⟨hl12 _ _ q0, hl12 _ _ (oX.cell (i := 0) (v := .slice A x.from_.length c) rfl), hl12 _ _ (oX.cell (i := 1) (v := .slice B x.order.length d) rfl), oL.cell (i := 0) (v := .slice Au (evs p).length cu) rfl, hl12 _ _ (oS.cell (i := 0) (v := .string (nmAt j)) rfl)⟩
  have hp2 := PrgS.le hp0 hl12
  have hr2 := hr0.le hp0 hl12
  have hx2 := hx0.le hl12
  have hL2 := EvS.le hL (Le.below hb2)
  have hcl := pairsRel_any (pairB p x (evs p) j) (evs p).length (by omega) w2 w.heap.size (w.heap.size + 1) w1.heap.size (w.heap.size + 1 + 1) fun i k hi hk W hW =>
    relF_any p x hok i k hi hk j hj W _ A B Au c d cu (PrgS.le hp2 (Le.below hW)) (hr2.le hp2 (Le.below hW)) (hx2.le (Le.below hW)) (EvS.le hL2 (Le.below hW)) _ _ _ _ (hc.le (Le.below hW))
  have Hr : Hid (relO p x j = relN (pairB p x (evs p) j) (evs p).length) := rfl
  have z0 := hc.hL
  clear hev hrow hL hp0 hr0 hx0 hp2 hr2 hx2 hL2 hc oP oX oS oL q0 hb1 hl12
  generalize (evs p).length = n at hcl Hr hn hw2 z0
  generalize pairB p x (evs p) j = R at hcl Hr
  go_wp2_with fail
  rw [← hw2]
  clear hw2
  go_wp2_with fail
  refine hcl.mono ?_
  rintro e3 w3 ⟨A3, c3, rfl, hrow3, hb3⟩
  go_wp2_with fail
  go_ret
  rw [Hr.out]
  exact ⟨A3, c3, rfl, hrow3.rebase fun g hg => Nat.le_trans hB2.size (hrow3.blk hg).1, hB2.trans (hb3.mono hB2.size)⟩

set_option maxHeartbeats 4000000 in
theorem implRelOf_any (p : Prg) (hl : p.length ≤ 1048576) (hls : ∀ t ∈ p, t.length ≤ 1048576) (x : Ex) (hbig : wX x ≤ 1048576) (s : ByteArray) (w : World) (vp : Value) (A B : Option Addr) (c d : Nat) (hg : GN w) (hp : PrgS w vp p) (hr : Room w vp p) (hx : RepX w A c B d x) :
    Calls Tryz.prog 11 #[vp, .agg #[.slice A x.from_.length c, .slice B x.order.length d], .string s] w (RetRowI w (relB p x s)) := by
  obtain ⟨Ap, cp, rfl, _⟩ := SlR.slice hp
  obtain ⟨w0, hw0⟩ : ∃ w0, w0 = w.alloc (.cells #[.slice A x.from_.length c, .slice B x.order.length d] 27) := ⟨_, rfl⟩
  have bx0 : Own w0 w.heap.size 27 #[.slice A x.from_.length c, .slice B x.order.length d] := by rw [hw0]; exact Own.new _ _ _
  have hB0 : Below w.heap.size w w0 := by rw [hw0]; exact (Below.refl _ _).alloc (Nat.le_refl _) _
  have hp0 : PrgS w0 (.slice Ap p.length cp) p := by rw [hw0]; exact PrgS.le hp (Le.alloc _ _)
  have hr0 : Room w0 (.slice Ap p.length cp) p := hr.le hp (Le.below hB0)
  have hx0 : RepX w0 A c B d x := by rw [hw0]; exact hx.le (Le.alloc _ _)
  have q0 := bx0.cell (i := 0) (v := .slice A x.from_.length c) rfl
  have q1 := bx0.cell (i := 1) (v := .slice B x.order.length d) rfl
  have hlf := hx0.1.len
  have hlo := hx0.2.len
  have hca := fun (W : World) (hW : Below w0.heap.size w0 W) => implCand_any p hl hls x W _ A B c d (PrgS.le hp0 (Le.below hW)) (hx0.le (Le.below hW)) hbig
  have Hca := Lib.hid hca
  have hg0 : GN w0 := hg.le (Le.below hB0)
  clear hp hx hca hr hg hls
  cases hc : candB p x
  · have Hr : Hid (relB p x s = []) := relB_not fun h => by rw [hc] at h; exact absurd h.1 (by decide)
    have Hca' : Hid (∀ W, Below w0.heap.size w0 W → Calls Tryz.prog 14 #[.slice Ap p.length cp, .agg #[.slice A x.from_.length c, .slice B x.order.length d]] W (RetB W false)) := by have := Hca.out; rw [hc] at this; exact this
    clear hc
    go_enter Tryz.func11, Tryz.ntmps11
    go_wp2_with fail
    rw [← hw0]
    refine (Hca'.out _ (Below.refl _ _)).mono ?_
    rintro e1 wn ⟨rfl, hbn⟩
    have hBn := hB0.trans (hbn.mono hB0.size)
    go_wp2_with fail
    go_ret
    rw [Hr.out]
    exact RetRowI.mk (RowOf.nil _ _ _ _ _) hBn
  have Hca' : Hid (∀ W, Below w0.heap.size w0 W → Calls Tryz.prog 14 #[.slice Ap p.length cp, .agg #[.slice A x.from_.length c, .slice B x.order.length d]] W (RetB W true)) := by have := Hca.out; rw [hc] at this; exact this
  cases hm : memB nm s
  · have Hr : Hid (relB p x s = []) := relB_not fun h => by rw [hm] at h; exact absurd h.2 (by decide)
    have Hnm : Hid (∀ W, GN W → Calls Tryz.prog 60 #[.string s] W (RetQ W false)) := fun W hW => by have := isRelName_any s W hW; rw [hm] at this; exact this
    clear hc hm
    go_enter Tryz.func11, Tryz.ntmps11
    go_wp2_with fail
    rw [← hw0]
    refine (Hca'.out _ (Below.refl _ _)).mono ?_
    rintro e1 w1 ⟨rfl, hb1⟩
    go_wp2_with fail
    refine (Hnm.out _ (hg0.le (Le.below hb1))).mono ?_
    rintro e2 wn ⟨rfl, rfl⟩
    have hbn := hb1
    have hBn := hB0.trans (hbn.mono hB0.size)
    go_wp2_with fail
    go_ret
    rw [Hr.out]
    exact RetRowI.mk (RowOf.nil _ _ _ _ _) hBn
  · have hok := candB_iff.1 hc
    obtain ⟨hj, he⟩ := nmI_at (memB_iff.1 hm)
    have Hr : Hid (relB p x s = relO p x (nmI s)) := if_pos ⟨hc, hm⟩
    have Hnm : Hid (∀ W, GN W → Calls Tryz.prog 60 #[.string s] W (RetQ W true)) := fun W hW => by have := isRelName_any s W hW; rw [hm] at this; exact this
    have Hrel : Hid (∀ W, Below w0.heap.size w0 W → Calls Tryz.prog 61 #[.slice Ap p.length cp, .agg #[.slice A x.from_.length c, .slice B x.order.length d], .string s] W (RetRowI W (relO p x (nmI s)))) := fun W hW => by
      have := relOf_any p x hok (nmI s) hj W _ A B c d (PrgS.le hp0 (Le.below hW)) (hr0.le hp0 (Le.below hW)) (hx0.le (Le.below hW))
      rw [← he] at this
      exact this
    clear hc hm he
    go_enter Tryz.func11, Tryz.ntmps11
    go_wp2_with fail
    rw [← hw0]
    refine (Hca'.out _ (Below.refl _ _)).mono ?_
    rintro e1 w1 ⟨rfl, hb1⟩
    go_wp2_with fail
    refine (Hnm.out _ (hg0.le (Le.below hb1))).mono ?_
    rintro e2 wn ⟨rfl, rfl⟩
    have hbn := hb1
    have hBn := hB0.trans (hbn.mono hB0.size)
    have n0 := Le.below hbn _ _ q0
    have n1 := Le.below hbn _ _ q1
    go_wp2_with fail
    refine (Hrel.out _ hbn).mono ?_
    rintro e5 w5 ⟨A5, c5, rfl, hrow5, hb5⟩
    go_wp2_with fail
    go_ret
    rw [Hr.out]
    exact ⟨A5, c5, rfl, hrow5.rebase fun g hg => Nat.le_trans hBn.size (hrow5.blk hg).1, hBn.trans (hb5.mono hBn.size)⟩

end Go.Proofs.YtfgpbnncdfcjjaaGreatDoor
