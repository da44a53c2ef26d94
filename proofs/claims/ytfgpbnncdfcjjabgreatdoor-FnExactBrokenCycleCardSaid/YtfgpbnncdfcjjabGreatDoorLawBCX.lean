/-
  The walk of FnExactBrokenCycle: it answers true.
-/
import Derived.Test.YtfgpbnncdfcjjabGreatDoorBrC
import Derived.Test.YtfgpbnncdfcjjabGreatDoorToX
import Derived.Test.YtfgpbnncdfcjjabGreatDoorToUO
import Derived.Test.YtfgpbnncdfcjjabGreatDoorLawEv
namespace Go.Proofs.YtfgpbnncdfcjjabGreatDoor
open Go.RowKit
set_option linter.unusedVariables false
set_option maxRecDepth 100000

theorem eqXF_any (x : Ex) (w : World) (A B A' B' : Option Addr) (c d c' d' : Nat) (hx : RepX w A c B d x) (hy : RepX w A' c' B' d' x) :
    Calls Tryz.prog 17 #[.agg #[.slice A x.from_.length c, .slice B x.order.length d], .agg #[.slice A' x.from_.length c', .slice B' x.order.length d']] w (RetB w true) := by
  have h := eqX_any x x w A B A' B' c d c' d' hx hy
  rw [eqB_self] at h
  exact h
theorem eqUF_any (rs : List RU) (w : World) (v u : Value) (hr : SlR 4 RepU w v rs) (hr' : SlR 4 RepU w u rs) :
    Calls Tryz.prog 18 #[v, u] w (RetB w true) := by
  have h := eqUs_any rs rs w v u hr hr'
  rw [show sameUs rs rs = true from sameUs_iff.2 rfl] at h
  exact h
theorem OwPr.roomF {w : World} {v : Value} {p : Prg} {F : List Nat} (h : OwPr w v p F) : Room w v p := by
  intro b o n c e t ht A m c' hc
  subst e
  rcases h with ⟨e, _, _⟩ | ⟨g, c0, N, G, Fs, e, hc0, hr, hN, _, hel, _⟩
  · injection e with e1; cases e1
  · injection e with e1 e2 e3
    injection e1 with e1
    injection e1 with e1 e4
    subst e1 e4
    have h1 := hr.cell (i := t) (by omega)
    rw [Nat.zero_add, h1] at hc
    injection hc with hc
    have h2 := hel t ht
    have h3 : OwI w (G (t * 1 + 0)) p[t] (Fs t) := h2
    rw [Nat.mul_one, Nat.add_zero, hc] at h3
    obtain ⟨A', c'', e5, hle, _⟩ := h3.slice
    injection e5 with _ e6 e7
    omega
/-- What lasts of the arguments. -/
structure ArgU (W : World) (b : Nat) (Ap : Option Addr) (cp : Nat) (p : Prg) (A : Option Addr) (c : Nat) (B : Option Addr) (d : Nat) (x : Ex) (Am : Option Addr) (cm : Nat) (rs : List RU) : Prop where
  hp : PrgS W (.slice Ap p.length cp) p
  hx : RepX W A c B d x
  hm : SlR 4 RepU W (.slice Am rs.length cm) rs
  hg : GN W
  x0 : W.cell? ⟨b, 0, none⟩ = some (.slice A x.from_.length c)
  x1 : W.cell? ⟨b, 1, none⟩ = some (.slice B x.order.length d)
theorem ArgU.le {W W' : World} {b : Nat} {Ap : Option Addr} {cp : Nat} {p : Prg} {A : Option Addr} {c : Nat} {B : Option Addr} {d : Nat} {x : Ex} {Am : Option Addr} {cm : Nat} {rs : List RU} (h : ArgU W b Ap cp p A c B d x Am cm rs) (hl : Le W W') : ArgU W' b Ap cp p A c B d x Am cm rs :=
  ⟨PrgS.le h.hp hl, h.hx.le hl, RepUs.le h.hm hl, h.hg.le hl, hl _ _ h.x0, hl _ _ h.x1⟩
theorem ArgU.two {W W' : World} {b : Nat} {Ap : Option Addr} {cp : Nat} {p : Prg} {A : Option Addr} {c : Nat} {B : Option Addr} {d : Nat} {x : Ex} {Am : Option Addr} {cm : Nat} {rs : List RU} (h : ArgU W b Ap cp p A c B d x Am cm rs) (hl : Le W W') :
    W'.cell? ⟨b, 0, none⟩ = some (.slice A x.from_.length c) ∧ W'.cell? ⟨b, 1, none⟩ = some (.slice B x.order.length d) :=
  ⟨hl _ _ h.x0, hl _ _ h.x1⟩

theorem eqIE_any (xs : List Int) (w : World) (A A' : Option Addr) (c c' : Nat) (hr : Ints w A c xs) (hr' : Ints w A' c' xs) :
    Calls Tryz.prog 15 #[.slice A xs.length c, .slice A' xs.length c'] w (RetB w true) := by
  have h := eqInts_any xs xs w A A' c c' hr hr'
  rw [eqB_self] at h
  exact h
theorem RetCyc.row {w w' : World} {xs : List Int} {e : Ending} (h : RetCyc w xs e w') : RetRowI w xs e w' := by
  rcases h with ⟨rfl, rfl, hb⟩ | ⟨_, b, o, c, rfl, _, hR, hb⟩
  · exact RetRowI.mk (RowOf.nil _ _ _ _ _) hb
  · exact ⟨_, _, rfl, hR, hb⟩
theorem bfs_len {a : Rel} {n st m : Nat} : ∀ (f : Nat) (Q : List (List Nat)) (S : Nat → Bool), (∀ p ∈ Q, p.length + f ≤ m) → (bfs a n st f Q S).length ≤ m
  | 0, _, _, _ => Nat.zero_le _
  | _ + 1, [], _, _ => Nat.zero_le _
  | f + 1, p :: Q, S, h => by
    have hp := h p List.mem_cons_self
    rw [bfs]
    split
    · omega
    · refine bfs_len f _ _ fun q hq => ?_
      rcases List.mem_append.1 hq with hq | hq
      · have := h q (List.mem_cons_of_mem _ hq); omega
      · unfold newsP at hq
        obtain ⟨j, _, rfl⟩ := List.mem_map.1 hq
        rw [List.length_append, List.length_singleton]
        omega
theorem bestC_len {a : Rel} {n : Nat} : ∀ m, (bestC a n m).length ≤ n + 2
  | 0 => Nat.zero_le _
  | m + 1 => by
    rw [bestC]
    split
    · exact bfs_len _ _ _ fun p hp => by rw [List.mem_singleton.1 hp]; simp; omega
    · exact bestC_len m
theorem bcO_len (p : Prg) (x : Ex) (rs : List RU) : (bcO p x rs).length ≤ 18 := by
  unfold bcO
  split
  · rename_i h
    have hn : (evs p).length ≤ 16 := by have := cand_len (candB_iff.1 h.1).1; omega
    unfold bcN
    split
    · split
      · unfold bcR
        split
        · rw [zs_length]
          exact Nat.le_trans (bestC_len _) (by omega)
        · exact Nat.zero_le _
      · exact Nat.zero_le _
    · exact Nat.zero_le _
  · exact Nat.zero_le _
theorem wtU_sum : ∀ rs : List RU, wSum wtU rs ≤ 3 * rs.length + 2 * wSum wU rs
  | [] => by simp [wSum]
  | r :: rs => by
    have h := wtU_sum rs
    have h1 := cntE_le r.e
    have h2 := cntE_eq r.e
    simp only [wSum, List.length_cons]
    have h3 : wtU r = 3 + 2 * cntL r.e.kids := rfl
    have h4 : wU r = wE r.e := rfl
    omega

set_option maxHeartbeats 4000000 in
theorem lawBCX_walk (p : Prg) (x : Ex) (rs : List RU) (w : World) (v vm : Value) (A B : Option Addr) (c d : Nat) (hg : GN w) (hp : PrgS w v p) (hx : RepX w A c B d x) (hm : SlR 4 RepU w vm rs) :
    Calls Tryz.prog 3 #[v, .agg #[.slice A x.from_.length c, .slice B x.order.length d], vm] w (RetB w true) := by
  obtain ⟨Ap, cp, rfl, _⟩ := hp.slice
  obtain ⟨Am, cm, rfl, hml0⟩ := hm.slice
  obtain ⟨w0, hw0⟩ : ∃ w0, w0 = w.alloc (.cells #[.slice A x.from_.length c, .slice B x.order.length d] 26) := ⟨_, rfl⟩
  have hB : Below w.heap.size w w0 := by rw [hw0]; exact (Below.refl _ _).alloc (Nat.le_refl _) _
  have bx0 : Box2 w0 w.heap.size (.slice A x.from_.length c) (.slice B x.order.length d) := by rw [hw0]; exact Box2.new _ _ _ _
  have S0 : ArgU w0 w.heap.size Ap cp p A c B d x Am cm rs := ⟨PrgS.le hp (Le.below hB), hx.le (Le.below hB), RepUs.le hm (Le.below hB), hg.le (Le.below hB), bx0.c0, bx0.c1⟩
  have HS0 := Lib.hid S0
  have hlx := hx.1.len
  have hly := hx.2.len
  clear hp hx hg hm bx0 S0
  go_enter Tryz.func3, Tryz.ntmps3
  go_wp2_with fail
  rw [← hw0]
  clear hw0
  refine (szInsSS_any p w0 Ap cp 1048576 HS0.out.hp (by omega) (by omega)).mono ?_
  rintro e1 w1 ⟨rfl, hB1⟩
  by_cases hfit : ((p.length + wSum List.length p : Nat) : Int) ≤ 1048576
  case neg =>
    rw [restI_gt (Int.not_le.1 hfit)]
    go_wp2_with fail
    go_ret
    exact ⟨rfl, hB.trans (hB1.mono hB.size)⟩
  rw [restI_le hfit]
  obtain ⟨left, hleft⟩ : ∃ left : Int, left = 1048576 - ((p.length + wSum List.length p : Nat) : Int) := ⟨_, rfl⟩
  rw [← hleft]
  have hl0 : 0 ≤ left := by omega
  have hl1 : left ≤ 1048576 := by omega
  have hl : p.length ≤ 1048576 := by omega
  have hls : ∀ t ∈ p, t.length ≤ 1048576 := fun t ht => by have := wSum_mem List.length ht; omega
  have hwt : wSum wtIs p ≤ 4 * 1048576 := by
    rw [wtIs_small]
    omega
  have Hls := Lib.hid hls
  have S1 := HS0.out.le (Le.below hB1)
  have q0 := S1.x0
  have q1 := S1.x1
  clear hls hleft hfit S1
  go_wp2_with fail
  refine (szX_any x _ _ _ _ _ _ (HS0.out.le (Le.below hB1)).hx hl0 hl1).mono ?_
  rintro e2 w2 ⟨rfl, hb2⟩
  have hB2 := hB1.trans (hb2.mono hB1.size)
  by_cases hwx : (wX x : Int) ≤ left
  case neg =>
    rw [restI_gt (by omega)]
    go_wp2_with fail
    go_ret
    exact ⟨rfl, hB.trans (hB2.mono hB.size)⟩
  rw [restI_le hwx]
  have hwx' : wX x ≤ 1048576 := by omega
  have hwtx : wtX x ≤ 1048576 := by have h1 : wX x = x.from_.length + (x.order.length + wSum List.length x.order) := rfl; have h2 : wtX x = x.from_.length + wSum List.length x.order := rfl; omega
  obtain ⟨left2, hleft2⟩ : ∃ left2 : Int, left2 = left - (wX x : Int) := ⟨_, rfl⟩
  rw [← hleft2]
  have hl02 : 0 ≤ left2 := by omega
  have hl12 : left2 ≤ 1048576 := by omega
  clear q0 q1 hb2 hB1 hleft2
  go_wp2_with fail
  refine (szUs_any rs _ _ _ (HS0.out.le (Le.below hB2)).hm hl02 hl12).mono ?_
  rintro e3 w3 ⟨rfl, hb3⟩
  have hB3 := hB2.trans (hb3.mono hB2.size)
  by_cases hwr : ((rs.length + wSum wU rs : Nat) : Int) ≤ left2
  case neg =>
    rw [restI_gt (by omega)]
    go_wp2_with fail
    go_ret
    exact ⟨rfl, hB.trans (hB3.mono hB.size)⟩
  rw [restI_le hwr]
  have hml : rs.length ≤ 1048576 := by omega
  have hwe : ∀ r ∈ rs, wE r.e ≤ 1048576 := fun r h => by have : wE r.e ≤ wSum wU rs := wSum_mem wU h; omega
  have hcn : ∀ r ∈ rs, cntE r.e ≤ 1048577 := fun r h => by have := hwe r h; have := cntE_le r.e; omega
  have hwtu : wSum wtU rs ≤ 5 * 1048576 := by have := wtU_sum rs; omega
  have HS3 := Lib.hid (HS0.out.le (Le.below hB3))
  have hRl := bcO_len p x rs
  have Hspec := Lib.hid (fun W vp vm A B c d => specBC_any p hl x rs hcn W vp vm A B c d)
  have Himpl := Lib.hid (fun W vp vm A B c d hg hp hr hx hm => (implBC_any p hl Hls.out x hwx' rs W vp vm A B c d hg hp hr hx hm).mono fun e w' h => RetCyc.row h)
  have Hwe := Lib.hid hwe
  generalize bcO p x rs = R at Hspec Himpl hRl
  clear hb3 hB2 hl0 hl1 hcn hwe
  have hwe := Hwe.out
  go_wp2_with fail
  go_region_held3 (fun W => W.cell? ⟨w.heap.size, 0, none⟩ = some (.slice A x.from_.length c) ∧ W.cell? ⟨w.heap.size, 1, none⟩ = some (.slice B x.order.length d))
    ((first | exact HS3.out.two (Le.drew _) | exact HS3.out.two L4 | exact HS3.out.two L5 | exact HS3.out.two L6 | exact HS3.out.two L7))
    (first
      | (go_at_call 11; ((with_reducible refine (toInsSS_any p hl Hls.out _ Ap cp (HS3.out.le (Le.drew _)).hp).mono ?_); rintro e4 w4 ⟨v4, F4, rfl, ho4, _, _, hb4⟩; have L4 := (Le.drew w3).to_below hb4; have P4 := ho4.prgS0))
      | (go_at_call 12; ((with_reducible refine (toX_any x hwx' _ A B c d (HS3.out.le L4).hx).mono ?_); rintro e5 w5 ⟨A5, c5, B5, d5, rfl, hk5, hb5⟩; have L5 := L4.to_below hb5; have P5 := PrgS.le P4 (Le.below hb5); have X5 := hk5.le (Le.above _ _)))
      | (go_at_call 13; ((with_reducible refine (toUs_any rs hml hwe _ (.slice Am rs.length cm) (HS3.out.le L5).hm).mono ?_); rintro e6 w6 ⟨v6, rfl, hk6, hb6⟩; have L6 := L5.to_below hb6; have P6 := PrgS.le P5 (Le.below hb6); have X6 := X5.le (Le.below hb6); have U6 := RepUs.le hk6 (Le.above _ _)))
      | (go_at_call 10; ((with_reducible refine (Hspec.out _ _ _ A5 B5 c5 d5 P6 X6 U6).mono ?_); rintro e7 w7 ⟨A7, c7, rfl, hI7, hb7⟩; have L7 := L6.to_below hb7)))
  have q4 := below_of_drew hb4
  have q5 := q4.trans (hb5.mono q4.size)
  have q6 := q5.trans (hb6.mono q5.size)
  have q7 := q6.trans (hb7.mono q6.size)
  have hB7 := hB3.trans (q7.mono hB3.size)
  have HI7 : Hid (Ints w7 A7 c7 R) := hI7.le (Le.above _ _)
  have HS7 := Lib.hid (HS0.out.le (Le.below hB7))
  clear q4 q5 q6 q7 hb4 hb5 hb6 hb7 ho4 hk5 hk6 L4 L5 L6 L7 P4 P5 P6 X5 X6 U6 HS3 hB3 hI7
  go_wp2_with fail
  refine (toInsSS_any p hl Hls.out w7 Ap cp HS7.out.hp).mono ?_
  rintro e8 w8 ⟨v8, F8, rfl, ho8, hn8, hF8, hb8⟩
  have hC8 := hb8
  have hB8 := hB7.trans (hb8.mono hB7.size)
  have S8 := HS0.out.le (Le.below hB8)
  have hlt8 := ho8.lt pinsS_loc
  have q0 := S8.x0
  have q1 := S8.x1
  have HO8 := Lib.hid (And.intro ho8 (And.intro hn8 (And.intro hF8 hlt8)))
  clear ho8 hn8 hF8 hlt8 hb8
  go_wp2_with fail
  refine (toXO_any x hwx' w8 A B c d S8.hx).mono ?_
  rintro e9 w9 ⟨A9, c9, B9, d9, F9a, F9b, rfl, ho9, hn9, hF9, hb9⟩
  obtain ⟨V, hV⟩ : ∃ V, V = w9.alloc (.cells #[.slice A9 x.from_.length c9, .slice B9 x.order.length d9] 34) := ⟨_, rfl⟩
  have by9 : Box2 V w9.heap.size (.slice A9 x.from_.length c9) (.slice B9 x.order.length d9) := by rw [hV]; exact Box2.new _ _ _ _
  have hb9V : Below w9.heap.size w9 V := by rw [hV]; exact (Below.refl _ _).alloc (Nat.le_refl _) _
  have hDV : Below w8.heap.size w8 V := hb9.trans (hb9V.mono hb9.size)
  have hCV := hC8.trans (hDV.mono hC8.size)
  have hBV := hB7.trans (hCV.mono hB7.size)
  have hs89 := hb9.size
  have hs9V := by9.lt
  have HO9 := Lib.hid (And.intro (ho9.below hb9V) (And.intro hn9 (And.intro hF9 ho9.lt)))
  have Hby9 := Lib.hid by9
  have SV := HS0.out.le (Le.below hBV)
  clear q0 q1 ho9 hn9 hF9 hb9 hb9V by9 S8
  go_wp2_with fail
  rw [← hV]
  clear hV
  refine (toUO_any rs hml hwe V (.slice Am rs.length cm) SV.hm).mono ?_
  rintro e10 w10 ⟨v10, F10, rfl, ho10, hn10, hF10, hb10⟩
  obtain ⟨A10, c10, rfl, _⟩ := ho10.slice
  have hDU : Below w8.heap.size w8 w10 := hDV.trans (hb10.mono hDV.size)
  have hCU := hC8.trans (hDU.mono hC8.size)
  have hBU := hB7.trans (hCU.mono hB7.size)
  have hsV10 := hb10.size
  have HO10 := Lib.hid (And.intro ho10 (And.intro hn10 (And.intro hF10 ho10.lt)))
  have HEU := Lib.hid hb10
  have SU := HS0.out.le (Le.below hBU)
  have z3 := Le.below hb10 _ _ Hby9.out.c0
  have z4 := Le.below hb10 _ _ Hby9.out.c1
  have z5 : w9.heap.size < w10.heap.size := World.block_lt_of_cell? _ _ z3
  have hO8U : OwPr w10 v8 p F8 := HO8.out.1.below pinsS_loc hDU
  have hO9U : OwX w10 A9 c9 B9 d9 x F9a F9b := HO9.out.1.below hb10
  have hcall := Himpl.out w10 _ _ A9 B9 c9 d9 SU.hg hO8U.prgS0 hO8U.roomF hO9U.rep ho10.slR
  clear ho10 hn10 hF10 hb10 SV SU hO8U hO9U
  go_wp2_with fail
  refine hcall.mono ?_
  rintro e11 w11 ⟨A11, c11, rfl, hrow11, hb11⟩
  obtain ⟨F11, ho11, hn11, hF11⟩ := hrow11.ow qint_congr
  have hCU' := hCU
  have hC11 := hCU.trans (hb11.mono hCU.size)
  have hD11 := hDU.trans (hb11.mono hDU.size)
  have hE11 := HEU.out.trans (hb11.mono HEU.out.size)
  have hi11 : Ints w11 A11 c11 R := row_ints hrow11
  have HO11 := Lib.hid (And.intro ho11 (And.intro hn11 (And.intro hF11 (ho11.lt (flat_loc qint_congr)))))
  have HU11 := Lib.hid hb11
  clear z3 z4 z5 hrow11 ho11 hn11 hF11 hcall
  go_wp2_with fail
  refine (eqIE_any R w11 A11 A7 c11 c7 hi11 (HI7.out.le (Le.below hC11))).mono ?_
  rintro e12 w12 ⟨rfl, hb12⟩
  have hC12 := hC11.trans (hb12.mono hC11.size)
  have hD12 := hD11.trans (hb12.mono hD11.size)
  have hU12 := hb11.trans (hb12.mono hb11.size)
  have hB12 := hB7.trans (hC12.mono hB7.size)
  have h1112 := hb12
  clear hi11 hb11
  go_wp2_with fail
  refine (toInsSS_any p hl Hls.out w12 Ap cp (HS0.out.le (Le.below hB12)).hp).mono ?_
  rintro e13 w13 ⟨v13, F13, rfl, ho13, _, _, hb13⟩
  have hD13 := hD12.trans (hb13.mono hD12.size)
  go_wp2_with fail
  refine (eqInsSS_any p _ _ _ (show OwPr w13 v8 p F8 from HO8.out.1.below pinsS_loc hD13).prgS0 ho13.prgS0).mono ?_
  rintro e14 w14 ⟨rfl, hb14⟩
  have h1214 := hb13.trans (hb14.mono hb13.size)
  have h1114 := h1112.trans (h1214.mono h1112.size)
  have hC14 := hC12.trans (h1214.mono hC12.size)
  have hD14 := hD12.trans (h1214.mono hD12.size)
  have hU14 := hU12.trans (h1214.mono hU12.size)
  have hV14 := HEU.out.trans (hU14.mono HEU.out.size)
  have hB14 := hB7.trans (hC14.mono hB7.size)
  have HS14 := Lib.hid (HS0.out.le (Le.below hB14))
  have by14 := Hby9.out.le (Le.below hV14)
  have ho914 : OwX w14 A9 c9 B9 d9 x F9a F9b := HO9.out.1.below hV14
  have HK14 := Lib.hid ho914.rep
  clear ho13 hb13 hb14 hC11 hD11 hE11 hC12 hD12 hB12 h1214 hD13 hb12 h1112 ho914
  go_wp2_with fail
  go_region_held3 (fun W => W.cell? ⟨w9.heap.size, 0, none⟩ = some (.slice A9 x.from_.length c9) ∧ W.cell? ⟨w9.heap.size, 1, none⟩ = some (.slice B9 x.order.length d9) ∧ W.cell? ⟨w.heap.size, 0, none⟩ = some (.slice A x.from_.length c) ∧ W.cell? ⟨w.heap.size, 1, none⟩ = some (.slice B x.order.length d))
    ((first | exact ⟨by14.c0, by14.c1, HS14.out.x0, HS14.out.x1⟩ | exact ⟨L15 _ _ by14.c0, L15 _ _ by14.c1, L15 _ _ HS14.out.x0, L15 _ _ HS14.out.x1⟩ | exact ⟨L16 _ _ by14.c0, L16 _ _ by14.c1, L16 _ _ HS14.out.x0, L16 _ _ HS14.out.x1⟩))
    (first
      | (go_at_call 12; ((with_reducible refine (toX_any x hwx' _ A B c d (HS14.out.le (Le.drew _)).hx).mono ?_); rintro e15 w15 ⟨A15, c15, B15, d15, rfl, hk15, hb15⟩; have L15 := (Le.drew w14).to_below hb15))
      | (go_at_call 17; ((with_reducible refine (eqXF_any x _ A9 B9 A15 B15 c9 d9 c15 d15 (HK14.out.le L15) (hk15.le (Le.above _ _))).mono ?_); rintro e16 w16 ⟨rfl, hb16⟩; have L16 := L15.to_below hb16)))
  have h1416 := (below_of_drew hb15).trans (hb16.mono (below_of_drew hb15).size)
  have h1116 := h1114.trans (h1416.mono h1114.size)
  have hC16 := hC14.trans (h1416.mono hC14.size)
  have hD16 := hD14.trans (h1416.mono hD14.size)
  have hU16 := hU14.trans (h1416.mono hU14.size)
  have hV16 := HEU.out.trans (hU16.mono HEU.out.size)
  have hB16 := hB7.trans (hC16.mono hB7.size)
  have HS16 := Lib.hid (HS0.out.le (Le.below hB16))
  have HU16 := Lib.hid ((HO10.out.1.below hU16).slR)
  clear by14 HS14 HK14 hk15 L15 L16 hb15 hb16 h1416 hC14 hD14 hU14 hV14 hB14 h1114
  go_wp2_with fail
  refine (toUs_any rs hml hwe w16 (.slice Am rs.length cm) HS16.out.hm).mono ?_
  rintro e17 w17 ⟨v17, rfl, hk17, hb17⟩
  go_wp2_with fail
  refine (eqUF_any rs _ _ _ (RepUs.le HU16.out (Le.below hb17)) (RepUs.le hk17 (Le.above _ _))).mono ?_
  rintro e18 w18 ⟨rfl, hb18⟩
  have h1618 := hb17.trans (hb18.mono hb17.size)
  have h1118 := h1116.trans (h1618.mono h1116.size)
  have hC18 := hC16.trans (h1618.mono hC16.size)
  have hD18 := hD16.trans (h1618.mono hD16.size)
  have hU18 := hU16.trans (h1618.mono hU16.size)
  have hV18 := HEU.out.trans (hU18.mono HEU.out.size)
  clear HS16 HU16 hk17 hb17 hb18 h1618 hC16 hD16 hU16 hV16 hB16 h1116
  have o8 : OwPr w18 v8 p F8 := HO8.out.1.below pinsS_loc hD18
  have o9 : OwX w18 A9 c9 B9 d9 x F9a F9b := HO9.out.1.below hV18
  have o10 : OwU w18 (.slice A10 rs.length c10) rs F10 := HO10.out.1.below hU18
  have o11 : OwI1 w18 (.slice A11 R.length c11) R F11 := HO11.out.1.below (flat_loc qint_congr) h1118
  have by18 := Hby9.out.le (Le.below hV18)
  -- the marks
  obtain ⟨M, hM⟩ : ∃ M : Nat, M = 1 + wSum wtIs p := ⟨_, rfl⟩
  have Mk1 : Hid (Calls Tryz.prog 19 #[v8, .int .i64 1] w18 (fun e w' => e = .returned (.int .i64 (M : Int)) ∧ MvO F8 w18 w')) := by
    rw [hM]
    exact (markInsSS_any p w18 v8 F8 1 o8 HO8.out.2.1 (by omega)).mono fun e w' h => ⟨h.1, h.2.2⟩
  have hM1 : M ≤ 4 * 1048576 + 1 := by omega
  have hM0 : 1 ≤ M := by omega
  have H1 := Lib.hid (And.intro o9 (And.intro o10 (And.intro o11 by18)))
  clear hM hwt o8 o9 o10 o11 by18
  go_wp2_with fail
  refine Mk1.out.mono ?_
  rintro e19 w19 ⟨rfl, m19⟩
  have hlt8 := HO8.out.2.2.2
  have hF89 : ∀ b, w8.heap.size ≤ b → b ∉ F8 := fun b h h8 => by have := hlt8 b h8; omega
  have ho919 : OwX w19 A9 c9 B9 d9 x F9a F9b := H1.out.1.move fun b hm => m19.block b (H1.out.1.lt b hm) (hF89 b (HO9.out.2.2.1 b hm))
  have ho1019 : OwU w19 (.slice A10 rs.length c10) rs F10 := H1.out.2.1.of_blocks fun b hm => m19.block b (H1.out.2.1.lt b hm) (hF89 b (by have := HO10.out.2.2.1 b hm; have := hDV.size; omega))
  have ho1119 : OwI1 w19 (.slice A11 R.length c11) R F11 := H1.out.2.2.1.move (flat_loc qint_congr) fun b hm => m19.block b (H1.out.2.2.1.lt (flat_loc qint_congr) b hm) (hF89 b (by have := HO11.out.2.2.1 b hm; have := hDU.size; omega))
  have z0 : w19.cell? ⟨w9.heap.size, 0, none⟩ = some (.slice A9 x.from_.length c9) := m19.cell H1.out.2.2.2.c0 (hF89 _ hs89)
  have z1 : w19.cell? ⟨w9.heap.size, 1, none⟩ = some (.slice B9 x.order.length d9) := m19.cell H1.out.2.2.2.c1 (hF89 _ hs89)
  have hC19 : Below w7.heap.size w7 w19 := hC18.trans (m19.below HO8.out.2.2.1 hC18.size)
  obtain ⟨N, hN⟩ : ∃ N : Nat, N = M + wtX x := ⟨_, rfl⟩
  have Mk2 : Hid (Calls Tryz.prog 20 #[.agg #[.slice A9 x.from_.length c9, .slice B9 x.order.length d9], .int .i64 M] w19 (fun e w' => e = .returned (.int .i64 (N : Int)) ∧ MvO (F9a ++ F9b) w19 w')) := by
    rw [hN]
    exact markX_any x w19 A9 B9 c9 d9 F9a F9b M ho919 HO9.out.2.1 (by omega)
  have hN1 : 1 ≤ N := by omega
  have hN2 : N ≤ 5 * 1048576 + 1 := by omega
  have H2 := Lib.hid (And.intro ho1019 ho1119)
  clear Mk1 H1 hN ho919 ho1019 ho1119 hM1 hwtx
  go_wp2_with fail
  refine Mk2.out.mono ?_
  rintro e20 w20 ⟨rfl, m20⟩
  have hlt9 := HO9.out.2.2.2
  have hF910 : ∀ b, V.heap.size ≤ b → b ∉ F9a ++ F9b := fun b h h9 => by have := hlt9 b h9; omega
  have ho1020 : OwU w20 (.slice A10 rs.length c10) rs F10 := H2.out.1.of_blocks fun b hm => m20.block b (H2.out.1.lt b hm) (hF910 b (HO10.out.2.2.1 b hm))
  have ho1120 : OwI1 w20 (.slice A11 R.length c11) R F11 := H2.out.2.move (flat_loc qint_congr) fun b hm => m20.block b (H2.out.2.lt (flat_loc qint_congr) b hm) (hF910 b (by have := HO11.out.2.2.1 b hm; have := HEU.out.size; omega))
  have hC20 : Below w7.heap.size w7 w20 := hC19.trans (m20.below (fun b hm => Nat.le_trans hC8.size (HO9.out.2.2.1 b hm)) hC19.size)
  obtain ⟨K, hK⟩ : ∃ K : Nat, K = N + wSum wtU rs := ⟨_, rfl⟩
  have Mk3 : Hid (Calls Tryz.prog 21 #[.slice A10 rs.length c10, .int .i64 N] w20 (fun e w' => e = .returned (.int .i64 (K : Int)) ∧ MvF F10 w20 w')) := by
    rw [hK]
    exact (markU_any rs w20 _ F10 N ho1020 HO10.out.2.1 (by omega) (by omega)).mono fun e w' h => ⟨h.1, h.2.2⟩
  have bK : decide ((K : Int) < 0) = false := by rw [decide_eq_false_iff_not]; omega
  have H3 := Lib.hid ho1120
  clear Mk2 H2 hK hwtu ho1020 ho1120 z0 z1 hC19 hN1 hN2
  go_wp2_with fail
  refine Mk3.out.mono ?_
  rintro e21 w21 ⟨rfl, m21⟩
  have hlt10 := HO10.out.2.2.2
  have ho1121 : OwI1 w21 (.slice A11 R.length c11) R F11 := H3.out.move (flat_loc qint_congr) fun b hm => m21.block b (H3.out.lt (flat_loc qint_congr) b hm) fun h => by have := hlt10 b h; have := HO11.out.2.2.1 b hm; omega
  have hC21 : Below w7.heap.size w7 w21 := hC20.trans (m21.below (fun b hm => by have := HO10.out.2.2.1 b hm; have := hCV.size; omega) hC20.size)
  have hi1121 : Ints w21 A11 c11 R := Ints.le (ho1121.ints (B := 0) fun _ _ => Nat.zero_le _) (Le.above _ _)
  clear Mk3 H3 hC20
  go_wp2_with fail
  refine (eqIE_any R w21 A11 A7 c11 c7 hi1121 (HI7.out.le (Le.below hC21))).mono ?_
  rintro e22 w22 ⟨rfl, hb22⟩
  have ho1122 : OwI1 w22 (.slice A11 R.length c11) R F11 := ho1121.below (flat_loc qint_congr) hb22
  have hC22 := hC21.trans (hb22.mono hC21.size)
  obtain ⟨Q, hQ⟩ : ∃ Q : Nat, Q = 1 + R.length := ⟨_, rfl⟩
  have bQ : decide ((Q : Int) < 0) = false := by rw [decide_eq_false_iff_not]; omega
  have Mk4 : Hid (Calls Tryz.prog 22 #[.slice A11 R.length c11, .int .i64 1] w22 (fun e w' => e = .returned (.int .i64 (Q : Int)) ∧ Ints w' A11 c11 (mkNs 1 R) ∧ MvO F11 w22 w')) := by
    rw [hQ]
    refine (markInts_any R w22 _ F11 1 ho1122 HO11.out.2.1 (by omega)).mono fun e w' h => ⟨h.1, ?_, h.2.2⟩
    have hi := h.2.1.ints (B := 0) fun _ _ => Nat.zero_le _
    obtain ⟨A', c', e', _⟩ := SlR.slice hi
    rw [mkNs_length] at e'
    injection e' with e1 e2 e3
    subst e1 e3
    have := SlR.le' (fun _ _ _ _ _ h => h) hi (Le.above 0 w')
    unfold Ints
    rw [mkNs_length]
    exact this
  have Held : Hid (∀ w : World, Ints w A11 c11 (mkNs 1 R) → Calls Tryz.prog 23 #[.slice A11 R.length c11, .int .i64 1] w (RetHd w Q)) := fun w h => by
    rw [hQ]; exact heldInts_any R w A11 c11 1 h (by omega)
  clear hQ hi1121 ho1121 hC21 hb22 ho1122
  go_wp2_with fail
  refine Mk4.out.mono ?_
  rintro e23 w23 ⟨rfl, hmk, m23⟩
  have hC23 : Below w7.heap.size w7 w23 := hC22.trans (m23.below (fun b hm => Nat.le_trans hCU.size (HO11.out.2.2.1 b hm)) hC22.size)
  clear Mk4 hC22
  have Hmk := Lib.hid hmk
  clear hmk
  go_wp2_with fail
  refine (Held.out w23 Hmk.out).mono ?_
  rintro e24 w24 ⟨rfl, hb24⟩
  have hC24 := hC23.trans (hb24.mono hC23.size)
  have hB24 := hB7.trans (hC24.mono hB7.size)
  have HS24 := Lib.hid (HS0.out.le (Le.below hB24))
  have Hmk24 := Lib.hid (Hmk.out.le (Le.below hb24))
  clear hC23 hb24 Hmk
  go_wp2_with fail
  go_region_held3 (fun W => W.cell? ⟨w.heap.size, 0, none⟩ = some (.slice A x.from_.length c) ∧ W.cell? ⟨w.heap.size, 1, none⟩ = some (.slice B x.order.length d))
    ((first | exact HS24.out.two (Le.drew _) | exact HS24.out.two L25 | exact HS24.out.two L26 | exact HS24.out.two L27 | exact HS24.out.two L28))
    (first
      | (go_at_call 11; ((with_reducible refine (toInsSS_any p hl Hls.out _ Ap cp (HS24.out.le (Le.drew _)).hp).mono ?_); rintro e25 w25 ⟨v25, F25, rfl, ho25, _, _, hb25⟩; have L25 := (Le.drew w24).to_below hb25; have P25 := ho25.prgS0; have R25 := ho25.roomF))
      | (go_at_call 12; ((with_reducible refine (toX_any x hwx' _ A B c d (HS24.out.le L25).hx).mono ?_); rintro e26 w26 ⟨A26, c26, B26, d26, rfl, hk26, hb26⟩; have L26 := L25.to_below hb26; have P26 := PrgS.le P25 (Le.below hb26); have R26 := R25.le P25 (Le.below hb26); have X26 := hk26.le (Le.above _ _)))
      | (go_at_call 13; ((with_reducible refine (toUs_any rs hml hwe _ (.slice Am rs.length cm) (HS24.out.le L26).hm).mono ?_); rintro e27 w27 ⟨v27, rfl, hk27, hb27⟩; have L27 := L26.to_below hb27; have P27 := PrgS.le P26 (Le.below hb27); have R27 := R26.le P26 (Le.below hb27); have X27 := X26.le (Le.below hb27); have E27 := RepUs.le hk27 (Le.above _ _)))
      | (go_at_call 14; ((with_reducible refine (Himpl.out _ _ _ A26 B26 c26 d26 (HS24.out.le L27).hg P27 R27 X27 E27).mono ?_); rintro e28 w28 ⟨A28, c28, rfl, hrow28, hb28⟩; have L28 := L27.to_below hb28)))
  have q4 := below_of_drew hb25
  have q5 := q4.trans (hb26.mono q4.size)
  have q6 := q5.trans (hb27.mono q5.size)
  have q7 := q6.trans (hb28.mono q6.size)
  have hC28 := hC24.trans (q7.mono hC24.size)
  have hi28 : Ints w28 A28 c28 R := row_ints hrow28
  have HMK28 := Lib.hid (Hmk24.out.le (Le.below q7))
  clear q4 q5 q6 q7 hb25 hb26 hb27 hb28 ho25 hk26 hk27 L25 L26 L27 L28 P25 P26 P27 R25 R26 R27 X26 X27 E27 HS24 Hmk24 hrow28
  go_wp2_with fail
  refine (eqIE_any R w28 A28 A7 c28 c7 hi28 (HI7.out.le (Le.below hC28))).mono ?_
  rintro e29 w29 ⟨rfl, hb29⟩
  have hC29 := hC28.trans (hb29.mono hC28.size)
  clear hi28
  go_wp2_with fail
  refine (Held.out w29 (HMK28.out.le (Le.below hb29))).mono ?_
  rintro e30 w30 ⟨rfl, hb30⟩
  have hC30 := hC29.trans (hb30.mono hC29.size)
  have hB30 := hB7.trans (hC30.mono hB7.size)
  go_wp2_with fail
  go_ret
  exact ⟨rfl, hB.trans (hB30.mono hB.size)⟩

end Go.Proofs.YtfgpbnncdfcjjabGreatDoor
