/-
  The walk of DrawRelOf: some program, some candidate, some text. The walk of FnRelOf: it answers true.
-/
import Derived.Test.YtfgpbnncdfcjjaaGreatDoorCdS
namespace Go.Proofs.YtfgpbnncdfcjjaaGreatDoor
open Go.RowKit
set_option linter.unusedVariables false
set_option maxRecDepth 100000

def nmV : Array Value := #[.string ⟨#[112, 111]⟩, .string ⟨#[108, 111, 99]⟩, .string ⟨#[101, 120, 116]⟩, .string ⟨#[114, 102]⟩, .string ⟨#[99, 111]⟩, .string ⟨#[102, 114]⟩, .string ⟨#[102, 101, 110, 99, 101]⟩, .string ⟨#[119, 114]⟩, .string ⟨#[119, 119]⟩, .string ⟨#[105, 100]⟩]
theorem l6NamesO_any (w : World) : Calls Tryz.prog 57 #[] w (fun e w' => e = .returned (.slice (some ⟨w.heap.size, 0, none⟩) 10 10) ∧ Own w' w.heap.size 9 nmV ∧ Below w.heap.size w w') := by
  go_enter Tryz.func57, Tryz.ntmps57
  go_wp2_with fail
  go_ret
  exact ⟨rfl, Own.new _ _ _, (Below.refl _ _).alloc (Nat.le_refl _) _⟩
def nm2 : List ByteArray := nm ++ [⟨#[]⟩, ⟨#[102, 111, 111]⟩]
def nm2V : List Value := nm2.map .string
theorem names_own {w : World} {g : Nat} (h : Own w g 9 nmV) : w.ownsRow g 9 1 (.slice (some ⟨g, 0, none⟩) 10 10) 10 nmV.toList :=
  ⟨rfl, .inr ⟨g, 10, nmV, rfl, Nat.le_refl _, h, Nat.le_refl _, by simp [maxLen], rfl, rfl⟩⟩
def RetDR (w : World) (e : Ending) (w' : World) : Prop := ∃ (pr : Prg) (x : Ex) (v : Value) (A : Option Addr) (c : Nat) (B : Option Addr) (d : Nat) (s : ByteArray), e = .returned (.tuple #[v, .agg #[.slice A x.from_.length c, .slice B x.order.length d], .string s]) ∧ PrgQ (above w.heap.size w') v pr ∧ RepX (above w.heap.size w') A c B d x ∧ Few 2000 2000 pr ∧ wX x ≤ 1048576 ∧ Below w.heap.size w w'

set_option maxHeartbeats 8000000 in
theorem drawRel_any (w : World) (A : Option Addr) (n c : Nat) (h : Bys w A n) (hnc : n ≤ c) (hA : A = none → n = 0) : Calls Tryz.prog 10 #[.slice A n c] w (RetDR w) := by
  obtain ⟨i0, hi0, hz0, hz1, hz2⟩ := info_parts Tryz.infoStr
  have oR := Own.new w 27 #[.slice none 0 0, .slice none 0 0]
  have hop := open_any (w.alloc (.cells #[.slice none 0 0, .slice none 0 0] 27)) A n c (h.le (Le.alloc _ _)) hnc hA
  clear h
  go_enter Tryz.func10, Tryz.ntmps10
  go_wp2_with fail
  refine hop.mono ?_
  rintro e1 w1 ⟨R, rfl, hR, r1, hb1⟩
  simp only [World.size_alloc] at hR
  have o1 := oR.under hb1
  have hs1 := o1.lt
  have hB1 : Below w.heap.size w w1 := ((Below.refl _ _).alloc (Nat.le_refl _) _).trans (hb1.mono (by simp))
  have hd := draw6_any w1 R 0 (by omega) r1
  have hRl := r1.lt
  clear hop oR hb1 r1
  go_wp2_with fail
  refine hd.mono ?_
  rintro e2 w2 ⟨pr, x, v2, A2, c2, B2, d2, p2, rfl, hc, hps, hx, hfew, m2, r2, hp2⟩
  have o2 := o1.mv m2 (by omega)
  have hB2 : Below w.heap.size w w2 := hB1.trans (m2.below (by omega) hB1.size)
  have hsz := cand_sz hc
  have hs2 := m2.size
  have oT := Own.new w2 27 #[.slice A2 x.from_.length c2, .slice B2 x.order.length d2]
  obtain ⟨V, hV⟩ : ∃ V, V = w2.alloc (.cells #[.slice A2 x.from_.length c2, .slice B2 x.order.length d2] 27) := ⟨_, rfl⟩
  rw [← hV] at oT
  have oV : Own V w.heap.size 27 #[.slice none 0 0, .slice none 0 0] := by rw [hV]; exact o2.alloc _
  have rV : Rd V R p2 := by rw [hV]; exact r2.alloc _
  have hBV : Below w.heap.size w V := by rw [hV]; exact hB2.alloc hB2.size _
  have hpsV : PrgQ (above w1.heap.size V) v2 pr := by rw [hV]; exact PrgQ.le hps (Le.above_le _ (Le.alloc _ _))
  have hxV : RepX (above w1.heap.size V) A2 c2 B2 d2 x := by rw [hV]; exact hx.le (Le.above_le _ (Le.alloc _ _))
  have hT : w2.heap.size < V.heap.size := oT.lt
  have HK := Lib.hid (And.intro oT (And.intro oV (And.intro rV (And.intro hpsV (And.intro hxV hsz)))))
  have HBV := Lib.hid hBV
  have Hfew := Lib.hid hfew
  clear hd m2 r2 o1 o2 hps hx hB2 hB1 oT oV rV hpsV hxV hBV hfew hc hsz
  go_wp2_with fail
  try rw [← hV]
  clear hV
  go_wp2_with fail
  refine (l6NamesO_any V).mono ?_
  rintro e3 w3 ⟨rfl, o3, hb3⟩
  have hs3 := hb3.size
  have Hown3 := Lib.hid (names_own o3)
  have hl3 := o3.lt
  go_wp2_with (at_builtin; refine wpList_append_lies _ (by rfl) _ _ _ (by rfl) V.heap.size 9 i0 _ 1 16 Tryz.underlying85 hi0 hz0 hz1 hz2 rfl (by omega) (.slice (some ⟨V.heap.size, 0, none⟩) 10 10) 10 nmV.toList (by rfl) (owns_alloc Hown3.out _) ⟨w3.heap.size, 0, none⟩ 2 2 [.string ⟨#[]⟩, .string ⟨#[102, 111, 111]⟩] (by rfl) (by rfl) (World.news_of_block (cs := #[.string ⟨#[]⟩, .string ⟨#[102, 111, 111]⟩]) (t := 9) (fr := (0, 0)) (heap_alloc_new _ _)) (by simp [Value.oneCell']) (by omega) (by simp [maxLen]) (by omega) (by simp; omega) (w3.heap.size + 1) (by simp) ?_; intro gg cap w5 hown5 hgrow5 hat5 hlt5)
  have hb5 : Below V.heap.size V w5 := below_grown (hb3.alloc hs3 _) hgrow5 (Nat.le_refl _) (fun g hg => by simp only [Value.ownBlock, Option.some.injEq] at hg; omega)
  have hgV : V.heap.size ≤ gg := by
    rcases hat5 with h | h
    · simp only [Value.ownBlock, Option.some.injEq] at h; omega
    · omega
  have HN : Hid (∀ k : Nat, k < 12 → ∀ W, Mv R w5 W → W.cell? ⟨gg, k, none⟩ = some (.string (nm2.getD k ⟨#[]⟩))) := fun k hk W hm => by
    obtain ⟨g', cap', e', _, hcell⟩ := owns_cell hown5 (by omega) hk (j := 0) (by omega)
    injection e' with e1 e2 e3
    injection e1 with e1
    injection e1 with e1
    subst e1
    refine hm.cell (p := ⟨gg, k, none⟩) ?_ (by show gg ≠ R; omega)
    rw [Nat.mul_one, Nat.add_zero] at hcell
    rw [hcell]
    match k, hk with
    | 0, _ => rfl
    | 1, _ => rfl
    | 2, _ => rfl
    | 3, _ => rfl
    | 4, _ => rfl
    | 5, _ => rfl
    | 6, _ => rfl
    | 7, _ => rfl
    | 8, _ => rfl
    | 9, _ => rfl
    | 10, _ => rfl
    | 11, _ => rfl
  have oT5 := HK.out.1.under hb5
  have HT5 := Lib.hid oT5
  have HO5 := Lib.hid (HK.out.2.1.under hb5)
  have Hr5 := Lib.hid (HK.out.2.2.1.below hb5)
  have hs5 := hb5.size
  have u0 := oT5.cell (i := 0) rfl
  have u1 := oT5.cell (i := 1) rfl
  have hTR : w2.heap.size ≠ R := by omega
  have hwR : w.heap.size ≠ R := by omega
  have hwR' : w.heap.size ≤ R := by omega
  have hgR : gg ≠ R := by omega
  have hgw : gg ≠ w.heap.size := by omega
  have Hb5 := Lib.hid hb5
  clear hown5 hgrow5 hat5 Hown3 o3 hb3 hs3 hl3 oT5 hb5
  go_wp2_with fail
  go_region_law (first
    | (go_simp; go_at_call 58; ((with_reducible refine (mut6_any _ R p2 15 (by omega) x HK.out.2.2.2.2.2 (by omega) ?_ A2 B2 c2 d2 ?_).mono ?_); exact Hr5.out.drew; exact HK.out.2.2.2.2.1.le ((Le.above _ _).trans ((Le.below Hb5.out).trans (Le.drew _))); rintro e6 w6 ⟨x6, A6, c6, B6, d6, p6, rfl, hsz6, hx6, m6', r6, hp6⟩; have m6 : Mv R w5 w6 := ((Mv.refl R w5).drew).trans m6'; have l6 := m6.size); go_wp2_with fail)
    | (go_simp; go_at_call 59; ((with_reducible refine (pick_any _ R p6 12 (by omega) r6).mono ?_); rintro e7 w7 ⟨kz, rfl, hk70, hk71, m7, r7⟩; obtain ⟨k, rfl⟩ : ∃ k : Nat, kz = k := ⟨kz.toNat, by omega⟩; have hk12 : k < 12 := (by have h9 := hk71 (by omega); omega); have m57 := m6.trans m7; obtain ⟨sx, hsx⟩ : ∃ sx, sx = nm2.getD k ⟨#[]⟩ := ⟨_, rfl⟩; have n7 := HN.out k hk12 w7 m57; rw [← hsx] at n7; clear hsx; have o7 := HO5.out.mv m57 hwR; have f70 := o7.frozen 0; have f71 := o7.frozen 1; have k70 := o7.cell (i := 0) rfl; have k71 := o7.cell (i := 1) rfl; have l7 := o7.lt; have l8 : gg < w7.heap.size := World.block_lt_of_cell? _ _ n7); go_wp2_with fail))
  all_goals
    go_wp2_with fail
    refine bodyPost_ret (v := .tuple #[v2, .agg #[.slice A6 x6.from_.length c6, .slice B6 x6.order.length d6], .string sx]) (by simp [results, Tryz.results10, go_sem, k70, k71]) rfl ?_
    have hle : Le (above (w.heap.size + 1) w7) (above w.heap.size ((w7.setCell ⟨w.heap.size, 0, none⟩ (.slice A6 x6.from_.length c6)).setCell ⟨w.heap.size, 1, none⟩ (.slice B6 x6.order.length d6))) := (((Le.refl _).to_above_setCell (by simp)).to_above_setCell (by simp)).trans (Le.above_mono (by omega) _)
    have hRd : R < w5.drew.heap.size := by show R < w5.heap.size; omega
    have hwd : w.heap.size + 1 ≤ w5.drew.heap.size := by show w.heap.size + 1 ≤ w5.heap.size; omega
    have hVB : Below w.heap.size w w5 := HBV.out.trans (Hb5.out.mono HBV.out.size)
    exact ⟨pr, x6, v2, A6, c6, B6, d6, sx, rfl, PrgQ.le (PrgQ.le HK.out.2.2.2.1 (Le.above_le _ (Le.below Hb5.out))) (((Le.above_mv m57 (by omega)).trans (Le.above_mono (by omega) _)).trans hle), hx6.le (((Le.above_mv m7 hRd).trans (Le.above_mono hwd _)).trans hle), Hfew.out.mono (by omega) (by omega), szX_wX hsz6 (by omega), ((hVB.trans (m57.below hwR' hVB.size)).setCell (by simp) _).setCell (by simp) _⟩

theorem RetRel.congr {w w' : World} {R R' : Rel} {n : Nat} {e : Ending} (h : RetRel w R n e w') (hr : relN R n = relN R' n) : RetRel w R' n e w' := by
  obtain ⟨A, c, he, hrow, hb⟩ := h
  exact ⟨A, c, he, by rw [← hr]; exact hrow, hb⟩
/-- Relations that lie in a world. -/
def RelS (W : World) (n : Nat) (l : List (Option Addr × Nat × Rel)) : Prop := ∀ q ∈ l, Ints W q.1 q.2.1 (relN q.2.2 n)
theorem RelS.le {W W' : World} {n : Nat} {l : List (Option Addr × Nat × Rel)} (h : RelS W n l) (hl : Le W W') : RelS W' n l := fun q hq => (h q hq).le hl
theorem RelS.nil (W : World) (n : Nat) : RelS W n [] := fun q hq => by cases hq
theorem RelS.cons {W : World} {n : Nat} {l : List (Option Addr × Nat × Rel)} {A : Option Addr} {c : Nat} {R : Rel} (h : RelS W n l) (hr : Ints W A c (relN R n)) : RelS W n ((A, c, R) :: l) := fun q hq => by
  rcases List.mem_cons.1 hq with rfl | hq
  · exact hr
  · exact h q hq
theorem wmRR_any (xs : List Int) (w : World) (A A' : Option Addr) (c c' : Nat) (hr : Ints w A c xs) (hr' : Ints w A' c' xs) :
    Calls Tryz.prog 12 #[.slice A xs.length c, .slice A' xs.length c'] w (RetB w true) := by
  have h := wmInts_any xs xs w A A' c c' hr hr'
  rw [eqB_self] at h
  exact h
theorem wmN_any (a b : Rel) (n : Nat) (hab : relN a n = relN b n) (w : World) (A A' : Option Addr) (c c' : Nat) (hr : Ints w A c (relN a n)) (hr' : Ints w A' c' (relN b n)) :
    Calls Tryz.prog 12 #[.slice A n c, .slice A' n c'] w (RetB w true) := by
  rw [hab] at hr
  have h := wmRR_any (relN b n) w A A' c c' hr hr'
  rw [relN_length] at h
  exact h
theorem within_sub (a b : Rel) (n : Nat) (hn : n ≤ 16) (hab : SubR n a b) (w : World) (A B : Option Addr) (c d : Nat) (ha : Ints w A c (relN a n)) (hb : Ints w B d (relN b n)) :
    Calls Tryz.prog 20 #[.slice A n c, .slice B n d] w (RetB w true) := by
  have h := imWithin_any a b n hn w A B c d ha hb
  rw [un_sub hab, eqB_self] at h
  exact h

set_option maxHeartbeats 8000000 in
theorem lawRel_walk (w : World) (A : Option Addr) (n c : Nat) (hg : GN w) (h : Bys w A n) (hnc : n ≤ c) (hA : A = none → n = 0) :
    Calls Tryz.prog 3 #[.slice A n c] w (RetB w true) := by
  have hdr := drawRel_any w A n c h hnc hA
  have hn := h.1
  clear h
  go_enter Tryz.func3, Tryz.ntmps3
  by_cases hsz : (1048576 : Int) < (n : Int)
  · have hd : decide ((n : Int) > 1048576) = true := by simpa using hsz
    go_wp2_with fail
    go_ret
    exact ⟨rfl, Below.refl _ _⟩
  have hd : decide ((n : Int) > 1048576) = false := by simpa using hsz
  go_wp2_with fail
  refine hdr.mono ?_
  rintro e1 w1 ⟨p, x, v1, A2, c2, B2, d2, s, rfl, hps, hx, hfew, hwx, hb1⟩
  obtain ⟨A1, c1, rfl, _⟩ := hps.1.slice
  have hl : p.length ≤ 1048576 := by have := hfew.1; omega
  have Hls := Lib.hid (hfew.mil (by omega))
  obtain ⟨V, hV⟩ : ∃ V, V = w1.alloc (.cells #[.slice A2 x.from_.length c2, .slice B2 x.order.length d2] 27) := ⟨_, rfl⟩
  have oT : Own V w1.heap.size 27 #[.slice A2 x.from_.length c2, .slice B2 x.order.length d2] := by rw [hV]; exact Own.new _ _ _
  have hB1 : Below w.heap.size w V := by rw [hV]; exact hb1.alloc hb1.size _
  have hpq : PrgQ V (.slice A1 p.length c1) p := by rw [hV]; exact PrgQ.le hps ((Le.above _ _).trans (Le.alloc _ _))
  have S1 : CdS V w1.heap.size A1 c1 p A2 c2 B2 d2 x := ⟨hpq.1, hpq.2, by rw [hV]; exact hx.le ((Le.above _ _).trans (Le.alloc _ _)), hg.le (Le.below hB1), oT.cell (i := 0) rfl, oT.cell (i := 1) rfl⟩
  have t0 := S1.c0
  have t1 := S1.c1
  have t2 := S1.lt
  have HS1 := Lib.hid S1
  have himpl := fun W (S : CdS W w1.heap.size A1 c1 p A2 c2 B2 d2 x) => implRelOf_any p hl Hls.out x hwx s W _ A2 B2 c2 d2 S.hg S.hp S.hr S.hx
  have hspec := fun W (S : CdS W w1.heap.size A1 c1 p A2 c2 B2 d2 x) => specRelOf_any p hl x s W _ A2 B2 c2 d2 S.hp S.hx
  have Hnone : Hid (candB p x = false → relB p x s = []) := fun hv => relB_not fun h => by rw [hv] at h; exact absurd h.1 (by decide)
  generalize relB p x s = R at himpl hspec Hnone
  have Himpl := Lib.hid himpl
  have Hspec := Lib.hid hspec
  clear hps hx hdr hfew oT hpq S1 hg himpl hspec
  go_wp2_with fail
  try rw [← hV]
  clear hV
  refine (Himpl.out V HS1.out).mono ?_
  rintro e2 w2 ⟨A4, c4, rfl, hr4, hb2⟩
  have hB2 := hB1.trans (hb2.mono hB1.size)
  have HS2 := Lib.hid (HS1.out.le (Le.below hb2))
  have HI2 := Lib.hid (row_ints hr4)
  have hRl := HI2.out.len
  clear t0 t1 t2 HS1 hb2 hr4
  have s0 := HS2.out.c0
  have s1 := HS2.out.c1
  have s2 := HS2.out.lt
  go_wp2_with fail
  refine (Hspec.out w2 HS2.out).mono ?_
  rintro e3 w3 ⟨A5, c5, rfl, hr5, hb3⟩
  have hw3 := wmRR_any R w3 A4 A5 c4 c5 (HI2.out.le (Le.below hb3)) (row_ints hr5)
  have hB3 := hB2.trans (hb3.mono hB2.size)
  have HS3 := Lib.hid (HS2.out.le (Le.below hb3))
  have HI3 := Lib.hid (HI2.out.le (Le.below hb3))
  clear s0 s1 s2 HS2 HI2 hb3 hr5
  go_wp2_with fail
  refine hw3.mono ?_
  rintro e4 w4 ⟨rfl, hb4⟩
  have hB4 := hB3.trans (hb4.mono hB3.size)
  have HS4 := Lib.hid (HS3.out.le (Le.below hb4))
  have HI4 := Lib.hid (HI3.out.le (Le.below hb4))
  have hca := fun W (S : CdS W w1.heap.size A1 c1 p A2 c2 B2 d2 x) => implCand_any p hl Hls.out x W _ A2 B2 c2 d2 S.hp S.hx hwx
  clear HS3 HI3 hb4 hw3
  have s0 := HS4.out.c0
  have s1 := HS4.out.c1
  have s2 := HS4.out.lt
  cases hv : candB p x
  · obtain rfl : R = [] := Hnone.out hv
    simp only [hv] at hca
    have Hca := Lib.hid hca
    clear hca hv
    go_wp2_with fail
    refine (Hca.out w4 HS4.out).mono ?_
    rintro e5 w5 ⟨rfl, hb5⟩
    have hB5 := hB4.trans (hb5.mono hB4.size)
    have HS5 := Lib.hid (HS4.out.le (Le.below hb5))
    have HI5 := Lib.hid (HI4.out.le (Le.below hb5))
    clear s0 s1 s2 HS4 HI4 hb5
    have s0 := HS5.out.c0
    have s1 := HS5.out.c1
    have s2 := HS5.out.lt
    go_wp2_with fail
    refine (Hspec.out w5 HS5.out).mono ?_
    rintro e6 w6 ⟨A7, c7, rfl, hr7, hb6⟩
    have hw6 := wmRR_any [] w6 A4 A7 c4 c7 (HI5.out.le (Le.below hb6)) (row_ints hr7)
    have hB6 := hB5.trans (hb6.mono hB5.size)
    have HS6 := Lib.hid (HS5.out.le (Le.below hb6))
    clear s0 s1 s2 HS5 HI5 hb6 hr7
    go_wp2_with fail
    refine hw6.mono ?_
    rintro e7 w7 ⟨rfl, hb7⟩
    have hB7 := hB6.trans (hb7.mono hB6.size)
    have HS7 := Lib.hid (HS6.out.le (Le.below hb7))
    have s0 := HS7.out.c0
    have s1 := HS7.out.c1
    have s2 := HS7.out.lt
    clear hw6 hb7 HS6
    go_wp2_with fail
    refine (Hca.out w7 HS7.out).mono ?_
    rintro e8 w8 ⟨rfl, hb8⟩
    go_wp2_with fail
    go_ret
    exact ⟨rfl, hB7.trans (hb8.mono hB7.size)⟩
  have hok := candB_iff.1 hv
  have Hok := Lib.hid hok
  simp only [hv] at hca
  have Hca := Lib.hid hca
  clear hca hv hok Hnone
  go_wp2_with fail
  refine (Hca.out w4 HS4.out).mono ?_
  rintro e5 w5 ⟨rfl, hb5⟩
  have hB5 := hB4.trans (hb5.mono hB4.size)
  have HS5 := Lib.hid (HS4.out.le (Le.below hb5))
  clear s0 s1 s2 HS4 HI4 hb5 Hca Himpl Hspec
  have s0 := HS5.out.c0
  have s1 := HS5.out.c1
  have s2 := HS5.out.lt
  obtain ⟨N, hN⟩ : ∃ N, N = (evs p).length := ⟨_, rfl⟩
  have hN16 : N ≤ 16 := by have := cand_len Hok.out.1; omega
  have Hro : Hid (∀ (j : Nat) (hj : j < 10) (t : ByteArray) (ht : nmAt j = t) W (S : CdS W w1.heap.size A1 c1 p A2 c2 B2 d2 x), Calls Tryz.prog 11 #[.slice A1 p.length c1, .agg #[.slice A2 x.from_.length c2, .slice B2 x.order.length d2], .string t] W (RetRel W (pairB p x (evs p) j) N)) := fun j hj t ht W S => by
    rw [hN]
    exact S.relOf Hok.out hl Hls.out hwx hj t ht
  have Hpo1 : Hid (acB (pairB p x (evs p) 0) N = true) := acB_trans (po_tr _) (po_ir _)
  have Hpo2 : Hid (relN (clR N (pairB p x (evs p) 0)) N = relN (pairB p x (evs p) 0) N) := relN_eqR (cl_trans (po_tr _) _ (Nat.le_refl _))
  have Hco1 : Hid (acB (pairB p x (evs p) 4) N = true) := by rw [hN]; exact acB_trans (co_tr Hok.out) co_ir
  have Hco2 : Hid (relN (clR N (pairB p x (evs p) 4)) N = relN (pairB p x (evs p) 4) N) := by rw [hN]; exact relN_eqR (cl_trans (co_tr Hok.out) _ (Nat.le_refl _))
  have Hfr : Hid (relN (pairB p x (evs p) 5) N = relN (miR (coR N (inR (pairB p x (evs p) 3)) (pairB p x (evs p) 4)) (pairB p x (evs p) 9)) N) := by rw [hN]; exact relN_eqR (fr_from Hok.out)
  have Hfe : Hid (SubR N (pairB p x (evs p) 6) (pairB p x (evs p) 0)) := by rw [hN]; exact fence_po
  have Hlo : Hid (SubR N (unR (pairB p x (evs p) 3) (unR (pairB p x (evs p) 4) (pairB p x (evs p) 5))) (pairB p x (evs p) 1)) := by rw [hN]; exact un_subs (rf_loc Hok.out) (un_subs (co_loc Hok.out) (fr_loc Hok.out))
  clear hN
  generalize pairB p x (evs p) = PB at Hro Hpo1 Hpo2 Hco1 Hco2 Hfr Hfe Hlo
  go_wp2_with fail
  refine (Hro.out 0 (by decide) ⟨#[112, 111]⟩ rfl w5 HS5.out).mono ?_
  rintro e6 w6 ⟨A6, c6, rfl, hr6, hb6⟩
  have hB6 := hB5.trans (hb6.mono hB5.size)
  have HS6 := Lib.hid (HS5.out.le (Le.below hb6))
  have HR6 := Lib.hid ((RelS.nil w6 N).cons (row_rel hr6))
  clear s0 s1 s2 HS5 hb6 hr6
  have s0 := HS6.out.c0
  have s1 := HS6.out.c1
  have s2 := HS6.out.lt
  go_wp2_with fail
  refine (Hro.out 3 (by decide) ⟨#[114, 102]⟩ rfl w6 HS6.out).mono ?_
  rintro e7 w7 ⟨A7, c7, rfl, hr7, hb7⟩
  have hB7 := hB6.trans (hb7.mono hB6.size)
  have HS7 := Lib.hid (HS6.out.le (Le.below hb7))
  have HR7 := Lib.hid ((HR6.out.le (Le.below hb7)).cons (row_rel hr7))
  clear s0 s1 s2 HS6 HR6 hb7 hr7
  have s0 := HS7.out.c0
  have s1 := HS7.out.c1
  have s2 := HS7.out.lt
  go_wp2_with fail
  refine (Hro.out 4 (by decide) ⟨#[99, 111]⟩ rfl w7 HS7.out).mono ?_
  rintro e8 w8 ⟨A8, c8, rfl, hr8, hb8⟩
  have hB8 := hB7.trans (hb8.mono hB7.size)
  have HS8 := Lib.hid (HS7.out.le (Le.below hb8))
  have HR8 := Lib.hid ((HR7.out.le (Le.below hb8)).cons (row_rel hr8))
  clear s0 s1 s2 HS7 HR7 hb8 hr8
  have s0 := HS8.out.c0
  have s1 := HS8.out.c1
  have s2 := HS8.out.lt
  go_wp2_with fail
  refine (Hro.out 5 (by decide) ⟨#[102, 114]⟩ rfl w8 HS8.out).mono ?_
  rintro e9 w9 ⟨A9, c9, rfl, hr9, hb9⟩
  have hB9 := hB8.trans (hb9.mono hB8.size)
  have HS9 := Lib.hid (HS8.out.le (Le.below hb9))
  have HR9 := Lib.hid ((HR8.out.le (Le.below hb9)).cons (row_rel hr9))
  clear s0 s1 s2 HS8 HR8 hb9 hr9
  have HI6 : Hid (Ints w9 A6 c6 (relN (PB 0) N)) := HR9.out (A6, c6, PB 0) (by simp)
  have HI7 : Hid (Ints w9 A7 c7 (relN (PB 3) N)) := HR9.out (A7, c7, PB 3) (by simp)
  have HI8 : Hid (Ints w9 A8 c8 (relN (PB 4) N)) := HR9.out (A8, c8, PB 4) (by simp)
  have HI9 : Hid (Ints w9 A9 c9 (relN (PB 5) N)) := HR9.out (A9, c9, PB 5) (by simp)
  have HroI := Lib.hid (Hro.out 9 (by decide) ⟨#[105, 100]⟩ rfl)
  have HroF := Lib.hid (Hro.out 6 (by decide) ⟨#[102, 101, 110, 99, 101]⟩ rfl)
  have HroL := Lib.hid (Hro.out 1 (by decide) ⟨#[108, 111, 99]⟩ rfl)
  clear HR9
  go_wp2_with fail
  go_region_held3 (fun W => W.cell? ⟨w1.heap.size, 0, none⟩ = some (.slice A2 x.from_.length c2) ∧ W.cell? ⟨w1.heap.size, 1, none⟩ = some (.slice B2 x.order.length d2))
    ((first | exact ⟨HS9.out.c0, HS9.out.c1⟩ | exact ⟨S10.c0, S10.c1⟩ | exact ⟨S11.c0, S11.c1⟩ | exact ⟨S12.c0, S12.c1⟩ | exact ⟨S13.c0, S13.c1⟩))
    (first
      | (go_at_call 17; ((with_reducible refine (imInverse_any (PB 3) N hN16 _ A7 c7 (HI7.out.le (Le.drew _))).mono ?_); rintro e10 w10 ⟨A10, c10, rfl, hr10, hb10⟩; have L10 := (Le.drew w9).to_below hb10; have S10 := HS9.out.le L10; have I10 := row_rel hr10; have J8 := HI8.out.le L10))
      | (go_at_call 16; ((with_reducible refine (imCompose_any (inR (PB 3)) (PB 4) N hN16 _ A10 A8 c10 c8 I10 J8).mono ?_); rintro e11 w11 ⟨A11, c11, rfl, hr11, hb11⟩; have S11 := S10.le (Le.below hb11); have I11 := row_rel hr11))
      | (go_at_call 11; ((with_reducible refine (HroI.out _ S11).mono ?_); rintro e12 w12 ⟨A12, c12, rfl, hr12, hb12⟩; have S12 := S11.le (Le.below hb12); have I12 := row_rel hr12; have J11 := I11.le (Le.below hb12)))
      | (go_at_call 15; ((with_reducible refine (imMinus_any (coR N (inR (PB 3)) (PB 4)) (PB 9) N hN16 _ A11 A12 c11 c12 J11 I12).mono ?_); rintro e13 w13 ⟨A13, c13, rfl, hr13, hb13⟩; have S13 := S12.le (Le.below hb13); have I13 := row_rel hr13)))
  have hb913 : Below w9.heap.size w9 w13 := (((below_of_drew hb10).trans (hb11.mono (below_of_drew hb10).size)).trans (hb12.mono ((below_of_drew hb10).trans (hb11.mono (below_of_drew hb10).size)).size)).trans (hb13.mono (((below_of_drew hb10).trans (hb11.mono (below_of_drew hb10).size)).trans (hb12.mono ((below_of_drew hb10).trans (hb11.mono (below_of_drew hb10).size)).size)).size)
  have hB13 := hB9.trans (hb913.mono hB9.size)
  have L913 := Le.below hb913
  have K6 := Lib.hid (HI6.out.le L913)
  have K7 := Lib.hid (HI7.out.le L913)
  have K8 := Lib.hid (HI8.out.le L913)
  have K9 := Lib.hid (HI9.out.le L913)
  have K13 := Lib.hid I13
  have HS13 := Lib.hid S13
  clear HI6 HI7 HI8 HI9 I10 I11 I12 I13 J8 J11 S10 S11 S12 S13 L10 hb10 hb11 hb12 hb13 hb913 L913 hr10 hr11 hr12 hr13
  have hac := Hpo1.out
  have hac4 := Hco1.out
  have HA0 : Hid (∀ W A c, Ints W A c (relN (PB 0) N) → Calls Tryz.prog 18 #[.slice A N c] W (RetB W true)) := fun W A c h => by have := imAcyclic_any (PB 0) N hN16 W A c h; rw [hac] at this; exact this
  have HA4 : Hid (∀ W A c, Ints W A c (relN (PB 4) N) → Calls Tryz.prog 18 #[.slice A N c] W (RetB W true)) := fun W A c h => by have := imAcyclic_any (PB 4) N hN16 W A c h; rw [hac4] at this; exact this
  have HC0 : Hid (∀ W A c, Ints W A c (relN (PB 0) N) → Calls Tryz.prog 19 #[.slice A N c] W (RetRel W (PB 0) N)) := fun W A c h => (imClosure_any (PB 0) N hN16 W A c h).mono fun _ _ h => h.congr Hpo2.out
  have HC4 : Hid (∀ W A c, Ints W A c (relN (PB 4) N) → Calls Tryz.prog 19 #[.slice A N c] W (RetRel W (PB 4) N)) := fun W A c h => (imClosure_any (PB 4) N hN16 W A c h).mono fun _ _ h => h.congr Hco2.out
  clear hac hac4 Hpo1 Hpo2 Hco1 Hco2
  go_wp2_with fail
  go_region_held3 (fun W => W.cell? ⟨w1.heap.size, 0, none⟩ = some (.slice A2 x.from_.length c2) ∧ W.cell? ⟨w1.heap.size, 1, none⟩ = some (.slice B2 x.order.length d2))
    ((first | exact ⟨HS13.out.c0, HS13.out.c1⟩ | exact ⟨(HS13.out.le L20).c0, (HS13.out.le L20).c1⟩ | exact ⟨(HS13.out.le L21).c0, (HS13.out.le L21).c1⟩ | exact ⟨(HS13.out.le L22).c0, (HS13.out.le L22).c1⟩ | exact ⟨(HS13.out.le L23).c0, (HS13.out.le L23).c1⟩ | exact ⟨(HS13.out.le L24).c0, (HS13.out.le L24).c1⟩ | exact ⟨(HS13.out.le L25).c0, (HS13.out.le L25).c1⟩ | exact ⟨(HS13.out.le L26).c0, (HS13.out.le L26).c1⟩ | exact ⟨(HS13.out.le L27).c0, (HS13.out.le L27).c1⟩ | exact ⟨(HS13.out.le L28).c0, (HS13.out.le L28).c1⟩ | exact ⟨(HS13.out.le L29).c0, (HS13.out.le L29).c1⟩ | exact ⟨(HS13.out.le L30).c0, (HS13.out.le L30).c1⟩ | exact ⟨(HS13.out.le L31).c0, (HS13.out.le L31).c1⟩ | exact ⟨(HS13.out.le L32).c0, (HS13.out.le L32).c1⟩))
    (first
      | (go_at_call 18; ((with_reducible refine (HA0.out _ A6 c6 (K6.out.le (Le.drew _))).mono ?_); rintro e20 w20 ⟨rfl, hb20⟩; have L20 := (Le.drew w13).to_below hb20))
      | (go_at_call 19; ((with_reducible refine (HC0.out _ A6 c6 (K6.out.le L20)).mono ?_); rintro e21 w21 ⟨A21, c21, rfl, hr21, hb21⟩; have L21 := L20.to_below hb21; have I21 := row_rel hr21))
      | (go_at_call 12; ((with_reducible refine (wmN_any (PB 0) (PB 0) N rfl _ A21 A6 c21 c6 I21 (K6.out.le L21)).mono ?_); rintro e22 w22 ⟨rfl, hb22⟩; have L22 := L21.to_below hb22))
      | (go_at_call 18; ((with_reducible refine (HA4.out _ A8 c8 (K8.out.le L22)).mono ?_); rintro e23 w23 ⟨rfl, hb23⟩; have L23 := L22.to_below hb23))
      | (go_at_call 19; ((with_reducible refine (HC4.out _ A8 c8 (K8.out.le L23)).mono ?_); rintro e24 w24 ⟨A24, c24, rfl, hr24, hb24⟩; have L24 := L23.to_below hb24; have I24 := row_rel hr24))
      | (go_at_call 12; ((with_reducible refine (wmN_any (PB 4) (PB 4) N rfl _ A24 A8 c24 c8 I24 (K8.out.le L24)).mono ?_); rintro e25 w25 ⟨rfl, hb25⟩; have L25 := L24.to_below hb25))
      | (go_at_call 12; ((with_reducible refine (wmN_any (PB 5) (miR (coR N (inR (PB 3)) (PB 4)) (PB 9)) N Hfr.out _ A9 A13 c9 c13 (K9.out.le L25) (K13.out.le L25)).mono ?_); rintro e26 w26 ⟨rfl, hb26⟩; have L26 := L25.to_below hb26))
      | (go_at_call 11; ((with_reducible refine (HroF.out _ (HS13.out.le L26)).mono ?_); rintro e27 w27 ⟨A27, c27, rfl, hr27, hb27⟩; have L27 := L26.to_below hb27; have I27 := row_rel hr27))
      | (go_at_call 20; ((with_reducible refine (within_sub (PB 6) (PB 0) N hN16 Hfe.out _ A27 A6 c27 c6 I27 (K6.out.le L27)).mono ?_); rintro e28 w28 ⟨rfl, hb28⟩; have L28 := L27.to_below hb28))
      | (go_at_call 21; ((with_reducible refine (imUnion_any (PB 4) (PB 5) N hN16 _ A8 A9 c8 c9 (K8.out.le L28) (K9.out.le L28)).mono ?_); rintro e29 w29 ⟨A29, c29, rfl, hr29, hb29⟩; have L29 := L28.to_below hb29; have I29 := row_rel hr29))
      | (go_at_call 21; ((with_reducible refine (imUnion_any (PB 3) (unR (PB 4) (PB 5)) N hN16 _ A7 A29 c7 c29 (K7.out.le L29) I29).mono ?_); rintro e30 w30 ⟨A30, c30, rfl, hr30, hb30⟩; have L30 := L29.to_below hb30; have I30 := row_rel hr30))
      | (go_at_call 11; ((with_reducible refine (HroL.out _ (HS13.out.le L30)).mono ?_); rintro e31 w31 ⟨A31, c31, rfl, hr31, hb31⟩; have L31 := L30.to_below hb31; have I31 := row_rel hr31; have J30 := I30.le (Le.below hb31)))
      | (go_at_call 20; ((with_reducible refine (within_sub (unR (PB 3) (unR (PB 4) (PB 5))) (PB 1) N hN16 Hlo.out _ A30 A31 c30 c31 J30 I31).mono ?_); rintro e32 w32 ⟨rfl, hb32⟩; have L32 := L31.to_below hb32)))
  have q20 := below_of_drew hb20
  have q21 := q20.trans (hb21.mono q20.size)
  have q22 := q21.trans (hb22.mono q21.size)
  have q23 := q22.trans (hb23.mono q22.size)
  have q24 := q23.trans (hb24.mono q23.size)
  have q25 := q24.trans (hb25.mono q24.size)
  have q26 := q25.trans (hb26.mono q25.size)
  have q27 := q26.trans (hb27.mono q26.size)
  have q28 := q27.trans (hb28.mono q27.size)
  have q29 := q28.trans (hb29.mono q28.size)
  have q30 := q29.trans (hb30.mono q29.size)
  have q31 := q30.trans (hb31.mono q30.size)
  have q32 := q31.trans (hb32.mono q31.size)
  go_wp2_with fail
  go_ret
  exact ⟨rfl, hB13.trans (q32.mono hB13.size)⟩

end Go.Proofs.YtfgpbnncdfcjjaaGreatDoor
