/-
  Draws of models: l7Models, l7Rules.
-/
import Derived.Test.YtapelogbceoojaaDoorSpM
import Derived.Test.YtapelogbceoojaaDoorDr
import Derived.Deep.RegionLaw
namespace Go.Proofs.YtapelogbceoojaaDoor
open Go.RowKit
set_option linter.unusedVariables false
set_option maxRecDepth 100000

def nN (s : List UInt8) : RE := .mk 1 ⟨s.toArray⟩ []
def nB (op : Int) (a b : RE) : RE := .mk op ⟨#[]⟩ [a, b]
def nU (op : Int) (a : RE) : RE := .mk op ⟨#[]⟩ [a]
theorem shpN {d : Nat} {s : List UInt8} (h : (⟨s.toArray⟩ : ByteArray) ∈ nm) : Shp (d + 1) (nN s) := Shp.leaf h
theorem shpBi {d : Nat} {op : Int} {a b : RE} (h2 : 2 ≤ op) (h5 : op ≤ 5) (ha : Shp d a) (hb : Shp d b) : Shp (d + 1) (nB op a b) :=
  Shp.node h2 (by omega) (by unfold kidsI; rw [if_neg (by omega), if_pos ⟨h2, h5⟩]; rfl) (fun k hk => by simp at hk; rcases hk with rfl | rfl <;> assumption)
theorem shpUn {d : Nat} {op : Int} {a : RE} (h : op = 6 ∨ op = 7) (ha : Shp d a) : Shp (d + 1) (nU op a) :=
  Shp.node (by omega) (by omega) (by rcases h with rfl | rfl <;> rfl) (fun k hk => by simp at hk; subst hk; assumption)
def kPo : RE := nN [112, 111]
def kLoc : RE := nN [108, 111, 99]
def kExt : RE := nN [101, 120, 116]
def kRf : RE := nN [114, 102]
def kCo : RE := nN [99, 111]
def kFr : RE := nN [102, 114]
def kFence : RE := nN [102, 101, 110, 99, 101]
def kWr : RE := nN [119, 114]
def kWw : RE := nN [119, 119]
def mA : RU := ⟨1, nB 2 (nB 2 (nB 2 kPo kRf) kCo) kFr⟩
def mB' : RU := ⟨1, nB 2 (nB 2 (nB 2 (nB 3 kPo kLoc) kRf) kCo) kFr⟩
def mC : RU := ⟨1, nB 2 (nB 2 (nB 2 (nB 2 (nB 4 kPo kWr) kFence) (nB 3 kRf kExt)) kCo) kFr⟩
def mD : RU := ⟨2, nB 5 kFr kCo⟩
def mE : RU := ⟨1, nB 2 (nB 2 (nB 2 (nB 2 (nB 4 kPo (nB 2 kWr kWw)) kFence) (nB 3 kRf kExt)) kCo) kFr⟩
def mF : RU := ⟨1, nB 2 kPo kRf⟩
def mG : RU := ⟨1, nB 2 (nB 2 (nB 3 (nU 7 (nB 2 kPo kRf)) kLoc) kCo) kFr⟩
def mH : RU := ⟨3, kPo⟩
def mI : RU := ⟨2, nB 5 (nU 6 kRf) kCo⟩
theorem mA_ok : UOk mA := ⟨by decide, by decide, by repeat first | exact shpN (by simp [nm]) | refine shpBi (by omega) (by omega) ?_ ?_ | refine shpUn (by omega) ?_, by simp [mA, nB, kPo, kRf, kCo, kFr, nN, cntE, cntL]⟩
theorem mB_ok : UOk mB' := ⟨by decide, by decide, by repeat first | exact shpN (by simp [nm]) | refine shpBi (by omega) (by omega) ?_ ?_ | refine shpUn (by omega) ?_, by simp [mB', nB, kPo, kRf, kCo, kFr, kLoc, nN, cntE, cntL]⟩
theorem mC_ok : UOk mC := ⟨by decide, by decide, by repeat first | exact shpN (by simp [nm]) | refine shpBi (by omega) (by omega) ?_ ?_ | refine shpUn (by omega) ?_, by simp [mC, nB, kPo, kRf, kCo, kFr, kWr, kFence, kExt, nN, cntE, cntL]⟩
theorem mD_ok : UOk mD := ⟨by decide, by decide, by repeat first | exact shpN (by simp [nm]) | refine shpBi (by omega) (by omega) ?_ ?_ | refine shpUn (by omega) ?_, by simp [mD, nB, kCo, kFr, nN, cntE, cntL]⟩
theorem mE_ok : UOk mE := ⟨by decide, by decide, by repeat first | exact shpN (by simp [nm]) | refine shpBi (by omega) (by omega) ?_ ?_ | refine shpUn (by omega) ?_, by simp [mE, nB, kPo, kRf, kCo, kFr, kWr, kWw, kFence, kExt, nN, cntE, cntL]⟩
theorem mF_ok : UOk mF := ⟨by decide, by decide, by repeat first | exact shpN (by simp [nm]) | refine shpBi (by omega) (by omega) ?_ ?_ | refine shpUn (by omega) ?_, by simp [mF, nB, kPo, kRf, nN, cntE, cntL]⟩
theorem mG_ok : UOk mG := ⟨by decide, by decide, by repeat first | exact shpN (by simp [nm]) | refine shpBi (by omega) (by omega) ?_ ?_ | refine shpUn (by omega) ?_, by simp [mG, nB, nU, kPo, kRf, kCo, kFr, kLoc, nN, cntE, cntL]⟩
theorem mH_ok : UOk mH := ⟨by decide, by decide, by repeat first | exact shpN (by simp [nm]) | refine shpBi (by omega) (by omega) ?_ ?_ | refine shpUn (by omega) ?_, by simp [mH, kPo, nN, cntE, cntL]⟩
theorem mI_ok : UOk mI := ⟨by decide, by decide, by repeat first | exact shpN (by simp [nm]) | refine shpBi (by omega) (by omega) ?_ ?_ | refine shpUn (by omega) ?_, by simp [mI, nB, nU, kRf, kCo, nN, cntE, cntL]⟩

def mtxts : List ByteArray := [
  ⟨#[97, 99, 121, 99, 108, 105, 99, 32, 112, 111, 124, 114, 102, 124, 99, 111, 124, 102, 114]⟩,
  ⟨#[97, 99, 121, 99, 108, 105, 99, 32, 112, 111, 38, 108, 111, 99, 124, 114, 102, 124, 99, 111, 124, 102, 114, 47, 97, 99, 121, 99, 108, 105, 99, 32, 112, 111, 45, 119, 114, 124, 102, 101, 110, 99, 101, 124, 114, 102, 38, 101, 120, 116, 124, 99, 111, 124, 102, 114, 47, 105, 114, 114, 101, 102, 32, 102, 114, 59, 99, 111]⟩,
  ⟨#[97, 99, 121, 99, 108, 105, 99, 32, 112, 111, 38, 108, 111, 99, 124, 114, 102, 124, 99, 111, 124, 102, 114, 47, 97, 99, 121, 99, 108, 105, 99, 32, 112, 111, 45, 40, 119, 114, 124, 119, 119, 41, 124, 102, 101, 110, 99, 101, 124, 114, 102, 38, 101, 120, 116, 124, 99, 111, 124, 102, 114, 47, 105, 114, 114, 101, 102, 32, 102, 114, 59, 99, 111]⟩,
  ⟨#[97, 99, 121, 99, 108, 105, 99, 32, 112, 111, 124, 114, 102, 47, 97, 99, 121, 99, 108, 105, 99, 32, 43, 40, 112, 111, 124, 114, 102, 41, 38, 108, 111, 99, 124, 99, 111, 124, 102, 114, 47, 105, 114, 114, 101, 102, 32, 102, 114, 59, 99, 111]⟩,
  ⟨#[97, 99, 121, 99, 108, 105, 99, 32, 112, 111, 38, 108, 111, 99, 124, 114, 102, 124, 99, 111, 124, 102, 114]⟩,
  ⟨#[101, 109, 112, 116, 121, 32, 112, 111]⟩,
  ⟨#[105, 114, 114, 101, 102, 32, 126, 114, 102, 59, 99, 111]⟩]
theorem mok_of {rs : List RU} (h1 : 1 ≤ rs.length) (h5 : rs.length ≤ 5) (h : ∀ r ∈ rs, UOk r) : MOk rs := ⟨h1, h5, h⟩
theorem mtxts_ok : ∀ t ∈ mtxts, t.size ≤ 100 ∧ ∃ qs, MOk qs ∧ mt qs = t := by
  intro t ht
  simp only [mtxts, List.mem_cons, List.not_mem_nil, or_false] at ht
  have hA := mA_ok
  have hB := mB_ok
  have hC := mC_ok
  have hD := mD_ok
  have hE := mE_ok
  have hF := mF_ok
  have hG := mG_ok
  have hH := mH_ok
  have hI := mI_ok
  rcases ht with rfl | rfl | rfl | rfl | rfl | rfl | rfl
  · exact ⟨by decide, [mA], mok_of (by decide) (by decide) (fun r hr => by simp only [List.mem_cons, List.not_mem_nil, or_false] at hr; subst hr; assumption), by kernel_rfl⟩
  · exact ⟨by decide, [mB', mC, mD], mok_of (by decide) (by decide) (fun r hr => by simp only [List.mem_cons, List.not_mem_nil, or_false] at hr; rcases hr with rfl | rfl | rfl <;> assumption), by kernel_rfl⟩
  · exact ⟨by decide, [mB', mE, mD], mok_of (by decide) (by decide) (fun r hr => by simp only [List.mem_cons, List.not_mem_nil, or_false] at hr; rcases hr with rfl | rfl | rfl <;> assumption), by kernel_rfl⟩
  · exact ⟨by decide, [mF, mG, mD], mok_of (by decide) (by decide) (fun r hr => by simp only [List.mem_cons, List.not_mem_nil, or_false] at hr; rcases hr with rfl | rfl | rfl <;> assumption), by kernel_rfl⟩
  · exact ⟨by decide, [mB'], mok_of (by decide) (by decide) (fun r hr => by simp only [List.mem_cons, List.not_mem_nil, or_false] at hr; subst hr; assumption), by kernel_rfl⟩
  · exact ⟨by decide, [mH], mok_of (by decide) (by decide) (fun r hr => by simp only [List.mem_cons, List.not_mem_nil, or_false] at hr; subst hr; assumption), by kernel_rfl⟩
  · exact ⟨by decide, [mI], mok_of (by decide) (by decide) (fun r hr => by simp only [List.mem_cons, List.not_mem_nil, or_false] at hr; subst hr; assumption), by kernel_rfl⟩

set_option maxHeartbeats 400000 in
theorem l7Models_any (w : World) : Calls Tryd.prog 99 #[] w (RetStrs w mtxts) := by
  go_enter Tryd.func99, Tryd.ntmps99
  go_wp2_with fail
  go_ret
  refine ⟨_, _, rfl, Strs.mk (by simp [mtxts]) fun i hi => cell_above_of (Nat.le_refl _) ?_, (Below.refl _ _).alloc (Nat.le_refl _) _⟩
  rw [Nat.zero_add]
  simp only [World.cell?_alloc_new]
  match i, hi with
  | 0, _ => rfl
  | 1, _ => rfl
  | 2, _ => rfl
  | 3, _ => rfl
  | 4, _ => rfl
  | 5, _ => rfl
  | 6, _ => rfl

/-- A row that a draw appends to: the source may turn. -/
theorem RowK.mv {α : Type} {k : Nat} {Rp : World → (Nat → Value) → α → Prop} (hR : ∀ a a' cs x, Le a a' → Rp a cs x → Rp a' cs x) {w w' : World} {base B : Nat} {e : TypeId} {v : Value} {xs : List α} (h : RowK k Rp w base e v xs) (m : Mv B w w') (hB : B < base) : RowK k Rp w' base e v xs :=
  (RowOf.imp h fun cs x hx => hR _ _ _ _ (Le.keepW fun a u hq hc => ⟨hq, m.cell hc (by have := hq.1; omega)⟩) hx).of_block fun g hg _ hlt => m.block hlt (by omega)
/-- One element more. -/
theorem RowK.pushM {α : Type} {k : Nat} {Rp : World → (Nat → Value) → α → Prop} (hR : ∀ a a' cs x, Le a a' → Rp a cs x → Rp a' cs x) (hQ : ∀ a (f g : Nat → Value) x, (∀ j, j < k → f j = g j) → Rp a f x → Rp a g x)
    {w X w1 : World} {base B gg cap H : Nat} {e : TypeId} {v : Value} {xs : List α} {cs news : List Value} {x : α} (hown : w.ownsRow base e k v xs.length cs) (hq : ∀ i (h : i < xs.length), Rp (keepW (Kr base v) w) (fun j => cs.getD (i * k + j) undef) xs[i])
    (hX : Mv B w X) (hB : B < base) (hg : X.grownBy w1 v.ownBlock) (hn : news.length = k) (hx : Rp (keepW (Kr base v) X) (fun j => news.getD j undef) x) (hbw : base ≤ w.heap.size)
    (hown1 : w1.ownsRow base e k (.slice (some ⟨gg, 0, none⟩) (xs.length + 1) cap) (xs.length + 1) (cs ++ news)) (hat : v.ownBlock = some gg ∨ gg = H) (hH : X.heap.size = H) :
    RowK k Rp w1 base e (.slice (some ⟨gg, 0, none⟩) (xs.length + 1) cap) (xs ++ [x]) := by
  have hlt : ∀ g, v.ownBlock = some g → base ≤ g ∧ g < w.heap.size := fun g hv => owns_base hown hv
  have st : ∀ (a : Addr) (u : Value), v.ownBlock ≠ some a.block → X.cell? a = some u → w1.cell? a = some u := fun a u hn hc => by
    rw [World.cell?_of_block (w := X) (World.grownBy.block hg a.block (World.block_lt_of_cell? _ _ hc) (fun e => hn e.symm))]
    exact hc
  have ne : ∀ a : Addr, v.ownBlock ≠ some a.block → a.block < X.heap.size → (Value.slice (some ⟨gg, 0, none⟩) (xs.length + 1) cap).ownBlock ≠ some a.block := fun a hn hl e => by
    simp only [Value.ownBlock, Option.some.injEq] at e
    rcases hat with h | h
    · exact hn (by rw [h, e])
    · omega
  refine RowOf.snoc (fun f g x hfg h => hQ _ f g x hfg h) hown (fun i hi => hR _ _ _ _ (Le.keepW fun a u hqa hc => ?_) (hq i hi)) hn (hR _ _ _ _ (fun a u hc => ?_) hx) hown1
  · have hcX := hX.cell hc (by have := hqa.1; omega)
    exact ⟨⟨hqa.1, ne a hqa.2 (World.block_lt_of_cell? _ _ hcX)⟩, st a u hqa.2 hcX⟩
  · obtain ⟨h1, h2⟩ := of_cell_keepW hc
    exact cell_keepW_of ⟨h1.1, ne a h1.2 (World.block_lt_of_cell? _ _ h2)⟩ (st a u h1.2 h2)
theorem above_keep {X : World} {B base : Nat} {v : Value} (hB : base ≤ B) (h : ∀ g, v.ownBlock = some g → g < B) : Le (above B X) (keepW (Kr base v) X) := fun a u hc => by
  obtain ⟨h1, h2⟩ := cell_above_lt hc
  exact cell_keepW_of ⟨by omega, fun e => by have := h _ e; omega⟩ h2

/-- What l7Rules hands back. -/
def RetRules (w : World) (R p : Nat) (e : Ending) (w' : World) : Prop :=
  ∃ (rs : List RU) (v : Value) (p' : Nat), e = .returned v ∧ MOk rs ∧ SlR 4 RepU (above (R + 1) w') v rs ∧ Mv R w w' ∧ Rd w' R p' ∧ p' ≤ p + 200

theorem mv_grown2 {R : Nat} {w X w1 : World} {row : Option Nat} (m : Mv R w X) (h : X.grownBy w1 row) (hr : ∀ g, row = some g → w.heap.size ≤ g) : Mv R w w1 :=
  ⟨(World.grownBy.os h).trans m.os, (World.grownBy.tape h).trans m.tape, (World.grownBy.output h).trans m.output, Nat.le_trans m.size (World.grownBy.size h), fun i hi hn => (World.grownBy.block h i (by have := m.size; omega) (fun e => by have := hr i e.symm; omega)).trans (m.block hi (fun e => hn (by rw [e])))⟩
theorem rd_grown {R p : Nat} {X w1 : World} {row : Option Nat} (h : Rd X R p) (g : X.grownBy w1 row) (hr : ∀ x, row = some x → R < x) : Rd w1 R p := by
  obtain ⟨A, n, c, h, hn, hc⟩ := h
  refine ⟨A, n, c, h.of_block (World.grownBy.block g R h.lt (fun e => by have := hr R e.symm; omega)), hn, fun i hi => ?_⟩
  obtain ⟨b, f, v, h1, h2, h3, h4⟩ := hc i hi
  refine ⟨b, f, v, h1, h2, ?_, h4⟩
  rw [World.cell?_of_block (w := X) (World.grownBy.block g b (World.block_lt_of_cell? _ _ h3) (fun e => by have := hr b e.symm; omega))]
  exact h3

set_option maxHeartbeats 2000000 in
theorem rules_any (w : World) (R p : Nat) (hp : p ≤ 1000000) (hr : Rd w R p) : Calls Tryd.prog 77 #[.pointer (some ⟨R, 0, none⟩)] w (RetRules w R p) := by
  have hR := hr.lt
  obtain ⟨i0, hi0, hz0, hz1, hz2⟩ := info_parts Tryd.infoRU
  go_enter Tryd.func77, Tryd.ntmps77
  go_wp2_with fail
  refine (l7Models_any _).mono ?_
  rintro e1 w1 ⟨A, c, rfl, hs, hb1⟩
  have hr1 := hr.below hb1
  have m1 : Mv R w w1 := Mv.of_below hb1
  go_wp2_with fail
  refine (pick_any _ R p 3 (by omega) hr1).mono ?_
  rintro e2 w2 ⟨v, rfl, hv0, hv3, m2, hr2⟩
  have hv3' := hv3 (by omega)
  clear hv3
  have hs2 : Strs (above (R + 1) w2) A c mtxts := (hs.le (Le.above_mono (by omega) _)).le m2.above
  by_cases hgt : 0 < v
  · have hd : decide (v > 0) = true := by rw [decide_eq_true_iff]; exact hgt
    go_wp2_with fail
    refine (pick_any _ R (p + 1) 7 (by omega) hr2).mono ?_
    rintro e3 w3 ⟨u, rfl, hu0, hu7, m3, hr3⟩
    obtain ⟨un, rfl⟩ : ∃ un : Nat, u = un := ⟨u.toNat, by omega⟩
    have hun : un < mtxts.length := by have := hu7 (by omega); simp [mtxts]; omega
    have hs3 := (hs2.le m3.above).le (Le.above _ _)
    obtain ⟨b, o, rfl, hbl, hc⟩ := hs3.get hun
    obtain ⟨htz, qs, hq1, hq2⟩ := mtxts_ok _ (List.getElem_mem hun)
    have Hq := Lib.hid (And.intro hq1 hq2)
    clear hq1 hq2 hu7
    have hun7 : (un : Int) < 7 := by simp [mtxts] at hun; omega
    go_wp2_with fail
    refine (specParseM_any mtxts[un] _ (by omega)).mono ?_
    rintro e4 w4 ⟨rs, v4, bb, rfl, hread, hsl, hb4⟩
    have hok : MOk rs := by
      rcases hread with ⟨_, h, _⟩ | ⟨_, _, h⟩
      · exact h
      · exact absurd Hq.out.2 (h qs Hq.out.1)
    have Hok := Lib.hid hok
    have Hsl := Lib.hid hsl
    clear hread hok hsl
    go_wp2_with fail
    go_ret
    exact ⟨rs, v4, p + 2, rfl, Hok.out, RepUs.le Hsl.out (Le.above_mono (by have := hr3.lt; omega) _), ((m1.trans m2).trans m3).trans (Mv.of_below hb4), hr3.below hb4, by omega⟩
  · have hd : decide (v > 0) = false := by rw [decide_eq_false_iff_not]; omega
    have own0 := Own.new w2 72 #[]
    have hs1 := m1.size
    have hs2' := m2.size
    have hrow0 : RowK 4 RepU (w2.alloc (.cells #[] 72)) (R + 1) 72 (.slice (some ⟨w2.heap.size, 0, none⟩) 0 0) [] := RowOf.made _ own0 (by omega)
    go_wp2_with fail
    refine (pick_any _ R (p + 1) 2 (by omega) (hr2.alloc _)).mono ?_
    rintro e3 w3 ⟨u, rfl, hu0, hu2, m3, hr3⟩
    have hu2' := hu2 (by omega)
    have hrow3 := RowK.mv (Rp := RepU) (fun a a' cs x hl h => RepU.le hl h) hrow0 m3 (by omega)
    have m3' : Mv R w w3 := ((m1.trans m2).alloc _).trans m3
    have hw3 : w2.heap.size < w3.heap.size := by have := m3.size; simp at this; omega
    clear own0 hrow0 hs hs2 hr2 hu2 hr1
    go_wp2_with fail
    go_loopg [6, 7] 3 (fun g s6 s7 wr => ∃ (n i : Nat) (ms : List RU) (v : Value) (p' : Nat), n + i ≤ 2 ∧ 1 ≤ n + i ∧ g = 3 - n ∧ v = s6 ∧ s7 = .int .i64 i ∧ ms.length ≤ n ∧ Hid (ms.length = n) ∧ Hid (RowK 4 RepU wr (R + 1) 72 v ms) ∧ Mv R w wr ∧ Rd wr R p' ∧ p' ≤ p + 2 + n * 50 ∧ Hid (∀ r ∈ ms, UOk r) ∧
      Hid (∀ g, v.ownBlock = some g → w.heap.size ≤ g))
    case atStart => exact ⟨0, (1 + u).toNat, [], _, p + 2, by omega, by omega, by omega, rfl, by congr 1; omega, by simp, rfl, hrow3, m3', hr3, by omega, fun r hr => absurd hr (by simp), fun g hg => by simp [Value.ownBlock] at hg; omega⟩
    case round =>
      obtain ⟨wo, rfl⟩ : ∃ wo : World, wo = wr := ⟨_, rfl⟩
      obtain ⟨n, i, ms, v, p', hn2, hn1, rfl, rfl, rfl, hml, hmle, hrow, m, rd, hp', hok, hvb⟩ := hrel
      clear hrow3 m3' hr3
      by_cases hi : 0 < i
      · have hd2 : decide ((i : Int) > 0) = true := by rw [decide_eq_true_iff]; omega
        go_wp2_with fail
        refine (pick_any _ R p' 3 (by omega) rd).mono ?_
        rintro e5 w5 ⟨kk, rfl, hk0, hk3, m5, rd5⟩
        have hk3' := hk3 (by omega)
        go_wp2_with fail
        refine (draw_any 3 (by omega) (by omega) w5 R (p' + 1) (by omega) rd5).mono ?_
        rintro e6 w6 ⟨x, A6, c6, F6, p6, rfl, ho, hF, hsh, hcn, m6, rd6, hp6⟩
        have hrow' : RowOf 4 (RepU (keepW (Kr (R + 1) v) wo)) wo (R + 1) 72 v ms := hrow.out
        obtain ⟨cs, hown0, hq0⟩ := hrow'
        have Hown := Lib.hid hown0
        have Hq := Lib.hid hq0
        have HO := Lib.hid (ho.rep (B := wo.heap.size) (fun b hb => Nat.le_trans m5.size (hF b hb)))
        have hX : Mv R wo (w6.alloc (.cells #[.int .i64 (1 + kk), .int .i64 x.op, .string x.name, .slice A6 x.kids.length c6] 72)) := (m5.trans m6).alloc _
        have hoX : (w6.alloc (.cells #[.int .i64 (1 + kk), .int .i64 x.op, .string x.name, .slice A6 x.kids.length c6] 72)).ownsRow (R + 1) 72 4 v ms.length cs := owns_of_block Hown.out fun g _ hb hlt => hX.block hlt (by omega)
        have HoX := Lib.hid hoX
        have hso := m.size
        have hs6 := (m5.trans m6).size
        clear hown0 hq0 ho hF hoX hk3
        go_wp2_with (at_builtin; refine wpList_append_lies _ (by rfl) _ _ _ (by rfl) (R + 1) 72 i0 _ 4 56 Tryd.underlying41 hi0 hz0 hz1 hz2 rfl (by omega) v ms.length cs (by rfl) HoX.out ⟨w6.heap.size, 0, none⟩ 1 1 [.int .i64 (1 + kk), .int .i64 x.op, .string x.name, .slice A6 x.kids.length c6] (by rfl) (by rfl) (World.news_of_block (cs := #[.int .i64 (1 + kk), .int .i64 x.op, .string x.name, .slice A6 x.kids.length c6]) (t := 72) (fr := (0, 0)) (heap_alloc_new w6 _)) (by simp [Value.oneCell']) (by omega) (by simp [maxLen]; omega) (by omega) (by simp; omega) (w6.heap.size + 1) (by simp) ?_; intro gg cap w7 hown7 hgrow hat7 hlt7)
        go_roundg (3 - (n + 1))
        case measure => omega
        case rel =>
          have hbase : ∀ g, v.ownBlock = some g → R + 1 ≤ g ∧ g < wo.heap.size := fun g hg => owns_base Hown.out hg
          have hx3 : UOk ⟨1 + kk, x⟩ := ⟨by show 1 ≤ 1 + kk; omega, by show 1 + kk ≤ 3; omega, hsh.mono.mono.mono.mono.mono.mono.mono.mono.mono, by show cntE x ≤ 40; omega⟩
          refine ⟨n + 1, i - 1, ms ++ [RU.mk (1 + kk) x], _, p6, by omega, by omega, rfl, rfl, by congr 1; omega, by simp; omega, by have := hmle.out; simp; omega, ?_, mv_grown2 (m.trans hX) hgrow (fun g hg => hvb.out g hg), rd_grown (rd6.alloc _) hgrow (fun g hg => (hbase g hg).1), by omega, ?_, ?_⟩
          · refine RowK.pushM (Rp := RepU) (fun a a' cs x hl h => RepU.le hl h) (fun a f g x hfg h => RepU.congr h hfg) Hown.out Hq.out hX (by omega) hgrow rfl (x := RU.mk (1 + kk) x) ⟨rfl, ?_⟩ (by omega) hown7 hat7 (by simp)
            refine RepK.toE (A := A6) (c := c6) ⟨by have := hsh.name_le; show x.name.size ≤ _; omega, RepEs.le HO.out ((Le.above_le _ (Le.alloc _ _)).trans (above_keep (by omega) (fun g hg => (hbase g hg).2)))⟩ (fun j hj => by rcases (show j = 0 ∨ j = 1 ∨ j = 2 by omega) with rfl | rfl | rfl <;> rfl)
          · intro r hr
            rcases List.mem_append.1 hr with hr | hr
            · exact hok.out r hr
            · rw [List.mem_singleton.1 hr]; exact hx3
          · intro g hg
            simp only [Value.ownBlock, Option.some.injEq] at hg
            subst hg
            rcases hat7 with h | h
            · exact hvb.out _ h
            · omega
      · obtain rfl : i = 0 := by omega
        have hd2 : decide (((0 : Nat) : Int) > 0) = false := by simp
        have hsl := RowK.slR (k := 4) (R := RepU) (by omega) (fun a a' cs x hl h => RepU.le hl h) hrow.out
        have Hsl := Lib.hid hsl
        clear hsl hrow
        go_wp2_with fail
        go_ret
        exact ⟨ms, v, p', rfl, mok_of (by have := hmle.out; omega) (by omega) hok.out, Hsl.out, m, rd, by omega⟩

end Go.Proofs.YtapelogbceoojaaDoor
