/-
  Draws of models: l7Models, l7Rules. Draws of models: l7MutateAll. The walks of l1Bend and DrawParseRelExpr. The walks of DrawParseModel and of wmModel at equal models.
-/
import Derived.Test.YtfgpbnncdfcjjabGreatDoorSpMA
import Derived.Test.YtfgpbnncdfcjjabGreatDoorDr
import Derived.Test.YtfgpbnncdfcjjabGreatDoorMutA
import Derived.Test.YtfgpbnncdfcjjabGreatDoorMkA
import Derived.Test.YtfgpbnncdfcjjabGreatDoorWText
import Derived.Test.YtfgpbnncdfcjjabGreatDoorWPars
import Derived.Test.YtfgpbnncdfcjjabGreatDoorEq
import Derived.Deep.RegionLaw
import Derived.Deep.RegionWith

/-! Draws of models: l7Models, l7Rules. -/
namespace Go.Proofs.YtfgpbnncdfcjjabGreatDoor
open Go.RowKit
set_option linter.unusedVariables false
set_option maxRecDepth 100000

def nN (s : List UInt8) : RE := .mk 1 ⟨s.toArray⟩ []
def nB (op : Int) (a b : RE) : RE := .mk op ⟨#[]⟩ [a, b]
def nU (op : Int) (a : RE) : RE := .mk op ⟨#[]⟩ [a]
theorem shpN {d : Nat} {s : List UInt8} (h : (⟨s.toArray⟩ : ByteArray) ∈ nm) : Shp (d + 1) (nN s) := Shp.leaf h
theorem shpBi {d : Nat} {op : Int} {a b : RE} (h2 : 2 ≤ op) (h5 : op ≤ 5) (ha : Shp d a) (hb : Shp d b) : Shp (d + 1) (nB op a b) :=
  Shp.node h2 (by omega) (by unfold kidsI; rw [if_neg (by omega), if_pos ⟨h2, h5⟩]; rfl) (fun k hk => by simp at hk; rcases hk with rfl | rfl <;> assumption)
theorem shpUn {d : Nat} {op : Int} {a : RE} (h : op = 6 ∨ op = 7) (ha : Shp d a) : Shp (d + 1) (nU op a) :=
  Shp.node (by omega) (by omega) (by rcases h with rfl | rfl <;> rfl) (fun k hk => by simp at hk; subst hk; assumption)
def kPo : RE := nN [112, 111]
def kLoc : RE := nN [108, 111, 99]
def kExt : RE := nN [101, 120, 116]
def kRf : RE := nN [114, 102]
def kCo : RE := nN [99, 111]
def kFr : RE := nN [102, 114]
def kFence : RE := nN [102, 101, 110, 99, 101]
def kWr : RE := nN [119, 114]
def kWw : RE := nN [119, 119]
def mA : RU := ⟨1, nB 2 (nB 2 (nB 2 kPo kRf) kCo) kFr⟩
def mB' : RU := ⟨1, nB 2 (nB 2 (nB 2 (nB 3 kPo kLoc) kRf) kCo) kFr⟩
def mC : RU := ⟨1, nB 2 (nB 2 (nB 2 (nB 2 (nB 4 kPo kWr) kFence) (nB 3 kRf kExt)) kCo) kFr⟩
def mD : RU := ⟨2, nB 5 kFr kCo⟩
def mE : RU := ⟨1, nB 2 (nB 2 (nB 2 (nB 2 (nB 4 kPo (nB 2 kWr kWw)) kFence) (nB 3 kRf kExt)) kCo) kFr⟩
def mF : RU := ⟨1, nB 2 kPo kRf⟩
def mG : RU := ⟨1, nB 2 (nB 2 (nB 3 (nU 7 (nB 2 kPo kRf)) kLoc) kCo) kFr⟩
def mH : RU := ⟨3, kPo⟩
def mI : RU := ⟨2, nB 5 (nU 6 kRf) kCo⟩
theorem mA_ok : UOk mA := ⟨by decide, by decide, by repeat first | exact shpN (by simp [nm]) | refine shpBi (by omega) (by omega) ?_ ?_ | refine shpUn (by omega) ?_, by simp [mA, nB, kPo, kRf, kCo, kFr, nN, cntE, cntL]⟩
theorem mB_ok : UOk mB' := ⟨by decide, by decide, by repeat first | exact shpN (by simp [nm]) | refine shpBi (by omega) (by omega) ?_ ?_ | refine shpUn (by omega) ?_, by simp [mB', nB, kPo, kRf, kCo, kFr, kLoc, nN, cntE, cntL]⟩
theorem mC_ok : UOk mC := ⟨by decide, by decide, by repeat first | exact shpN (by simp [nm]) | refine shpBi (by omega) (by omega) ?_ ?_ | refine shpUn (by omega) ?_, by simp [mC, nB, kPo, kRf, kCo, kFr, kWr, kFence, kExt, nN, cntE, cntL]⟩
theorem mD_ok : UOk mD := ⟨by decide, by decide, by repeat first | exact shpN (by simp [nm]) | refine shpBi (by omega) (by omega) ?_ ?_ | refine shpUn (by omega) ?_, by simp [mD, nB, kCo, kFr, nN, cntE, cntL]⟩
theorem mE_ok : UOk mE := ⟨by decide, by decide, by repeat first | exact shpN (by simp [nm]) | refine shpBi (by omega) (by omega) ?_ ?_ | refine shpUn (by omega) ?_, by simp [mE, nB, kPo, kRf, kCo, kFr, kWr, kWw, kFence, kExt, nN, cntE, cntL]⟩
theorem mF_ok : UOk mF := ⟨by decide, by decide, by repeat first | exact shpN (by simp [nm]) | refine shpBi (by omega) (by omega) ?_ ?_ | refine shpUn (by omega) ?_, by simp [mF, nB, kPo, kRf, nN, cntE, cntL]⟩
theorem mG_ok : UOk mG := ⟨by decide, by decide, by repeat first | exact shpN (by simp [nm]) | refine shpBi (by omega) (by omega) ?_ ?_ | refine shpUn (by omega) ?_, by simp [mG, nB, nU, kPo, kRf, kCo, kFr, kLoc, nN, cntE, cntL]⟩
theorem mH_ok : UOk mH := ⟨by decide, by decide, by repeat first | exact shpN (by simp [nm]) | refine shpBi (by omega) (by omega) ?_ ?_ | refine shpUn (by omega) ?_, by simp [mH, kPo, nN, cntE, cntL]⟩
theorem mI_ok : UOk mI := ⟨by decide, by decide, by repeat first | exact shpN (by simp [nm]) | refine shpBi (by omega) (by omega) ?_ ?_ | refine shpUn (by omega) ?_, by simp [mI, nB, nU, kRf, kCo, nN, cntE, cntL]⟩

def mtxts : List ByteArray := [
  ⟨#[97, 99, 121, 99, 108, 105, 99, 32, 112, 111, 124, 114, 102, 124, 99, 111, 124, 102, 114]⟩,
  ⟨#[97, 99, 121, 99, 108, 105, 99, 32, 112, 111, 38, 108, 111, 99, 124, 114, 102, 124, 99, 111, 124, 102, 114, 47, 97, 99, 121, 99, 108, 105, 99, 32, 112, 111, 45, 119, 114, 124, 102, 101, 110, 99, 101, 124, 114, 102, 38, 101, 120, 116, 124, 99, 111, 124, 102, 114, 47, 105, 114, 114, 101, 102, 32, 102, 114, 59, 99, 111]⟩,
  ⟨#[97, 99, 121, 99, 108, 105, 99, 32, 112, 111, 38, 108, 111, 99, 124, 114, 102, 124, 99, 111, 124, 102, 114, 47, 97, 99, 121, 99, 108, 105, 99, 32, 112, 111, 45, 40, 119, 114, 124, 119, 119, 41, 124, 102, 101, 110, 99, 101, 124, 114, 102, 38, 101, 120, 116, 124, 99, 111, 124, 102, 114, 47, 105, 114, 114, 101, 102, 32, 102, 114, 59, 99, 111]⟩,
  ⟨#[97, 99, 121, 99, 108, 105, 99, 32, 112, 111, 124, 114, 102, 47, 97, 99, 121, 99, 108, 105, 99, 32, 43, 40, 112, 111, 124, 114, 102, 41, 38, 108, 111, 99, 124, 99, 111, 124, 102, 114, 47, 105, 114, 114, 101, 102, 32, 102, 114, 59, 99, 111]⟩,
  ⟨#[97, 99, 121, 99, 108, 105, 99, 32, 112, 111, 38, 108, 111, 99, 124, 114, 102, 124, 99, 111, 124, 102, 114]⟩,
  ⟨#[101, 109, 112, 116, 121, 32, 112, 111]⟩,
  ⟨#[105, 114, 114, 101, 102, 32, 126, 114, 102, 59, 99, 111]⟩]
theorem mok_of {rs : List RU} (h1 : 1 ≤ rs.length) (h5 : rs.length ≤ 5) (h : ∀ r ∈ rs, UOk r) : MOk rs := ⟨h1, h5, h⟩
theorem mtxts_ok : ∀ t ∈ mtxts, t.size ≤ 100 ∧ ∃ qs, MOk qs ∧ mt qs = t := by
  intro t ht
  simp only [mtxts, List.mem_cons, List.not_mem_nil, or_false] at ht
  have hA := mA_ok
  have hB := mB_ok
  have hC := mC_ok
  have hD := mD_ok
  have hE := mE_ok
  have hF := mF_ok
  have hG := mG_ok
  have hH := mH_ok
  have hI := mI_ok
  rcases ht with rfl | rfl | rfl | rfl | rfl | rfl | rfl
  · exact ⟨by decide, [mA], mok_of (by decide) (by decide) (fun r hr => by simp only [List.mem_cons, List.not_mem_nil, or_false] at hr; subst hr; assumption), by kernel_rfl⟩
  · exact ⟨by decide, [mB', mC, mD], mok_of (by decide) (by decide) (fun r hr => by simp only [List.mem_cons, List.not_mem_nil, or_false] at hr; rcases hr with rfl | rfl | rfl <;> assumption), by kernel_rfl⟩
  · exact ⟨by decide, [mB', mE, mD], mok_of (by decide) (by decide) (fun r hr => by simp only [List.mem_cons, List.not_mem_nil, or_false] at hr; rcases hr with rfl | rfl | rfl <;> assumption), by kernel_rfl⟩
  · exact ⟨by decide, [mF, mG, mD], mok_of (by decide) (by decide) (fun r hr => by simp only [List.mem_cons, List.not_mem_nil, or_false] at hr; rcases hr with rfl | rfl | rfl <;> assumption), by kernel_rfl⟩
  · exact ⟨by decide, [mB'], mok_of (by decide) (by decide) (fun r hr => by simp only [List.mem_cons, List.not_mem_nil, or_false] at hr; subst hr; assumption), by kernel_rfl⟩
  · exact ⟨by decide, [mH], mok_of (by decide) (by decide) (fun r hr => by simp only [List.mem_cons, List.not_mem_nil, or_false] at hr; subst hr; assumption), by kernel_rfl⟩
  · exact ⟨by decide, [mI], mok_of (by decide) (by decide) (fun r hr => by simp only [List.mem_cons, List.not_mem_nil, or_false] at hr; subst hr; assumption), by kernel_rfl⟩

set_option maxHeartbeats 400000 in
theorem l7Models_any (w : World) : Calls Tryz.prog 92 #[] w (RetStrs w mtxts) := by
  go_enter Tryz.func92, Tryz.ntmps92
  go_wp2_with fail
  go_ret
  refine ⟨_, _, rfl, Strs.mk (by simp [mtxts]) fun i hi => cell_above_of (Nat.le_refl _) ?_, (Below.refl _ _).alloc (Nat.le_refl _) _⟩
  rw [Nat.zero_add]
  simp only [World.cell?_alloc_new]
  match i, hi with
  | 0, _ => rfl
  | 1, _ => rfl
  | 2, _ => rfl
  | 3, _ => rfl
  | 4, _ => rfl
  | 5, _ => rfl
  | 6, _ => rfl

/-- What l7Rules hands back. -/
def RetRules (w : World) (R p : Nat) (e : Ending) (w' : World) : Prop :=
  ∃ (rs : List RU) (v : Value) (p' : Nat), e = .returned v ∧ MOk rs ∧ SlR 4 RepU (above (R + 1) w') v rs ∧ Mv R w w' ∧ Rd w' R p' ∧ p' ≤ p + 200

set_option maxHeartbeats 2000000 in
theorem rules_any (w : World) (R p : Nat) (hp : p ≤ 1000000) (hr : Rd w R p) : Calls Tryz.prog 54 #[.pointer (some ⟨R, 0, none⟩)] w (RetRules w R p) := by
  have hR := hr.lt
  obtain ⟨i0, hi0, hz0, hz1, hz2⟩ := info_parts Tryz.infoRU
  go_enter Tryz.func54, Tryz.ntmps54
  go_wp2_with fail
  refine (l7Models_any _).mono ?_
  rintro e1 w1 ⟨A, c, rfl, hs, hb1⟩
  have hr1 := hr.below hb1
  have m1 : Mv R w w1 := Mv.of_below hb1
  go_wp2_with fail
  refine (pick_any _ R p 3 (by omega) hr1).mono ?_
  rintro e2 w2 ⟨v, rfl, hv0, hv3, m2, hr2⟩
  have hv3' := hv3 (by omega)
  clear hv3
  have hs2 : Strs (above (R + 1) w2) A c mtxts := (hs.le (Le.above_mono (by omega) _)).le m2.above
  by_cases hgt : 0 < v
  · have hd : decide (v > 0) = true := by rw [decide_eq_true_iff]; exact hgt
    go_wp2_with fail
    refine (pick_any _ R (p + 1) 7 (by omega) hr2).mono ?_
    rintro e3 w3 ⟨u, rfl, hu0, hu7, m3, hr3⟩
    obtain ⟨un, rfl⟩ : ∃ un : Nat, u = un := ⟨u.toNat, by omega⟩
    have hun : un < mtxts.length := by have := hu7 (by omega); simp [mtxts]; omega
    have hs3 := (hs2.le m3.above).le (Le.above _ _)
    obtain ⟨b, o, rfl, hbl, hc⟩ := hs3.get hun
    obtain ⟨htz, qs, hq1, hq2⟩ := mtxts_ok _ (List.getElem_mem hun)
    have Hq := Lib.hid (And.intro hq1 hq2)
    clear hq1 hq2 hu7
    have hun7 : (un : Int) < 7 := by simp [mtxts] at hun; omega
    go_wp2_with fail
    refine (specParseM_any mtxts[un] _ (by omega)).mono ?_
    rintro e4 w4 ⟨rs, v4, bb, rfl, hread, hsl, hb4⟩
    have hok : MOk rs := by
      rcases hread with ⟨_, h, _⟩ | ⟨_, _, h⟩
      · exact h
      · exact absurd Hq.out.2 (h qs Hq.out.1)
    have Hok := Lib.hid hok
    have Hsl := Lib.hid hsl
    clear hread hok hsl
    go_wp2_with fail
    go_ret
    exact ⟨rs, v4, p + 2, rfl, Hok.out, RepUs.le Hsl.out (Le.above_mono (by have := hr3.lt; omega) _), ((m1.trans m2).trans m3).trans (Mv.of_below hb4), hr3.below hb4, by omega⟩
  · have hd : decide (v > 0) = false := by rw [decide_eq_false_iff_not]; omega
    have own0 := Own.new w2 59 #[]
    have hs1 := m1.size
    have hs2' := m2.size
    have hrow0 : RowK 4 RepU (w2.alloc (.cells #[] 59)) (R + 1) 59 (.slice (some ⟨w2.heap.size, 0, none⟩) 0 0) [] := RowOf.made _ own0 (by omega)
    go_wp2_with fail
    refine (pick_any _ R (p + 1) 2 (by omega) (hr2.alloc _)).mono ?_
    rintro e3 w3 ⟨u, rfl, hu0, hu2, m3, hr3⟩
    have hu2' := hu2 (by omega)
    have hrow3 := RowK.mv (Rp := RepU) (fun a a' cs x hl h => RepU.le hl h) hrow0 m3 (by omega)
    have m3' : Mv R w w3 := ((m1.trans m2).alloc _).trans m3
    have hw3 : w2.heap.size < w3.heap.size := by have := m3.size; simp at this; omega
    clear own0 hrow0 hs hs2 hr2 hu2 hr1
    go_wp2_with fail
    go_loopg [6, 7] 3 (fun g s6 s7 wr => ∃ (n i : Nat) (ms : List RU) (v : Value) (p' : Nat), n + i ≤ 2 ∧ 1 ≤ n + i ∧ g = 3 - n ∧ v = s6 ∧ s7 = .int .i64 i ∧ ms.length ≤ n ∧ Hid (ms.length = n) ∧ Hid (RowK 4 RepU wr (R + 1) 59 v ms) ∧ Mv R w wr ∧ Rd wr R p' ∧ p' ≤ p + 2 + n * 50 ∧ Hid (∀ r ∈ ms, UOk r) ∧
      Hid (∀ g, v.ownBlock = some g → w.heap.size ≤ g))
    case atStart => exact ⟨0, (1 + u).toNat, [], _, p + 2, by omega, by omega, by omega, rfl, by congr 1; omega, by simp, rfl, hrow3, m3', hr3, by omega, fun r hr => absurd hr (by simp), fun g hg => by simp [Value.ownBlock] at hg; omega⟩
    case round =>
      obtain ⟨wo, rfl⟩ : ∃ wo : World, wo = wr := ⟨_, rfl⟩
      obtain ⟨n, i, ms, v, p', hn2, hn1, rfl, rfl, rfl, hml, hmle, hrow, m, rd, hp', hok, hvb⟩ := hrel
      clear hrow3 m3' hr3
      by_cases hi : 0 < i
      · have hd2 : decide ((i : Int) > 0) = true := by rw [decide_eq_true_iff]; omega
        go_wp2_with fail
        refine (pick_any _ R p' 3 (by omega) rd).mono ?_
        rintro e5 w5 ⟨kk, rfl, hk0, hk3, m5, rd5⟩
        have hk3' := hk3 (by omega)
        go_wp2_with fail
        refine (draw_any 3 (by omega) (by omega) w5 R (p' + 1) (by omega) rd5).mono ?_
        rintro e6 w6 ⟨x, A6, c6, F6, p6, rfl, ho, hF, hsh, hcn, m6, rd6, hp6⟩
        have hrow' : RowOf 4 (RepU (keepW (Kr (R + 1) v) wo)) wo (R + 1) 59 v ms := hrow.out
        obtain ⟨cs, hown0, hq0⟩ := hrow'
        have Hown := Lib.hid hown0
        have Hq := Lib.hid hq0
        have HO := Lib.hid (ho.rep (B := wo.heap.size) (fun b hb => Nat.le_trans m5.size (hF b hb)))
        have hX : Mv R wo (w6.alloc (.cells #[.int .i64 (1 + kk), .int .i64 x.op, .string x.name, .slice A6 x.kids.length c6] 59)) := (m5.trans m6).alloc _
        have hoX : (w6.alloc (.cells #[.int .i64 (1 + kk), .int .i64 x.op, .string x.name, .slice A6 x.kids.length c6] 59)).ownsRow (R + 1) 59 4 v ms.length cs := owns_of_block Hown.out fun g _ hb hlt => hX.block hlt (by omega)
        have HoX := Lib.hid hoX
        have hso := m.size
        have hs6 := (m5.trans m6).size
        clear hown0 hq0 ho hF hoX hk3
        go_wp2_with (at_builtin; refine wpList_append_lies _ (by rfl) _ _ _ (by rfl) (R + 1) 59 i0 _ 4 56 Tryz.underlying36 hi0 hz0 hz1 hz2 rfl (by omega) v ms.length cs (by rfl) HoX.out ⟨w6.heap.size, 0, none⟩ 1 1 [.int .i64 (1 + kk), .int .i64 x.op, .string x.name, .slice A6 x.kids.length c6] (by rfl) (by rfl) (World.news_of_block (cs := #[.int .i64 (1 + kk), .int .i64 x.op, .string x.name, .slice A6 x.kids.length c6]) (t := 59) (fr := (0, 0)) (heap_alloc_new w6 _)) (by simp [Value.oneCell']) (by omega) (by simp [maxLen]; omega) (by omega) (by simp; omega) (w6.heap.size + 1) (by simp) ?_; intro gg cap w7 hown7 hgrow hat7 hlt7)
        go_roundg (3 - (n + 1))
        case measure => omega
        case rel =>
          have hbase : ∀ g, v.ownBlock = some g → R + 1 ≤ g ∧ g < wo.heap.size := fun g hg => owns_base Hown.out hg
          have hx3 : UOk ⟨1 + kk, x⟩ := ⟨by show 1 ≤ 1 + kk; omega, by show 1 + kk ≤ 3; omega, hsh.mono.mono.mono.mono.mono.mono.mono.mono.mono, by show cntE x ≤ 40; omega⟩
          refine ⟨n + 1, i - 1, ms ++ [RU.mk (1 + kk) x], _, p6, by omega, by omega, rfl, rfl, by congr 1; omega, by simp; omega, by have := hmle.out; simp; omega, ?_, mv_grown2 (m.trans hX) hgrow (fun g hg => hvb.out g hg), rd_grown (rd6.alloc _) hgrow (fun g hg => (hbase g hg).1), by omega, ?_, ?_⟩
          · refine RowK.pushM (Rp := RepU) (fun a a' cs x hl h => RepU.le hl h) (fun a f g x hfg h => RepU.congr h hfg) Hown.out Hq.out hX (by omega) hgrow rfl (x := RU.mk (1 + kk) x) ⟨rfl, ?_⟩ (by omega) hown7 hat7 (by simp)
            refine RepK.toE (A := A6) (c := c6) ⟨by have := hsh.name_le; show x.name.size ≤ _; omega, RepEs.le HO.out ((Le.above_le _ (Le.alloc _ _)).trans (above_keep (by omega) (fun g hg => (hbase g hg).2)))⟩ (fun j hj => by rcases (show j = 0 ∨ j = 1 ∨ j = 2 by omega) with rfl | rfl | rfl <;> rfl)
          · intro r hr
            rcases List.mem_append.1 hr with hr | hr
            · exact hok.out r hr
            · rw [List.mem_singleton.1 hr]; exact hx3
          · intro g hg
            simp only [Value.ownBlock, Option.some.injEq] at hg
            subst hg
            rcases hat7 with h | h
            · exact hvb.out _ h
            · omega
      · obtain rfl : i = 0 := by omega
        have hd2 : decide (((0 : Nat) : Int) > 0) = false := by simp
        have hsl := RowK.slR (k := 4) (R := RepU) (by omega) (fun a a' cs x hl h => RepU.le hl h) hrow.out
        have Hsl := Lib.hid hsl
        clear hsl hrow
        go_wp2_with fail
        go_ret
        exact ⟨ms, v, p', rfl, mok_of (by have := hmle.out; omega) (by omega) hok.out, Hsl.out, m, rd, by omega⟩

end Go.Proofs.YtfgpbnncdfcjjabGreatDoor

/-! Draws of models: l7MutateAll. -/
namespace Go.Proofs.YtfgpbnncdfcjjabGreatDoor
open Go.RowKit
set_option linter.unusedVariables false
set_option maxRecDepth 100000

theorem owns_set {w : World} {base g k n j : Nat} {e : TypeId} {v : Value} {cs : List Value} (h : w.ownsRow base e k v n cs) (hv : v.ownBlock = some g) (u : Value) : (w.setCell ⟨g, j, none⟩ u).ownsRow base e k v n (cs.set j u) := by
  obtain ⟨hl, h⟩ := h
  rcases h with ⟨rfl, _⟩ | ⟨g', cap, cur, rfl, hb, hg, hn, hm, hc, ht⟩
  · cases hv
  · simp only [Value.ownBlock, Option.some.injEq] at hv
    subst hv
    refine ⟨by simpa using hl, .inr ⟨g', cap, cur.setIfInBounds j u, rfl, hb, ?_, hn, hm, by simpa using hc, ?_⟩⟩
    · simp [World.setCell, Array.getElem?_modify, hg]
    · rw [Array.toList_setIfInBounds, List.take_set, ht]
theorem keep_set {w : World} {base g : Nat} {v : Value} (hv : v.ownBlock = some g) (j : Nat) (u : Value) : Le (keepW (Kr base v) w) (keepW (Kr base v) (w.setCell ⟨g, j, none⟩ u)) :=
  Le.keepW fun a x hq hc => ⟨hq, by rw [World.cell?_setCell_other _ _ _ _ (fun e => hq.2 (by rw [hv, ← e]))]; exact hc⟩
/-- One element of a row is another now. -/
theorem RowK.setAt {α : Type} {k : Nat} {Rp : World → (Nat → Value) → α → Prop} (hR : ∀ a a' cs x, Le a a' → Rp a cs x → Rp a' cs x) (hQ : ∀ a (f g : Nat → Value) x, (∀ j, j < k → f j = g j) → Rp a f x → Rp a g x)
    {w w' : World} {base i : Nat} {e : TypeId} {v : Value} {xs : List α} {cs cs' : List Value} {x : α} (hq : ∀ i (h : i < xs.length), Rp (keepW (Kr base v) w) (fun j => cs.getD (i * k + j) undef) xs[i])
    (hown : w'.ownsRow base e k v xs.length cs') (hi : i < xs.length) (hne : ∀ t j, t ≠ i → j < k → cs'.getD (t * k + j) undef = cs.getD (t * k + j) undef) (hl : Le (keepW (Kr base v) w) (keepW (Kr base v) w')) (hx : Rp (keepW (Kr base v) w') (fun j => cs'.getD (i * k + j) undef) x) :
    RowK k Rp w' base e v (xs.set i x) := by
  refine ⟨cs', by rw [List.length_set]; exact hown, fun t ht => ?_⟩
  rw [List.length_set] at ht
  by_cases hti : t = i
  · subst hti
    rw [List.getElem_set_self]
    exact hx
  · rw [List.getElem_set_ne (fun e => hti e.symm)]
    exact hQ _ _ _ _ (fun j hj => (hne t j hti hj).symm) (hR _ _ _ _ hl (hq t ht))

/-- A model that is being changed. -/
structure AllS (w V : World) (R p : Nat) (ms : List RU) (v : Value) : Prop where
  row : RowK 4 RepU V (R + 1) 59 v ms
  vb : ∀ g, v.ownBlock = some g → w.heap.size ≤ g
  mv : Mv R w V
  rd : Rd V R p
  hR : R < w.heap.size
  cnt : ∀ r ∈ ms, cntE r.e ≤ 1000

/-- A slice's capacity reaches over it. -/
def CapOk (v : Value) : Prop := ∀ A n c, v = .slice A n c → n ≤ c
theorem RowK.cap {α : Type} {k : Nat} {Rp : World → (Nat → Value) → α → Prop} {w : World} {base : Nat} {e : TypeId} {v : Value} {xs : List α} (h : RowK k Rp w base e v xs) : CapOk v := by
  have h' : RowOf k (Rp (keepW (Kr base v) w)) w base e v xs := h
  obtain ⟨cs, ⟨_, h1⟩, _⟩ := h'
  intro A n c e
  rcases h1 with ⟨h2, _⟩ | ⟨g, cap, cur, h2, _, _, h3, _⟩
  · rw [h2] at e
    injection e with _ e2 e3
    omega
  · rw [h2] at e
    injection e with _ e2 e3
    omega
def RetAll (w : World) (R p : Nat) (e : Ending) (w' : World) : Prop :=
  ∃ (rs : List RU) (v : Value) (p' : Nat), e = .returned v ∧ rs.length ≤ 6 ∧ (∀ r ∈ rs, cntE r.e ≤ 1000) ∧ SlR 4 RepU (above (R + 1) w') v rs ∧ Mv R w w' ∧ Rd w' R p' ∧ p' ≤ p + 200 ∧ CapOk v
namespace AllS
variable {w V V' : World} {R p p' : Nat} {ms : List RU} {v : Value}
theorem fin (h : AllS w V R p' ms v) (hl : ms.length ≤ 6) (hp : p' ≤ p + 200) : RetAll w R p (.returned v) V :=
  ⟨ms, v, p', rfl, hl, h.cnt, RowK.slR (k := 4) (R := RepU) (by omega) (fun a a' cs x hl h => RepU.le hl h) h.row, h.mv, h.rd, hp, h.row.cap⟩
theorem mv' (h : AllS w V R p ms v) (m : Mv R V V') (rd : Rd V' R p') : AllS w V' R p' ms v :=
  ⟨RowK.mv (B := R) (Rp := RepU) (fun a a' cs x hl h => RepU.le hl h) h.row m (Nat.lt_succ_self R), h.vb, h.mv.trans m, rd, h.hR, h.cnt⟩
theorem alloc (h : AllS w V R p ms v) (o : Obj) : AllS w (V.alloc o) R p ms v := h.mv' ((Mv.refl _ _).alloc o) (h.rd.alloc o)
/-- The row's first rule. -/
theorem head (h : AllS w V R p ms v) (hn : 0 < ms.length) : ∃ g c, v = .slice (some ⟨g, 0, none⟩) ms.length c ∧ w.heap.size ≤ g ∧ g < V.heap.size ∧ ∃ A c', (V.cell? ⟨g, 0, none⟩ = some (.int .i64 ms[0].kind) ∧ V.cell? ⟨g, 1, none⟩ = some (.int .i64 ms[0].e.op) ∧ V.cell? ⟨g, 2, none⟩ = some (.string ms[0].e.name) ∧ V.cell? ⟨g, 3, none⟩ = some (.slice A ms[0].e.kids.length c')) ∧
    (V.frozen? ⟨g, 0, none⟩ = false ∧ V.frozen? ⟨g, 1, none⟩ = false ∧ V.frozen? ⟨g, 2, none⟩ = false ∧ V.frozen? ⟨g, 3, none⟩ = false) ∧ RepK (above (R + 1) V) A c' ms[0].e ∧
    ∃ cs, V.ownsRow (R + 1) 59 4 v ms.length cs ∧ (∀ i (h : i < ms.length), RepU (keepW (Kr (R + 1) v) V) (fun j => cs.getD (i * 4 + j) undef) ms[i]) ∧ 4 ≤ cs.length ∧ cs.getD 0 undef = .int .i64 ms[0].kind ∧ cs.getD 1 undef = .int .i64 ms[0].e.op ∧ cs.getD 2 undef = .string ms[0].e.name ∧ cs.getD 3 undef = .slice A ms[0].e.kids.length c' ∧ RepK (keepW (Kr (R + 1) v) V) A c' ms[0].e := by
  have hrow : RowOf 4 (RepU (keepW (Kr (R + 1) v) V)) V (R + 1) 59 v ms := h.row
  obtain ⟨cs, hown, hq⟩ := hrow
  have hcs := hown.1
  have h2 := hown.2
  rcases h2 with ⟨_, h0⟩ | ⟨g, cap, cur, hv, hb, hg, hnc, hm, hc, ht⟩
  · omega
  · obtain ⟨A, c', e0, e1, e2, e3, hk⟩ := repU_K.1 (hq 0 hn)
    have e0 : cs.getD 0 undef = _ := e0
    have e1 : cs.getD 1 undef = _ := e1
    have e2 : cs.getD 2 undef = _ := e2
    have e3 : cs.getD 3 undef = _ := e3
    have gc : ∀ j, j < 4 → V.cell? ⟨g, j, none⟩ = some (cs.getD j undef) := fun j hj => by
      have h1 : cs.getD j undef = cur.getD j undef := by
        rw [← ht, List.getD_eq_getElem?_getD, List.getElem?_take, if_pos (by omega), Array.getElem?_toList]
        simp [Array.getD, show j < cur.size by omega]
      rw [h1]
      have h2 : cur[j]? = some (cur.getD j undef) := getD_some (by omega)
      generalize cur.getD j undef = u at h2 ⊢
      simp [World.cell?, hg, h2]
    have gf : ∀ j, V.frozen? ⟨g, j, none⟩ = false := fun j => by simp [World.frozen?, hg]
    have hka : Le (keepW (Kr (R + 1) v) V) (above (R + 1) V) := fun a u hc => by
      obtain ⟨h1, h2⟩ := of_cell_keepW hc
      exact cell_above_of h1.1 h2
    refine ⟨g, cap, hv, h.vb g (by rw [hv]; rfl), (Array.getElem?_eq_some_iff.1 hg).elim (fun h _ => h), A, c', ⟨?_, ?_, ?_, ?_⟩, ⟨gf 0, gf 1, gf 2, gf 3⟩, hk.le hka, cs, hown, hq, by omega, e0, e1, e2, e3, hk⟩
    · rw [gc 0 (by omega), e0]
    · rw [gc 1 (by omega), e1]
    · rw [gc 2 (by omega), e2]
    · rw [gc 3 (by omega), e3]
end AllS

theorem getD_set_self {cs : List Value} {j : Nat} (u : Value) (h : j < cs.length) : (cs.set j u).getD j undef = u := by
  rw [List.getD_eq_getElem?_getD, List.getElem?_set_self h]; rfl
theorem getD_set_ne {cs : List Value} {j t : Nat} (u : Value) (h : j ≠ t) : (cs.set j u).getD t undef = cs.getD t undef := by
  rw [List.getD_eq_getElem?_getD, List.getElem?_set_ne h, List.getD_eq_getElem?_getD]

namespace AllS
variable {w V V' : World} {R p p' : Nat} {ms : List RU} {v : Value}
/-- Another kind for the first rule. -/
theorem setKind (h : AllS w V R p ms v) (hn : 0 < ms.length) {g : Nat} (hv : v.ownBlock = some g) (x : Int) : AllS w (V.setCell ⟨g, 0, none⟩ (.int .i64 x)) R p (ms.set 0 ⟨x, ms[0].e⟩) v := by
  obtain ⟨g', c, rfl, hg, hgl, A, c', _, _, _, cs, hown, hq, hcl, e0, e1, e2, e3, hk⟩ := h.head hn
  simp only [Value.ownBlock, Option.some.injEq] at hv
  subst hv
  have hR := h.hR
  refine ⟨RowK.setAt (k := 4) (Rp := RepU) (i := 0) (fun a a' cs x hl h => RepU.le hl h) (fun a f g x hfg h => RepU.congr h hfg) hq (owns_set hown rfl _) hn (fun t j ht hj => getD_set_ne _ (by omega)) (keep_set rfl _ _) ?_, h.vb, h.mv.setNew hg _, h.rd.setNew (by show R < g'; omega) _, hR, fun r hr => ?_⟩
  · exact repU_K.2 ⟨A, c', getD_set_self _ (by omega), by rw [getD_set_ne _ (by omega)]; exact e1, by rw [getD_set_ne _ (by omega)]; exact e2, by rw [getD_set_ne _ (by omega)]; exact e3, hk.le (keep_set rfl _ _)⟩
  · rcases List.mem_or_eq_of_mem_set hr with hr | rfl
    · exact h.cnt r hr
    · exact h.cnt ms[0] (List.getElem_mem hn)
/-- Another expression for the first rule. -/
theorem setExpr (h : AllS w V R p ms v) (hn : 0 < ms.length) {g : Nat} (hv : v.ownBlock = some g) {y : RE} {Ay : Option Addr} {cy : Nat} (hy : RepK (keepW (Kr (R + 1) v) V) Ay cy y) (hc : cntE y ≤ 1000) :
    AllS w (((V.setCell ⟨g, 1, none⟩ (.int .i64 y.op)).setCell ⟨g, 2, none⟩ (.string y.name)).setCell ⟨g, 3, none⟩ (.slice Ay y.kids.length cy)) R p (ms.set 0 ⟨ms[0].kind, y⟩) v := by
  obtain ⟨g', c, rfl, hg, hgl, A, c', _, _, _, cs, hown, hq, hcl, e0, e1, e2, e3, hk⟩ := h.head hn
  simp only [Value.ownBlock, Option.some.injEq] at hv
  subst hv
  have hR := h.hR
  have hR' : R < g' := by omega
  have hl3 := ((keep_set (w := V) (base := R + 1) (g := g') (v := .slice (some ⟨g', 0, none⟩) ms.length c) rfl 1 (.int .i64 y.op)).trans (keep_set rfl 2 (.string y.name))).trans (keep_set rfl 3 (.slice Ay y.kids.length cy))
  refine ⟨RowK.setAt (k := 4) (Rp := RepU) (i := 0) (fun a a' cs x hl h => RepU.le hl h) (fun a f g x hfg h => RepU.congr h hfg) hq (owns_set (owns_set (owns_set hown rfl _) rfl _) rfl _) hn (fun t j ht hj => by rw [getD_set_ne _ (by omega), getD_set_ne _ (by omega), getD_set_ne _ (by omega)]) hl3 ?_, h.vb, ((h.mv.setNew hg _).setNew hg _).setNew hg _, ((h.rd.setNew hR' _).setNew hR' _).setNew hR' _, hR, fun r hr => ?_⟩
  · refine repU_K.2 ⟨Ay, cy, ?_, ?_, ?_, ?_, hy.le hl3⟩
    · show (((cs.set 1 _).set 2 _).set 3 _).getD 0 undef = _
      rw [getD_set_ne _ (by omega), getD_set_ne _ (by omega), getD_set_ne _ (by omega)]; exact e0
    · show (((cs.set 1 _).set 2 _).set 3 _).getD 1 undef = _
      rw [getD_set_ne _ (by omega), getD_set_ne _ (by omega)]; exact getD_set_self _ (by omega)
    · show (((cs.set 1 _).set 2 _).set 3 _).getD 2 undef = _
      rw [getD_set_ne _ (by omega)]; exact getD_set_self _ (by simp; omega)
    · exact getD_set_self _ (by simp; omega)
  · rcases List.mem_or_eq_of_mem_set hr with hr | rfl
    · exact h.cnt r hr
    · exact hc
end AllS

theorem cnt_kids' (xs : List RE) : xs.length ≤ cntL xs := by
  induction xs with
  | nil => exact Nat.le_refl _
  | cons x xs ih => have := cntE_pos x; simp only [cntL, List.length_cons]; omega
theorem start_all {w w1 : World} {R p gg cap b o : Nat} {rs : List RU} {news : List Value} (hr : Rd w R p) (hn : news.length = rs.length * 4) (hq : ∀ i (hi : i < rs.length), ∃ cs, (∀ j, j < 4 → cs j = news.getD (i * 4 + j) undef) ∧ RepU (above (R + 1) w) cs rs[i])
    (hg : (w.alloc (.cells #[] 59)).grownBy w1 (some w.heap.size)) (hown : w1.ownsRow (R + 1) 59 4 (.slice (some ⟨gg, 0, none⟩) (0 + rs.length) cap) (0 + rs.length) ([] ++ news)) (hat : some w.heap.size = some gg ∨ gg = w.heap.size + 1) (hcnt : ∀ r ∈ rs, cntE r.e ≤ 1000) :
    AllS w w1 R p rs (.slice (some ⟨gg, 0, none⟩) rs.length cap) := by
  have hR := hr.lt
  have hgg : w.heap.size ≤ gg := by
    rcases hat with h | h
    · injection h with h; omega
    · omega
  have m0 : Mv R w (w.alloc (.cells #[] 59)) := (Mv.refl _ _).alloc _
  rw [Nat.zero_add, List.nil_append] at hown
  refine ⟨⟨news, hown, fun i hi => ?_⟩, fun g hg => by simp only [Value.ownBlock, Option.some.injEq] at hg; omega, mv_grown2 m0 hg (fun g hg => by injection hg with hg; omega), rd_grown (hr.alloc _) hg (fun g hg => by injection hg with hg; omega), hR, hcnt⟩
  obtain ⟨cs, h1, h2⟩ := hq i hi
  refine (RepU.le (fun a u hc => ?_) h2).congr h1
  obtain ⟨h3, h4⟩ := cell_above_lt hc
  have hlt := World.block_lt_of_cell? _ _ h4
  refine cell_keepW_of ⟨h3, fun e => by simp only [Value.ownBlock, Option.some.injEq] at e; omega⟩ ?_
  rw [World.cell?_of_block (w := w.alloc (.cells #[] 59)) (World.grownBy.block hg a.block (by simp; omega) (fun e => by injection e with e; omega)), World.cell?_alloc_lt _ _ _ hlt]
  exact h4

set_option maxHeartbeats 4000000 in
theorem mutAll_any (w : World) (R p : Nat) (rs : List RU) (v : Value) (hp : p ≤ 500000) (hr : Rd w R p) (hok : MOk rs) (hsl : SlR 4 RepU (above (R + 1) w) v rs) : Calls Tryz.prog 53 #[.pointer (some ⟨R, 0, none⟩), v] w (RetAll w R p) := by
  obtain ⟨i0, hi0, hz0, hz1, hz2⟩ := info_parts Tryz.infoRU
  obtain ⟨A, c, rfl, _⟩ := hsl.slice
  have hl1 := hok.1
  have hl5 := hok.2.1
  obtain ⟨b, o, rfl, news, hnl, hnews, hq⟩ := hsl.news (by omega) hl1
  have hone : ∀ u ∈ news, u.oneCell' = true := news_one (k := 4) (by omega) hnl fun i hi j hj => by
    obtain ⟨cs, h1, h2⟩ := hq i hi
    obtain ⟨A', c', e0, e1, e2, e3, _⟩ := repU_K.1 h2
    rw [← h1 j hj]
    rcases (show j = 0 ∨ j = 1 ∨ j = 2 ∨ j = 3 by omega) with rfl | rfl | rfl | rfl
    · rw [e0]; rfl
    · rw [e1]; rfl
    · rw [e2]; rfl
    · rw [e3]; rfl
  have hR := hr.lt
  have hcnt : ∀ r ∈ rs, cntE r.e ≤ 1000 := fun r hr => by have := (hok.2.2 r hr).2.2.2; omega
  have hnm : ∀ r ∈ rs, r.e.name.size ≤ 300 := fun r hr => (hok.2.2 r hr).2.2.1.name_le
  have hnA : NewsAt (w.alloc (.cells #[] 59)) ⟨b, o, none⟩ news := hnews.le ((Le.above _ _).trans (Le.alloc _ _))
  have HnA := Lib.hid hnA
  have Hone := Lib.hid hone
  have Hnl := Lib.hid hnl
  have Hq := Lib.hid hq
  have Hcnt := Lib.hid hcnt
  have Hnm := Lib.hid hnm
  have Hc40 : Hid (∀ r ∈ rs, cntE r.e ≤ 40) := fun r hr => (hok.2.2 r hr).2.2.2
  clear hnA hone hnl hq hsl hnews hcnt hnm
  go_enter Tryz.func53, Tryz.ntmps53
  go_wp2_with (at_builtin; refine wpList_append_lies _ (by rfl) _ _ _ (by rfl) (R + 1) 59 i0 _ 4 56 Tryz.underlying36 hi0 hz0 hz1 hz2 rfl (by omega) (.slice (some ⟨w.heap.size, 0, none⟩) 0 0) 0 [] (by rfl) (made_owns (Own.new w _ _) (by omega)) ⟨b, o, none⟩ rs.length c news (by rfl) Hnl.out HnA.out Hone.out (by omega) (by simp [maxLen]; omega) (by omega) (by simp; omega) (w.heap.size + 1) (by simp) ?_; intro gg cap w1 hown1 hgrow hat1 hlt1)
  have S1 := start_all (b := b) (o := o) hr Hnl.out Hq.out hgrow hown1 hat1 Hcnt.out
  clear hown1 hgrow hat1
  refine (pick_any _ R p 24 (by omega) S1.rd).mono ?_
  rintro e2 w2 ⟨k, rfl, hk0, hk24, m2, hr2⟩
  have S2 := S1.mv' m2 hr2
  clear hk24 S1 hr2 m2
  by_cases h0 : k = 0
  · subst h0
    have il := Own.new w2 3 #[.int .i64 0, .int .i64 4, .int .i64 2]
    have hs2 := S2.mv.size
    have hil : Ints (above (R + 1) (w2.alloc (.cells #[.int .i64 0, .int .i64 4, .int .i64 2] 3))) (some ⟨w2.heap.size, 0, none⟩) 3 [0, 4, 2] := ints_lit [0, 4, 2] il (by omega) rfl (by omega) (fun i hi => by
      match i, hi with
      | 0, _ => rfl
      | 1, _ => rfl
      | 2, _ => rfl)
    have S2a := S2.alloc (.cells #[.int .i64 0, .int .i64 4, .int .i64 2] 3)
    have hnum := num_any _ R (p + 1) _ 3 [0, 4, 2] (by omega) S2a.rd hil (by simp)
    clear il hil S2
    go_wp2_with fail
    refine hnum.mono ?_
    rintro e3 w3 ⟨x, rfl, hx, m3, hr3⟩
    have S3 := S2a.mv' m3 hr3
    obtain ⟨g', c', hv, hg1, hg2, A', c'', ⟨c0, _, _, _⟩, ⟨f0, _, _, _⟩, _⟩ := S3.head hl1
    obtain rfl : gg = g' := by injection hv with hv _ _; injection hv with hv; injection hv with hv _ _
    clear hv
    have S4 := S3.setKind hl1 (g := gg) rfl x
    have Hi : (0 : Int) < rs.length := by omega
    clear hnum hx S2a m3 hr3 S3
    go_wp2_with fail
    go_ret
    exact S4.fin (p := p) (by rw [List.length_set]; omega) (by omega)
  · have d0 : (k == 0) = false := by rw [beq_eq_false_iff_ne]; exact h0
    by_cases h1 : k = 1
    · subst h1
      obtain ⟨g', c', hv, hg1, hg2, A', c'', ⟨c0, c1, c2, c3⟩, ⟨f0, f1, f2, f3⟩, hrk, cs0, hcs1, hcs2, hcs3, hcs4, hcs5, hcs6, hcs7, hkk⟩ := S2.head hl1
      obtain rfl : gg = g' := by injection hv with hv _ _; injection hv with hv; injection hv with hv _ _
      clear hv
      have hmut := mutateZ_any gg w2 hg2 R (p + 1) rs[0].e A' c'' (by omega) S2.rd (hkk.le fun a u hc => by
        obtain ⟨h1, h2⟩ := of_cell_keepW hc
        exact cell_keepW_of ⟨by have := h1.1; omega, fun e => h1.2 (by rw [e]; rfl)⟩ h2) (Hnm.out _ (List.getElem_mem hl1)) (by have h := Hcnt.out rs[0] (List.getElem_mem hl1); have h2 := cntE_eq rs[0].e; have h3 := cnt_kids' rs[0].e.kids; omega)
      have Hi : (0 : Int) < rs.length := by omega
      have S2h := Lib.hid S2
      clear f0 hrk S2 hcs1 hcs2 hcs3 hcs4 hcs5 hcs6 hcs7 hkk
      go_wp2_with fail
      refine hmut.mono ?_
      rintro e3 w3 ⟨y, A3, c3', p3, rfl, hy, hn3, hk3, hc3, m3, rd3, hp3⟩
      have S3 := S2h.out.mv' m3 rd3
      have S4 := S3.setExpr hl1 (g := gg) rfl (hy.le fun a u hc => by
        obtain ⟨h1, h2⟩ := of_cell_keepW hc
        exact cell_keepW_of ⟨by have := h1.1; omega, fun e => h1.2 (by simp only [Value.ownBlock, Option.some.injEq] at e; exact e.symm)⟩ h2) (by have := Hc40.out rs[0] (List.getElem_mem hl1); omega)
      obtain ⟨g', c', hv, hg1, hg2, A', c'', ⟨k0, k1, k2, k3⟩, ⟨f0, f1, f2, f3⟩, _⟩ := S3.head hl1
      obtain rfl : gg = g' := by injection hv with hv _ _; injection hv with hv; injection hv with hv _ _
      clear hv
      clear hmut m3 rd3 S3 S2h f0 k0 hy
      go_wp2_with fail
      go_ret
      exact S4.fin (p := p) (by rw [List.length_set]; omega) (by omega)
    · have d1 : (k == 1) = false := by rw [beq_eq_false_iff_ne]; exact h1
      by_cases h2 : k = 2
      · subst h2
        have own0 := Own.new w2 59 #[]
        have hs2 := S2.mv.size
        have hrow0 : RowK 4 RepU (w2.alloc (.cells #[] 59)) (R + 1) 59 (.slice (some ⟨w2.heap.size, 0, none⟩) 0 0) [] := RowOf.made _ own0 (by omega)
        have S3 : AllS w (w2.alloc (.cells #[] 59)) R (p + 1) [] (.slice (some ⟨w2.heap.size, 0, none⟩) 0 0) := ⟨hrow0, fun g hg => by simp [Value.ownBlock] at hg; omega, S2.mv.alloc _, S2.rd.alloc _, hR, fun r hr => absurd hr (by simp)⟩
        clear own0 hrow0 S2
        go_wp2_with fail
        go_ret
        exact S3.fin (by simp) (by omega)
      · have d2 : (k == 2) = false := by rw [beq_eq_false_iff_ne]; exact h2
        by_cases h3 : k = 3
        · subst h3
          go_wp2_with fail
          go_loopg [5] (6 - rs.length) (fun g s5 wr => ∃ (ms : List RU) (g5 c5 : Nat), s5 = .slice (some ⟨g5, 0, none⟩) ms.length c5 ∧ g = 6 - ms.length ∧ 1 ≤ ms.length ∧ ms.length ≤ 6 ∧ Hid (AllS w wr R (p + 1) ms (.slice (some ⟨g5, 0, none⟩) ms.length c5)))
          case atStart => exact ⟨rs, gg, _, rfl, rfl, hl1, by omega, S2⟩
          case round =>
            clear S2
            obtain ⟨ms, g5, c5, rfl, rfl, hm1, hm6, hs⟩ := hrel
            by_cases hm : ms.length ≤ 5
            · obtain ⟨g', c', hv, hg1, hg2, A', c'', ⟨k0, k1, k2, k3⟩, _, _, cs, hown, hq, _, _, _, _, _, hkk⟩ := hs.out.head hm1
              obtain rfl : g5 = g' := by injection hv with hv _ _; injection hv with hv; injection hv with hv _ _
              clear hv
              have hX : Mv R wr (wr.alloc (.cells #[.int .i64 ms[0].kind, .int .i64 ms[0].e.op, .string ms[0].e.name, .slice A' ms[0].e.kids.length c''] 59)) := (Mv.refl _ _).alloc _
              have hoX := owns_alloc hown (.cells #[.int .i64 ms[0].kind, .int .i64 ms[0].e.op, .string ms[0].e.name, .slice A' ms[0].e.kids.length c''] 59)
              have Hown := Lib.hid hown
              have HoX := Lib.hid hoX
              have Hqq := Lib.hid hq
              have Hkk := Lib.hid hkk
              have Hi : (0 : Int) < ms.length := by omega
              have Hi5 : (ms.length : Int) ≤ 5 := by omega
              have hsm := hs.out.mv.size
              clear hown hoX hq hkk
              go_wp2_with (at_builtin; refine wpList_append_lies _ (by rfl) _ _ _ (by rfl) (R + 1) 59 i0 _ 4 56 Tryz.underlying36 hi0 hz0 hz1 hz2 rfl (by omega) (.slice (some ⟨g5, 0, none⟩) ms.length c5) ms.length cs (by rfl) HoX.out ⟨wr.heap.size, 0, none⟩ 1 1 [.int .i64 ms[0].kind, .int .i64 ms[0].e.op, .string ms[0].e.name, .slice A' ms[0].e.kids.length c''] (by rfl) (by rfl) (World.news_of_block (cs := #[.int .i64 ms[0].kind, .int .i64 ms[0].e.op, .string ms[0].e.name, .slice A' ms[0].e.kids.length c'']) (t := 59) (fr := (0, 0)) (heap_alloc_new wr _)) (by simp [Value.oneCell']) (by omega) (by simp [maxLen]; omega) (by omega) (by simp; omega) (wr.heap.size + 1) (by simp) ?_; intro gn cap7 w7 hown7 hgrow hat7 hlt7)
              go_roundg (6 - (ms.length + 1))
              case measure => omega
              case rel =>
                refine ⟨ms ++ [ms[0]], gn, cap7, by simp, by simp, by simp, by simp; omega, ?_⟩
                have hrowN : RowK 4 RepU w7 (R + 1) 59 (.slice (some ⟨gn, 0, none⟩) (ms.length + 1) cap7) (ms ++ [ms[0]]) := RowK.pushM (Rp := RepU) (fun a a' cs x hl h => RepU.le hl h) (fun a f g x hfg h => RepU.congr h hfg) Hown.out Hqq.out hX (Nat.lt_succ_self R) hgrow rfl (x := ms[0]) (repU_K.2 ⟨A', c'', rfl, rfl, rfl, rfl, Hkk.out.le (Le.keepW fun a u h1 h2 => ⟨h1, Le.alloc _ _ _ _ h2⟩)⟩) (by omega) hown7 hat7 (by simp)
                have hvb : ∀ g, (Value.slice (some ⟨g5, 0, none⟩) ms.length c5).ownBlock = some g → w.heap.size ≤ g := fun g hg => hs.out.vb g hg
                have hS : AllS w w7 R (p + 1) (ms ++ [ms[0]]) (.slice (some ⟨gn, 0, none⟩) (ms.length + 1) cap7) := ⟨hrowN, fun g hg => by
                  simp only [Value.ownBlock, Option.some.injEq] at hg
                  rcases hat7 with h | h
                  · exact hg ▸ hvb _ h
                  · omega, mv_grown2 (hs.out.mv.trans hX) hgrow hvb, rd_grown (hs.out.rd.alloc _) hgrow (fun g hg => by have := hvb g hg; omega), hR, fun r hr => by
                  rcases List.mem_append.1 hr with hr | hr
                  · exact hs.out.cnt r hr
                  · rw [List.mem_singleton.1 hr]; exact hs.out.cnt _ (List.getElem_mem hm1)⟩
                rw [List.length_append, List.length_singleton]
                exact hS
            · have Hi5 : ¬ (ms.length : Int) ≤ 5 := by omega
              go_wp2_with fail
              go_ret
              exact hs.out.fin hm6 (by omega)
        · have d3 : (k == 3) = false := by rw [beq_eq_false_iff_ne]; exact h3
          go_wp2_with fail
          go_ret
          exact S2.fin (by omega) (by omega)

/-- What a draw of a model comes to. -/
def RetDrM (w : World) (e : Ending) (w' : World) : Prop :=
  ∃ (rs : List RU) (v : Value), e = .returned v ∧ rs.length ≤ 6 ∧ (∀ r ∈ rs, cntE r.e ≤ 1000) ∧ SlR 4 RepU w' v rs ∧ Below w.heap.size w w' ∧ CapOk v

end Go.Proofs.YtfgpbnncdfcjjabGreatDoor

/-! The walks of l1Bend and DrawParseRelExpr. -/
namespace Go.Proofs.YtfgpbnncdfcjjabGreatDoor
open Go.RowKit
set_option linter.unusedVariables false
set_option maxRecDepth 100000

def RetBend (w : World) (R p : Nat) (e : Ending) (w' : World) : Prop := ∃ (t : ByteArray) (p' : Nat), e = .returned (.string t) ∧ t.size ≤ 2000000 ∧ Mv R w w' ∧ Rd w' R p' ∧ p' ≤ p + 10

/-- A text that was drawn. -/
def RetDrT (w : World) (e : Ending) (w' : World) : Prop := ∃ t : ByteArray, e = .returned (.string t) ∧ t.size ≤ 2000000 ∧ Below w.heap.size w w'
def bendL : List ByteArray := [⟨#[]⟩, ⟨#[40]⟩, ⟨#[41]⟩, ⟨#[124]⟩, ⟨#[38]⟩, ⟨#[45]⟩, ⟨#[59]⟩, ⟨#[126]⟩, ⟨#[43]⟩, ⟨#[112, 111]⟩, ⟨#[120]⟩]

end Go.Proofs.YtfgpbnncdfcjjabGreatDoor

/-! The walks of DrawParseModel and of wmModel at equal models. -/
namespace Go.Proofs.YtfgpbnncdfcjjabGreatDoor
open Go.RowKit
set_option linter.unusedVariables false
set_option maxRecDepth 100000

def bendM : List ByteArray := [⟨#[]⟩, ⟨#[47]⟩, ⟨#[32]⟩, ⟨#[40]⟩, ⟨#[124]⟩, ⟨#[97, 99, 121, 99, 108, 105, 99]⟩, ⟨#[120]⟩]
theorem mt_size {rs : List RU} (h : MOk rs) : (mt rs).size ≤ 3000 := by
  unfold mt
  rw [ByteArray.size_mk', List.size_toArray]
  exact join_len rs h.2.2 h.2.1

/-- One element's own slice. -/
theorem SlR.one {α : Type} {k : Nat} {Rp : World → (Nat → Value) → α → Prop} {w : World} {b o n c c' : Nat} {xs : List α} (h : SlR k Rp w (.slice (some ⟨b, o, none⟩) n c) xs) {i : Nat} (hi : i < xs.length) : SlR k Rp w (.slice (some ⟨b, o + i * k, none⟩) 1 c') [xs[i]] := by
  obtain ⟨A, c1, e, hm, h⟩ := h
  injection e with e1 _ _
  subst e1
  refine ⟨_, _, rfl, by simp, fun j hj => ?_⟩
  obtain rfl : j = 0 := by simpa using hj
  obtain ⟨b', o', e, cs, h1, h2⟩ := h i hi
  injection e with e
  injection e with e1 e2 _
  subst e1
  subst e2
  exact ⟨b, o + i * k, rfl, cs, fun j hj => by rw [Nat.zero_mul, Nat.add_zero]; exact h1 j hj, h2⟩

end Go.Proofs.YtfgpbnncdfcjjabGreatDoor
