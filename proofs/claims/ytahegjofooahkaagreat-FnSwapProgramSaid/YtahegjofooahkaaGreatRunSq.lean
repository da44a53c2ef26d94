/-
  RunSeq on both sides: the outcomes with one memory.
-/
import Derived.Test.YtahegjofooahkaaGreatSeqI
import Derived.Test.YtahegjofooahkaaGreatOwMP
namespace Go.Proofs.YtahegjofooahkaaGreat
open Go.RowKit
set_option linter.unusedVariables false
set_option maxRecDepth 100000

theorem rowI_one {w : World} {B g n c : Nat} {xs : List Int} (h : RowI w B (.slice (some ⟨g, 0, none⟩) n c) xs) : OwI1 w (.slice (some ⟨g, 0, none⟩) xs.length c) xs [g] ∧ n = xs.length := by
  obtain ⟨cs, ⟨hl, h1⟩, h2⟩ := h
  rcases h1 with ⟨e, _⟩ | ⟨g', cap, cur, e, hb, hg, hn, hm, hc, ht⟩
  · cases e
  · injection e with e1 e2 e3
    injection e1 with e1
    injection e1 with e1
    subst e1 e3
    refine ⟨?_, e2⟩
    have hcap : xs.length ≤ c := hn
    have gg : ∀ j, j < xs.length → cur.getD j undef = cs.getD j undef := fun j hj => by
      rw [← ht, List.getD_eq_getElem?_getD, List.getElem?_take, if_pos (by omega), Array.getElem?_toList]
      simp [Array.getD, show j < cur.size by omega]
    have gs : ∀ i, i < cur.size → cur[i]? = some (cur.getD i undef) := fun i h => by simp [Array.getD, h]
    have h := OwRow.made (k := 1) (e := 3) (P := flat QInt) (xs := xs) (g := g) (c := c) (N := c * 1) (G := fun j => cur.getD j undef) (fun _ => []) ⟨cur, hg, hc, fun i hi => gs i (by omega)⟩ hcap (by omega) (by unfold maxLen at hm; omega) (fun i hi => ⟨by
      have h3 := h2 i hi
      have h4 : cs.getD (i * 1 + 0) undef = .int .i64 xs[i] := h3
      rw [show i * 1 + 0 = i by omega, ← gg i hi] at h4
      show cur.getD (i * 1 + 0) undef = .int .i64 xs[i]
      rw [show i * 1 + 0 = i by omega]
      exact h4, rfl⟩)
    have he : ((List.range xs.length).map (fun _ => ([] : List Nat))).flatten = [] := by
      rw [List.flatten_eq_nil_iff]
      intro l hl
      obtain ⟨_, _, rfl⟩ := List.mem_map.1 hl
      rfl
    rw [he] at h
    exact h
theorem map_gO {β : Type} (os : List OE) (f : OE → β) : (List.range os.length).map (fun i => f (gO os i)) = os.map f := by
  refine List.ext_getElem (by simp) fun i h1 h2 => ?_
  simp only [List.getElem_map, List.getElem_range]
  rw [gO_get (by simpa using h2)]
theorem flatten_one {α : Type} (l : List α) : (l.map fun x => [x]).flatten = l := by
  induction l with
  | nil => rfl
  | cons a l ih => simp [ih]
/-- The outcomes, in rows of one's own. -/
theorem outs_ow {w : World} {base : Nat} {v : Value} {os : List OE} (h : RowOf 1 QOE w base 24 v os) (hr : ∀ o ∈ os, RowI w base o.v o.x ∧ ¬ v.ownBlock = some o.g) (hn : (os.map OE.g).Nodup) : ∃ F, OwI2 w v (os.map OE.x) F ∧ F.Nodup ∧ ∀ b ∈ F, base ≤ b := by
  obtain ⟨cs, h1, h2⟩ := h
  have hw : RowW 1 24 PI1 w base v (os.map OE.x) cs (fun i => [(gO os i).g]) := by
    refine ⟨by rw [List.length_map]; exact h1, fun i hi => ?_, ?_, fun i hi b hb => ?_⟩
    · have hi' : i < os.length := by simpa using hi
      have h3 := h2 i hi'
      have hro := (hr _ (List.getElem_mem hi')).1
      rw [gO_get hi', List.getElem_map]
      obtain ⟨k1, _⟩ := rowI_one (g := os[i].g) hro
      show OwRow 1 _ _ w (cs.getD (i * 1 + 0) undef) _ _
      rw [show cs.getD (i * 1 + 0) undef = os[i].v from h3]
      exact k1
    · rw [List.length_map]
      have := map_gO os (fun o => [o.g])
      show (((List.range os.length).map (fun i => [(gO os i).g])).flatten).Nodup
      rw [this, show os.map (fun o => [o.g]) = (os.map OE.g).map (fun x => [x]) by rw [List.map_map]; rfl, flatten_one]
      exact hn
    · have hi' : i < os.length := by simpa using hi
      rw [gO_get hi'] at hb
      have hb' : b = os[i].g := by simpa using hb
      subst hb'
      obtain ⟨k1, k2⟩ := hr _ (List.getElem_mem hi')
      exact ⟨(k1.own_lt (g := os[i].g) rfl).1, k2⟩
  exact hw.ow pi1_loc
/-- They are the outcomes of a program. -/
def IsOut (p : Prg) (L : List (List Int)) : Prop := (PrgOk p ∧ ∃ V, Dfs (sucS p) (st0 p) V [] ∧ Asc L ∧ ∀ y, y ∈ L ↔ ∃ s ∈ V, doneS p s = true ∧ outS s = y) ∨ (¬ PrgOk p ∧ L = [])
theorem IsOut.iff {p : Prg} {L : List (List Int)} (hp : PrgOk p) (h : IsOut p L) (y : List Int) : y ∈ L ↔ ∃ s, Reach (sucS p) (st0 p) s ∧ doneS p s = true ∧ outS s = y := by
  rcases h with ⟨_, V, h1, _, h3⟩ | ⟨h1, _⟩
  · rw [h3]
    exact ⟨fun ⟨s, k1, k2⟩ => ⟨s, h1.all.1 k1, k2⟩, fun ⟨s, k1, k2⟩ => ⟨s, h1.all.2 k1, k2⟩⟩
  · exact absurd hp h1
theorem IsOut.same {p : Prg} {L L' : List (List Int)} (h : IsOut p L) (k : IsOut p L') : L = L' := by
  by_cases hp : PrgOk p
  · have h1 := h.iff hp
    have h2 := k.iff hp
    refine asc_uniq L L' ?_ ?_ (fun x => by rw [h1, h2])
    · rcases h with ⟨_, V, _, h3, _⟩ | ⟨h3, _⟩
      · exact h3
      · exact absurd hp h3
    · rcases k with ⟨_, V, _, h3, _⟩ | ⟨h3, _⟩
      · exact h3
      · exact absurd hp h3
  · rcases h with ⟨h, _⟩ | ⟨_, rfl⟩
    · exact absurd h hp
    · rcases k with ⟨k, _⟩ | ⟨_, rfl⟩
      · exact absurd k hp
      · rfl
theorem IsOut.small {p : Prg} {L : List (List Int)} (h : IsOut p L) : (∀ x ∈ L, x.length ≤ 12) := fun x hx => by
  by_cases hp : PrgOk p
  · obtain ⟨s, h1, _, rfl⟩ := (h.iff hp x).1 hx
    have hok := reach_ok hp h1
    have := hp.1.1
    unfold outS
    rw [List.length_append, hok.regl, hok.meml]
    omega
  · rcases h with ⟨h, _⟩ | ⟨_, rfl⟩
    · exact absurd h hp
    · cases hx
theorem wSum_small {L : List (List Int)} (h : ∀ x ∈ L, x.length ≤ 12) : wSum List.length L ≤ 12 * L.length := by
  induction L with
  | nil => simp [wSum]
  | cons a L ih =>
    have h1 := h a (by simp)
    have h2 := ih fun x hx => h x (by simp [hx])
    simp only [wSum, List.length_cons]
    omega
/-- What the program hands back. -/
def RetRn (p : Prg) (W : World) (e : Ending) (W' : World) : Prop := ∃ v L F, e = .returned v ∧ OwI2 W' v L F ∧ F.Nodup ∧ (∀ b ∈ F, W.heap.size ≤ b) ∧ IsOut p L ∧ L.length ≤ 1000000000000 ∧ Below W.heap.size W W'
/-- What the reference hands back. -/
def RetRs (p : Prg) (W : World) (e : Ending) (W' : World) : Prop := ∃ A L c, e = .returned (.slice A L.length c) ∧ Intss W' A c L ∧ IsOut p L ∧ Below W.heap.size W W'

set_option maxHeartbeats 1000000 in
theorem implRn_any (p : Prg) (hl : p.length ≤ 1048576) (hls : ∀ t ∈ p, t.length ≤ 1048576) (W : World) (v : Value) (hr : PrgS W v p) : Calls Tryz.prog 41 #[v] W (RetRn p W) := by
  have hv := implPrg_any p hl hls W v hr
  have HR := Lib.hid hr
  obtain ⟨A, c, rfl, _⟩ := hr.slice
  have HF : Hid (prgB p = false → ¬ PrgOk p) := fun h => prgB_false.1 h
  have HT : Hid (prgB p = true → PrgOk p) := fun h => prgB_iff.1 h
  go_enter Tryz.func41, Tryz.ntmps41
  go_wp2_with fail
  refine hv.mono ?_
  rintro e1 w1 ⟨rfl, hb1⟩
  clear hv
  cases hpb : prgB p
  · have Hn : Hid (¬ PrgOk p) := HF.out hpb
    clear hpb HT HF
    go_wp2_with fail
    go_ret
    exact ⟨_, [], [], rfl, OwRow.nil, List.nodup_nil, fun b hb => (by cases hb), .inr ⟨Hn.out, rfl⟩, by simp, hb1⟩
  · have Hp : Hid (PrgOk p) := HT.out hpb
    have hns := newSeq_any p w1 _ (HR.out.le (Le.below hb1))
    clear hpb HT HF
    go_wp2_with fail
    refine hns.mono ?_
    rintro e2 w2 ⟨Ap, cp, b, e, rfl, hR, hb2⟩
    injection e with e1 _ e3
    subst e1 e3
    have hre := reach_any (seqM p A c) (seqM_P Hp.out A c) (seqM_C Hp.out A c) w2 b hR
    have hB2 := hb1.trans (hb2.mono hb1.size)
    clear hns
    go_wp2_with fail
    refine hre.mono ?_
    rintro e3 w3 ⟨v3, os, V, rfl, hdfs, hrow, hb3, hasc, hmem, hrows, hnd⟩
    have hB3 := hB2.trans (hb3.mono hB2.size)
    have Hd : Hid (Dfs (sucS p) (st0 p) V []) := hdfs
    have hfew : V.length ≤ 230127770466 := seq_few Hp.out Hd.out.nd Hd.out.reach
    have Hout : Hid (IsOut p (os.map OE.x)) := .inl ⟨Hp.out, V, Hd.out, hasc, hmem⟩
    have Hlen : Hid ((os.map OE.x).length ≤ 1000000000000) := by
      show _ ≤ _
      have h1 : (os.map OE.x).Nodup := hasc.imp fun h e => by rw [e, lexC_self] at h; omega
      have h2 := nodup_le (os.map OE.x) (V.map outS) h1 fun y hy => by
        obtain ⟨s, k1, _, k3⟩ := (hmem y).1 hy
        exact List.mem_map.2 ⟨s, k1, k3⟩
      rw [List.length_map (f := outS)] at h2
      omega
    have How := Lib.hid (outs_ow hrow hrows hnd)
    have hB2s := hB2.size
    clear hre hdfs hrow hrows hnd hasc hmem
    go_wp2_with fail
    go_ret
    obtain ⟨F, h1, h2, h3⟩ := How.out
    exact ⟨v3, _, F, rfl, h1, h2, fun b hb => by have := h3 b hb; omega, Hout.out, Hlen.out, hB3⟩

theorem OwPr.prgSR {w : World} {v : Value} {p : Prg} {F : List Nat} (h : OwPr w v p F) : PrgS w v p := PrgS.le (h.prgS (B := 0) (fun _ _ => Nat.zero_le _)) (Le.above _ _)
theorem OwI2.intss0 {w : World} {A : Option Addr} {c n : Nat} {xs : List (List Int)} {F : List Nat} (h : OwI2 w (.slice A n c) xs F) : Intss w A c xs := by
  have h1 := OwI2.intss (B := 0) h (fun _ _ => Nat.zero_le _)
  obtain ⟨A', c', e, _⟩ := OwRow.slice h
  injection e with e1 e2 e3
  subst e1 e2 e3
  exact Intss.le (w := above 0 w) h1 (Le.above _ _)
theorem wtIs_smallR : ∀ (p : Prg), wSum wtIs p = 4 * wSum List.length p
  | [] => rfl
  | t :: p => by
    have := wtIs_smallR p
    simp only [wSum, wtIs] at *
    omega

end Go.Proofs.YtahegjofooahkaaGreat
