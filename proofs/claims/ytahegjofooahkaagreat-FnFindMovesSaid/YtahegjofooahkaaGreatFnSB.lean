/-
  The reference's search for moves: l4Find, FindMoves.
-/
import Derived.Test.YtahegjofooahkaaGreatRunP
import Derived.Test.YtahegjofooahkaaGreatS4R
import Derived.Test.YtahegjofooahkaaGreatMvs
import Derived.Test.YtahegjofooahkaaGreatOutV
namespace Go.Proofs.YtahegjofooahkaaGreat
open Go.RowKit
set_option linter.unusedVariables false
set_option maxRecDepth 100000

theorem row_readSB {w' : World} {xs : List Int} {A : Option Addr} {n c B : Nat} (h : RowI w' B (.slice A n c) xs) : Ints w' A c xs := by
  obtain ⟨A', c', e, hi⟩ := RowI.ints h
  injection e with e1 e2 e3
  subst e1 e3
  exact hi.le (Le.above _ _)
noncomputable def goalB (p : Prg) (o : List Int) (s : BSt) : Bool := doneB p s && eqB (outB s) o
def mvF (p : Prg) (sp : Bool) (s : BSt) : List Int := mvBI p sp s (p.length + s.bufs.length)
theorem mvF_len (p : Prg) (sp : Bool) (s : BSt) : (mvF p sp s).length = (sucB p sp s).length := by unfold mvF; rw [mvBI_eq]; unfold sucB; rw [List.length_map, List.length_map]
theorem potB_le {p : Prg} {sp : Bool} (hp : PrgOk p) {s : BSt} (hs : BOk p sp s) : potB s ≤ 200 := by
  have h1 : totB s ≤ 7 * s.bufs.length := by
    have key : ∀ l : List (List (Int × Int)), (∀ bf ∈ l, bf.length ≤ 7) → (l.map List.length).foldr (· + ·) 0 ≤ 7 * l.length := fun l => by
      induction l with
      | nil => intro _; simp
      | cons a l ih =>
        intro h
        have h2 := h a (by simp)
        have h3 := ih fun bf hb => h bf (by simp [hb])
        simp only [List.map_cons, List.foldr_cons, List.length_cons]
        omega
    exact key s.bufs (bufs_sum hp hs)
  have h2 : s.bufs.length ≤ 9 := by rw [hs.len]; exact nBf_le hp sp
  unfold potB
  omega
theorem done_sucB {p : Prg} {sp : Bool} {s : BSt} (h : doneB p s = true) : sucB p sp s = [] := by
  have : mvB p sp s = [] := by
    unfold mvB
    rw [List.filter_eq_nil_iff]
    intro m hm hc
    rw [List.mem_range] at hm
    unfold canB at hc
    split at hc
    · rename_i h'
      rw [Bool.and_eq_true] at hc
      have h1 := done_iff.1 (done_s h) m h'
      have h2 := hc.1
      unfold onS at h2
      rw [decide_eq_true_iff] at h2
      omega
    · rw [done_bufs h] at hc
      cases hc
  unfold sucB
  rw [this]
  rfl
/-- The first way begins with move t. -/
theorem fst_mvB {p : Prg} {sp : Bool} {o : List Int} {s : BSt} {t : Nat} {l : List Int} (ht : t < p.length + s.bufs.length) (hon : canB p sp s t = true) (hg : goalB p o s = false) (hj : ∀ u, u < t → canB p sp s u = true → ¬ Good (sucB p sp) (goalB p o) (nxB p sp s u)) (h : FstP (sucB p sp) (mvF p sp) (goalB p o) (nxB p sp s t) l) :
    FstP (sucB p sp) (mvF p sp) (goalB p o) s ((t : Int) :: l) := by
  obtain ⟨hl, hg1⟩ := filter_range_get (f := canB p sp s) ht hon
  have hi : ((List.range t).filter (canB p sp s)).length < (sucB p sp s).length := by unfold sucB; rw [List.length_map]; exact hl
  have hm : ((List.range t).filter (canB p sp s)).length < (mvF p sp s).length := by rw [mvF_len]; exact hi
  have e1 : (sucB p sp s)[((List.range t).filter (canB p sp s)).length]'hi = nxB p sp s t := by
    simp only [sucB, List.getElem_map]
    exact congrArg (nxB p sp s) hg1
  have e2 : (mvF p sp s)[((List.range t).filter (canB p sp s)).length]'hm = (t : Int) := by
    simp only [mvF, mvBI_eq, List.getElem_map]
    congr 1
  have h' := FstP.step (mv := mvF p sp) hg hi hm (fun j hjl hjt => ?_) (by rw [e1]; exact h)
  · rw [e2] at h'
    exact h'
  · obtain ⟨u, hu, e⟩ : ∃ u, u ∈ (List.range t).filter (canB p sp s) ∧ (sucB p sp s)[j] = nxB p sp s u := by
      refine ⟨((List.range t).filter (canB p sp s))[j]'hjt, List.getElem_mem hjt, ?_⟩
      simp only [sucB, List.getElem_map]
      congr 1
      have hmv : (mvB p sp s) = (List.range (p.length + s.bufs.length)).filter (canB p sp s) := rfl
      obtain ⟨r, hr⟩ : ∃ r, (List.range (p.length + s.bufs.length)).filter (canB p sp s) = (List.range t).filter (canB p sp s) ++ r := by
        obtain ⟨k, hk⟩ : ∃ k, p.length + s.bufs.length = t + k := ⟨p.length + s.bufs.length - t, by omega⟩
        rw [hk, List.range_add, List.filter_append]
        exact ⟨_, rfl⟩
      simp only [hmv, hr]
      rw [List.getElem_append_left hjt]
    rw [e]
    rw [List.mem_filter, List.mem_range] at hu
    exact hj u hu.1 hu.2
theorem none_goodB {p : Prg} {sp : Bool} {o : List Int} {s : BSt} (hg : goalB p o s = false) (hj : ∀ u, u < p.length + s.bufs.length → canB p sp s u = true → ¬ Good (sucB p sp) (goalB p o) (nxB p sp s u)) : ¬ Good (sucB p sp) (goalB p o) s :=
  not_good hg fun j hjl => by
    have hm := List.getElem_mem hjl
    obtain ⟨u, hu, e⟩ := List.mem_map.1 hm
    rw [← e]
    unfold mvB at hu
    rw [List.mem_filter, List.mem_range] at hu
    exact hj u hu.1 hu.2
/-- The marked states. -/
structure GOkB (p : Prg) (sp : Bool) (o : List Int) (G : List BSt) (n : Nat) : Prop where
  nd : G.Nodup
  re : ∀ x ∈ G, Reach (sucB p sp) (bt0 p sp) x
  bad : ∀ x ∈ G, ¬ Good (sucB p sp) (goalB p o) x ∨ n ≤ potB x
def RetFdB (p : Prg) (sp : Bool) (o : List Int) (g : Nat) (bs : Nat → Option Nat) (G : List BSt) (s : BSt) (W : World) (e : Ending) (W' : World) : Prop :=
  ∃ (A : Option Addr) (c : Nat) (l : List Int) (ok : Bool) (bs' : Nat → Option Nat) (G' : List BSt), e = .returned (.tuple #[.slice A l.length c, .bool ok]) ∧ Ints (hidP (OwT g bs') W') A c l ∧ TabK W' g bs' (G'.map fun s => kyB (s3B s)) ∧ MvP (OwT g bs) W W' ∧ (∀ b, OwT g bs' b → OwT g bs b ∨ W.heap.size ≤ b)
    ∧ l.length ≤ 200 ∧ G'.Nodup ∧ (∀ x ∈ G', Reach (sucB p sp) (bt0 p sp) x) ∧ ((ok = true ∧ FstP (sucB p sp) (mvF p sp) (goalB p o) s l) ∨ (ok = false ∧ l = [] ∧ ¬ Good (sucB p sp) (goalB p o) s ∧ ∀ x ∈ G', x ∈ G ∨ ¬ Good (sucB p sp) (goalB p o) x))
def FindPB (p : Prg) (sp : Bool) (o : List Int) (g : Nat) (Ao : Option Addr) (co : Nat) (Ap : Option Addr) (cp : Nat) (s : BSt) : Prop :=
  ∀ (W : World) (bs : Nat → Option Nat) (G : List BSt) (A1 A2 A3 A4 : Option Addr) (c1 c2 c3 c4 : Nat), TabK W g bs (G.map fun s => kyB (s3B s)) → PrgS (hidP (OwT g bs) W) (.slice Ap p.length cp) p → Ints (hidP (OwT g bs) W) Ao co o → Rep4 (hidP (OwT g bs) W) A1 A2 A3 A4 c1 c2 c3 c4 (s3B s) → GOkB p sp o G (potB s) →
    Calls Tryz.prog 56 #[.slice Ap p.length cp, .agg #[.slice A1 (s3B s).at_.length c1, .slice A2 (s3B s).regs.length c2, .slice A3 (s3B s).mem.length c3, .slice A4 (s3B s).buf.length c4], .bool sp, .slice Ao o.length co, .slice (some ⟨g, 0, none⟩) 4096 4096] W (RetFdB p sp o g bs G s W)
theorem fst_lenB {p : Prg} {sp : Bool} {o : List Int} (hp : PrgOk p) {s : BSt} {l : List Int} (h : FstP (sucB p sp) (mvF p sp) (goalB p o) s l) (hr : Reach (sucB p sp) (bt0 p sp) s) : l.length ≤ potB s := by
  induction h with
  | here _ => exact Nat.zero_le _
  | step _ hi _ _ _ ih =>
    have h1 := potB_lt hp hr (List.getElem_mem hi)
    have h2 := ih (.next hr (List.getElem_mem hi))
    rw [List.length_cons]
    omega

set_option maxHeartbeats 6000000 in
theorem findB_step (p : Prg) (hp : PrgOk p) (sp : Bool) (o : List Int) (ho : o.length = p.length * 3 + 3) (g : Nat) (Ao : Option Addr) (co : Nat) (Ap : Option Addr) (cp : Nat) (s : BSt) (hr : Reach (sucB p sp) (bt0 p sp) s)
    (ih : ∀ t, Reach (sucB p sp) (bt0 p sp) t → potB t < potB s → FindPB p sp o g Ao co Ap cp t) : FindPB p sp o g Ao co Ap cp s := by
  intro W bs G A1 A2 A3 A4 c1 c2 c3 c4 hT hpr hO hrep hG
  obtain ⟨i0, hi0, hz0, hz1, hz2⟩ := info_parts Tryz.infoInt
  have hok := reachB_ok hp hr
  have hp3 := hp.1.1
  have HT := Lib.hid hT
  have HG := Lib.hid hG
  have Hp := Lib.hid hp
  have Hr := Lib.hid hr
  have HIH := Lib.hid ih
  have Hok := Lib.hid hok
  have Hol := Lib.hid ho
  obtain ⟨w1, hw1⟩ : ∃ w1, w1 = W.alloc (.cells #[.slice A1 (s3B s).at_.length c1, .slice A2 (s3B s).regs.length c2, .slice A3 (s3B s).mem.length c3, .slice A4 (s3B s).buf.length c4] 70) := ⟨_, rfl⟩
  have hb1 : Below W.heap.size W w1 := by rw [hw1]; exact (Below.refl _ _).alloc (Nat.le_refl _) _
  have hleP : Le (hidP (OwT g bs) W) (hidP (OwT g bs) w1) := Le.hidP_below hb1 (fun _ _ => .inr trivial)
  have HPr := Lib.hid (hpr.le hleP)
  have HO := Lib.hid (hO.le hleP)
  have hcur : Hid (QCur (hidP (OwT g bs) w1) W.heap.size A1 A2 A3 A4 c1 c2 c3 c4 (s3B s)) := by
    show QCur _ _ _ _ _ _ _ _ _ _ _
    rw [hw1]
    exact QCur.new (fun b hb => hT.lt hb) hrep
  have HT1 : Hid (TabK w1 g bs (G.map fun s => kyB (s3B s))) := hT.move fun b hb => hb1.block b (hT.lt hb)
  obtain ⟨S, hS⟩ : ∃ S, S = W.heap.size := ⟨_, rfl⟩
  rw [← hS] at hcur
  have q0 := Le.hidP _ _ _ _ hcur.out.q0
  have q1 := Le.hidP _ _ _ _ hcur.out.q1
  have q2 := Le.hidP _ _ _ _ hcur.out.q2
  have q3 := Le.hidP _ _ _ _ hcur.out.q3
  have hSl := hcur.out.size
  have hdn := l4Done_any p hp sp s hok w1 (.slice Ap p.length cp) (HPr.out.le (Le.hidP _ _)) A1 A2 A3 A4 c1 c2 c3 c4 (hcur.out.rep.le (Le.hidP _ _))
  have hb9 := (s4_lens hp hok).2.2.2.1
  have Hbn : Hid ((s3B s).buf.length = s.bufs.length) := s3B_len s
  have HbW := Lib.hid hb1
  clear hT hpr hO hrep hG hp hr ih hok ho hleP
  go_enter Tryz.func56, Tryz.ntmps56
  go_upto_region 1 with (fail)
  rw [← hw1, ← hS]
  clear hw1 hb1 hS
  go_wp2_with fail
  refine hdn.mono ?_
  rintro e2 w2 ⟨rfl, hb2⟩
  have HLe2 : Hid (Le (hidP (OwT g bs) w1) (hidP (OwT g bs) w2)) := Le.hidP_below hb2 (fun _ _ => .inr trivial)
  have hcur2 := Lib.hid (hcur.out.le HLe2.out)
  have HPr2 := Lib.hid (HPr.out.le HLe2.out)
  have HO2 := Lib.hid (HO.out.le HLe2.out)
  have HT2 : Hid (TabK w2 g bs (G.map fun s => kyB (s3B s))) := HT1.out.move fun b hb => hb2.block b (HT1.out.lt hb)
  have HbW2 : Hid (Below W.heap.size W w2) := HbW.out.trans (hb2.mono HbW.out.size)
  clear hdn hcur HPr HO HT1 HLe2 q0 q1 q2 q3 hSl
  have q0 := Le.hidP _ _ _ _ hcur2.out.q0
  have q1 := Le.hidP _ _ _ _ hcur2.out.q1
  have q2 := Le.hidP _ _ _ _ hcur2.out.q2
  have q3 := Le.hidP _ _ _ _ hcur2.out.q3
  have hSl := hcur2.out.size
  cases hdo : doneB p s
  · have Hgs : Hid (goalB p o s = false) := by show _ = _; unfold goalB; rw [hdo]; rfl
    clear hdo
    go_wp2_with fail
    go_loopg [12] (p.length + (s3B s).buf.length) (fun gg s12 wr => ∃ (t : Nat) (bs1 : Nat → Option Nat) (G1 : List BSt), t ≤ p.length + (s3B s).buf.length ∧ gg = p.length + (s3B s).buf.length - t ∧ s12 = .int .i64 t ∧ Hid (TabK wr g bs1 (G1.map fun s => kyB (s3B s))) ∧ Hid (MvP (OwT g bs) w2 wr) ∧ Hid (∀ b, OwT g bs1 b → OwT g bs b ∨ w2.heap.size ≤ b)
      ∧ Hid (∀ u, u < t → canB p sp s u = true → ¬ Good (sucB p sp) (goalB p o) (nxB p sp s u)) ∧ Hid (G1.Nodup ∧ (∀ x ∈ G1, Reach (sucB p sp) (bt0 p sp) x) ∧ ∀ x ∈ G1, x ∈ G ∨ ¬ Good (sucB p sp) (goalB p o) x))
    case atStart => exact ⟨0, bs, G, Nat.zero_le _, rfl, rfl, HT2.out, .refl _ _, fun b hb => .inl hb, fun u hu => absurd hu (Nat.not_lt_zero _), HG.out.nd, HG.out.re, fun x hx => .inl hx⟩
    case round =>
      clear q0 q1 q2 q3 hSl HT2
      obtain ⟨wi, rfl⟩ : ∃ wi : World, wi = wr := ⟨_, rfl⟩
      obtain ⟨t, bs1, G1, ht, rfl, rfl, hT1, hmv, hbs1, hnog, hG1⟩ := hrel
      have hLe : Hid (Le (hidP (OwT g bs) w2) (hidP (OwT g bs1) wi)) := Le.hidP_mv hmv.out (fun i _ h => h) hbs1.out
      have cur := Lib.hid (hcur2.out.le hLe.out)
      have HPr3 := Lib.hid (HPr2.out.le hLe.out)
      have HO3 := Lib.hid (HO2.out.le hLe.out)
      have hs2i := hmv.out.size
      have q0 := Le.hidP _ _ _ _ cur.out.q0
      have q1 := Le.hidP _ _ _ _ cur.out.q1
      have q2 := Le.hidP _ _ _ _ cur.out.q2
      have q3 := Le.hidP _ _ _ _ cur.out.q3
      have hSl := cur.out.size
      by_cases hlt : t < p.length + (s3B s).buf.length
      · have hltI : decide ((t : Int) < (p.length : Int) + ((s3B s).buf.length : Int)) = true := by rw [decide_eq_true_iff]; omega
        have hlt' : t < p.length + s.bufs.length := by have := Hbn.out; omega
        have hcan := l4Can_any p Hp.out sp s Hok.out (t : Int) wi _ (HPr3.out.le (Le.hidP _ _)) A1 A2 A3 A4 c1 c2 c3 c4 (cur.out.rep.le (Le.hidP _ _))
        rw [can4_nat] at hcan
        go_wp2_with fail
        refine hcan.mono ?_
        rintro en wn ⟨rfl, hbn⟩
        have HLn : Hid (Le (hidP (OwT g bs1) wi) (hidP (OwT g bs1) wn)) := Le.hidP_below hbn (fun _ _ => .inr trivial)
        have curn := Lib.hid (cur.out.le HLn.out)
        have HPrn := Lib.hid (HPr3.out.le HLn.out)
        have HOn := Lib.hid (HO3.out.le HLn.out)
        have hTn : Hid (TabK wn g bs1 (G1.map fun s => kyB (s3B s))) := hT1.out.move fun b hb => hbn.block b (hT1.out.lt hb)
        have hmvn : Hid (MvP (OwT g bs) w2 wn) := hmv.out.trans (MvP.of_below (p := fun _ => False) hbn) (fun _ _ h => absurd h (by simp))
        have hsn := hbn.size
        clear hcan q0 q1 q2 q3 hSl hT1 hmv hbn HLn cur HPr3 HO3 hLe
        cases hon : canB p sp s t
        · have Hng2 : Hid (∀ u, u < t + 1 → canB p sp s u = true → ¬ Good (sucB p sp) (goalB p o) (nxB p sp s u)) := fun u hu hou => by
            rcases Nat.lt_succ_iff_lt_or_eq.1 hu with h | h
            · exact hnog.out u h hou
            · rw [h, hon] at hou; cases hou
          clear hon hnog
          go_wp2_with fail
          go_roundg (p.length + (s3B s).buf.length - (t + 1))
          case measure => omega
          case rel => exact ⟨t + 1, bs1, G1, by omega, rfl, by go_num, hTn.out, hmvn.out, hbs1.out, Hng2.out, hG1.out⟩
        · have htm : t ∈ mvB p sp s := by
            unfold mvB
            rw [List.mem_filter, List.mem_range]
            exact ⟨hlt', hon⟩
          have hsuc : nxB p sp s t ∈ sucB p sp s := List.mem_map.2 ⟨t, htm, rfl⟩
          have hdo := l4Do_any p Hp.out sp s Hok.out t hon wn _ (HPrn.out.le (Le.hidP _ _)) A1 A2 A3 A4 c1 c2 c3 c4 (curn.out.rep.le (Le.hidP _ _))
          have Hre2 : Hid (Reach (sucB p sp) (bt0 p sp) (nxB p sp s t)) := .next Hr.out hsuc
          have Hpot : Hid (potB (nxB p sp s t) < potB s) := potB_lt Hp.out Hr.out hsuc
          have Hfst : Hid (∀ l, FstP (sucB p sp) (mvF p sp) (goalB p o) (nxB p sp s t) l → FstP (sucB p sp) (mvF p sp) (goalB p o) s ((t : Int) :: l)) := fun l h => fst_mvB hlt' hon Hgs.out hnog.out h
          have Hng2 : Hid (¬ Good (sucB p sp) (goalB p o) (nxB p sp s t) → ∀ u, u < t + 1 → canB p sp s u = true → ¬ Good (sucB p sp) (goalB p o) (nxB p sp s u)) := fun hn u hu hou => by
            rcases Nat.lt_succ_iff_lt_or_eq.1 hu with h | h
            · exact hnog.out u h hou
            · rw [h]; exact hn
          have Hokn : Hid (BOk p sp (nxB p sp s t)) := Hok.out.next Hp.out htm
          generalize nxB p sp s t = nx at hdo Hre2 Hpot Hfst Hng2 Hokn
          have x0 := Le.hidP _ _ _ _ curn.out.q0
          have x1 := Le.hidP _ _ _ _ curn.out.q1
          have x2 := Le.hidP _ _ _ _ curn.out.q2
          have x3 := Le.hidP _ _ _ _ curn.out.q3
          have hSn := curn.out.size
          clear hon htm hsuc hnog
          go_wp2_with fail
          refine hdo.mono ?_
          rintro ej wj ⟨D1, D2, D3, D4, d1, d2, d3, d4, rfl, hrj, hbj⟩
          have hTj : TabK wj g bs1 (G1.map fun s => kyB (s3B s)) := hTn.out.move fun b hb => hbj.block b (hTn.out.lt hb)
          have hrepj : Rep4 (hidP (OwT g bs1) wj) D1 D2 D3 D4 d1 d2 d3 d4 (s3B nx) := hrj.le (Le.above_hidP (fun b hb => hTn.out.lt hb))
          have hcurNx := QCur.new (t := 70) (fun b hb => hTj.lt hb) hrepj
          obtain ⟨wk, hwk⟩ : ∃ wk, wk = wj.alloc (.cells #[.slice D1 (s3B nx).at_.length d1, .slice D2 (s3B nx).regs.length d2, .slice D3 (s3B nx).mem.length d3, .slice D4 (s3B nx).buf.length d4] 70) := ⟨_, rfl⟩
          have hbjk : Below wj.heap.size wj wk := by rw [hwk]; exact (Below.refl _ _).alloc (Nat.le_refl _) _
          have hbnk : Below wn.heap.size wn wk := hbj.trans (hbjk.mono hbj.size)
          have hTk : Hid (TabK wk g bs1 (G1.map fun s => kyB (s3B s))) := hTj.move fun b hb => hbjk.block b (hTj.lt hb)
          rw [← hwk] at hcurNx
          have hcurN := Lib.hid hcurNx
          have HLk : Hid (Le (hidP (OwT g bs1) wn) (hidP (OwT g bs1) wk)) := Le.hidP_below hbnk (fun _ _ => .inr trivial)
          have HPrk := Lib.hid (HPrn.out.le HLk.out)
          have HOk := Lib.hid (HOn.out.le HLk.out)
          have curk := Lib.hid (curn.out.le HLk.out)
          have hmvk : Hid (MvP (OwT g bs) w2 wk) := hmvn.out.trans (MvP.of_below (p := fun _ => False) hbnk) (fun _ _ h => absurd h (by simp))
          have hsk : w2.heap.size ≤ wk.heap.size := hmvk.out.size
          obtain ⟨N8, hN8⟩ : ∃ N8, N8 = wj.heap.size := ⟨_, rfl⟩
          rw [← hN8] at hcurN
          have hkl := keyLB_len Hp.out Hokn.out
          have hkey := l3Key_any (s3B nx) (keyLB_by Hp.out Hokn.out) hkl.1 (by omega) wk D1 D2 D3 D4 d1 d2 d3 d4 (hcurN.out.rep.le (Le.hidP _ _))
          have hkz : (strOfNums (keyL (s3B nx))).size ≤ 1000000 := by rw [strOfNums_size]; omega
          obtain ⟨kn, hkn⟩ : ∃ kn, kn = strOfNums (keyL (s3B nx)) := ⟨_, rfl⟩
          rw [← hkn] at hkey hkz
          have Hkn : Hid (kn = kyB (s3B nx)) := hkn
          clear hdo x0 x1 x2 x3 hrj hbj hrepj hcurNx hbjk hkn hkl hTj hTn HPrn HOn curn hmvn hSn hbnk HLk
          go_upto_region 8 with (fail)
          rw [← hwk]
          rw [← hN8]
          clear hwk hN8
          have x0 := Le.hidP _ _ _ _ hcurN.out.q0
          have x1 := Le.hidP _ _ _ _ hcurN.out.q1
          have x2 := Le.hidP _ _ _ _ hcurN.out.q2
          have x3 := Le.hidP _ _ _ _ hcurN.out.q3
          have hNk := hcurN.out.size
          go_wp2_with fail
          refine hkey.mono ?_
          rintro el wl ⟨rfl, hbl⟩
          obtain ⟨xss, htab, hks1, hks2⟩ : TabK wl g bs1 (G1.map fun s => kyB (s3B s)) := hTk.out.move fun b hb => hbl.block b (hTk.out.lt hb)
          have hfd := l3Found_any kn hkz wl g xss bs1 htab
          have Htab := Lib.hid (And.intro htab (And.intro hks1 hks2))
          have Hmem : Hid (inB (xss (hashS kn)) kn = true ↔ nx ∈ G1) := by
            show _ ↔ _
            rw [inB_iff, hks1, List.mem_map]
            constructor
            · rintro ⟨u, hu, he⟩
              have : u = nx := keyBS_inj Hp.out (reachB_ok Hp.out (hG1.out.2.1 u hu)) Hokn.out (by rw [← kyB_B, ← kyB_B, he, Hkn.out])
              rw [← this]; exact hu
            · intro hu
              exact ⟨nx, hu, Hkn.out.symm⟩
          have HBl := Lib.hid hbl
          clear hkey x0 x1 x2 x3 hbl htab hks1 hks2 hNk
          generalize hfb : inB (xss (hashS kn)) kn = fb at hfd Hmem
          clear hfb
          go_wp2_with fail
          refine hfd.mono ?_
          rintro em wm ⟨rfl, hbm⟩
          have HBm : Hid (Below wk.heap.size wk wm) := HBl.out.trans (hbm.mono HBl.out.size)
          have HLm : Hid (Le (hidP (OwT g bs1) wk) (hidP (OwT g bs1) wm)) := Le.hidP_below HBm.out (fun _ _ => .inr trivial)
          have hmvm : Hid (MvP (OwT g bs) w2 wm) := hmvk.out.trans (MvP.of_below (p := fun _ => False) HBm.out) (fun _ _ h => absurd h (by simp))
          have htabm := Htab.out.1.below hbm
          have hskm := HBm.out.size
          clear hfd hbm HBl
          cases fb
          · have Hnin : Hid (nx ∉ G1) := fun h => by have := Hmem.out.2 h; cases this
            have hl5 : (xss (hashS kn)).length ≤ 5000000000000 := by
              have h1 := Htab.out.2.2 (hashS kn)
              rw [List.length_map] at h1
              have h2 := buf_few Hp.out hG1.out.1 hG1.out.2.1
              omega
            have hmk := l3Mark_any kn hkz wm g xss bs1 htabm hl5
            clear htabm
            go_wp2_with fail
            refine hmk.mono ?_
            rintro eo wo ⟨rfl, bs2, ht2, hm2, hbs2⟩
            have HLo : Hid (Le (hidP (OwT g bs1) wk) (hidP (OwT g bs2) wo)) := HLm.out.trans (Le.hidP_mv hm2 (fun i _ h => h) hbs2)
            have curNo := Lib.hid (hcurN.out.le HLo.out)
            have HPro := Lib.hid (HPrk.out.le HLo.out)
            have HOo := Lib.hid (HOk.out.le HLo.out)
            have hmvo : Hid (MvP (OwT g bs) w2 wo) := hmvm.out.trans hm2 (fun i hi h => by
              rcases hbs1.out i h with h | h
              · exact h
              · omega)
            have hbso : Hid (∀ b, OwT g bs2 b → OwT g bs b ∨ w2.heap.size ≤ b) := fun b hb => by
              rcases hbs2 b hb with h | h
              · exact hbs1.out b h
              · right; omega
            have hTo : Hid (TabK wo g bs2 ((G1 ++ [nx]).map fun s => kyB (s3B s))) := by
              show TabK _ _ _ _
              rw [List.map_append, show [nx].map (fun s : BSt => kyB (s3B s)) = [kn] by rw [Hkn.out]; rfl]
              exact TabK.mark Htab.out.2.1 Htab.out.2.2 ht2
            have HG2 : Hid (GOkB p sp o (G1 ++ [nx]) (potB nx)) := ⟨List.nodup_append.2 ⟨hG1.out.1, by simp, fun a ha b hb e => Hnin.out (by rw [← List.mem_singleton.1 hb, ← e]; exact ha)⟩, fun x hx => by
              rcases List.mem_append.1 hx with hx | hx
              · exact hG1.out.2.1 x hx
              · rw [List.mem_singleton.1 hx]; exact Hre2.out, fun x hx => by
              rcases List.mem_append.1 hx with hx | hx
              · rcases hG1.out.2.2 x hx with h | h
                · rcases HG.out.bad x h with h | h
                  · exact .inl h
                  · right; have := Hpot.out; omega
                · exact .inl h
              · rw [List.mem_singleton.1 hx]; exact .inr (Nat.le_refl _)⟩
            have x0 := Le.hidP _ _ _ _ curNo.out.q0
            have x1 := Le.hidP _ _ _ _ curNo.out.q1
            have x2 := Le.hidP _ _ _ _ curNo.out.q2
            have x3 := Le.hidP _ _ _ _ curNo.out.q3
            have hNo := curNo.out.size
            have hrec := HIH.out nx Hre2.out Hpot.out wo bs2 (G1 ++ [nx]) D1 D2 D3 D4 d1 d2 d3 d4 hTo.out HPro.out HOo.out curNo.out.rep HG2.out
            have hso := hmvo.out.size
            clear hmk ht2 hm2 hbs2 HLm hmvm hl5
            go_wp2_with fail
            refine hrec.mono ?_
            rintro ez wz ⟨Az, cz, lz, okz, bs3, G3, rfl, hIz, hTz, hmz, hbsz, hlz, hndz, hrez, hresz⟩
            have hmvz : Hid (MvP (OwT g bs) w2 wz) := hmvo.out.trans hmz (fun i hi h => by
              rcases hbso.out i h with h | h
              · exact h
              · omega)
            have hbs3 : Hid (∀ b, OwT g bs3 b → OwT g bs b ∨ w2.heap.size ≤ b) := fun b hb => by
              rcases hbsz b hb with h | h
              · exact hbso.out b h
              · right; omega
            have hTz := Lib.hid hTz
            have hIz := Lib.hid hIz
            have hlenz : okz = true → lz.length ≤ 199 := fun h => by
              rcases hresz with ⟨_, h⟩ | ⟨h', _⟩
              · have h1 := fst_lenB Hp.out h Hre2.out
                have h2 := potB_le Hp.out Hok.out
                have h3 := Hpot.out
                omega
              · rw [h'] at h; cases h
            have Hres := Lib.hid (And.intro hndz (And.intro hrez hresz))
            clear hrec x0 x1 x2 x3 hmz hbsz hndz hrez hresz hNo
            cases okz
            · have Hbad : Hid (¬ Good (sucB p sp) (goalB p o) nx ∧ ∀ x ∈ G3, x ∈ G1 ++ [nx] ∨ ¬ Good (sucB p sp) (goalB p o) x) := by
                rcases Hres.out.2.2 with ⟨h, _⟩ | ⟨_, _, h1, h2⟩
                · cases h
                · exact ⟨h1, h2⟩
              go_wp2_with fail
              go_roundg (p.length + (s3B s).buf.length - (t + 1))
              case measure => omega
              case rel => exact ⟨t + 1, bs3, G3, by omega, rfl, by go_num, hTz.out, hmvz.out, hbs3.out, Hng2.out Hbad.out.1, Hres.out.1, Hres.out.2.1, fun x hx => by
                rcases Hbad.out.2 x hx with h | h
                · rcases List.mem_append.1 h with h | h
                  · exact hG1.out.2.2 x h
                  · rw [List.mem_singleton.1 h]; exact .inr Hbad.out.1
                · exact .inr h⟩
            · have Hgd : Hid (FstP (sucB p sp) (mvF p sp) (goalB p o) s ((t : Int) :: lz)) := by
                rcases Hres.out.2.2 with ⟨_, h⟩ | ⟨h, _⟩
                · exact Hfst.out lz h
                · cases h
              have hl199 := hlenz rfl
              have oN := Own.new wz 3 #[.int .i64 (t : Int)]
              have HRow : Hid (RowI (wz.alloc (.cells #[.int .i64 (t : Int)] 3)) wz.heap.size (.slice (some ⟨wz.heap.size, 0, none⟩) 1 1) [(t : Int)]) := RowOf.single1 oN (Nat.le_refl _) (fun cs h => h)
              have HIr : Hid (Ints (wz.alloc (.cells #[.int .i64 (t : Int)] 3)) Az cz lz) := hIz.out.le ((Le.hidP _ _).trans (Le.alloc _ _))
              clear oN
              go_wp2_with (at_builtin; refine wpList_append_list (o := ⟨some _, _, _, _, _, _⟩) (by rfl) _ _ _ (by rfl) qint_congr (R := RInt) wz.heap.size 3 i0 _ 8 Tryz.underlying24 hi0 hz0 hz1 hz2 rfl (by omega) (.slice (some ⟨wz.heap.size, 0, none⟩) 1 1) [(t : Int)] (by rfl) HRow.out Az cz lz (by rfl) HIr.out (fun cs y h => h) qint_one (by simp [maxLen]; omega) (by simp; omega) (by simp) (wz.heap.size + 1) (by simp) ?_; intro A9 c9 w9 hrow9 hgrow9 hat9)
              have hB9 : Below wz.heap.size wz w9 := below_of_grown ((Below.refl _ _).alloc (Nat.le_refl _) _) hgrow9 (by simp) (fun g' hg => by simp only [Value.ownBlock, Option.some.injEq] at hg; omega)
              have HB9 := Lib.hid hB9
              have HI9 : Hid (Ints (above wz.heap.size w9) A9 c9 ((t : Int) :: lz)) := by
                obtain ⟨A', c', e', hi'⟩ := RowI.ints hrow9
                injection e' with e1 e2 e3
                subst e1 e3
                exact hi'
              clear hrow9 hgrow9 hat9 hB9
              go_wp2_with fail
              refine bodyPost_ret (v := .tuple #[.slice A9 ([(t : Int)] ++ lz).length c9, .bool true]) (by simp [results, Tryz.results56, go_sem]) rfl ?_
              exact ⟨A9, c9, (t : Int) :: lz, true, bs3, G3, rfl, HI9.out.le (Le.above_hidP (fun b hb => hTz.out.lt hb)), hTz.out.move fun b hb => HB9.out.block b (hTz.out.lt hb),
                ((MvP.of_below (p := OwT g bs) HbW2.out).trans hmvz.out (fun i _ h => h)).trans (MvP.of_below (p := fun _ => False) HB9.out) (fun _ _ h => absurd h (by simp)), fun b hb => by
                  rcases hbs3.out b hb with h | h
                  · exact .inl h
                  · right; have := HbW2.out.size; omega, by simp; omega, Hres.out.1, Hres.out.2.1, .inl ⟨rfl, Hgd.out⟩⟩
          · have Hin : Hid (nx ∈ G1) := Hmem.out.1 rfl
            have Hbad : Hid (¬ Good (sucB p sp) (goalB p o) nx) := by
              rcases hG1.out.2.2 nx Hin.out with h | h
              · rcases HG.out.bad nx h with h | h
                · exact h
                · have := Hpot.out; omega
              · exact h
            have hTm : Hid (TabK wm g bs1 (G1.map fun s => kyB (s3B s))) := ⟨xss, htabm, Htab.out.2.1, Htab.out.2.2⟩
            clear htabm
            go_wp2_with fail
            go_roundg (p.length + (s3B s).buf.length - (t + 1))
            case measure => omega
            case rel => exact ⟨t + 1, bs1, G1, by omega, rfl, by go_num, hTm.out, hmvm.out, hbs1.out, Hng2.out Hbad.out, hG1.out⟩
      · obtain rfl : t = p.length + (s3B s).buf.length := by omega
        have hltI : decide (((p.length + (s3B s).buf.length : Nat) : Int) < (p.length : Int) + ((s3B s).buf.length : Int)) = false := by rw [decide_eq_false_iff_not]; omega
        have Hng3 := Lib.hid (none_goodB Hgs.out (by rw [← Hbn.out]; exact hnog.out))
        have hTe := Lib.hid (hT1.out.move (w' := wi.alloc (.cells #[] 3)) fun b hb => Go.Deep.blk_alloc_lt _ _ _ (hT1.out.lt hb))
        clear hnog
        go_wp2_with fail
        refine bodyPost_ret (v := .tuple #[.slice (some ⟨wi.heap.size, 0, none⟩) 0 0, .bool false]) (by simp [results, Tryz.results56, go_sem]) rfl ?_
        exact ⟨_, _, [], false, bs1, G1, rfl, ⟨_, _, rfl, by simp, fun i hi => absurd hi (Nat.not_lt_zero _)⟩, hTe.out, ((MvP.of_below (p := OwT g bs) HbW2.out).trans hmv.out (fun i _ h => h)).trans (MvP.of_below (p := fun _ => False) ((Below.refl _ _).alloc (Nat.le_refl _) _)) (fun _ _ h => absurd h (by simp)), fun b hb => by
          rcases hbs1.out b hb with h | h
          · exact .inl h
          · right; have := HbW2.out.size; omega, by simp, hG1.out.1, hG1.out.2.1, .inr ⟨rfl, rfl, Hng3.out, hG1.out.2.2⟩⟩
  · have hgo : goalB p o s = eqB (outB s) o := by unfold goalB; rw [hdo]; rfl
    have hng : ¬ (goalB p o s = true) → ¬ Good (sucB p sp) (goalB p o) s := fun h => not_good (by simpa using h) fun j hj => by rw [done_sucB hdo] at hj; exact absurd hj (Nat.not_lt_zero _)
    have Hgo := Lib.hid hgo
    have Hng := Lib.hid hng
    have hou := fun W' (hW : Below w2.heap.size w2 W') => l3Outcome_any (s3B s) (by show s.s.regs.length ≤ _; rw [Hok.out.ok.regl]; omega) (by show s.s.mem.length ≤ _; rw [Hok.out.ok.meml]; omega) W' A1 A2 A3 A4 c1 c2 c3 c4 ((hcur2.out.below hW).rep.le (Le.hidP _ _))
    have hos : ((s3B s).regs ++ (s3B s).mem).length = o.length := by show (s.s.regs ++ s.s.mem).length = _; rw [List.length_append, Hok.out.ok.regl, Hok.out.ok.meml, Hol.out]
    have Hos := Lib.hid hos
    clear hdo hgo hng hos
    have HB3 : Hid (Below w2.heap.size w2 (w2.alloc (.cells #[] 3))) := (Below.refl _ _).alloc (Nat.le_refl _) _
    have hou3 := hou _ HB3.out
    obtain ⟨xs, hxs⟩ : ∃ xs, xs = (s3B s).regs ++ (s3B s).mem := ⟨_, rfl⟩
    rw [← hxs] at hou3
    have Hxs : Hid (xs = outB s) := hxs
    have Hxl : Hid (xs.length = o.length) := by show _ = _; rw [hxs]; exact Hos.out
    clear hou hxs
    go_wp2_with fail
    refine hou3.mono ?_
    rintro e4 w4 ⟨A4', c4', rfl, hrow4, hb4⟩
    have HB4 := Lib.hid (HB3.out.trans (hb4.mono HB3.out.size))
    have hI4 := row_readSB hrow4
    have hle := l3Less_any xs o Hxl.out w4 A4' Ao c4' co hI4 ((HO2.out.le (Le.hidP_below HB4.out (fun _ _ => .inr trivial))).le (Le.hidP _ _))
    have Hlex : Hid (lexC xs o = 0 ↔ goalB p o s = true) := by
      show _ ↔ _
      rw [Hgo.out, eqB_iff, ← Hxs.out]
      exact ⟨lexC_eq _ _, fun h => by rw [h]; exact lexC_self _⟩
    generalize lexC xs o = lx at hle Hlex
    clear hou3 hrow4 hI4 hb4
    go_wp2_with fail
    refine hle.mono ?_
    rintro e5 w5 ⟨rfl, hb5⟩
    have HB5 := Lib.hid (HB4.out.trans (hb5.mono HB4.out.size))
    have HT5 : Hid (TabK w5 g bs (G.map fun s => kyB (s3B s))) := HT2.out.move fun b hb => HB5.out.block b (HT2.out.lt hb)
    have HbW5 := HbW2.out.trans (HB5.out.mono HbW2.out.size)
    clear hle hb5
    by_cases hlx : lx = 0
    · have hd : (lx == 0) = true := by simp [hlx]
      have Hgt := Lib.hid (Hlex.out.1 hlx)
      clear hlx
      go_wp2_with fail
      refine bodyPost_ret (v := .tuple #[.slice (some ⟨w2.heap.size, 0, none⟩) 0 0, .bool true]) (by simp [results, Tryz.results56, go_sem]) rfl ?_
      exact ⟨_, _, [], true, bs, G, rfl, ⟨_, _, rfl, by simp, fun i hi => absurd hi (Nat.not_lt_zero _)⟩, HT5.out, .of_below HbW5, fun b hb => .inl hb, by simp, HG.out.nd, HG.out.re, .inl ⟨rfl, .here Hgt.out⟩⟩
    · have hd : (lx == 0) = false := beq_eq_false_iff_ne.2 hlx
      have Hgf := Lib.hid (Hng.out fun h => hlx (Hlex.out.2 h))
      clear hlx
      go_wp2_with fail
      refine bodyPost_ret (v := .tuple #[.slice (some ⟨w2.heap.size, 0, none⟩) 0 0, .bool false]) (by simp [results, Tryz.results56, go_sem]) rfl ?_
      exact ⟨_, _, [], false, bs, G, rfl, ⟨_, _, rfl, by simp, fun i hi => absurd hi (Nat.not_lt_zero _)⟩, HT5.out, .of_below HbW5, fun b hb => .inl hb, by simp, HG.out.nd, HG.out.re, .inr ⟨rfl, rfl, Hgf.out, fun x hx => .inl hx⟩⟩

theorem findB_all (p : Prg) (hp : PrgOk p) (sp : Bool) (o : List Int) (ho : o.length = p.length * 3 + 3) (g : Nat) (Ao : Option Addr) (co : Nat) (Ap : Option Addr) (cp : Nat) : ∀ (n : Nat) (s : BSt), potB s ≤ n → Reach (sucB p sp) (bt0 p sp) s → FindPB p sp o g Ao co Ap cp s
  | 0, s, h, hr => findB_step p hp sp o ho g Ao co Ap cp s hr fun t _ ht => by omega
  | n + 1, s, h, hr => findB_step p hp sp o ho g Ao co Ap cp s hr fun t hrt ht => findB_all p hp sp o ho g Ao co Ap cp n t (by omega) hrt
/-- What is found. -/
def FndSB (p : Prg) (sp : Bool) (o : List Int) (r : Option (List Int)) : Prop := (OutOk p o ∧ ((∃ l, r = some l ∧ FstP (sucB p sp) (mvF p sp) (goalB p o) (bt0 p sp) l) ∨ (r = none ∧ ¬ Good (sucB p sp) (goalB p o) (bt0 p sp)))) ∨ (¬ OutOk p o ∧ r = none)
theorem FndSB.uniq {p : Prg} {sp : Bool} {o : List Int} {r r' : Option (List Int)} (h : FndSB p sp o r) (k : FndSB p sp o r') : r = r' := by
  rcases h with ⟨h1, h⟩ | ⟨h1, rfl⟩
  · rcases k with ⟨_, k⟩ | ⟨k1, _⟩
    · rcases h with ⟨l, rfl, h⟩ | ⟨rfl, h⟩
      · rcases k with ⟨l', rfl, k⟩ | ⟨_, k⟩
        · rw [h.uniq k]
        · exact absurd h.good k
      · rcases k with ⟨l', _, k⟩ | ⟨rfl, _⟩
        · exact absurd k.good h
        · rfl
    · exact absurd h1 k1
  · rcases k with ⟨k1, _⟩ | ⟨_, rfl⟩
    · exact absurd k1 h1
    · rfl
def RetFSB (p : Prg) (sp : Bool) (o : List Int) (W : World) (e : Ending) (W' : World) : Prop :=
  ∃ A c r, e = .returned (.tuple #[.slice A (r.getD []).length c, .bool r.isSome]) ∧ Ints W' A c (r.getD []) ∧ Below W.heap.size W W' ∧ FndSB p sp o r
theorem owT_none {g b : Nat} (h : OwT g (fun _ => none) b) : b = g := by
  rcases h with h | ⟨_, _, h⟩
  · exact h
  · cases h

set_option maxHeartbeats 3000000 in
theorem specFM_any (p : Prg) (hl : p.length ≤ 1048576) (sp : Bool) (o : List Int) (W : World) (v : Value) (hr : PrgS W v p) (A : Option Addr) (c : Nat) (hI : Ints W A c o) : Calls Tryz.prog 15 #[v, .bool sp, .slice A o.length c] W (RetFSB p sp o W) := by
  have hov := specOV_any p hl o W v hr A c hI
  have HR := Lib.hid hr
  have HI := Lib.hid hI
  obtain ⟨Ap, cp, rfl, _⟩ := hr.slice
  have HF : Hid (ovB p o = false → ¬ OutOk p o) := fun h => ovB_false.1 h
  have HT : Hid (ovB p o = true → OutOk p o) := fun h => ovB_iff.1 h
  have hmk := run_make_any (P := Tryz.prog) 72 99 _ 1 24 Tryz.underlying72 Tryz.infoSs 4096 (by omega) (by omega)
  have hmkT : ∀ w, (Instr.makeSlice 72 (.int .i64 4096) (.int .i64 4096)).run Tryz.prog w = .ok (.slice (some ⟨w.heap.size, 0, none⟩) 4096 4096) (w.alloc (.cells (madeCells #[.slice none 0 0] 4096) 99)) := fun w => hmk w
  obtain ⟨cur, hcur⟩ : ∃ cur, cur = madeCells #[Value.slice none 0 0] 4096 := ⟨_, rfl⟩
  have Hcur : Hid (cur.size = 4096 ∧ ∀ i, i < 4096 → cur[i]? = some (.slice none 0 0)) := by
    rw [hcur]
    exact ⟨size_madeCells _ _, fun i hi => by rw [← Array.getElem?_toList, madeCells_rep, List.getElem?_replicate, if_pos hi]⟩
  rw [← hcur] at hmkT
  clear hmk hcur hI hr
  go_enter Tryz.func15, Tryz.ntmps15
  go_wp2_with fail
  refine hov.mono ?_
  rintro e1 w1 ⟨rfl, hb1⟩
  clear hov
  cases hb : ovB p o
  · have Hn := Lib.hid (HF.out hb)
    clear hb HT HF hmkT
    go_wp2_with fail
    refine bodyPost_ret (v := .tuple #[.slice (some ⟨w1.heap.size, 0, none⟩) 0 0, .bool false]) (by simp [results, Tryz.results15, go_sem]) rfl ?_
    exact ⟨_, _, none, rfl, ⟨_, _, rfl, by simp, fun i hi => absurd hi (Nat.not_lt_zero _)⟩, hb1.alloc hb1.size _, .inr ⟨Hn.out, rfl⟩⟩
  · have Hok : Hid (OutOk p o) := HT.out hb
    have h3 := Hok.out.1.1.1
    have HPr1 := Lib.hid (HR.out.le (Le.below hb1))
    have HI1 := Lib.hid (HI.out.le (Le.below hb1))
    have HSt : Hid (∀ X, Below w1.heap.size w1 X → Calls Tryz.prog 57 #[.slice Ap p.length cp, .bool sp] X (RetS4 X (s3B (bt0 p sp)))) := fun X hX => l4Start_any p Hok.out.1 sp X _ (HPr1.out.le (Le.below hX))
    have HFd : Hid (∀ X g (A1 A2 A3 A4 : Option Addr) (c1 c2 c3 c4 : Nat), Below w1.heap.size w1 X → w1.heap.size ≤ g → Own X g 99 cur → Rep4 (hidP (fun b => b = g) X) A1 A2 A3 A4 c1 c2 c3 c4 (s3B (bt0 p sp)) →
        Calls Tryz.prog 56 #[.slice Ap p.length cp, .agg #[.slice A1 (s3B (bt0 p sp)).at_.length c1, .slice A2 (s3B (bt0 p sp)).regs.length c2, .slice A3 (s3B (bt0 p sp)).mem.length c3, .slice A4 (s3B (bt0 p sp)).buf.length c4], .bool sp, .slice A o.length c, .slice (some ⟨g, 0, none⟩) 4096 4096] X (RetFSB p sp o W)) := fun X g A1 A2 A3 A4 c1 c2 c3 c4 hX hg hT hrep => by
      have hle : Le (hidP (fun b => b = g) X) (hidP (OwT g (fun _ => none)) X) := fun x u hc => by
        obtain ⟨h1, h2⟩ := cell_hidP.1 hc
        exact cell_hidP.2 ⟨fun h => h1 (owT_none h), h2⟩
      have hle2 : Le w1 (hidP (OwT g (fun _ => none)) X) := Le.to_hidP hX fun i hi => by rw [owT_none hi]; exact hg
      have hTab : TabK X g (fun _ => none) (([] : List BSt).map fun s => kyB (s3B s)) := ⟨fun _ => [], TabM.made hT Hcur.out.1 Hcur.out.2, fun k => by simp, fun i => by simp⟩
      refine (findB_all p Hok.out.1 sp o Hok.out.2.1 g A c Ap cp (potB (bt0 p sp)) (bt0 p sp) (Nat.le_refl _) .start X (fun _ => none) [] A1 A2 A3 A4 c1 c2 c3 c4 hTab (HPr1.out.le hle2) (HI1.out.le hle2) (hrep.le hle) ⟨by simp, fun x hx => (by cases hx), fun x hx => (by cases hx)⟩).mono ?_
      rintro e W' ⟨Az, cz, l, ok, bs', G', rfl, hIz, _, hm, _, _, _, _, hres⟩
      have hBz : Below W.heap.size W W' := (hb1.trans (hX.mono hb1.size)).trans (hm.below (fun i hi => by rw [owT_none hi]; have := hb1.size; omega) (Nat.le_trans hb1.size hX.size))
      rcases hres with ⟨rfl, hf⟩ | ⟨rfl, rfl, hng, _⟩
      · exact ⟨Az, cz, some l, rfl, hIz.le (Le.hidP _ _), hBz, .inl ⟨Hok.out, .inl ⟨l, rfl, hf⟩⟩⟩
      · exact ⟨Az, cz, none, rfl, hIz.le (Le.hidP _ _), hBz, .inl ⟨Hok.out, .inr ⟨rfl, hng⟩⟩⟩
    have HB0 := Lib.hid (Below.refl w1.heap.size w1)
    obtain ⟨q, hq⟩ : ∃ q, q = (s3B (bt0 p sp)) := ⟨_, rfl⟩
    rw [← hq] at HSt HFd
    clear hb HT HF hq
    go_wp2_with fail
    go_region_with (first
      | ((go_at_call 57; first
          | ((refine (HSt.out _ HB0.out.drew).mono ?_; rintro e5 w5 ⟨A1, A2, A3, A4, c1, c2, c3, c4, rfl, hr5, hb5⟩; have HB5 : Below w1.heap.size w1 w5 := HB0.out.drew.trans hb5; have HR5 : Rep4 w5 A1 A2 A3 A4 c1 c2 c3 c4 q := hr5.le (Le.above _ _); clear hr5))
          | ((refine (HSt.out _ (HB0.out.drew.alloc (Nat.le_refl _) _)).mono ?_; rintro e5 w5 ⟨A1, A2, A3, A4, c1, c2, c3, c4, rfl, hr5, hb5⟩; have HB5 : Below w1.heap.size w1 w5 := (HB0.out.drew.alloc (Nat.le_refl _) (.cells cur 99)).trans (hb5.mono (by simp)); have HR5 : Rep4 (above (w1.heap.size + 1) w5) A1 A2 A3 A4 c1 c2 c3 c4 q := hr5.le (Le.above_mono (by simp) _); have HT5 : Own w5 w1.heap.size 99 cur := (Own.new w1.drew 99 cur).under hb5; clear hr5))))
      | ((go_at_call 56; first
          | ((refine (HFd.out w5 w1.heap.size A1 A2 A3 A4 c1 c2 c3 c4 HB5 (Nat.le_refl _) HT5 (HR5.le (Le.above_hidP (fun i hi => by omega)))).mono ?_; rintro e9 w9 ⟨A9, c9, r, rfl, hI9, hB9, hF9⟩))
          | ((refine (HFd.out (w5.alloc (.cells cur 99)) w5.heap.size A1 A2 A3 A4 c1 c2 c3 c4 (HB5.alloc HB5.size _) HB5.size (Own.new w5 99 cur) (HR5.le (fun x u hc => cell_hidP.2 ⟨by have := World.block_lt_of_cell? _ _ hc; omega, Le.alloc _ _ _ _ hc⟩))).mono ?_; rintro e9 w9 ⟨A9, c9, r, rfl, hI9, hB9, hF9⟩)))))
    all_goals
      have HX := Lib.hid (And.intro hI9 (And.intro hB9 hF9))
      clear hI9 hB9 hF9
      go_wp2_with fail
      refine bodyPost_ret (v := .tuple #[.slice A9 (r.getD []).length c9, .bool r.isSome]) (by simp [results, Tryz.results15, go_sem]) rfl ?_
      exact ⟨A9, c9, r, rfl, HX.out⟩

end Go.Proofs.YtahegjofooahkaaGreat
