/-
  The reference's search for a schedule: l3Find, FindSchedule.
-/
import Derived.Test.YtcckflijaolnkaaGreatRunP
import Derived.Test.YtcckflijaolnkaaGreatSpM
import Derived.Test.YtcckflijaolnkaaGreatSeqI
import Derived.Test.YtcckflijaolnkaaGreatOutV
namespace Go.Proofs.YtcckflijaolnkaaGreat
open Go.RowKit
set_option linter.unusedVariables false
set_option maxRecDepth 100000

theorem row_readS {w' : World} {xs : List Int} {A : Option Addr} {n c B : Nat} (h : RowI w' B (.slice A n c) xs) : Ints w' A c xs := by
  obtain ⟨A', c', e, hi⟩ := RowI.ints h
  injection e with e1 e2 e3
  subst e1 e3
  exact hi.le (Le.above _ _)
noncomputable def goalS (p : Prg) (o : List Int) (s : St) : Bool := doneS p s && eqB (outS s) o
def mvA (p : Prg) (s : St) : List Int := mvI p s p.length
theorem mvA_len (p : Prg) (s : St) : (mvA p s).length = (sucS p s).length := by unfold mvA; rw [mvI_eq]; unfold sucS; rw [List.length_map, List.length_map]
def potS (s : St) : Nat := 21 - rkS s
theorem potS_lt {p : Prg} (hp : PrgOk p) {s t : St} (hs : Reach (sucS p) (st0 p) s) (ht : t ∈ sucS p s) : potS t < potS s := by
  obtain ⟨u, h1, rfl⟩ := List.mem_map.1 ht
  have hok := reach_ok hp hs
  have h2 := rk_next hok h1
  have h3 := rk_le hp (hok.next hp h1)
  unfold potS
  omega
theorem done_suc {p : Prg} {s : St} (h : doneS p s = true) : sucS p s = [] := by
  have : mvS p s = [] := by
    unfold mvS
    rw [List.filter_eq_nil_iff]
    intro t ht
    unfold doneS at h
    have := List.all_eq_true.1 h t ht
    simpa using this
  unfold sucS
  rw [this]
  rfl
/-- The first way begins with thread t. -/
theorem fst_thr {p : Prg} {o : List Int} {s : St} {t : Nat} {l : List Int} (ht : t < p.length) (hon : onS p s t = true) (hg : goalS p o s = false) (hj : ∀ u, u < t → onS p s u = true → ¬ Good (sucS p) (goalS p o) (nxS p s u)) (h : FstP (sucS p) (mvA p) (goalS p o) (nxS p s t) l) :
    FstP (sucS p) (mvA p) (goalS p o) s ((t : Int) :: l) := by
  obtain ⟨hl, hg1⟩ := filter_range_get (f := onS p s) ht hon
  have hi : ((List.range t).filter (onS p s)).length < (sucS p s).length := by unfold sucS; rw [List.length_map]; exact hl
  have hm : ((List.range t).filter (onS p s)).length < (mvA p s).length := by rw [mvA_len]; exact hi
  have e1 : (sucS p s)[((List.range t).filter (onS p s)).length]'hi = nxS p s t := by
    simp only [sucS, List.getElem_map]
    exact congrArg (nxS p s) hg1
  have e2 : (mvA p s)[((List.range t).filter (onS p s)).length]'hm = (t : Int) := by
    simp only [mvA, mvI_eq, List.getElem_map]
    congr 1
  have h' := FstP.step (mv := mvA p) hg hi hm (fun j hjl hjt => ?_) (by rw [e1]; exact h)
  · rw [e2] at h'
    exact h'
  · obtain ⟨u, hu, e⟩ : ∃ u, u ∈ (List.range t).filter (onS p s) ∧ (sucS p s)[j] = nxS p s u := by
      refine ⟨((List.range t).filter (onS p s))[j]'hjt, List.getElem_mem hjt, ?_⟩
      simp only [sucS, List.getElem_map]
      congr 1
      have hmv : (mvS p s) = (List.range p.length).filter (onS p s) := rfl
      obtain ⟨r, hr⟩ : ∃ r, (List.range p.length).filter (onS p s) = (List.range t).filter (onS p s) ++ r := by
        obtain ⟨k, hk⟩ : ∃ k, p.length = t + k := ⟨p.length - t, by omega⟩
        rw [hk, List.range_add, List.filter_append]
        exact ⟨_, rfl⟩
      simp only [hmv, hr]
      rw [List.getElem_append_left hjt]
    rw [e]
    rw [List.mem_filter, List.mem_range] at hu
    exact hj u hu.1 hu.2
theorem none_good {p : Prg} {o : List Int} {s : St} (hg : goalS p o s = false) (hj : ∀ u, u < p.length → onS p s u = true → ¬ Good (sucS p) (goalS p o) (nxS p s u)) : ¬ Good (sucS p) (goalS p o) s :=
  not_good hg fun j hjl => by
    have hm := List.getElem_mem hjl
    obtain ⟨u, hu, e⟩ := List.mem_map.1 hm
    rw [← e]
    unfold mvS at hu
    rw [List.mem_filter, List.mem_range] at hu
    exact hj u hu.1 hu.2
/-- The marked states. -/
structure GOk (p : Prg) (o : List Int) (G : List St) (n : Nat) : Prop where
  nd : G.Nodup
  re : ∀ x ∈ G, Reach (sucS p) (st0 p) x
  bad : ∀ x ∈ G, ¬ Good (sucS p) (goalS p o) x ∨ n ≤ potS x
def RetFd (p : Prg) (o : List Int) (g : Nat) (bs : Nat → Option Nat) (G : List St) (s : St) (W : World) (e : Ending) (W' : World) : Prop :=
  ∃ (A : Option Addr) (c : Nat) (l : List Int) (ok : Bool) (bs' : Nat → Option Nat) (G' : List St), e = .returned (.tuple #[.slice A l.length c, .bool ok]) ∧ Ints (hidP (OwT g bs') W') A c l ∧ TabK W' g bs' (G'.map fun s => kyB s.s3) ∧ MvP (OwT g bs) W W' ∧ (∀ b, OwT g bs' b → OwT g bs b ∨ W.heap.size ≤ b)
    ∧ l.length ≤ 100 ∧ G'.Nodup ∧ (∀ x ∈ G', Reach (sucS p) (st0 p) x) ∧ ((ok = true ∧ FstP (sucS p) (mvA p) (goalS p o) s l) ∨ (ok = false ∧ l = [] ∧ ¬ Good (sucS p) (goalS p o) s ∧ ∀ x ∈ G', x ∈ G ∨ ¬ Good (sucS p) (goalS p o) x))
def FindP (p : Prg) (o : List Int) (g : Nat) (Ao : Option Addr) (co : Nat) (Ap : Option Addr) (cp : Nat) (s : St) : Prop :=
  ∀ (W : World) (bs : Nat → Option Nat) (G : List St) (A1 A2 A3 A4 : Option Addr) (c1 c2 c3 c4 : Nat), TabK W g bs (G.map fun s => kyB s.s3) → PrgS (hidP (OwT g bs) W) (.slice Ap p.length cp) p → Ints (hidP (OwT g bs) W) Ao co o → Rep4 (hidP (OwT g bs) W) A1 A2 A3 A4 c1 c2 c3 c4 s.s3 → GOk p o G (potS s) →
    Calls Tryz.prog 16 #[.slice Ap p.length cp, .agg #[.slice A1 s.s3.at_.length c1, .slice A2 s.s3.regs.length c2, .slice A3 s.s3.mem.length c3, .slice A4 s.s3.buf.length c4], .slice Ao o.length co, .slice (some ⟨g, 0, none⟩) 4096 4096] W (RetFd p o g bs G s W)
theorem fst_len {p : Prg} {o : List Int} (hp : PrgOk p) {s : St} {l : List Int} (h : FstP (sucS p) (mvA p) (goalS p o) s l) (hr : Reach (sucS p) (st0 p) s) : l.length ≤ potS s := by
  induction h with
  | here _ => exact Nat.zero_le _
  | step _ hi _ _ _ ih =>
    have h1 := potS_lt hp hr (List.getElem_mem hi)
    have h2 := ih (.next hr (List.getElem_mem hi))
    rw [List.length_cons]
    omega

set_option maxHeartbeats 6000000 in
theorem find_step (p : Prg) (hp : PrgOk p) (o : List Int) (ho : o.length = p.length * 3 + 3) (g : Nat) (Ao : Option Addr) (co : Nat) (Ap : Option Addr) (cp : Nat) (s : St) (hr : Reach (sucS p) (st0 p) s)
    (ih : ∀ t, Reach (sucS p) (st0 p) t → potS t < potS s → FindP p o g Ao co Ap cp t) : FindP p o g Ao co Ap cp s := by
  intro W bs G A1 A2 A3 A4 c1 c2 c3 c4 hT hpr hO hrep hG
  obtain ⟨i0, hi0, hz0, hz1, hz2⟩ := info_parts Tryz.infoInt
  have hok := reach_ok hp hr
  have hp3 := hp.1.1
  have HT := Lib.hid hT
  have HG := Lib.hid hG
  have Hp := Lib.hid hp
  have Hr := Lib.hid hr
  have HIH := Lib.hid ih
  have Hok := Lib.hid hok
  have Hol := Lib.hid ho
  obtain ⟨w1, hw1⟩ : ∃ w1, w1 = W.alloc (.cells #[.slice A1 s.s3.at_.length c1, .slice A2 s.s3.regs.length c2, .slice A3 s.s3.mem.length c3, .slice A4 s.s3.buf.length c4] 41) := ⟨_, rfl⟩
  have hb1 : Below W.heap.size W w1 := by rw [hw1]; exact (Below.refl _ _).alloc (Nat.le_refl _) _
  have hleP : Le (hidP (OwT g bs) W) (hidP (OwT g bs) w1) := Le.hidP_below hb1 (fun _ _ => .inr trivial)
  have HPr := Lib.hid (hpr.le hleP)
  have HO := Lib.hid (hO.le hleP)
  have hcur : Hid (QCur (hidP (OwT g bs) w1) W.heap.size A1 A2 A3 A4 c1 c2 c3 c4 s.s3) := by
    show QCur _ _ _ _ _ _ _ _ _ _ _
    rw [hw1]
    exact QCur.new (fun b hb => hT.lt hb) hrep
  have HT1 : Hid (TabK w1 g bs (G.map fun s => kyB s.s3)) := hT.move fun b hb => hb1.block b (hT.lt hb)
  obtain ⟨S, hS⟩ : ∃ S, S = W.heap.size := ⟨_, rfl⟩
  rw [← hS] at hcur
  have q0 := Le.hidP _ _ _ _ hcur.out.q0
  have q1 := Le.hidP _ _ _ _ hcur.out.q1
  have q2 := Le.hidP _ _ _ _ hcur.out.q2
  have q3 := Le.hidP _ _ _ _ hcur.out.q3
  have hSl := hcur.out.size
  have hdn := l3Done_any p s.s3 (by show (s.pc.map _).length = _; rw [List.length_map]; exact hok.pcl) w1 (.slice Ap p.length cp) (HPr.out.le (Le.hidP _ _)) A1 A2 A3 A4 c1 c2 c3 c4 (hcur.out.rep.le (Le.hidP _ _))
  rw [done3_s3] at hdn
  have HbW := Lib.hid hb1
  clear hT hpr hO hrep hG hp hr ih hok ho hleP
  go_enter Tryz.func16, Tryz.ntmps16
  go_upto_region 1 with (fail)
  rw [← hw1, ← hS]
  clear hw1 hb1 hS
  go_wp2_with fail
  refine hdn.mono ?_
  rintro e2 w2 ⟨rfl, hb2⟩
  have HLe2 : Hid (Le (hidP (OwT g bs) w1) (hidP (OwT g bs) w2)) := Le.hidP_below hb2 (fun _ _ => .inr trivial)
  have hcur2 := Lib.hid (hcur.out.le HLe2.out)
  have HPr2 := Lib.hid (HPr.out.le HLe2.out)
  have HO2 := Lib.hid (HO.out.le HLe2.out)
  have HT2 : Hid (TabK w2 g bs (G.map fun s => kyB s.s3)) := HT1.out.move fun b hb => hb2.block b (HT1.out.lt hb)
  have HbW2 : Hid (Below W.heap.size W w2) := HbW.out.trans (hb2.mono HbW.out.size)
  clear hdn hcur HPr HO HT1 HLe2 q0 q1 q2 q3 hSl
  have q0 := Le.hidP _ _ _ _ hcur2.out.q0
  have q1 := Le.hidP _ _ _ _ hcur2.out.q1
  have q2 := Le.hidP _ _ _ _ hcur2.out.q2
  have q3 := Le.hidP _ _ _ _ hcur2.out.q3
  have hSl := hcur2.out.size
  cases hdo : doneS p s
  · have Hgs : Hid (goalS p o s = false) := by show _ = _; unfold goalS; rw [hdo]; rfl
    clear hdo
    go_wp2_with fail
    go_loopg [10] p.length (fun gg s10 wr => ∃ (t : Nat) (bs1 : Nat → Option Nat) (G1 : List St), t ≤ p.length ∧ gg = p.length - t ∧ s10 = .int .i64 t ∧ Hid (TabK wr g bs1 (G1.map fun s => kyB s.s3)) ∧ Hid (MvP (OwT g bs) w2 wr) ∧ Hid (∀ b, OwT g bs1 b → OwT g bs b ∨ w2.heap.size ≤ b)
      ∧ Hid (∀ u, u < t → onS p s u = true → ¬ Good (sucS p) (goalS p o) (nxS p s u)) ∧ Hid (G1.Nodup ∧ (∀ x ∈ G1, Reach (sucS p) (st0 p) x) ∧ ∀ x ∈ G1, x ∈ G ∨ ¬ Good (sucS p) (goalS p o) x))
    case atStart => exact ⟨0, bs, G, Nat.zero_le _, rfl, rfl, HT2.out, .refl _ _, fun b hb => .inl hb, fun u hu => absurd hu (Nat.not_lt_zero _), HG.out.nd, HG.out.re, fun x hx => .inl hx⟩
    case round =>
      clear q0 q1 q2 q3 hSl HT2
      obtain ⟨wi, rfl⟩ : ∃ wi : World, wi = wr := ⟨_, rfl⟩
      obtain ⟨t, bs1, G1, ht, rfl, rfl, hT1, hmv, hbs1, hnog, hG1⟩ := hrel
      have hLe : Hid (Le (hidP (OwT g bs) w2) (hidP (OwT g bs1) wi)) := Le.hidP_mv hmv.out (fun i _ h => h) hbs1.out
      have cur := Lib.hid (hcur2.out.le hLe.out)
      have HPr3 := Lib.hid (HPr2.out.le hLe.out)
      have HO3 := Lib.hid (HO2.out.le hLe.out)
      have hs2i := hmv.out.size
      by_cases hlt : t < p.length
      · have h1 : t < s.s3.at_.length := by show t < (s.pc.map _).length; rw [List.length_map, Hok.out.pcl]; exact hlt
        have hat : s.s3.at_[t]'h1 = ((pcS s t : Nat) : Int) := by have h := s3_at (s := s) t; rw [List.getD_eq_getElem?_getD, List.getElem?_eq_getElem h1] at h; exact h
        have q0 := Le.hidP _ _ _ _ cur.out.q0
        have q1 := Le.hidP _ _ _ _ cur.out.q1
        have q2 := Le.hidP _ _ _ _ cur.out.q2
        have q3 := Le.hidP _ _ _ _ cur.out.q3
        have hSl := cur.out.size
        obtain ⟨b3, o3, e3, hb3, j0⟩ := (cur.out.rep.at_.le (Le.hidP _ _)).get h1
        rw [hat] at j0
        subst e3
        obtain ⟨bp, op, A5, c5, e5, hbp, k5, hlm, hx⟩ := SlR.getSub (HPr3.out.le (Le.hidP _ _)) hlt
        rw [← thrP_get hlt] at k5 hlm
        subst e5
        have htI : (t : Int) < (p.length : Int) := by omega
        have hatI : (t : Int) < (s.s3.at_.length : Int) := by omega
        have f0 := fun n : Ext wi => n.le _ _ q0
        have f1 := fun n : Ext wi => n.le _ _ j0
        have f2 := fun n : Ext wi => n.le _ _ k5
        have hpc := Hok.out.pcb t
        clear hx hat
        go_upto_region 6 with (fail)
        refine wp_region_ext wi (by kernel_rfl) (by kernel_rfl) (Below.refl _ _) ?_
        repeat (go_big_quiet_step (fail))
        refine wpQuiet_nil ?_
        rintro wn ⟨⟨_, hbn⟩, rfl⟩
        have HLn : Hid (Le (hidP (OwT g bs1) wi) (hidP (OwT g bs1) wn)) := Le.hidP_below hbn (fun _ _ => .inr trivial)
        have curn := Lib.hid (cur.out.le HLn.out)
        have HPrn := Lib.hid (HPr3.out.le HLn.out)
        have HOn := Lib.hid (HO3.out.le HLn.out)
        have hTn : Hid (TabK wn g bs1 (G1.map fun s => kyB s.s3)) := hT1.out.move fun b hb => hbn.block b (hT1.out.lt hb)
        have hmvn : Hid (MvP (OwT g bs) w2 wn) := hmv.out.trans (MvP.of_below (p := fun _ => False) hbn) (fun _ _ h => absurd h (by simp))
        have hsn := hbn.size
        clear f0 f1 f2 q0 q1 q2 q3 j0 k5 hSl hT1 hmv hbn HLn cur HPr3 HO3 hLe
        cases hon : onS p s t
        · have hd : (((pcS s t : Nat) : Int) == (((thrP p t).length : Nat) : Int)) = true := by
            unfold onS at hon
            rw [decide_eq_false_iff_not] at hon
            rw [beq_iff_eq]; omega
          have Hng2 : Hid (∀ u, u < t + 1 → onS p s u = true → ¬ Good (sucS p) (goalS p o) (nxS p s u)) := fun u hu hou => by
            rcases Nat.lt_succ_iff_lt_or_eq.1 hu with h | h
            · exact hnog.out u h hou
            · rw [h, hon] at hou; cases hou
          clear hon hnog
          go_wp2_with fail
          go_roundg (p.length - (t + 1))
          case measure => omega
          case rel => exact ⟨t + 1, bs1, G1, by omega, rfl, by go_num, hTn.out, hmvn.out, hbs1.out, Hng2.out, hG1.out⟩
        · have hlt2 : pcS s t < (thrP p t).length := by unfold onS at hon; exact of_decide_eq_true hon
          have hd : (((pcS s t : Nat) : Int) == (((thrP p t).length : Nat) : Int)) = false := by rw [beq_eq_false_iff_ne]; omega
          have htm : t ∈ mvS p s := mem_mvS.2 ⟨hlt, hlt2⟩
          have hsuc : nxS p s t ∈ sucS p s := List.mem_map.2 ⟨t, htm, rfl⟩
          have hlen7 := (thr_ok Hp.out t).1
          have hregl : s.s3.regs.length = p.length * 3 := Hok.out.regl
          have hdo := l3Do_any p s.s3 t (pcS s t) (insS p s t) (ins_ok Hp.out hlt2) hlt (by omega) (s3_at t) hlt2 rfl (by omega) (by show (s.pc.map _).length = _; rw [List.length_map]; exact Hok.out.pcl) hregl Hok.out.meml (by show ([] : List (List Int)).length ≤ _; simp) (fun xs hxs => by cases hxs) (by omega) wn _ (HPrn.out.le (Le.hidP _ _)) _ A2 A3 A4 c1 c2 c3 c4 (curn.out.rep.le (Le.hidP _ _))
          rw [do3_next] at hdo
          have Hre2 : Hid (Reach (sucS p) (st0 p) (nxS p s t)) := .next Hr.out hsuc
          have Hpot : Hid (potS (nxS p s t) < potS s) := potS_lt Hp.out Hr.out hsuc
          have Hfst : Hid (∀ l, FstP (sucS p) (mvA p) (goalS p o) (nxS p s t) l → FstP (sucS p) (mvA p) (goalS p o) s ((t : Int) :: l)) := fun l h => fst_thr hlt hon Hgs.out hnog.out h
          have Hng2 : Hid (¬ Good (sucS p) (goalS p o) (nxS p s t) → ∀ u, u < t + 1 → onS p s u = true → ¬ Good (sucS p) (goalS p o) (nxS p s u)) := fun hn u hu hou => by
            rcases Nat.lt_succ_iff_lt_or_eq.1 hu with h | h
            · exact hnog.out u h hou
            · rw [h]; exact hn
          have Hokn : Hid (StOk p (nxS p s t)) := Hok.out.next Hp.out htm
          generalize nxS p s t = nx at hdo Hre2 Hpot Hfst Hng2 Hokn
          have x0 := Le.hidP _ _ _ _ curn.out.q0
          have x1 := Le.hidP _ _ _ _ curn.out.q1
          have x2 := Le.hidP _ _ _ _ curn.out.q2
          have x3 := Le.hidP _ _ _ _ curn.out.q3
          have hSn := curn.out.size
          clear hon htm hsuc hregl hnog hlen7
          go_wp2_with fail
          refine hdo.mono ?_
          rintro ej wj ⟨D1, D2, D3, D4, d1, d2, d3, d4, rfl, hrj, hbj⟩
          have hTj : TabK wj g bs1 (G1.map fun s => kyB s.s3) := hTn.out.move fun b hb => hbj.block b (hTn.out.lt hb)
          have hrepj : Rep4 (hidP (OwT g bs1) wj) D1 D2 D3 D4 d1 d2 d3 d4 nx.s3 := hrj.le (Le.above_hidP (fun b hb => hTn.out.lt hb))
          have hcurNx := QCur.new (t := 41) (fun b hb => hTj.lt hb) hrepj
          obtain ⟨wk, hwk⟩ : ∃ wk, wk = wj.alloc (.cells #[.slice D1 nx.s3.at_.length d1, .slice D2 nx.s3.regs.length d2, .slice D3 nx.s3.mem.length d3, .slice D4 nx.s3.buf.length d4] 41) := ⟨_, rfl⟩
          have hbjk : Below wj.heap.size wj wk := by rw [hwk]; exact (Below.refl _ _).alloc (Nat.le_refl _) _
          have hbnk : Below wn.heap.size wn wk := hbj.trans (hbjk.mono hbj.size)
          have hTk : Hid (TabK wk g bs1 (G1.map fun s => kyB s.s3)) := hTj.move fun b hb => hbjk.block b (hTj.lt hb)
          rw [← hwk] at hcurNx
          have hcurN := Lib.hid hcurNx
          have HLk : Hid (Le (hidP (OwT g bs1) wn) (hidP (OwT g bs1) wk)) := Le.hidP_below hbnk (fun _ _ => .inr trivial)
          have HPrk := Lib.hid (HPrn.out.le HLk.out)
          have HOk := Lib.hid (HOn.out.le HLk.out)
          have curk := Lib.hid (curn.out.le HLk.out)
          have hmvk : Hid (MvP (OwT g bs) w2 wk) := hmvn.out.trans (MvP.of_below (p := fun _ => False) hbnk) (fun _ _ h => absurd h (by simp))
          have hsk : w2.heap.size ≤ wk.heap.size := hmvk.out.size
          obtain ⟨N8, hN8⟩ : ∃ N8, N8 = wj.heap.size := ⟨_, rfl⟩
          rw [← hN8] at hcurN
          have hkl := keyL_len Hp.out Hokn.out
          have hkey := l3Key_any nx.s3 (keyL_by Hp.out Hokn.out) hkl.1 (by omega) wk D1 D2 D3 D4 d1 d2 d3 d4 (hcurN.out.rep.le (Le.hidP _ _))
          have hkz : (strOfNums (keyL nx.s3)).size ≤ 1000000 := by rw [strOfNums_size]; omega
          obtain ⟨kn, hkn⟩ : ∃ kn, kn = strOfNums (keyL nx.s3) := ⟨_, rfl⟩
          rw [← hkn] at hkey hkz
          have Hkn : Hid (kn = kyB nx.s3) := hkn
          clear hdo x0 x1 x2 x3 hrj hbj hrepj hcurNx hbjk hkn hkl hTj hTn HPrn HOn curn hmvn hSn hbnk HLk
          go_upto_region 8 with (fail)
          rw [← hwk]
          rw [← hN8]
          clear hwk hN8
          have x0 := Le.hidP _ _ _ _ hcurN.out.q0
          have x1 := Le.hidP _ _ _ _ hcurN.out.q1
          have x2 := Le.hidP _ _ _ _ hcurN.out.q2
          have x3 := Le.hidP _ _ _ _ hcurN.out.q3
          have hNk := hcurN.out.size
          go_wp2_with fail
          refine hkey.mono ?_
          rintro el wl ⟨rfl, hbl⟩
          obtain ⟨xss, htab, hks1, hks2⟩ : TabK wl g bs1 (G1.map fun s => kyB s.s3) := hTk.out.move fun b hb => hbl.block b (hTk.out.lt hb)
          have hfd := l3Found_any kn hkz wl g xss bs1 htab
          have Htab := Lib.hid (And.intro htab (And.intro hks1 hks2))
          have Hmem : Hid (inB (xss (hashS kn)) kn = true ↔ nx ∈ G1) := by
            show _ ↔ _
            rw [inB_iff, hks1, List.mem_map]
            constructor
            · rintro ⟨u, hu, he⟩
              have : u = nx := keyS_inj Hp.out (reach_ok Hp.out (hG1.out.2.1 u hu)) Hokn.out (by rw [← kyB_s3, ← kyB_s3, he, Hkn.out])
              rw [← this]; exact hu
            · intro hu
              exact ⟨nx, hu, Hkn.out.symm⟩
          have HBl := Lib.hid hbl
          clear hkey x0 x1 x2 x3 hbl htab hks1 hks2 hNk
          generalize hfb : inB (xss (hashS kn)) kn = fb at hfd Hmem
          clear hfb
          go_wp2_with fail
          refine hfd.mono ?_
          rintro em wm ⟨rfl, hbm⟩
          have HBm : Hid (Below wk.heap.size wk wm) := HBl.out.trans (hbm.mono HBl.out.size)
          have HLm : Hid (Le (hidP (OwT g bs1) wk) (hidP (OwT g bs1) wm)) := Le.hidP_below HBm.out (fun _ _ => .inr trivial)
          have hmvm : Hid (MvP (OwT g bs) w2 wm) := hmvk.out.trans (MvP.of_below (p := fun _ => False) HBm.out) (fun _ _ h => absurd h (by simp))
          have htabm := Htab.out.1.below hbm
          have hskm := HBm.out.size
          clear hfd hbm HBl
          cases fb
          · have Hnin : Hid (nx ∉ G1) := fun h => by have := Hmem.out.2 h; cases this
            have hl5 : (xss (hashS kn)).length ≤ 5000000000000 := by
              have h1 := Htab.out.2.2 (hashS kn)
              rw [List.length_map] at h1
              have h2 := seq_few Hp.out hG1.out.1 hG1.out.2.1
              omega
            have hmk := l3Mark_any kn hkz wm g xss bs1 htabm hl5
            clear htabm
            go_wp2_with fail
            refine hmk.mono ?_
            rintro eo wo ⟨rfl, bs2, ht2, hm2, hbs2⟩
            have HLo : Hid (Le (hidP (OwT g bs1) wk) (hidP (OwT g bs2) wo)) := HLm.out.trans (Le.hidP_mv hm2 (fun i _ h => h) hbs2)
            have curNo := Lib.hid (hcurN.out.le HLo.out)
            have HPro := Lib.hid (HPrk.out.le HLo.out)
            have HOo := Lib.hid (HOk.out.le HLo.out)
            have hmvo : Hid (MvP (OwT g bs) w2 wo) := hmvm.out.trans hm2 (fun i hi h => by
              rcases hbs1.out i h with h | h
              · exact h
              · omega)
            have hbso : Hid (∀ b, OwT g bs2 b → OwT g bs b ∨ w2.heap.size ≤ b) := fun b hb => by
              rcases hbs2 b hb with h | h
              · exact hbs1.out b h
              · right; omega
            have hTo : Hid (TabK wo g bs2 ((G1 ++ [nx]).map fun s => kyB s.s3)) := by
              show TabK _ _ _ _
              rw [List.map_append, show [nx].map (fun s : St => kyB s.s3) = [kn] by rw [Hkn.out]; rfl]
              exact TabK.mark Htab.out.2.1 Htab.out.2.2 ht2
            have HG2 : Hid (GOk p o (G1 ++ [nx]) (potS nx)) := ⟨List.nodup_append.2 ⟨hG1.out.1, by simp, fun a ha b hb e => Hnin.out (by rw [← List.mem_singleton.1 hb, ← e]; exact ha)⟩, fun x hx => by
              rcases List.mem_append.1 hx with hx | hx
              · exact hG1.out.2.1 x hx
              · rw [List.mem_singleton.1 hx]; exact Hre2.out, fun x hx => by
              rcases List.mem_append.1 hx with hx | hx
              · rcases hG1.out.2.2 x hx with h | h
                · rcases HG.out.bad x h with h | h
                  · exact .inl h
                  · right; have := Hpot.out; omega
                · exact .inl h
              · rw [List.mem_singleton.1 hx]; exact .inr (Nat.le_refl _)⟩
            have x0 := Le.hidP _ _ _ _ curNo.out.q0
            have x1 := Le.hidP _ _ _ _ curNo.out.q1
            have x2 := Le.hidP _ _ _ _ curNo.out.q2
            have x3 := Le.hidP _ _ _ _ curNo.out.q3
            have hNo := curNo.out.size
            have hrec := HIH.out nx Hre2.out Hpot.out wo bs2 (G1 ++ [nx]) D1 D2 D3 D4 d1 d2 d3 d4 hTo.out HPro.out HOo.out curNo.out.rep HG2.out
            have hso := hmvo.out.size
            clear hmk ht2 hm2 hbs2 HLm hmvm hl5
            go_wp2_with fail
            refine hrec.mono ?_
            rintro ez wz ⟨Az, cz, lz, okz, bs3, G3, rfl, hIz, hTz, hmz, hbsz, hlz, hndz, hrez, hresz⟩
            have hmvz : Hid (MvP (OwT g bs) w2 wz) := hmvo.out.trans hmz (fun i hi h => by
              rcases hbso.out i h with h | h
              · exact h
              · omega)
            have hbs3 : Hid (∀ b, OwT g bs3 b → OwT g bs b ∨ w2.heap.size ≤ b) := fun b hb => by
              rcases hbsz b hb with h | h
              · exact hbso.out b h
              · right; omega
            have hTz := Lib.hid hTz
            have hIz := Lib.hid hIz
            have hlenz : okz = true → lz.length ≤ 21 := fun h => by
              rcases hresz with ⟨_, h⟩ | ⟨h', _⟩
              · have := fst_len Hp.out h Hre2.out
                unfold potS at this
                omega
              · rw [h'] at h; cases h
            have Hres := Lib.hid (And.intro hndz (And.intro hrez hresz))
            clear hrec x0 x1 x2 x3 hmz hbsz hndz hrez hresz hNo
            cases okz
            · have Hbad : Hid (¬ Good (sucS p) (goalS p o) nx ∧ ∀ x ∈ G3, x ∈ G1 ++ [nx] ∨ ¬ Good (sucS p) (goalS p o) x) := by
                rcases Hres.out.2.2 with ⟨h, _⟩ | ⟨_, _, h1, h2⟩
                · cases h
                · exact ⟨h1, h2⟩
              go_wp2_with fail
              go_roundg (p.length - (t + 1))
              case measure => omega
              case rel => exact ⟨t + 1, bs3, G3, by omega, rfl, by go_num, hTz.out, hmvz.out, hbs3.out, Hng2.out Hbad.out.1, Hres.out.1, Hres.out.2.1, fun x hx => by
                rcases Hbad.out.2 x hx with h | h
                · rcases List.mem_append.1 h with h | h
                  · exact hG1.out.2.2 x h
                  · rw [List.mem_singleton.1 h]; exact .inr Hbad.out.1
                · exact .inr h⟩
            · have Hgd : Hid (FstP (sucS p) (mvA p) (goalS p o) s ((t : Int) :: lz)) := by
                rcases Hres.out.2.2 with ⟨_, h⟩ | ⟨h, _⟩
                · exact Hfst.out lz h
                · cases h
              have hl21 := hlenz rfl
              have oN := Own.new wz 3 #[.int .i64 (t : Int)]
              have HRow : Hid (RowI (wz.alloc (.cells #[.int .i64 (t : Int)] 3)) wz.heap.size (.slice (some ⟨wz.heap.size, 0, none⟩) 1 1) [(t : Int)]) := RowOf.single1 oN (Nat.le_refl _) (fun cs h => h)
              have HIr : Hid (Ints (wz.alloc (.cells #[.int .i64 (t : Int)] 3)) Az cz lz) := hIz.out.le ((Le.hidP _ _).trans (Le.alloc _ _))
              clear oN
              go_wp2_with (at_builtin; refine wpList_append_list (o := ⟨some 65, _, _, _, _, _⟩) (by rfl) _ _ _ (by rfl) qint_congr (R := RInt) wz.heap.size 3 i0 _ 8 Tryz.underlying24 hi0 hz0 hz1 hz2 rfl (by omega) (.slice (some ⟨wz.heap.size, 0, none⟩) 1 1) [(t : Int)] (by rfl) HRow.out Az cz lz (by rfl) HIr.out (fun cs y h => h) qint_one (by simp [maxLen]; omega) (by simp; omega) (by simp) (wz.heap.size + 1) (by simp) ?_; intro A9 c9 w9 hrow9 hgrow9 hat9)
              have hB9 : Below wz.heap.size wz w9 := below_of_grown ((Below.refl _ _).alloc (Nat.le_refl _) _) hgrow9 (by simp) (fun g' hg => by simp only [Value.ownBlock, Option.some.injEq] at hg; omega)
              have HB9 := Lib.hid hB9
              have HI9 : Hid (Ints (above wz.heap.size w9) A9 c9 ((t : Int) :: lz)) := by
                obtain ⟨A', c', e', hi'⟩ := RowI.ints hrow9
                injection e' with e1 e2 e3
                subst e1 e3
                exact hi'
              clear hrow9 hgrow9 hat9 hB9
              go_wp2_with fail
              refine bodyPost_ret (v := .tuple #[.slice A9 ([(t : Int)] ++ lz).length c9, .bool true]) (by simp [results, Tryz.results16, go_sem]) rfl ?_
              exact ⟨A9, c9, (t : Int) :: lz, true, bs3, G3, rfl, HI9.out.le (Le.above_hidP (fun b hb => hTz.out.lt hb)), hTz.out.move fun b hb => HB9.out.block b (hTz.out.lt hb),
                ((MvP.of_below (p := OwT g bs) HbW2.out).trans hmvz.out (fun i _ h => h)).trans (MvP.of_below (p := fun _ => False) HB9.out) (fun _ _ h => absurd h (by simp)), fun b hb => by
                  rcases hbs3.out b hb with h | h
                  · exact .inl h
                  · right; have := HbW2.out.size; omega, by simp; omega, Hres.out.1, Hres.out.2.1, .inl ⟨rfl, Hgd.out⟩⟩
          · have Hin : Hid (nx ∈ G1) := Hmem.out.1 rfl
            have Hbad : Hid (¬ Good (sucS p) (goalS p o) nx) := by
              rcases hG1.out.2.2 nx Hin.out with h | h
              · rcases HG.out.bad nx h with h | h
                · exact h
                · have := Hpot.out; omega
              · exact h
            have hTm : Hid (TabK wm g bs1 (G1.map fun s => kyB s.s3)) := ⟨xss, htabm, Htab.out.2.1, Htab.out.2.2⟩
            clear htabm
            go_wp2_with fail
            go_roundg (p.length - (t + 1))
            case measure => omega
            case rel => exact ⟨t + 1, bs1, G1, by omega, rfl, by go_num, hTm.out, hmvm.out, hbs1.out, Hng2.out Hbad.out, hG1.out⟩
      · obtain rfl : t = p.length := by omega
        have Hng3 := Lib.hid (none_good Hgs.out hnog.out)
        have hTe := Lib.hid (hT1.out.move (w' := wi.alloc (.cells #[] 3)) fun b hb => Go.Deep.blk_alloc_lt _ _ _ (hT1.out.lt hb))
        clear hnog
        go_wp2_with fail
        refine bodyPost_ret (v := .tuple #[.slice (some ⟨wi.heap.size, 0, none⟩) 0 0, .bool false]) (by simp [results, Tryz.results16, go_sem]) rfl ?_
        exact ⟨_, _, [], false, bs1, G1, rfl, ⟨_, _, rfl, by simp, fun i hi => absurd hi (Nat.not_lt_zero _)⟩, hTe.out, ((MvP.of_below (p := OwT g bs) HbW2.out).trans hmv.out (fun i _ h => h)).trans (MvP.of_below (p := fun _ => False) ((Below.refl _ _).alloc (Nat.le_refl _) _)) (fun _ _ h => absurd h (by simp)), fun b hb => by
          rcases hbs1.out b hb with h | h
          · exact .inl h
          · right; have := HbW2.out.size; omega, by simp, hG1.out.1, hG1.out.2.1, .inr ⟨rfl, rfl, Hng3.out, hG1.out.2.2⟩⟩
  · have hgo : goalS p o s = eqB (outS s) o := by unfold goalS; rw [hdo]; rfl
    have hng : ¬ (goalS p o s = true) → ¬ Good (sucS p) (goalS p o) s := fun h => not_good (by simpa using h) fun j hj => by rw [done_suc hdo] at hj; exact absurd hj (Nat.not_lt_zero _)
    have Hgo := Lib.hid hgo
    have Hng := Lib.hid hng
    have hou := fun W' (hW : Below w2.heap.size w2 W') => l3Outcome_any s.s3 (by show s.regs.length ≤ _; rw [Hok.out.regl]; omega) (by show s.mem.length ≤ _; rw [Hok.out.meml]; omega) W' A1 A2 A3 A4 c1 c2 c3 c4 ((hcur2.out.below hW).rep.le (Le.hidP _ _))
    have hos : (s.s3.regs ++ s.s3.mem).length = o.length := by show (s.regs ++ s.mem).length = _; rw [List.length_append, Hok.out.regl, Hok.out.meml, Hol.out]
    have Hos := Lib.hid hos
    clear hdo hgo hng hos
    have HB3 : Hid (Below w2.heap.size w2 (w2.alloc (.cells #[] 3))) := (Below.refl _ _).alloc (Nat.le_refl _) _
    have hou3 := hou _ HB3.out
    obtain ⟨xs, hxs⟩ : ∃ xs, xs = s.s3.regs ++ s.s3.mem := ⟨_, rfl⟩
    rw [← hxs] at hou3
    have Hxs : Hid (xs = outS s) := hxs
    have Hxl : Hid (xs.length = o.length) := by show _ = _; rw [hxs]; exact Hos.out
    clear hou hxs
    go_wp2_with fail
    refine hou3.mono ?_
    rintro e4 w4 ⟨A4', c4', rfl, hrow4, hb4⟩
    have HB4 := Lib.hid (HB3.out.trans (hb4.mono HB3.out.size))
    have hI4 := row_readS hrow4
    have hle := l3Less_any xs o Hxl.out w4 A4' Ao c4' co hI4 ((HO2.out.le (Le.hidP_below HB4.out (fun _ _ => .inr trivial))).le (Le.hidP _ _))
    have Hlex : Hid (lexC xs o = 0 ↔ goalS p o s = true) := by
      show _ ↔ _
      rw [Hgo.out, eqB_iff, ← Hxs.out]
      exact ⟨lexC_eq _ _, fun h => by rw [h]; exact lexC_self _⟩
    generalize lexC xs o = lx at hle Hlex
    clear hou3 hrow4 hI4 hb4
    go_wp2_with fail
    refine hle.mono ?_
    rintro e5 w5 ⟨rfl, hb5⟩
    have HB5 := Lib.hid (HB4.out.trans (hb5.mono HB4.out.size))
    have HT5 : Hid (TabK w5 g bs (G.map fun s => kyB s.s3)) := HT2.out.move fun b hb => HB5.out.block b (HT2.out.lt hb)
    have HbW5 := HbW2.out.trans (HB5.out.mono HbW2.out.size)
    clear hle hb5
    by_cases hlx : lx = 0
    · have hd : (lx == 0) = true := by simp [hlx]
      have Hgt := Lib.hid (Hlex.out.1 hlx)
      clear hlx
      go_wp2_with fail
      refine bodyPost_ret (v := .tuple #[.slice (some ⟨w2.heap.size, 0, none⟩) 0 0, .bool true]) (by simp [results, Tryz.results16, go_sem]) rfl ?_
      exact ⟨_, _, [], true, bs, G, rfl, ⟨_, _, rfl, by simp, fun i hi => absurd hi (Nat.not_lt_zero _)⟩, HT5.out, .of_below HbW5, fun b hb => .inl hb, by simp, HG.out.nd, HG.out.re, .inl ⟨rfl, .here Hgt.out⟩⟩
    · have hd : (lx == 0) = false := beq_eq_false_iff_ne.2 hlx
      have Hgf := Lib.hid (Hng.out fun h => hlx (Hlex.out.2 h))
      clear hlx
      go_wp2_with fail
      refine bodyPost_ret (v := .tuple #[.slice (some ⟨w2.heap.size, 0, none⟩) 0 0, .bool false]) (by simp [results, Tryz.results16, go_sem]) rfl ?_
      exact ⟨_, _, [], false, bs, G, rfl, ⟨_, _, rfl, by simp, fun i hi => absurd hi (Nat.not_lt_zero _)⟩, HT5.out, .of_below HbW5, fun b hb => .inl hb, by simp, HG.out.nd, HG.out.re, .inr ⟨rfl, rfl, Hgf.out, fun x hx => .inl hx⟩⟩

theorem find_all (p : Prg) (hp : PrgOk p) (o : List Int) (ho : o.length = p.length * 3 + 3) (g : Nat) (Ao : Option Addr) (co : Nat) (Ap : Option Addr) (cp : Nat) : ∀ (n : Nat) (s : St), potS s ≤ n → Reach (sucS p) (st0 p) s → FindP p o g Ao co Ap cp s
  | 0, s, h, hr => find_step p hp o ho g Ao co Ap cp s hr fun t _ ht => by omega
  | n + 1, s, h, hr => find_step p hp o ho g Ao co Ap cp s hr fun t hrt ht => find_all p hp o ho g Ao co Ap cp n t (by omega) hrt
/-- What is found. -/
def FndS (p : Prg) (o : List Int) (r : Option (List Int)) : Prop := (OutOk p o ∧ ((∃ l, r = some l ∧ FstP (sucS p) (mvA p) (goalS p o) (st0 p) l) ∨ (r = none ∧ ¬ Good (sucS p) (goalS p o) (st0 p)))) ∨ (¬ OutOk p o ∧ r = none)
theorem FndS.uniq {p : Prg} {o : List Int} {r r' : Option (List Int)} (h : FndS p o r) (k : FndS p o r') : r = r' := by
  rcases h with ⟨h1, h⟩ | ⟨h1, rfl⟩
  · rcases k with ⟨_, k⟩ | ⟨k1, _⟩
    · rcases h with ⟨l, rfl, h⟩ | ⟨rfl, h⟩
      · rcases k with ⟨l', rfl, k⟩ | ⟨_, k⟩
        · rw [h.uniq k]
        · exact absurd h.good k
      · rcases k with ⟨l', _, k⟩ | ⟨rfl, _⟩
        · exact absurd k.good h
        · rfl
    · exact absurd h1 k1
  · rcases k with ⟨k1, _⟩ | ⟨_, rfl⟩
    · exact absurd k1 h1
    · rfl
def RetFS (p : Prg) (o : List Int) (W : World) (e : Ending) (W' : World) : Prop :=
  ∃ A c r, e = .returned (.tuple #[.slice A (r.getD []).length c, .bool r.isSome]) ∧ Ints W' A c (r.getD []) ∧ Below W.heap.size W W' ∧ FndS p o r
theorem owT_none {g b : Nat} (h : OwT g (fun _ => none) b) : b = g := by
  rcases h with h | ⟨_, _, h⟩
  · exact h
  · cases h

set_option maxHeartbeats 3000000 in
theorem specFn_any (p : Prg) (hl : p.length ≤ 1048576) (o : List Int) (W : World) (v : Value) (hr : PrgS W v p) (A : Option Addr) (c : Nat) (hI : Ints W A c o) : Calls Tryz.prog 6 #[v, .slice A o.length c] W (RetFS p o W) := by
  have hov := specOV_any p hl o W v hr A c hI
  have HR := Lib.hid hr
  have HI := Lib.hid hI
  obtain ⟨Ap, cp, rfl, _⟩ := hr.slice
  have HF : Hid (ovB p o = false → ¬ OutOk p o) := fun h => ovB_false.1 h
  have HT : Hid (ovB p o = true → OutOk p o) := fun h => ovB_iff.1 h
  have hmk := run_make_any (P := Tryz.prog) 43 98 _ 1 24 Tryz.underlying43 Tryz.infoSs 4096 (by omega) (by omega)
  have hmkT : ∀ w, (Instr.makeSlice 43 (.int .i64 4096) (.int .i64 4096)).run Tryz.prog w = .ok (.slice (some ⟨w.heap.size, 0, none⟩) 4096 4096) (w.alloc (.cells (madeCells #[.slice none 0 0] 4096) 98)) := fun w => hmk w
  obtain ⟨cur, hcur⟩ : ∃ cur, cur = madeCells #[Value.slice none 0 0] 4096 := ⟨_, rfl⟩
  have Hcur : Hid (cur.size = 4096 ∧ ∀ i, i < 4096 → cur[i]? = some (.slice none 0 0)) := by
    rw [hcur]
    exact ⟨size_madeCells _ _, fun i hi => by rw [← Array.getElem?_toList, madeCells_rep, List.getElem?_replicate, if_pos hi]⟩
  rw [← hcur] at hmkT
  clear hmk hcur hI hr
  go_enter Tryz.func6, Tryz.ntmps6
  go_wp2_with fail
  refine hov.mono ?_
  rintro e1 w1 ⟨rfl, hb1⟩
  clear hov
  cases hb : ovB p o
  · have Hn := Lib.hid (HF.out hb)
    clear hb HT HF hmkT
    go_wp2_with fail
    refine bodyPost_ret (v := .tuple #[.slice (some ⟨w1.heap.size, 0, none⟩) 0 0, .bool false]) (by simp [results, Tryz.results6, go_sem]) rfl ?_
    exact ⟨_, _, none, rfl, ⟨_, _, rfl, by simp, fun i hi => absurd hi (Nat.not_lt_zero _)⟩, hb1.alloc hb1.size _, .inr ⟨Hn.out, rfl⟩⟩
  · have Hok : Hid (OutOk p o) := HT.out hb
    have h3 := Hok.out.1.1.1
    have HPr1 := Lib.hid (HR.out.le (Le.below hb1))
    have HI1 := Lib.hid (HI.out.le (Le.below hb1))
    have HSt : Hid (∀ X, Below w1.heap.size w1 X → Calls Tryz.prog 17 #[.slice Ap p.length cp, .int .i64 0] X (RetS4 X (st0 p).s3)) := fun X hX => by
      have h := l3Start_any p (by omega) 0 (by omega) X (.slice Ap p.length cp) (HPr1.out.le (Le.below hX))
      rw [s30_st0] at h
      exact h
    have HFd : Hid (∀ X g (A1 A2 A3 A4 : Option Addr) (c1 c2 c3 c4 : Nat), Below w1.heap.size w1 X → w1.heap.size ≤ g → Own X g 98 cur → Rep4 (hidP (fun b => b = g) X) A1 A2 A3 A4 c1 c2 c3 c4 (st0 p).s3 →
        Calls Tryz.prog 16 #[.slice Ap p.length cp, .agg #[.slice A1 (st0 p).s3.at_.length c1, .slice A2 (st0 p).s3.regs.length c2, .slice A3 (st0 p).s3.mem.length c3, .slice A4 (st0 p).s3.buf.length c4], .slice A o.length c, .slice (some ⟨g, 0, none⟩) 4096 4096] X (RetFS p o W)) := fun X g A1 A2 A3 A4 c1 c2 c3 c4 hX hg hT hrep => by
      have hle : Le (hidP (fun b => b = g) X) (hidP (OwT g (fun _ => none)) X) := fun x u hc => by
        obtain ⟨h1, h2⟩ := cell_hidP.1 hc
        exact cell_hidP.2 ⟨fun h => h1 (owT_none h), h2⟩
      have hle2 : Le w1 (hidP (OwT g (fun _ => none)) X) := Le.to_hidP hX fun i hi => by rw [owT_none hi]; exact hg
      have hTab : TabK X g (fun _ => none) (([] : List St).map fun s => kyB s.s3) := ⟨fun _ => [], TabM.made hT Hcur.out.1 Hcur.out.2, fun k => by simp, fun i => by simp⟩
      refine (find_all p Hok.out.1 o Hok.out.2.1 g A c Ap cp (potS (st0 p)) (st0 p) (Nat.le_refl _) .start X (fun _ => none) [] A1 A2 A3 A4 c1 c2 c3 c4 hTab (HPr1.out.le hle2) (HI1.out.le hle2) (hrep.le hle) ⟨by simp, fun x hx => (by cases hx), fun x hx => (by cases hx)⟩).mono ?_
      rintro e W' ⟨Az, cz, l, ok, bs', G', rfl, hIz, _, hm, _, _, _, _, hres⟩
      have hBz : Below W.heap.size W W' := (hb1.trans (hX.mono hb1.size)).trans (hm.below (fun i hi => by rw [owT_none hi]; have := hb1.size; omega) (Nat.le_trans hb1.size hX.size))
      rcases hres with ⟨rfl, hf⟩ | ⟨rfl, rfl, hng, _⟩
      · exact ⟨Az, cz, some l, rfl, hIz.le (Le.hidP _ _), hBz, .inl ⟨Hok.out, .inl ⟨l, rfl, hf⟩⟩⟩
      · exact ⟨Az, cz, none, rfl, hIz.le (Le.hidP _ _), hBz, .inl ⟨Hok.out, .inr ⟨rfl, hng⟩⟩⟩
    have HB0 := Lib.hid (Below.refl w1.heap.size w1)
    obtain ⟨q, hq⟩ : ∃ q, q = (st0 p).s3 := ⟨_, rfl⟩
    rw [← hq] at HSt HFd
    clear hb HT HF hq
    go_wp2_with fail
    go_region_with (first
      | ((go_at_call 17; first
          | ((refine (HSt.out _ HB0.out.drew).mono ?_; rintro e5 w5 ⟨A1, A2, A3, A4, c1, c2, c3, c4, rfl, hr5, hb5⟩; have HB5 : Below w1.heap.size w1 w5 := HB0.out.drew.trans hb5; have HR5 : Rep4 w5 A1 A2 A3 A4 c1 c2 c3 c4 q := hr5.le (Le.above _ _); clear hr5))
          | ((refine (HSt.out _ (HB0.out.drew.alloc (Nat.le_refl _) _)).mono ?_; rintro e5 w5 ⟨A1, A2, A3, A4, c1, c2, c3, c4, rfl, hr5, hb5⟩; have HB5 : Below w1.heap.size w1 w5 := (HB0.out.drew.alloc (Nat.le_refl _) (.cells cur 98)).trans (hb5.mono (by simp)); have HR5 : Rep4 (above (w1.heap.size + 1) w5) A1 A2 A3 A4 c1 c2 c3 c4 q := hr5.le (Le.above_mono (by simp) _); have HT5 : Own w5 w1.heap.size 98 cur := (Own.new w1.drew 98 cur).under hb5; clear hr5))))
      | ((go_at_call 16; first
          | ((refine (HFd.out w5 w1.heap.size A1 A2 A3 A4 c1 c2 c3 c4 HB5 (Nat.le_refl _) HT5 (HR5.le (Le.above_hidP (fun i hi => by omega)))).mono ?_; rintro e9 w9 ⟨A9, c9, r, rfl, hI9, hB9, hF9⟩))
          | ((refine (HFd.out (w5.alloc (.cells cur 98)) w5.heap.size A1 A2 A3 A4 c1 c2 c3 c4 (HB5.alloc HB5.size _) HB5.size (Own.new w5 98 cur) (HR5.le (fun x u hc => cell_hidP.2 ⟨by have := World.block_lt_of_cell? _ _ hc; omega, Le.alloc _ _ _ _ hc⟩))).mono ?_; rintro e9 w9 ⟨A9, c9, r, rfl, hI9, hB9, hF9⟩)))))
    all_goals
      have HX := Lib.hid (And.intro hI9 (And.intro hB9 hF9))
      clear hI9 hB9 hF9
      go_wp2_with fail
      refine bodyPost_ret (v := .tuple #[.slice A9 (r.getD []).length c9, .bool r.isSome]) (by simp [results, Tryz.results6, go_sem]) rfl ?_
      exact ⟨A9, c9, r, rfl, HX.out⟩

end Go.Proofs.YtcckflijaolnkaaGreat
