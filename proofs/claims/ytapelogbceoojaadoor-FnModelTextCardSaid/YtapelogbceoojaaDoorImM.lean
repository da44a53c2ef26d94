/-
  The walk of impl.ParseModel.
-/
import Derived.Test.YtapelogbceoojaaDoorSpM
import Derived.Test.YtapelogbceoojaaDoorCut
namespace Go.Proofs.YtapelogbceoojaaDoor
open Go.RowKit
set_option linter.unusedVariables false
set_option maxRecDepth 100000

def RetReadMI (w : World) (t : ByteArray) (e : Ending) (w' : World) : Prop :=
  ∃ (rs : List RU) (v : Value) (b : Bool) (F : List Nat), e = .returned (.tuple #[v, .bool b]) ∧ ReadM t rs b ∧ OwU w' v rs F ∧ F.Nodup ∧ (∀ b ∈ F, w.heap.size ≤ b) ∧ Below w.heap.size w w'
theorem RetReadMI.fail {w W : World} {t : ByteArray} (hb : Below w.heap.size w W) (hn : ∀ qs, MOk qs → mt qs ≠ t) : RetReadMI w t (.returned (.tuple #[.slice none 0 0, .bool false])) W :=
  ⟨[], _, false, [], rfl, Or.inr ⟨rfl, rfl, hn⟩, Or.inl ⟨rfl, rfl, rfl⟩, List.nodup_nil, (fun b hb => by cases hb), hb⟩

theorem rwds_get {i : Nat} (h : i < rwds.length) : i ≤ 3 ∧ rwds[i] = wd i := by
  have h4 : i < 4 := h
  rcases (show i = 0 ∨ i = 1 ∨ i = 2 ∨ i = 3 by omega) with rfl | rfl | rfl | rfl
  all_goals exact ⟨by omega, rfl⟩
theorem wd_ne {k : Int} (hk : 1 ≤ k ∧ k ≤ 3) : wd k ≠ wd 0 := by
  rcases kind_cases hk.1 hk.2 with rfl | rfl | rfl <;> decide
theorem wd_mem {k : Int} (hk : 1 ≤ k ∧ k ≤ 3) : wd k ∈ rwds := by
  rcases kind_cases hk.1 hk.2 with rfl | rfl | rfl
  · exact .tail _ (.head _)
  · exact .tail _ (.tail _ (.head _))
  · exact .tail _ (.tail _ (.tail _ (.head _)))
theorem kind_of {p : ByteArray} {r : Int} (h : IdxOk rwds p r) (h1 : 1 ≤ r) : r ≤ 3 ∧ p = wd r := by
  rcases h with ⟨rfl, _⟩ | ⟨i, rfl, hi, he, _⟩
  · omega
  · obtain ⟨g1, g2⟩ := rwds_get hi
    exact ⟨by omega, by rw [← he, g2]⟩
theorem kind_wd {k r : Int} (hk : 1 ≤ k ∧ k ≤ 3) (h : IdxOk rwds (wd k) r) : r = k := by
  rcases h with ⟨_, h⟩ | ⟨i, rfl, hi, he, _⟩
  · exact absurd (wd_mem hk) h
  · obtain ⟨g1, g2⟩ := rwds_get hi
    rw [g2] at he
    by_cases h0 : i = 0
    · subst h0
      exact absurd he.symm (wd_ne hk)
    · exact wd_inj ⟨by omega, by omega⟩ hk he
theorem kind_nil {r : Int} (h : IdxOk rwds ⟨#[]⟩ r) : r < 1 := by
  rcases h with ⟨rfl, h⟩ | ⟨i, rfl, hi, he, _⟩
  · omega
  · obtain ⟨g1, g2⟩ := rwds_get hi
    by_cases h0 : i = 0
    · omega
    · rw [g2] at he
      exact absurd he (wd_ne ⟨by omega, by omega⟩)
/-- One rule more has been read. -/
theorem pre_nextI {t : ByteArray} {Ps : List ByteArray} {ms : List RU} {i : Nat} {kind : Int} {x : RE} (hpre : ∀ qs, MOk qs → mt qs = t → Ps = qs.map part ∧ qs.take i = ms) (hi : i < Ps.length)
    (hk : IdxOk rwds (cut2 Ps[i] 32).1 kind) (hk0 : 1 ≤ kind) (hr : Read (cut2 Ps[i] 32).2 x true) :
    UOk ⟨kind, x⟩ ∧ ∀ qs, MOk qs → mt qs = t → Ps = qs.map part ∧ qs.take (i + 1) = ms ++ [⟨kind, x⟩] := by
  obtain ⟨h1, h2⟩ : Val x ∧ ct x = (cut2 Ps[i] 32).2 := by
    rcases hr with ⟨_, h⟩ | ⟨h, _⟩
    · exact h
    · cases h
  obtain ⟨h3, h5⟩ := kind_of hk hk0
  refine ⟨⟨hk0, h3, h1⟩, fun qs hq e => ⟨(hpre qs hq e).1, ?_⟩⟩
  obtain ⟨g1, g2⟩ := hpre qs hq e
  subst g1
  have hi' : i < qs.length := by simpa using hi
  have hu := hq.2.2 qs[i] (List.getElem_mem hi')
  rw [List.getElem_map, cut2_part hu] at h2 h5
  have e1 : kind = qs[i].kind := wd_inj ⟨hk0, h3⟩ ⟨hu.1, hu.2.1⟩ h5.symm
  have e2 : x = qs[i].e := ct_inj h1 hu.2.2 h2
  rw [List.take_succ_eq_append_getElem hi', g2, e1, e2]
/-- .. or there is none. -/
theorem pre_stop {t : ByteArray} {Ps : List ByteArray} {ms : List RU} {i : Nat} {kind : Int} {x : RE} {b : Bool} (hpre : ∀ qs, MOk qs → mt qs = t → Ps = qs.map part ∧ qs.take i = ms) (hi : i < Ps.length)
    (hk : IdxOk rwds (cut2 Ps[i] 32).1 kind) (hr : Read (cut2 Ps[i] 32).2 x b) (hbad : ¬ (1 ≤ kind ∧ b = true)) : ∀ qs, MOk qs → mt qs ≠ t := fun qs hq e => by
  obtain ⟨g1, g2⟩ := hpre qs hq e
  subst g1
  have hi' : i < qs.length := by simpa using hi
  have hu := hq.2.2 qs[i] (List.getElem_mem hi')
  rw [List.getElem_map, cut2_part hu] at hk hr
  have h1 := kind_wd ⟨hu.1, hu.2.1⟩ hk
  refine hbad ⟨by rw [h1]; exact hu.1, ?_⟩
  rcases hr with ⟨h, _⟩ | ⟨_, _, h⟩
  · exact h
  · exact absurd rfl (h qs[i].e hu.2.2)

set_option maxHeartbeats 4000000 in
theorem parseM_any (t : ByteArray) (w : World) (ht : t.size ≤ 2000000) (hg : GN w) (hgr : GR w) (hgm : GM w) : Calls Tryd.prog 38 #[.string t] w (RetReadMI w t) := by
  obtain ⟨i0, hi0, hz0, hz1, hz2⟩ := info_parts Tryd.infoRU
  go_enter Tryd.func38, Tryd.ntmps38
  go_wp2_with fail
  refine (split_any t 47 _ ht hgm).mono ?_
  rintro e1 w1 ⟨A, c, rfl, hps, hb1⟩
  obtain ⟨Ps, hPs⟩ : ∃ Ps, Ps = cutB t 47 := ⟨_, rfl⟩
  rw [← hPs] at hps ⊢
  have hPl := cut_len_le t 47
  rw [← hPs] at hPl
  have hPsz : ∀ y ∈ Ps, y.size ≤ 2000000 := fun y hy => by rw [hPs] at hy; have := cut_size hy; omega
  have HPsz := Lib.hid hPsz
  have Pre0 : Hid (∀ qs, MOk qs → mt qs = t → Ps = qs.map part ∧ qs.take 0 = []) := fun qs hq e => ⟨by rw [hPs, ← e, cut_mt hq], List.take_zero⟩
  have HPs := Lib.hid hPs
  clear hPsz hPs
  go_wp2_with fail
  go_loopg [4, 16] Ps.length (fun g s4 s16 wr => ∃ (i : Nat) (ms : List RU) (v : Value), i ≤ Ps.length ∧ g = Ps.length - i ∧ v = s4 ∧ s16 = .int .i64 i ∧ ms.length ≤ i ∧ Hid (ms.length = i) ∧ Hid (∃ cs Fs, RowU wr w.heap.size v ms cs Fs) ∧ Below w.heap.size w wr ∧ Hid (Le (above w.heap.size w1) wr) ∧
    Hid (∀ g, v.ownBlock = some g → w1.heap.size ≤ g) ∧ Hid (∀ qs, MOk qs → mt qs = t → Ps = qs.map part ∧ qs.take i = ms) ∧ w1.heap.size ≤ wr.heap.size ∧ Hid (t = ⟨#[]⟩ → i = 0))
  case atStart => exact ⟨0, [], _, by omega, rfl, rfl, rfl, by simp, rfl, ⟨[], fun _ => [], RowU.nil _ _ _⟩, hb1, Le.above _ _, (fun g hg => by cases hg), Pre0, Nat.le_refl _, fun _ => rfl⟩
  case round =>
    clear Pre0 hb1
    obtain ⟨wo, rfl⟩ : ∃ wo : World, wo = wr := ⟨_, rfl⟩
    obtain ⟨i, ms, v, hil, rfl, rfl, rfl, hml, hmle, hrow, hb, hle, hown, hpre, hw1, hnil⟩ := hrel
    by_cases hin : i < Ps.length
    · obtain ⟨b, o, rfl, hbl, hc⟩ := hps.get hin
      have hc' := hle.out _ _ hc
      clear hc hbl
      go_wp2_with fail
      refine (cut2_any Ps[i] _ (HPsz.out _ (List.getElem_mem hin)) (hgm.le (Le.below hb))).mono ?_
      rintro e2 w2 ⟨b2, rfl, hb2⟩
      have hB2 := hb.trans (hb2.mono hb.size)
      obtain ⟨word, rest, hwr⟩ : ∃ word rest, cut2 Ps[i] 32 = (word, rest) := ⟨_, _, rfl⟩
      rw [hwr]
      have Hwr := Lib.hid hwr
      clear hwr hc'
      simp only
      go_wp2_with fail
      refine (index_any rwds word _ _ _ (hgr.le (Le.below hB2))).mono ?_
      rintro e3 w3 ⟨kind, rfl, hkind, rfl⟩
      have Hkind := Lib.hid hkind
      clear hkind
      go_wp2_with fail
      refine (parse_any rest _ (hg.le (Le.below hB2))).mono ?_
      rintro e4 w4 ⟨x, bb, A4, c4, F4, rfl, hread, ho4, hF4n, hF4, hnm4, hb4⟩
      have hB4 := hB2.trans (hb4.mono hB2.size)
      have Hread := Lib.hid hread
      clear hread
      have hstop := pre_stop (kind := kind) (x := x) (b := bb) hpre.out hin (by rw [Hwr.out]; exact Hkind.out) (by rw [Hwr.out]; exact Hread.out)
      have Stop := Lib.hid hstop
      clear hstop
      by_cases hk1 : 1 ≤ kind
      · have hkb : decide (kind < 1) = false := by rw [decide_eq_false_iff_not]; omega
        cases bb
        · have Hn : Hid (∀ qs, MOk qs → mt qs ≠ t) := Stop.out (by simp)
          go_wp2_with fail
          refine bodyPost_ret (v := .tuple #[.slice none 0 0, .bool false]) (by simp [results, Tryd.results38, go_sem]) rfl ?_
          exact RetReadMI.fail (hB4.alloc hB4.size _) Hn.out
        · obtain ⟨hu, hpre'⟩ := pre_nextI (kind := kind) (x := x) hpre.out hin (by rw [Hwr.out]; exact Hkind.out) hk1 (by rw [Hwr.out]; exact Hread.out)
          have HP := Lib.hid hpre'
          have Hnil : Hid (t = ⟨#[]⟩ → i + 1 = 0) := fun e => by
            have h0 := hnil.out e
            subst h0
            have h1 := HPs.out
            have h2 : Ps = [⟨#[]⟩] := by rw [h1, e]; rfl
            have h3 := Hwr.out
            subst h2
            have h4 := Hkind.out
            rw [show (([⟨#[]⟩] : List ByteArray)[0]) = ⟨#[]⟩ from rfl, cut2_nil] at h3
            injection h3 with h3 _
            rw [← h3] at h4
            have := kind_nil h4
            omega
          clear hpre' hu
          obtain ⟨cs, Fs, hru⟩ := hrow.out
          have hbo : Below wo.heap.size wo w4 := hb2.trans (hb4.mono hb2.size)
          have Hown := Lib.hid hru.own
          have Hru := Lib.hid hru
          have Ho4 := Lib.hid ho4
          clear hru ho4
          have hX : Below wo.heap.size wo ((w4.alloc (.cells #[.int .i64 x.op, .string x.name, .slice A4 x.kids.length c4] 29)).alloc (.cells #[.int .i64 kind, .int .i64 x.op, .string x.name, .slice A4 x.kids.length c4] 72)) := (hbo.alloc hbo.size _).alloc (by have := hbo.size; simp; omega) _
          go_wp2_with (at_builtin; refine wpList_append_lies _ (by rfl) _ _ _ (by rfl) w.heap.size 72 i0 _ 4 56 Tryd.underlying41 hi0 hz0 hz1 hz2 rfl (by omega) v ms.length cs (by rfl) (owns_up Hown.out hX) ⟨w4.heap.size + 1, 0, none⟩ 1 1 [.int .i64 kind, .int .i64 x.op, .string x.name, .slice A4 x.kids.length c4] (by rfl) (by rfl) (World.news_of_block (cs := #[.int .i64 kind, .int .i64 x.op, .string x.name, .slice A4 x.kids.length c4]) (t := 72) (fr := (0, 0)) (by have h := heap_alloc_new (w4.alloc (.cells #[.int .i64 x.op, .string x.name, .slice A4 x.kids.length c4] 29)) (.cells #[.int .i64 kind, .int .i64 x.op, .string x.name, .slice A4 x.kids.length c4] 72); rwa [World.size_alloc] at h)) (by simp [Value.oneCell']) (by omega) (by simp [maxLen]; omega) (by omega) (by have := hB4.size; simp; omega) (w4.heap.size + 2) (by simp) ?_; intro gg cap w6 hown6 hgrow hat6 hlt6)
          go_roundg (Ps.length - (i + 1))
          case measure => omega
          case rel =>
            have hXb : Below w.heap.size w _ := hb.trans (hX.mono hb.size)
            have hbase : ∀ g, v.ownBlock = some g → w.heap.size ≤ g ∧ g < wo.heap.size := fun g hg => owns_base Hown.out hg
            have hrow' := Hru.out.push (x := RU.mk kind x) (c := c4) (A := A4) (F := F4) hX hgrow (own_allocN (own_allocN Ho4.out _) _) (fun b hb => Nat.le_trans hb2.size (hF4 b hb)) hF4n hnm4 hb.size hown6 hat6 (by simp)
            refine ⟨i + 1, ms ++ [RU.mk kind x], _, by omega, rfl, rfl, by go_num, by simp; omega, by have := hmle.out; simp; omega, ⟨_, _, hrow'⟩, below_grown hXb hgrow (Nat.le_refl _) (fun g hg => (hbase g hg).1), ?_, ?_, HP, ?_, Hnil⟩
            · intro a u hc
              obtain ⟨h1, h2⟩ := cell_above_lt hc
              have h3 := Le.below hX _ _ (hle.out _ _ hc)
              have hlt := World.block_lt_of_cell? _ _ h2
              rw [World.cell?_of_block (World.grownBy.block hgrow a.block (World.block_lt_of_cell? _ _ h3) (fun e => ?_))]
              · exact h3
              · have := hown.out a.block e.symm
                omega
            · intro g hg
              simp only [Value.ownBlock, Option.some.injEq] at hg
              subst hg
              rcases hat6 with h | h
              · exact hown.out _ h
              · have := hbo.size
                omega
            · have := World.grownBy.size hgrow
              simp only [World.size_alloc] at this
              have := hbo.size
              omega
      · have hkb : decide (kind < 1) = true := by rw [decide_eq_true_iff]; omega
        have Hn : Hid (∀ qs, MOk qs → mt qs ≠ t) := Stop.out (by omega)
        go_wp2_with fail
        refine bodyPost_ret (v := .tuple #[.slice none 0 0, .bool false]) (by simp [results, Tryd.results38, go_sem]) rfl ?_
        exact RetReadMI.fail (hB4.alloc hB4.size _) Hn.out
    · have Hall : Hid (∀ qs, MOk qs → mt qs = t → qs = ms) := fun qs hq e => by
        obtain ⟨h1, h2⟩ := hpre.out qs hq e
        have h3 : Ps.length = qs.length := by rw [h1, List.length_map]
        rw [List.take_of_length_le (by omega)] at h2
        exact h2
      have hpos : 0 < Ps.length := by rw [HPs.out]; exact cut_pos _ _
      have htn : t ≠ ⟨#[]⟩ := fun e => by have := hnil.out e; omega
      have Htn := Lib.hid htn
      obtain ⟨cs, Fs, hru⟩ := hrow.out
      have hsl := hru.slR
      obtain ⟨A9, c9, rfl, _⟩ := hsl.slice
      have Hsl := Lib.hid hsl
      have Hru := Lib.hid hru
      clear hsl hpre hown hle hrow hru htn
      go_wp2_with fail
      refine (formatM_any ms _ _ (hg.le (Le.below hb)) (hgr.le (Le.below hb)) Hsl.out).mono ?_
      rintro e8 w8 ⟨rfl, hb8⟩
      have hB8 := hb.trans (hb8.mono hb.size)
      by_cases hf : fmtM ms = t
      · have hsb := str_eq_true hf
        have Hok : Hid (MOk ms ∧ mt ms = t) := by
          cases hv : mB ms
          · rw [fmtM_false hv] at hf
            exact absurd hf.symm Htn.out
          · rw [fmtM_true hv] at hf
            exact ⟨mB_iff.1 hv, hf⟩
        clear hf
        go_wp2_with fail
        refine bodyPost_ret (v := .tuple #[.slice A9 ms.length c9, .bool true]) (by simp [results, Tryd.results38, go_sem]) rfl ?_
        obtain ⟨F, ho, hn, hF⟩ := (Hru.out.below hb8).owU
        exact ⟨ms, _, true, F, rfl, Or.inl ⟨rfl, Hok.out.1, Hok.out.2⟩, ho, hn, hF, hB8⟩
      · have hsb := str_eq_false hf
        have Hn : Hid (∀ qs, MOk qs → mt qs ≠ t) := fun qs hq e => by
          have hqm := Hall.out qs hq e
          subst hqm
          exact hf (by rw [fmtM_true (mB_iff.2 hq)]; exact e)
        clear hf
        go_wp2_with fail
        refine bodyPost_ret (v := .tuple #[.slice none 0 0, .bool false]) (by simp [results, Tryd.results38, go_sem]) rfl ?_
        exact RetReadMI.fail hB8 Hn.out

end Go.Proofs.YtapelogbceoojaaDoor
