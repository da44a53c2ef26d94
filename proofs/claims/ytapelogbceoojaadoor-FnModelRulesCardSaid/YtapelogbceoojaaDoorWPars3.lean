/-
  The walk of the parser's level.
-/
import Derived.Test.YtapelogbceoojaaDoorWPars2
import Derived.Test.YtapelogbceoojaaDoorWVal
import Derived.Deep.RegionHeld3
namespace Go.Proofs.YtapelogbceoojaaDoor
open Go.RowKit
set_option linter.unusedVariables false
set_option maxRecDepth 100000

theorem sgn_size {o : Int} (h1 : 2 ≤ o) (h2 : o ≤ 5) : 0 < (sgn o).size := by
  have h : o = 2 ∨ o = 3 ∨ o = 4 ∨ o = 5 := by omega
  rcases h with rfl | rfl | rfl | rfl <;> decide
theorem sgn_sg {o : Int} (h1 : 2 ≤ o) (h2 : o ≤ 5) : (sgn o)[0]'(sgn_size h1 h2) = sg o := by
  have h : o = 2 ∨ o = 3 ∨ o = 4 ∨ o = 5 := by omega
  rcases h with rfl | rfl | rfl | rfl <;> rfl

/-- The search for an operation has come to i: none yet, or one taken. -/
def OpAt (l : Nat) (wr : World) (R : Nat) (s1 : ByteArray) (fl1 : Bool) (i : Nat) (op : Int) : Prop :=
  (op = 0 ∧ Prs wr R s1 fl1 ∧ ∀ o : Int, 2 ≤ o → o < i + 2 → lvl o = (l + 1 : Nat) → fl1 = true ∨ s1.data.toList.head? ≠ some (sg o)) ∨
  (2 ≤ op ∧ op ≤ 5 ∧ lvl op = (l + 1 : Nat) ∧ fl1 = false ∧ ∃ s2 : ByteArray, s1.data.toList = sg op :: s2.data.toList ∧ Prs wr R s2 false)

set_option maxHeartbeats 2000000 in
theorem lev_of (s : ByteArray) (hs : s.size ≤ 300) (l : Nat) (hl : l ≤ 2)
    (ihL : ∀ s1 : ByteArray, s1.size < s.size → ∀ w R fl, Prs w R s1 fl → Calls Tryd.prog 63 #[.pointer (some ⟨R, 0, none⟩), .int .i64 (l : Int)] w (RetPs (.lev l) w R s1 fl))
    (ih : ∀ w R fl, Prs w R s fl → Calls Tryd.prog 63 #[.pointer (some ⟨R, 0, none⟩), .int .i64 (l : Int)] w (RetPs (.lev l) w R s fl))
    (w : World) (R : Nat) (fl : Bool) (h : Prs w R s fl) : Calls Tryd.prog 63 #[.pointer (some ⟨R, 0, none⟩), .int .i64 ((l : Int) + 1)] w (RetPs (.lev (l + 1)) w R s fl) := by
  have hR := h.lt
  have rb := Own.new w 29 #[.int .i64 0, .string ByteArray.empty, .slice none 0 0]
  have t1 := ih _ R fl (h.alloc (.cells #[.int .i64 0, .string ByteArray.empty, .slice none 0 0] 29))
  have m0 : Mv R w (w.alloc (.cells #[.int .i64 0, .string ByteArray.empty, .slice none 0 0] 29)) := (Mv.refl _ _).alloc _
  have hl0 : ((l : Int) + 1 == 0) = false := by rw [beq_eq_false_iff_ne]; omega
  have hl1 : (l : Int) + 1 - 1 = l := by omega
  go_enter Tryd.func63, Tryd.ntmps63
  go_wp2_with fail
  refine t1.mono ?_
  rintro e1 w1 ⟨x, A, c, F, s1, fl1, rfl, ho, hnd, hF, hnm, h1, m1, hsz1, hps⟩
  have rb1 := rb.mv m1 (by omega)
  have m01 := m0.trans m1
  have hFlt : ∀ b ∈ F, w.heap.size < b := fun b hb => by have := hF b hb; simp at this; omega
  have eb := Own.new w1 29 #[.int .i64 x.op, .string x.name, .slice A x.kids.length c]
  have hz1 := m01.size
  have hltb := rb1.lt
  clear t1 rb m0 m1 hF
  have hstart : fl = false → ∀ x0 u, Ps (.lev (l + 1)) s.data.toList x0 u → Ps (.loop (l + 1) x) s1.data.toList x0 u ∧ fl1 = false := fun hf x0 u hp => by
    obtain ⟨e, v, h3, h4⟩ := hp.lev_succ
    obtain ⟨rfl, rfl, h5⟩ := hps hf _ _ h3
    exact ⟨h4, h5⟩
  have Hstart := Lib.hid hstart
  clear hstart hps
  go_wp2_with fail
  go_loopg [6] s1.size (fun g s6 wr => ∃ (x : RE) (A : Option Addr) (c : Nat) (F : List Nat) (s2 : ByteArray) (fl2 : Bool), g = s2.size ∧ OwE wr (.slice A x.kids.length c) x.kids F ∧ F.Nodup ∧ (∀ b ∈ F, w.heap.size < b ∧ b ≠ w1.heap.size) ∧ x.name.size ≤ 300 ∧ Prs wr R s2 fl2 ∧ Mv R w wr ∧
    Own wr w.heap.size 29 #[.int .i64 0, .string ByteArray.empty, .slice none 0 0] ∧ Own wr w1.heap.size 29 #[.int .i64 x.op, .string x.name, .slice A x.kids.length c] ∧ s2.size ≤ s.size ∧
    Hid (fl = false → ∀ x0 u, Ps (.lev (l + 1)) s.data.toList x0 u → Ps (.loop (l + 1) x) s2.data.toList x0 u ∧ fl2 = false))
  case atStart => exact ⟨x, A, c, F, s1, fl1, rfl, ho.alloc _, hnd, fun b hb => ⟨hFlt b hb, by have := ho.lt b hb; omega⟩, hnm, h1.alloc _, m01.alloc _, rb1.alloc _, eb, hsz1, Hstart⟩
  case round =>
    clear Hstart ho hnd hFlt hnm h1 m01 rb1 eb hsz1
    obtain ⟨x, A, c, F, s2, fl2, rfl, ho, hnd, hF, hnm, h2, m2, rb2, eb2, hsz2, hsp⟩ := hrel
    obtain ⟨W, hW⟩ : ∃ W, W = wr := ⟨_, rfl⟩
    subst hW
    have ops := Own.new W 3 #[.int .i64 2, .int .i64 3, .int .i64 4, .int .i64 5]
    have hRr := h2.lt
    have hrb := rb2.lt
    have heb := eb2.lt
    go_wp2_with fail
    go_loopg [6, 22] 4 (fun g s6 s22 wi => ∃ (i : Nat) (op : Int), i ≤ 4 ∧ g = 4 - i ∧ s22 = .int .i64 i ∧ s6 = .int .i64 op ∧ OpAt l wi R s2 fl2 i op ∧ Mv R (W.alloc (.cells #[.int .i64 2, .int .i64 3, .int .i64 4, .int .i64 5] 3)) wi)
    case atStart => exact ⟨0, 0, by omega, rfl, rfl, rfl, Or.inl ⟨rfl, h2.alloc _, fun o h1 h2 => by omega⟩, Mv.refl _ _⟩
    case round =>
      obtain ⟨i, op, hi4, rfl, rfl, rfl, hat, mi⟩ := hrel
      by_cases hi : i < 4
      · have oc : wr.cell? ⟨W.heap.size, i, none⟩ = some (.int .i64 ((i : Int) + 2)) := (ops.mv mi (by omega)).cell (by
          match i, hi with
          | 0, _ => rfl
          | 1, _ => rfl
          | 2, _ => rfl
          | 3, _ => rfl)
        have hii : (i : Int) < 4 := by omega
        rcases hat with ⟨rfl, h3, hno⟩ | ⟨ho2, ho5, hol, rfl, s3, hs3, h3⟩
        · by_cases hlv : lvl ((i : Int) + 2) = (l + 1 : Nat)
          · have blv : (lvl ((i : Int) + 2) == (l : Int) + 1) = true := by rw [beq_iff_eq]; omega
            have hsz := sgn_size (o := (i : Int) + 2) (by omega) (by omega)
            have hszi : (0 : Int) < ((sgn ((i : Int) + 2)).size : Int) := by omega
            have hsg := sgn_sg (o := (i : Int) + 2) (by omega) (by omega)
            have tk := take_any wr R s2 fl2 (sg ((i : Int) + 2)) (by omega) h3
            go_wp2_with fail
            refine (relLevel_any _ _).mono ?_
            rintro e3 w3 ⟨rfl, rfl⟩
            go_wp2_with fail
            refine tk.mono ?_
            rintro e4 w4 (⟨rfl, rfl, s3, hs3, h4, m4⟩ | ⟨rfl, hno4, h4, m4⟩)
            · go_wp2_with fail
              go_roundg (4 - (i + 1))
              case measure => omega
              case rel => exact ⟨i + 1, _, by omega, rfl, by go_num, rfl, Or.inr ⟨by omega, by omega, hlv, rfl, s3, hs3, h4⟩, mi.trans m4⟩
            · go_wp2_with fail
              go_roundg (4 - (i + 1))
              case measure => omega
              case rel =>
                refine ⟨i + 1, 0, by omega, rfl, by go_num, rfl, Or.inl ⟨rfl, h4, fun o g1 g2 g3 => ?_⟩, mi.trans m4⟩
                by_cases he : o = (i : Int) + 2
                · subst he
                  exact hno4
                · exact hno o g1 (by omega) g3
          · have blv : (lvl ((i : Int) + 2) == (l : Int) + 1) = false := by rw [beq_eq_false_iff_ne]; omega
            go_wp2_with fail
            refine (relLevel_any _ _).mono ?_
            rintro e3 w3 ⟨rfl, rfl⟩
            go_wp2_with fail
            go_roundg (4 - (i + 1))
            case measure => omega
            case rel =>
              refine ⟨i + 1, 0, by omega, rfl, by go_num, rfl, Or.inl ⟨rfl, h3, fun o g1 g2 g3 => ?_⟩, mi⟩
              by_cases he : o = (i : Int) + 2
              · subst he
                exact absurd g3 hlv
              · exact hno o g1 (by omega) g3
        · have bop : (op == 0) = false := by rw [beq_eq_false_iff_ne]; omega
          go_wp2_with fail
          refine (relLevel_any _ _).mono ?_
          rintro e3 w3 ⟨rfl, rfl⟩
          go_wp2_with fail
          go_roundg (4 - (i + 1))
          case measure => omega
          case rel => exact ⟨i + 1, op, by omega, rfl, by go_num, rfl, Or.inr ⟨ho2, ho5, hol, rfl, s3, hs3, h3⟩, mi⟩
      · obtain rfl : i = 4 := by omega
        rcases hat with ⟨rfl, h3, hno⟩ | ⟨ho2, ho5, hol, rfl, s3, hs3, h3⟩
        · have rb3 := (rb2.alloc _).mv mi (by omega)
          have eb3 := (eb2.alloc _).mv mi (by omega)
          have ho3 := (ho.alloc _).mv mi (fun b hb => by have := hF b hb; omega)
          have m3 := (m2.alloc _).trans mi
          obtain ⟨r0, r1, r2, g0, g1, g2, rl⟩ := rb3.res
          obtain ⟨x0, x1, x2, _, _, _, xl⟩ := eb3.res
          go_wp2_with fail
          refine bodyPost_ret (v := .agg #[.int .i64 x.op, .string x.name, .slice A x.kids.length c]) (by simp [results, Tryd.results63, go_sem, r0, r1, r2]) rfl ?_
          refine RetPs.fin hR ho3 hnd (fun b hb => (hF b hb).1) hnm h3 m3 hsz2 (fun hf x0 u hp => ?_)
          obtain ⟨h5, h6⟩ := hsp.out hf x0 u hp
          obtain ⟨rfl, rfl⟩ := h5.loop_done (fun o g1 g2 g3 => by
            rcases hno o g1 (by omega) g3 with h | h
            · rw [h6] at h; cases h
            · exact h)
          exact ⟨rfl, rfl, h6⟩
        · have bop : (op == 0) = false := by rw [beq_eq_false_iff_ne]; omega
          have hlt3 : s3.size < s2.size := by
            have := congrArg List.length hs3
            simp at this
            omega
          have rb3 := (rb2.alloc _).mv mi (by omega)
          have eb3 := (eb2.alloc _).mv mi (by omega)
          have ho3 := (ho.alloc _).mv mi (fun b hb => by have := hF b hb; omega)
          have m3 := (m2.alloc _).trans mi
          obtain ⟨x0, x1, x2, y0, y1, y2, xl⟩ := eb3.res
          have hz3 := m3.size
          have hwl : IntKind.i64.wrap (l : Int) = l := by
            have h : l = 0 ∨ l = 1 ∨ l = 2 := by omega
            rcases h with rfl | rfl | rfl <;> rfl
          have ihs := ihL s3 (by omega) wr.drew R false h3.drew
          have Eb3 := Lib.hid eb3
          clear ops mi h2 rb2 eb2 m2 ho eb3
          go_wp2_with fail
          go_region_with (first
            | (go_at_call 63; ((with_reducible refine ihs.mono ?_); rintro e5 w5 ⟨y, A', c', F', s5, fl5, rfl, hoy, hndy, hFy, hny, h5, m5, hs5, hpy⟩; obtain ⟨z0, z1, z2, u0, u1, u2, zl⟩ := (Own.mv Eb3.out.drew m5 (by omega)).res)))
          all_goals
            have hFy' : ∀ b ∈ F', wr.heap.size ≤ b := hFy
            have m35 := m3.drew.trans m5
            have hz5 : wr.heap.size ≤ w5.heap.size := m5.size
            have hFz : ∀ b ∈ F, b < wr.heap.size := ho3.lt
            have ho5' : OwE w5 (.slice A x.kids.length c) x.kids F := (show OwE wr.drew (.slice A x.kids.length c) x.kids F from ho3.of_blocks fun b _ => rfl).mv m5 (fun b hb => by have := hF b hb; omega)
            have hE1 : ∀ b ∈ F, b ≠ w1.heap.size := fun b hb => (hF b hb).2
            have hE2 : ∀ b ∈ F', b ≠ w1.heap.size := fun b hb => by have := hFy' b hb; omega
            have two := ((((ho5'.setCell ⟨w1.heap.size, 0, none⟩ (.int .i64 op) hE1).setCell ⟨w1.heap.size, 1, none⟩ (.string ⟨#[]⟩) hE1).setCell ⟨w1.heap.size, 2, none⟩ (.slice (some ⟨w5.heap.size, 0, none⟩) 2 2) hE1)).two
              (((hoy.setCell ⟨w1.heap.size, 0, none⟩ (.int .i64 op) hE2).setCell ⟨w1.heap.size, 1, none⟩ (.string ⟨#[]⟩) hE2).setCell ⟨w1.heap.size, 2, none⟩ (.slice (some ⟨w5.heap.size, 0, none⟩) 2 2) hE2) (by omega) (by omega)
            rw [size_set3] at two
            have hnd2 : (w5.heap.size :: (F ++ F')).Nodup := List.nodup_cons.2 ⟨fun hb => by
                rcases List.mem_append.1 hb with hb | hb
                · have := hFz _ hb; omega
                · have := hoy.lt _ hb; omega, List.nodup_append.2 ⟨hnd, hndy, fun a ha b hb e => by have h1 := hFz a ha; have h2 := hFy' b hb; omega⟩⟩
            have hF2 : ∀ b ∈ (w5.heap.size :: (F ++ F')), w.heap.size < b ∧ b ≠ w1.heap.size := fun b hb => by
              rcases List.mem_cons.1 hb with rfl | hb
              · omega
              · rcases List.mem_append.1 hb with hb | hb
                · exact hF b hb
                · have := hFy' b hb; omega
            have P5 : Prs ((((w5.setCell ⟨w1.heap.size, 0, none⟩ (.int .i64 op)).setCell ⟨w1.heap.size, 1, none⟩ (.string ⟨#[]⟩)).setCell ⟨w1.heap.size, 2, none⟩ (.slice (some ⟨w5.heap.size, 0, none⟩) 2 2))) R s5 fl5 :=
              ((h5.far (by show R ≠ w1.heap.size; omega) _).far (by show R ≠ w1.heap.size; omega) _).far (by show R ≠ w1.heap.size; omega) _
            have M5 : Mv R w ((((w5.setCell ⟨w1.heap.size, 0, none⟩ (.int .i64 op)).setCell ⟨w1.heap.size, 1, none⟩ (.string ⟨#[]⟩)).setCell ⟨w1.heap.size, 2, none⟩ (.slice (some ⟨w5.heap.size, 0, none⟩) 2 2))) :=
              ((m35.setNew (by show w.heap.size ≤ w1.heap.size; omega) _).setNew (by show w.heap.size ≤ w1.heap.size; omega) _).setNew (by show w.heap.size ≤ w1.heap.size; omega) _
            have R5 := (((show Own wr.drew w.heap.size _ _ from rb3).mv m5 (by omega)).far (by show w.heap.size ≠ w1.heap.size; omega) (a := ⟨w1.heap.size, 0, none⟩) (.int .i64 op)).far (by show w.heap.size ≠ w1.heap.size; omega) (a := ⟨w1.heap.size, 1, none⟩) (.string ⟨#[]⟩) |>.far (by show w.heap.size ≠ w1.heap.size; omega) (a := ⟨w1.heap.size, 2, none⟩) (.slice (some ⟨w5.heap.size, 0, none⟩) 2 2)
            have E5 := ((((show Own wr.drew w1.heap.size _ _ from Eb3.out).mv m5 (by omega)).set 0 (.int .i64 op)).set 1 (.string ⟨#[]⟩)).set 2 (.slice (some ⟨w5.heap.size, 0, none⟩) 2 2)
            have hspec : fl = false → ∀ x0 u, Ps (.lev (l + 1)) s.data.toList x0 u → Ps (.loop (l + 1) (.mk op ⟨#[]⟩ [x, y])) s5.data.toList x0 u ∧ fl5 = false := fun hf x0 u hp => by
              obtain ⟨g1, g2⟩ := hsp.out hf x0 u hp
              rw [hs3] at g1
              obtain ⟨e2, v, g3, g4⟩ := g1.loop_more ho2 ho5 hol
              obtain ⟨rfl, rfl, g5⟩ := hpy (by first | rfl | trivial) _ _ g3
              exact ⟨g4, g5⟩
            have Hspec := Lib.hid hspec
            have Two := Lib.hid two
            have hlt5 : s5.size < s2.size := by omega
            have hle5 : s5.size ≤ s.size := by omega
            clear hspec two hpy hsp m5 z0 z1 z2 u0 u1 u2 x0 x1 x2 y0 y1 y2 hoy ho5' hFy
            go_wp2_with fail
            go_roundg s5.size
            case measure => omega
            case rel => exact ⟨.mk op ⟨#[]⟩ [x, y], _, 2, _, s5, fl5, rfl, Two.out, hnd2, hF2, (by show ByteArray.size ⟨#[]⟩ ≤ 300; decide), P5.alloc _, M5.alloc _, R5.alloc _, E5.alloc _, hle5, Hspec⟩

end Go.Proofs.YtapelogbceoojaaDoor
