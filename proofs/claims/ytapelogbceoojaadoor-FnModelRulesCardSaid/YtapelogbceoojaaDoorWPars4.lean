/-
  The parser's walks joined: atom and level at every text.
-/
import Derived.Test.YtapelogbceoojaaDoorWPars3
namespace Go.Proofs.YtapelogbceoojaaDoor
open Go.RowKit
set_option linter.unusedVariables false
set_option maxRecDepth 100000

set_option maxHeartbeats 1000000 in
theorem lev_zero_of (s : ByteArray) (hs : s.size ≤ 300)
    (ihA : ∀ w R fl, Prs w R s fl → Calls Tryd.prog 91 #[.pointer (some ⟨R, 0, none⟩)] w (RetPs .atom w R s fl))
    (w : World) (R : Nat) (fl : Bool) (h : Prs w R s fl) : Calls Tryd.prog 63 #[.pointer (some ⟨R, 0, none⟩), .int .i64 0] w (RetPs (.lev 0) w R s fl) := by
  have hR := h.lt
  have rb := Own.new w 29 #[.int .i64 0, .string ByteArray.empty, .slice none 0 0]
  have t1 := ihA _ R fl (h.alloc (.cells #[.int .i64 0, .string ByteArray.empty, .slice none 0 0] 29))
  have m0 : Mv R w (w.alloc (.cells #[.int .i64 0, .string ByteArray.empty, .slice none 0 0] 29)) := (Mv.refl _ _).alloc _
  go_enter Tryd.func63, Tryd.ntmps63
  go_wp2_with fail
  refine t1.mono ?_
  rintro e1 w1 ⟨x, A, c, F, s1, fl1, rfl, ho, hnd, hF, hnm, h1, m1, hsz1, hps⟩
  have rb1 := rb.mv m1 (by omega)
  have m01 := m0.trans m1
  have hFlt : ∀ b ∈ F, w.heap.size < b := fun b hb => by have := hF b hb; simp at this; omega
  obtain ⟨r0, r1, r2, g0, g1, g2, rl⟩ := rb1.res
  clear t1 rb m0 m1 hF
  go_wp2_with fail
  refine bodyPost_ret (v := .agg #[.int .i64 x.op, .string x.name, .slice A x.kids.length c]) (by simp [results, Tryd.results63, go_sem, r0, r1, r2]) rfl ?_
  exact RetPs.fin hR ho hnd hFlt hnm h1 m01 hsz1 (fun hf x0 u hp => hps hf x0 u hp.lev_zero)

theorem pars_all (N : Nat) : ∀ s : ByteArray, s.size = N → s.size ≤ 300 →
    (∀ w R fl, Prs w R s fl → Calls Tryd.prog 91 #[.pointer (some ⟨R, 0, none⟩)] w (RetPs .atom w R s fl)) ∧
    ∀ l : Nat, l ≤ 3 → ∀ w R fl, Prs w R s fl → Calls Tryd.prog 63 #[.pointer (some ⟨R, 0, none⟩), .int .i64 (l : Int)] w (RetPs (.lev l) w R s fl) := by
  induction N using Nat.strongRecOn with
  | _ N ih =>
    intro s hN hs
    have smA := fun (s1 : ByteArray) (h : s1.size < s.size) => (ih s1.size (by omega) s1 rfl (by omega)).1
    have smL := fun (s1 : ByteArray) (h : s1.size < s.size) => (ih s1.size (by omega) s1 rfl (by omega)).2
    have hA := atom_of s hs (fun s1 h => smL s1 h 3 (by omega)) smA
    have h0 := lev_zero_of s hs hA
    have h1 := lev_of s hs 0 (by omega) (fun s1 h => smL s1 h 0 (by omega)) h0
    have h2 := lev_of s hs 1 (by omega) (fun s1 h => smL s1 h 1 (by omega)) h1
    have h3 := lev_of s hs 2 (by omega) (fun s1 h => smL s1 h 2 (by omega)) h2
    refine ⟨hA, fun l hl => ?_⟩
    match l, hl with
    | 0, _ => exact h0
    | 1, _ => exact h1
    | 2, _ => exact h2
    | 3, _ => exact h3

end Go.Proofs.YtapelogbceoojaaDoor
