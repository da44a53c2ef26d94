/-
  For every program, every candidate and every slice of rules that can be read, FnExactBrokenCycle answers true and leaves its arguments as they were; the table of names is tied to the program's text. No condition.
-/
import Derived.Test.YtfgpbnncdfcjjabGreatDoorCards
import Derived.Test.YtfgpbnncdfcjjabGreatDoorTie
import Derived.Test.YtfgpbnncdfcjjabGreatDoorLawBCX
import Derived.Test.YtfgpbnncdfcjjabGreatDoorOpenP
import Derived.Test.YtfgpbnncdfcjjabGreatDoorOpenX
import Derived.Test.YtfgpbnncdfcjjabGreatDoorOpenU
import Derived.Test.YtfgpbnncdfcjjabGreatDoorDoor
namespace Go.Proofs.YtfgpbnncdfcjjabGreatDoor.fnExactBrokenCycle
open Go.RowKit Go.ChangeShapes Go.WideShapes Go.ChangeAt
set_option linter.unusedVariables false
set_option maxRecDepth 100000

theorem own : ownKnob Tryz.prog.godebug = none := by kernel_rfl
theorem laidOut : laidOutB Tryz.prog = true := by kernel_rfl
theorem param (t : TypeId) (ht : t ∈ Tryz.f3.params.toList) : Tryz.prog.readableRec t = true ∧ t < Tryz.prog.types.size := by
  rw [Tryz.params3] at ht
  simp only [List.mem_cons, List.not_mem_nil, or_false] at ht
  rcases ht with rfl | rfl | rfl
  all_goals exact ⟨by kernel_rfl, of_decide_eq_true (by kernel_rfl)⟩

theorem gTab0 : Tryz.prog.globalNamed "loop.example/weakmemory/impl.relNames" = some 0 := by kernel_rfl
theorem gTabType0 : (Tryz.prog.globals[0]?).map (·.type) = some 192 := by kernel_rfl
theorem cellsTab0 : Tryz.prog.cellsOf 192 = 10 := by kernel_rfl
theorem cellsS : Tryz.prog.cellsOf 9 = 1 := by kernel_rfl

theorem table0 {W : World} (h : laidMetH Tryz.prog Rows.fnExactBrokenCycleRow.laid W) : GN W :=
  strs_of_head (ss := [[112, 111], [108, 111, 99], [101, 120, 116], [114, 102], [99, 111], [102, 114], [102, 101, 110, 99, 101], [119, 114], [119, 119], [105, 100]]) gTab0 gTabType0 Tryz.underlying192 Tryz.underlying9 cellsS cellsTab0 (by simp) h

/-- A world for the witness: the settled one, the tables holding what their initialisers lay. -/
noncomputable def laidWorld (os : Os) : World :=
  { World.holding Tryz.prog os ⟨#[], #[], []⟩ with heap := ((World.holding Tryz.prog os ⟨#[], #[], []⟩).heap.modify 0 fun
      | .cells _ t frozen => .cells #[.string ⟨#[112, 111]⟩, .string ⟨#[108, 111, 99]⟩, .string ⟨#[101, 120, 116]⟩, .string ⟨#[114, 102]⟩, .string ⟨#[99, 111]⟩, .string ⟨#[102, 114]⟩, .string ⟨#[102, 101, 110, 99, 101]⟩, .string ⟨#[119, 114]⟩, .string ⟨#[119, 119]⟩, .string ⟨#[105, 100]⟩] t frozen
      | o => o) }
theorem laid_met (os : Os) : laidMet Tryz.prog Rows.fnExactBrokenCycleRow.laid ((laidWorld os).forCall (fun _ _ => 0) ⟨#[], #[.slice none 0 0, .agg #[.slice none 0 0, .slice none 0 0], .slice none 0 0], []⟩).memory :=
  laidMet_of_run' 8 (by kernel_rfl) (by kernel_rfl)
theorem reads (os : Os) {H : Type} (enc : TypeId × Value → H) : ∃ places, DataW.whole enc Tryz.prog ((laidWorld os).forCall (fun _ _ => 0) ⟨#[], #[.slice none 0 0, .agg #[.slice none 0 0, .slice none 0 0], .slice none 0 0], []⟩).memory Tryz.f3.params.toList Rows.fnExactBrokenCycleSpec.vars false (#[.slice none 0 0, .agg #[.slice none 0 0, .slice none 0 0], .slice none 0 0] : Array Value).toList 8 =
    some ([.nil, .agg [.nil, .nil], .nil], [Rows.laid_loop_example_weakmemory_impl_relNames], places) :=
  ⟨MemPlace.row ⟨0, 0, none⟩ 10, by kernel_rfl⟩

theorem lifted (os : Os) (started : os.Started) (H : Type) (enc : TypeId × Value → H) (F : Stop.Interp) :
    ReturnsInHanded {} Tryz.checked os 3 .any ((OpenSpec.ofChange Rows.fnExactBrokenCycleSpec).preRow enc Tryz.prog Tryz.f3 Rows.fnExactBrokenCycleRow.domain false Rows.fnExactBrokenCycleRow.laid) (((OpenSpec.ofChange Rows.fnExactBrokenCycleSpec).at F).post enc Tryz.prog Tryz.f3 false true false false) := by
  obtain ⟨places, hx⟩ := reads os enc
  refine returnsInHanded_of_row (C := Tryz.checked) (s := OpenSpec.ofChange Rows.fnExactBrokenCycleSpec) own started (by kernel_rfl) Tryz.func3
    (witness_row_at (enc := enc) (C := Tryz.checked) false (laidWorld os) #[.slice none 0 0, .agg #[.slice none 0 0, .slice none 0 0], .slice none 0 0] rfl (by kernel_rfl) (by kernel_rfl) (by kernel_rfl)
      (OpenSpec.preRow_of_cond 8 hx (by kernel_rfl) (fun k hk => by cases hk) (by kernel_rfl) (laid_met os))) ?_
  intro W base args ds gs before hval hW _ _ _ hL hsh _
  have hg0 := table0 hL
  refine law_post_vars (s := Rows.fnExactBrokenCycleSpec) laidOut rfl Tryz.underlying4 ?_ param ?_ W args ds gs before ?_ hW
  · intro ds gs hds hgs
    match ds, hds, gs, hgs with
    | [d0, d1, d2], _, [g0], _ => rfl
  · intro n hn g t h1 h2
    have hn' : n = "loop.example/weakmemory/impl.relNames" := by simpa [Rows.fnExactBrokenCycleSpec] using hn
    rcases hn' with rfl
    · obtain rfl := Option.some.inj (gTab0.symm.trans h1)
      obtain rfl := Option.some.inj (gTabType0.symm.trans h2)
      exact ⟨by kernel_rfl, of_decide_eq_true (by kernel_rfl)⟩
  · intro ps hA
    rw [Tryz.params3] at hA
    obtain ⟨v0, v1, v2, d0, d1, d2, p0, p1, p2, rfl, rfl, rfl, h0, h1, h2⟩ := trodAll_three hA
    obtain ⟨p, hp⟩ := open_prg h0 (hval 0 _ _ (by kernel_rfl) rfl)
    obtain ⟨x, A, c, B, d, rfl, hx⟩ := open_x h1
    obtain ⟨rs, hr⟩ := open_rules h2 (hval 2 _ _ (by kernel_rfl) rfl)
    exact lawBCX_walk p x rs W _ _ A B c d hg0 hp hx hr

theorem said : Rows.FnExactBrokenCycleSaid :=
  OpenClaim.holds_of_cond 3 Tryz.f3 rfl rfl rfl rfl rfl rfl rfl ⟨rfl, rfl, rfl, rfl, rfl⟩ rfl rfl rfl rfl rfl (by kernel_rfl) Tryz.func3 (by kernel_rfl)
    (of_decide_eq_true (by kernel_rfl)) (by unfold Func.isWrapper; first | (rw [if_pos (by decide +kernel)]; kernel_rfl) | (rw [if_neg (by decide +kernel)]; exact ⟨rfl, rfl⟩))
    (fun os started H enc _ F => by rw [OpenClaim.pre_eq_preRow]; exact lifted os started H enc F)

theorem plain (f : FuncId) (fn : Func) (hf : Tryz.pinned.checked.prog.funcNamed "loop.example/weakmemory/laws.FnExactBrokenCycle" = some f) (hfn : Tryz.pinned.checked.prog.funcs[f]? = some fn) :
    false = Tryz.pinned.checked.prog.looks [] ∧ ∀ (j : Nat) t, fn.params[j]? = some t → Tryz.pinned.checked.prog.wantsStandIn t = false := by
  obtain rfl : f = 3 := Option.some.inj ((show Tryz.prog.funcNamed "loop.example/weakmemory/laws.FnExactBrokenCycle" = some 3 by kernel_rfl).symm.trans hf) |>.symm
  obtain rfl : fn = Tryz.f3 := (Option.some.inj (Tryz.func3.symm.trans hfn)).symm
  refine ⟨by kernel_rfl, fun j t ht => ?_⟩
  rw [Tryz.params3] at ht
  have h := Array.mem_of_getElem? ht
  simp only [List.mem_toArray, List.mem_cons, List.not_mem_nil, or_false] at h
  rcases h with rfl | rfl | rfl
  · exact (show Tryz.prog.wantsStandIn 22 = false by kernel_rfl)
  · exact (show Tryz.prog.wantsStandIn 26 = false by kernel_rfl)
  · exact (show Tryz.prog.wantsStandIn 27 = false by kernel_rfl)

theorem card : Rows.FnExactBrokenCycleCardSaid :=
  Claim7.holds_tied_plain_at .later [] _ _ _ _ said (fun _ h => by cases h) (by kernel_rfl) (fun _ h => by cases h) fnExactBrokenCycle_row_tie rfl ⟨rfl, rfl⟩ (by kernel_rfl) rfl plain (by kernel_rfl)

end Go.Proofs.YtfgpbnncdfcjjabGreatDoor.fnExactBrokenCycle
