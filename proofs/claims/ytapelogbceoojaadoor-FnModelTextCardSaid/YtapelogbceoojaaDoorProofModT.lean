/-
  For all two slices of bytes that can be read, FnModelText answers true and leaves its arguments as they were; the tables of names and of words are tied to the program's text. No condition.
-/
import Derived.Test.YtapelogbceoojaaDoorCards
import Derived.Test.YtapelogbceoojaaDoorTie
import Derived.Test.YtapelogbceoojaaDoorLawModT
import Derived.Test.YtapelogbceoojaaDoorOpenB
import Derived.Test.YtapelogbceoojaaDoorDoor
namespace Go.Proofs.YtapelogbceoojaaDoor.fnModelText
open Go.RowKit Go.ChangeShapes Go.WideShapes Go.ChangeAt
set_option linter.unusedVariables false
set_option maxRecDepth 100000

theorem own : ownKnob Tryd.prog.godebug = none := by kernel_rfl
theorem laidOut : laidOutB Tryd.prog = true := by kernel_rfl
theorem param (t : TypeId) (ht : t ∈ Tryd.f12.params.toList) : Tryd.prog.readableRec t = true ∧ t < Tryd.prog.types.size := by
  rw [Tryd.params12] at ht
  simp only [List.mem_cons, List.not_mem_nil, or_false] at ht
  rcases ht with rfl | rfl
  all_goals exact ⟨by kernel_rfl, of_decide_eq_true (by kernel_rfl)⟩

theorem gTab0 : Tryd.prog.globalNamed "loop.example/weakmemory/impl.relNames" = some 1 := by kernel_rfl
theorem gTabType0 : (Tryd.prog.globals[1]?).map (·.type) = some 122 := by kernel_rfl
theorem cellsTab0 : Tryd.prog.cellsOf 122 = 10 := by kernel_rfl
theorem gTab1 : Tryd.prog.globalNamed "loop.example/weakmemory/impl.ruleWords" = some 0 := by kernel_rfl
theorem gTabType1 : (Tryd.prog.globals[0]?).map (·.type) = some 87 := by kernel_rfl
theorem cellsTab1 : Tryd.prog.cellsOf 87 = 4 := by kernel_rfl
theorem cellsS : Tryd.prog.cellsOf 9 = 1 := by kernel_rfl

theorem table0 {W : World} (h : laidMetH Tryd.prog Rows.fnModelTextRow.laid W) : GN W :=
  strs_of_head (ss := [[112, 111], [108, 111, 99], [101, 120, 116], [114, 102], [99, 111], [102, 114], [102, 101, 110, 99, 101], [119, 114], [119, 119], [105, 100]]) gTab0 gTabType0 Tryd.underlying122 Tryd.underlying9 cellsS cellsTab0 (by simp) (laidMet.tail h)

theorem table1 {W : World} (h : laidMetH Tryd.prog Rows.fnModelTextRow.laid W) : GR W :=
  strs_of_head (ss := [[], [97, 99, 121, 99, 108, 105, 99], [105, 114, 114, 101, 102], [101, 109, 112, 116, 121]]) gTab1 gTabType1 Tryd.underlying87 Tryd.underlying9 cellsS cellsTab1 (by simp) (laidMet.tail (laidMet.tail h))

/-- A world for the witness: the settled one, the tables holding what their initialisers lay. -/
noncomputable def laidWorld (os : Os) : World :=
  { World.holding Tryd.prog os ⟨#[], #[], []⟩ with heap := (((((World.holding Tryd.prog os ⟨#[], #[], []⟩).heap.modify 4 fun
      | .cells _ t frozen => .cells (#[.int .u8 128, .int .u8 191, .int .u8 160, .int .u8 191, .int .u8 128, .int .u8 159, .int .u8 144, .int .u8 191, .int .u8 128, .int .u8 143, .int .u8 0, .int .u8 0, .int .u8 0, .int .u8 0, .int .u8 0, .int .u8 0, .int .u8 0, .int .u8 0, .int .u8 0, .int .u8 0, .int .u8 0, .int .u8 0, .int .u8 0, .int .u8 0, .int .u8 0, .int .u8 0, .int .u8 0, .int .u8 0, .int .u8 0, .int .u8 0, .int .u8 0, .int .u8 0]) t frozen
      | o => o).modify 1 fun
      | .cells _ t frozen => .cells #[.string ⟨#[112, 111]⟩, .string ⟨#[108, 111, 99]⟩, .string ⟨#[101, 120, 116]⟩, .string ⟨#[114, 102]⟩, .string ⟨#[99, 111]⟩, .string ⟨#[102, 114]⟩, .string ⟨#[102, 101, 110, 99, 101]⟩, .string ⟨#[119, 114]⟩, .string ⟨#[119, 119]⟩, .string ⟨#[105, 100]⟩] t frozen
      | o => o).modify 0 fun
      | .cells _ t frozen => .cells #[.string ⟨#[]⟩, .string ⟨#[97, 99, 121, 99, 108, 105, 99]⟩, .string ⟨#[105, 114, 114, 101, 102]⟩, .string ⟨#[101, 109, 112, 116, 121]⟩] t frozen
      | o => o).modify 3 fun
      | .cells _ t frozen => .cells ((Go.Pinned.utf8FirstZ.map fun n : Nat => Value.int .u8 (n : Int)).toArray) t frozen
      | o => o) }
theorem laid_met (os : Os) : laidMet Tryd.prog Rows.fnModelTextRow.laid ((laidWorld os).forCall (fun _ _ => 0) ⟨#[], #[.slice none 0 0, .slice none 0 0], []⟩).memory :=
  laidMet_of_run' 8 (by kernel_rfl) (by kernel_rfl)
theorem reads (os : Os) {H : Type} (enc : TypeId × Value → H) : ∃ places, DataW.whole enc Tryd.prog ((laidWorld os).forCall (fun _ _ => 0) ⟨#[], #[.slice none 0 0, .slice none 0 0], []⟩).memory Tryd.f12.params.toList Rows.fnModelTextSpec.vars false (#[.slice none 0 0, .slice none 0 0] : Array Value).toList 8 =
    some ([.nil, .nil], [Rows.laid_loop_example_weakmemory_impl_ruleWords, Rows.laid_loop_example_weakmemory_impl_relNames], places) :=
  ⟨MemPlace.row ⟨0, 0, none⟩ 4 ++ MemPlace.row ⟨1, 0, none⟩ 10, by kernel_rfl⟩

theorem lifted (os : Os) (started : os.Started) (H : Type) (enc : TypeId × Value → H) (F : Stop.Interp) :
    ReturnsInHanded {} Tryd.checked os 12 .any ((OpenSpec.ofChange Rows.fnModelTextSpec).preRow enc Tryd.prog Tryd.f12 Rows.fnModelTextRow.domain false Rows.fnModelTextRow.laid) (((OpenSpec.ofChange Rows.fnModelTextSpec).at F).post enc Tryd.prog Tryd.f12 false true false false) := by
  obtain ⟨places, hx⟩ := reads os enc
  refine returnsInHanded_of_row (C := Tryd.checked) (s := OpenSpec.ofChange Rows.fnModelTextSpec) own started (by kernel_rfl) Tryd.func12
    (witness_row_at (enc := enc) (C := Tryd.checked) false (laidWorld os) #[.slice none 0 0, .slice none 0 0] rfl (by kernel_rfl) (by kernel_rfl) (by kernel_rfl)
      (OpenSpec.preRow_of_cond 8 hx (by kernel_rfl) (fun k hk => by cases hk) (by kernel_rfl) (laid_met os))) ?_
  intro W base args ds gs before hval hW _ _ _ hL hsh _
  have hg0 := table0 hL
  have hg1 := table1 hL
  refine law_post_vars (s := Rows.fnModelTextSpec) laidOut rfl Tryd.underlying4 ?_ param ?_ W args ds gs before ?_ hW
  · intro ds gs hds hgs
    match ds, hds, gs, hgs with
    | [d0, d1], _, [g0, g1], _ => rfl
  · intro n hn g t h1 h2
    have hn' : n = "loop.example/weakmemory/impl.ruleWords" ∨ n = "loop.example/weakmemory/impl.relNames" := by simpa [Rows.fnModelTextSpec] using hn
    rcases hn' with rfl | rfl
    · obtain rfl := Option.some.inj (gTab1.symm.trans h1)
      obtain rfl := Option.some.inj (gTabType1.symm.trans h2)
      exact ⟨by kernel_rfl, of_decide_eq_true (by kernel_rfl)⟩
    · obtain rfl := Option.some.inj (gTab0.symm.trans h1)
      obtain rfl := Option.some.inj (gTabType0.symm.trans h2)
      exact ⟨by kernel_rfl, of_decide_eq_true (by kernel_rfl)⟩
  · intro ps hA
    rw [Tryd.params12] at hA
    obtain ⟨v0, v1, d0, d1, p0, p1, rfl, rfl, rfl, h0, h1⟩ := trodAll_two hA
    obtain ⟨A, n, c, rfl, hb, hnc, hN⟩ := open_bytes h0 (hval 0 _ _ (by kernel_rfl) rfl)
    obtain ⟨A', n', c', rfl, hb', hnc', hN'⟩ := open_bytes h1 (hval 1 _ _ (by kernel_rfl) rfl)
    exact lawModT_walk W A A' n c n' c' hg0 hg1 (GM.of_shaped hsh) hb hnc hN hb' hnc' hN'

theorem said : Rows.FnModelTextSaid :=
  OpenClaim.holds_of_cond 12 Tryd.f12 rfl rfl rfl rfl rfl rfl rfl ⟨rfl, rfl, rfl, rfl, rfl⟩ rfl rfl rfl rfl rfl (by kernel_rfl) Tryd.func12 (by kernel_rfl)
    (of_decide_eq_true (by kernel_rfl)) (by unfold Func.isWrapper; first | (rw [if_pos (by decide +kernel)]; kernel_rfl) | (rw [if_neg (by decide +kernel)]; exact ⟨rfl, rfl⟩))
    (fun os started H enc _ F => by rw [OpenClaim.pre_eq_preRow]; exact lifted os started H enc F)

theorem plain (f : FuncId) (fn : Func) (hf : Tryd.pinned.checked.prog.funcNamed "loop.example/weakmemory/laws.FnModelText" = some f) (hfn : Tryd.pinned.checked.prog.funcs[f]? = some fn) :
    false = Tryd.pinned.checked.prog.looks [] ∧ ∀ (j : Nat) t, fn.params[j]? = some t → Tryd.pinned.checked.prog.wantsStandIn t = false := by
  obtain rfl : f = 12 := Option.some.inj ((show Tryd.prog.funcNamed "loop.example/weakmemory/laws.FnModelText" = some 12 by kernel_rfl).symm.trans hf) |>.symm
  obtain rfl : fn = Tryd.f12 := (Option.some.inj (Tryd.func12.symm.trans hfn)).symm
  refine ⟨by kernel_rfl, fun j t ht => ?_⟩
  rw [Tryd.params12] at ht
  have h := Array.mem_of_getElem? ht
  simp only [List.mem_toArray, List.mem_cons, List.not_mem_nil, or_false] at h
  rcases h with rfl | rfl
  · exact (show Tryd.prog.wantsStandIn 33 = false by kernel_rfl)
  · exact (show Tryd.prog.wantsStandIn 33 = false by kernel_rfl)

theorem card : Rows.FnModelTextCardSaid :=
  Claim7.holds_tied_plain_at .later [] _ _ _ _ said (fun _ h => by cases h) (by kernel_rfl) (fun _ h => by cases h) fnModelText_row_tie rfl ⟨rfl, rfl⟩ (by kernel_rfl) rfl plain (by kernel_rfl)

end Go.Proofs.YtapelogbceoojaaDoor.fnModelText
