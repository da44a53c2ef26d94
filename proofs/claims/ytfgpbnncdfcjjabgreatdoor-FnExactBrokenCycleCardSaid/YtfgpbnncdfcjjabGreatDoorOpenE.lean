/-
  An argument that is an expression, opened.
-/
import Derived.Test.YtfgpbnncdfcjjabGreatDoorShut
import Derived.Test.YtfgpbnncdfcjjabGreatDoorRE
namespace Go.Proofs.YtfgpbnncdfcjjabGreatDoor
open Go.RowKit Go.ChangeShapes Go.WideShapes Go.ChangeAt Go.Deep
set_option linter.unusedVariables false
set_option maxRecDepth 100000
variable {H : Type} {enc : TypeId × Value → H} {w : World} {base : Nat} {spare : Nat → Bool} {held : Bool}

theorem Tryz.cellsRE : Tryz.prog.cellsOf 68 = 3 := by kernel_rfl
theorem Tryz.cellsInt : Tryz.prog.cellsOf 3 = 1 := by kernel_rfl
theorem Tryz.cellsStr : Tryz.prog.cellsOf 9 = 1 := by kernel_rfl
theorem Tryz.cellsKids : Tryz.prog.cellsOf 66 = 1 := by kernel_rfl

theorem re_of_trod (fuel : Nat) : ∀ (cs : List Value) (x : DataW H × List MemPlace), DataW.trod enc Tryz.prog w base spare held fuel 68 cs = some x →
    ∃ e : RE, cs.length = 3 ∧ RepE w (fun j => cs.getD j undef) e := by
  induction fuel using Nat.strongRecOn with
  | _ fuel ih =>
    intro cs x h
    obtain ⟨xs, n, hn, _, hlen, hxs, hf⟩ := DataW.trod_struct Tryz.underlying68 h
    rw [Tryz.cellsRE] at hlen
    match cs, hlen with
    | [c0, c1, c2], _ =>
      have l0 : xs.length = 3 := hxs
      have h0 : DataW.trod enc Tryz.prog w base spare held n 3 [c0] = xs[0]? := by simpa [Tryz.cellsInt] using hf 0 _ rfl
      have h1 : DataW.trod enc Tryz.prog w base spare held n 9 [c1] = xs[1]? := by simpa [Tryz.cellsStr] using hf 1 _ rfl
      have h2 : DataW.trod enc Tryz.prog w base spare held n 66 [c2] = xs[2]? := by simpa [Tryz.cellsKids] using hf 2 _ rfl
      rw [List.getElem?_eq_getElem (by omega)] at h0 h1 h2
      obtain ⟨op, e0, _, _⟩ := DataW.trod_int Tryz.underlying3 h0
      obtain ⟨name, e1, _, hname⟩ := DataW.trod_string Tryz.underlying9 h1
      obtain ⟨A, c, kids, e2, hk⟩ := slR_of_trod (k := 3) (R := RepE) Tryz.underlying66 Tryz.cellsRE (by omega) h2 (fun m cs' x' hm hl hx => by
        obtain ⟨e, _, he⟩ := ih m (by omega) cs' x' hx
        exact ⟨e, he⟩)
      simp only [List.cons.injEq, and_true] at e0 e1 e2
      subst e0 e1 e2
      refine ⟨.mk op name kids, rfl, (repE_iff _ _ _ _ _).2 ⟨rfl, rfl, ?_, ?_⟩⟩
      · unfold maxLen at hname
        omega
      · exact hk

/-- An argument of type RelExpr. -/
theorem open_re {v : Value} {d : DataW H} {ps : List MemPlace} (h : DataW.Trod enc Tryz.prog w base spare held 68 v d ps) :
    ∃ (e : RE) (A : Option Addr) (c : Nat), v = .agg #[.int .i64 e.op, .string e.name, .slice A e.kids.length c] ∧ RepK w A c e := by
  obtain ⟨fuel, hf⟩ := h
  obtain ⟨e, hl, he⟩ := re_of_trod fuel _ _ hf
  obtain ⟨cs, rfl⟩ := agg_of_cells hl (by omega)
  obtain ⟨A, c, h0, h1, h2, hk⟩ := repE_K.1 he
  refine ⟨e, A, c, ?_, hk⟩
  obtain ⟨l⟩ := cs
  simp only [Value.cells] at hl h0 h1 h2
  match l, hl with
  | [c0, c1, c2], _ =>
    simp only [List.getD_cons_zero, List.getD_cons_succ] at h0 h1 h2
    rw [h0, h1, h2]

end Go.Proofs.YtfgpbnncdfcjjabGreatDoor
