/-
  Arguments that are slices of ints, slices of these, candidates, opened.
-/
import Derived.Test.YtfgpbnncdfcjjabGreatDoorShut
import Derived.Test.YtfgpbnncdfcjjabGreatDoorInts
namespace Go.Proofs.YtfgpbnncdfcjjabGreatDoor
open Go.RowKit Go.ChangeShapes Go.WideShapes Go.ChangeAt Go.Deep
set_option linter.unusedVariables false
set_option maxRecDepth 100000
variable {H : Type} {enc : TypeId × Value → H} {w : World} {base : Nat} {spare : Nat → Bool} {held : Bool}

theorem Tryz.cellsInt' : Tryz.prog.cellsOf 3 = 1 := by kernel_rfl
theorem Tryz.cellsInts' : Tryz.prog.cellsOf 23 = 1 := by kernel_rfl
theorem Tryz.cellsIntss' : Tryz.prog.cellsOf 24 = 1 := by kernel_rfl
theorem Tryz.cellsX' : Tryz.prog.cellsOf 26 = 2 := by kernel_rfl

theorem int_of_trod {fuel : Nat} {cs : List Value} {x : DataW H × List MemPlace} (h : DataW.trod enc Tryz.prog w base spare held fuel 3 cs = some x) : ∃ n, RInt w (fun j => cs.getD j undef) n := by
  obtain ⟨n, e, _, _⟩ := DataW.trod_int Tryz.underlying3 h
  exact ⟨n, by rw [e]; rfl⟩
theorem ints_of_trod {fuel : Nat} {cs : List Value} {x : DataW H × List MemPlace} (h : DataW.trod enc Tryz.prog w base spare held fuel 23 cs = some x) : ∃ A c, ∃ xs : List Int, cs = [.slice A xs.length c] ∧ Ints w A c xs :=
  slR_of_trod (k := 1) (R := RInt) Tryz.underlying23 Tryz.cellsInt' (by omega) h fun n cs' x' _ _ hx => int_of_trod hx
theorem intss_of_trod {fuel : Nat} {cs : List Value} {x : DataW H × List MemPlace} (h : DataW.trod enc Tryz.prog w base spare held fuel 24 cs = some x) : ∃ A c, ∃ xss : List (List Int), cs = [.slice A xss.length c] ∧ Intss w A c xss :=
  slR_of_trod (k := 1) (R := RInts) Tryz.underlying24 Tryz.cellsInts' (by omega) h fun n cs' x' _ _ hx => by
    obtain ⟨A, c, xs, e, h⟩ := ints_of_trod hx
    exact ⟨xs, A, c, by rw [e]; rfl, h⟩

theorem open_x {v : Value} {d : DataW H} {ps : List MemPlace} (h : DataW.Trod enc Tryz.prog w base spare held 26 v d ps) :
    ∃ (x : Ex) (A : Option Addr) (c : Nat) (B : Option Addr) (d : Nat), v = .agg #[.slice A x.from_.length c, .slice B x.order.length d] ∧ RepX w A c B d x := by
  obtain ⟨fuel, hf⟩ := h
  obtain ⟨xs, n, hn, _, hlen, hxs, hf⟩ := DataW.trod_struct Tryz.underlying26 hf
  rw [Tryz.cellsX'] at hlen
  obtain ⟨cs, rfl⟩ := agg_of_cells hlen (by omega)
  obtain ⟨l⟩ := cs
  simp only [Value.cells] at hlen hf
  match l, hlen with
  | [c0, c1], _ =>
    have l0 : xs.length = 2 := hxs
    have h0 : DataW.trod enc Tryz.prog w base spare held n 23 [c0] = xs[0]? := by simpa [Tryz.cellsInts'] using hf 0 _ rfl
    have h1 : DataW.trod enc Tryz.prog w base spare held n 24 [c1] = xs[1]? := by simpa [Tryz.cellsIntss'] using hf 1 _ rfl
    rw [List.getElem?_eq_getElem (by omega)] at h0 h1
    obtain ⟨A, c, fr, e0, hfr⟩ := ints_of_trod h0
    obtain ⟨B, d, ord, e1, hord⟩ := intss_of_trod h1
    simp only [List.cons.injEq, and_true] at e0 e1
    subst e0 e1
    exact ⟨⟨fr, ord⟩, A, c, B, d, rfl, hfr, hord⟩

end Go.Proofs.YtfgpbnncdfcjjabGreatDoor
