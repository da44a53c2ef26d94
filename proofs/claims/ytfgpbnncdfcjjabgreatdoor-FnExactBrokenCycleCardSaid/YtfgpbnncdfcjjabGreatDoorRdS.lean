/-
  The walk of of: a string out of a list.
-/
import Derived.Test.YtfgpbnncdfcjjabGreatDoorRd
import Derived.Test.YtfgpbnncdfcjjabGreatDoorStr
namespace Go.Proofs.YtfgpbnncdfcjjabGreatDoor
open Go.RowKit
set_option linter.unusedVariables false
set_option maxRecDepth 100000

def RetOf (w : World) (R p : Nat) (xs : List ByteArray) (e : Ending) (w' : World) : Prop := ∃ x : ByteArray, e = .returned (.string x) ∧ x ∈ xs ∧ Mv R w w' ∧ Rd w' R (p + 1)

set_option maxHeartbeats 400000 in
theorem of_any (w : World) (R p : Nat) (A : Option Addr) (c : Nat) (xs : List ByteArray) (hp : p ≤ 1099511627776) (hr : Rd w R p) (hx : Strs (above (R + 1) w) A c xs) (hne : 0 < xs.length) :
    Calls Tryz.prog 133 #[.pointer (some ⟨R, 0, none⟩), .slice A xs.length c] w (RetOf w R p xs) := by
  have hm := hx.len
  have hpk := pick_any w R p xs.length hp hr
  go_enter Tryz.func133, Tryz.ntmps133
  go_wp2_with fail
  refine hpk.mono ?_
  rintro e1 w1 ⟨v, rfl, h0, hlt, m, r1⟩
  obtain ⟨i, rfl⟩ : ∃ i : Nat, v = i := ⟨v.toNat, by omega⟩
  have hi : i < xs.length := by have := hlt (by omega); omega
  obtain ⟨b, o, rfl, hbl, hc⟩ := (hx.le m.above).get hi
  have hc' := (cell_above_lt hc).2
  have hii : (i : Int) < (xs.length : Int) := by omega
  clear hx hlt hpk hc hbl h0
  go_wp2_with fail
  go_ret
  exact ⟨_, rfl, List.getElem_mem hi, m, r1⟩

theorem strs_lit {w : World} {R b n : Nat} {cs : Array Value} {t : TypeId} (xs : List ByteArray) (h : Own w b t cs) (hb : R < b) (hl : xs.length = n) (hn : n ≤ 100) (hc : ∀ i (hi : i < xs.length), cs[i]? = some (.string xs[i])) : Strs (above (R + 1) w) (some ⟨b, 0, none⟩) n xs :=
  Strs.mk (by omega) fun i hi => cell_above_of (by show R + 1 ≤ b; omega) (by rw [Nat.zero_add]; exact h.cell (hc i hi))

end Go.Proofs.YtfgpbnncdfcjjabGreatDoor
