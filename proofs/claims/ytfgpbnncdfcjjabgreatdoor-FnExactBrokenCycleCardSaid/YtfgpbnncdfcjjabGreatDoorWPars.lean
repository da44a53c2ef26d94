/-
  The walks of the parser of expressions: take, name, atom, level, impl.ParseRelExpr. The walks of the parser's atom and level. The walk of the parser's level. The parser's walks joined: atom and level at every text. The walk of impl.ParseRelExpr.
-/
import Derived.Test.YtfgpbnncdfcjjabGreatDoorVal
import Derived.Test.YtfgpbnncdfcjjabGreatDoorLib
import Derived.Test.YtfgpbnncdfcjjabGreatDoorRE
import Derived.Test.YtfgpbnncdfcjjabGreatDoorWVal
import Derived.Test.YtfgpbnncdfcjjabGreatDoorWText
import Derived.Deep.RegionHeld3

/-! The walks of the parser of expressions: take, name, atom, level, impl.ParseRelExpr. -/
namespace Go.Proofs.YtfgpbnncdfcjjabGreatDoor
open Go.RowKit
set_option linter.unusedVariables false
set_option maxRecDepth 100000

theorem ext_drop (s : ByteArray) (i : Nat) : (s.extract i s.size).data.toList = s.data.toList.drop i := by
  rw [ByteArray.data_extract, Array.toList_extract]
  simp [List.take_of_length_le]
theorem ext_take (s : ByteArray) (i : Nat) : (s.extract 0 i).data.toList = s.data.toList.take i := by
  rw [ByteArray.data_extract, Array.toList_extract]
  simp [List.extract_eq_take_drop]
theorem head_drop (s : ByteArray) (h : 0 < s.size) : s.data.toList = s[0] :: (s.extract 1 s.size).data.toList := by
  rw [ext_drop]
  have hl : 0 < s.data.toList.length := by simpa using h
  have h1 := List.drop_eq_getElem_cons (l := s.data.toList) (i := 0) hl
  rw [List.drop_zero] at h1
  exact h1

theorem get_data (s : ByteArray) (k : Nat) (h : k < s.size) : s.data.toList[k]'(by simpa using h) = s[k] := rfl
theorem let_iff (c : UInt8) : isLet c ↔ (97 : Int) ≤ (c.toNat : Int) ∧ (c.toNat : Int) ≤ 122 := by
  unfold isLet
  rw [UInt8.le_iff_toNat_le, UInt8.le_iff_toNat_le]
  have h1 : (97 : UInt8).toNat = 97 := rfl
  have h2 : (122 : UInt8).toNat = 122 := rfl
  omega

end Go.Proofs.YtfgpbnncdfcjjabGreatDoor

/-! The walks of the parser's atom and level. -/
namespace Go.Proofs.YtfgpbnncdfcjjabGreatDoor
open Go.RowKit
set_option linter.unusedVariables false
set_option maxRecDepth 100000

theorem OwE.mv {w w' : World} {v : Value} {es : List RE} {F : List Nat} {R : Nat} (h : OwE w v es F) (m : Mv R w w') (hR : ∀ b ∈ F, b ≠ R) : OwE w' v es F := h.of_blocks fun b hb => m.block (h.lt b hb) (hR b hb)
theorem OwE.alloc {w : World} {v : Value} {es : List RE} {F : List Nat} (h : OwE w v es F) (o : Obj) : OwE (w.alloc o) v es F := h.of_blocks fun b hb => Go.Deep.blk_alloc_lt _ _ _ (h.lt b hb)
theorem OwE.setCell {w : World} {v : Value} {es : List RE} {F : List Nat} (h : OwE w v es F) (p : Addr) (u : Value) (hp : ∀ b ∈ F, b ≠ p.block) : OwE (w.setCell p u) v es F := h.of_blocks fun b hb => Below.heap_setCell _ _ _ _ (hp b hb)
/-- The block of the result is written: three cells. -/
theorem Own.res {w : World} {b : Nat} {t : TypeId} {v0 v1 v2 : Value} (h : Own w b t #[v0, v1, v2]) : w.cell? ⟨b, 0, none⟩ = some v0 ∧ w.cell? ⟨b, 1, none⟩ = some v1 ∧ w.cell? ⟨b, 2, none⟩ = some v2 ∧ w.frozen? ⟨b, 0, none⟩ = false ∧ w.frozen? ⟨b, 1, none⟩ = false ∧ w.frozen? ⟨b, 2, none⟩ = false ∧ b < w.heap.size :=
  ⟨h.cell rfl, h.cell rfl, h.cell rfl, h.frozen 0, h.frozen 1, h.frozen 2, h.lt⟩

theorem size_set3 (W : World) (a b c : Addr) (v0 v1 v2 : Value) : (((W.setCell a v0).setCell b v1).setCell c v2).heap.size = W.heap.size := by simp [World.setCell]
end Go.Proofs.YtfgpbnncdfcjjabGreatDoor

/-! The walk of the parser's level. -/
namespace Go.Proofs.YtfgpbnncdfcjjabGreatDoor
open Go.RowKit
set_option linter.unusedVariables false
set_option maxRecDepth 100000

theorem sgn_size {o : Int} (h1 : 2 ≤ o) (h2 : o ≤ 5) : 0 < (sgn o).size := by
  have h : o = 2 ∨ o = 3 ∨ o = 4 ∨ o = 5 := by omega
  rcases h with rfl | rfl | rfl | rfl <;> decide
theorem sgn_sg {o : Int} (h1 : 2 ≤ o) (h2 : o ≤ 5) : (sgn o)[0]'(sgn_size h1 h2) = sg o := by
  have h : o = 2 ∨ o = 3 ∨ o = 4 ∨ o = 5 := by omega
  rcases h with rfl | rfl | rfl | rfl <;> rfl

end Go.Proofs.YtfgpbnncdfcjjabGreatDoor

/-! The parser's walks joined: atom and level at every text. -/
namespace Go.Proofs.YtfgpbnncdfcjjabGreatDoor
open Go.RowKit
set_option linter.unusedVariables false
set_option maxRecDepth 100000

end Go.Proofs.YtfgpbnncdfcjjabGreatDoor

/-! The walk of impl.ParseRelExpr. -/
namespace Go.Proofs.YtfgpbnncdfcjjabGreatDoor
open Go.RowKit
set_option linter.unusedVariables false
set_option maxRecDepth 100000

/-- What reading a text comes to: the valid expression with that text, or nothing. -/
def Read (t : ByteArray) (x : RE) (b : Bool) : Prop := (b = true ∧ Val x ∧ ct x = t) ∨ (b = false ∧ x = .mk 0 ⟨#[]⟩ [] ∧ ∀ y, Val y → ct y ≠ t)
theorem Read.uniq {t : ByteArray} {x y : RE} {a b : Bool} (h : Read t x a) (k : Read t y b) : x = y ∧ a = b := by
  rcases h with ⟨rfl, h1, h2⟩ | ⟨rfl, rfl, h2⟩ <;> rcases k with ⟨rfl, k1, k2⟩ | ⟨rfl, rfl, k2⟩
  · exact ⟨ct_inj h1 k1 (h2.trans k2.symm), rfl⟩
  · exact absurd h2 (k2 _ h1)
  · exact absurd k2 (h2 _ k1)
  · exact ⟨rfl, rfl⟩
def RetRead (w : World) (t : ByteArray) (e : Ending) (w' : World) : Prop :=
  ∃ (x : RE) (b : Bool) (A : Option Addr) (k : Nat) (F : List Nat), e = .returned (.tuple #[.agg #[.int .i64 x.op, .string x.name, .slice A x.kids.length k], .bool b]) ∧ Read t x b ∧ OwE w' (.slice A x.kids.length k) x.kids F ∧ F.Nodup ∧ (∀ b ∈ F, w.heap.size ≤ b) ∧ x.name.size ≤ 300 ∧ Below w.heap.size w w'

/-- A valid expression's text is short. -/
theorem size_tx4 (m : Nat) : ∀ e : RE, Shp m e → ∀ most : Int, 0 ≤ most → (tx e most).size ≤ 4 * cntE e + 1 ∧ (ct e).size + (if 0 < lvl e.op then 2 else 0) ≤ 4 * cntE e + 1 := by
  have key : ∀ e : RE, (ct e).size + (if 0 < lvl e.op then 2 else 0) ≤ 4 * cntE e + 1 → ∀ most : Int, 0 ≤ most → (tx e most).size ≤ 4 * cntE e + 1 := by
    intro e h most hm
    by_cases hl : most < lvl e.op
    · rw [if_pos (by omega)] at h
      rw [tx_pos hl]
      simp only [ByteArray.size_append, ByteArray.size_mk']
      simp
      omega
    · rw [tx_neg hl]
      omega
  induction m with
  | zero => intro e h; exact h.elim
  | succ m ih =>
    intro e h most hm
    suffices hc : (ct e).size + (if 0 < lvl e.op then 2 else 0) ≤ 4 * cntE e + 1 from ⟨key e hc most hm, hc⟩
    obtain ⟨op, name, kids⟩ := e
    obtain ⟨⟨h1, h2, h3⟩, h4⟩ := h
    simp only [RE.op, RE.name, RE.kids] at h1 h2 h3 h4 ⊢
    match kids, h1, h4 with
    | [], h1, _ =>
      have ho : op = 1 := by rcases kidsI_cases h1 with ⟨h, _⟩ | ⟨_, h⟩ | ⟨_, h⟩ <;> first | exact h | simp at h
      subst ho
      have hn := size_nm (h2.1 rfl)
      rw [cntE, cntL, ct]
      show name.size + (if 0 < lvl 1 then 2 else 0) ≤ _
      rw [if_neg (by decide)]
      omega
    | [a], h1, h4 =>
      have ho : op = 6 ∨ op = 7 := by rcases kidsI_cases h1 with ⟨_, h⟩ | ⟨h, _⟩ | ⟨_, h⟩ <;> first | exact h | simp at h
      have ha := (ih a (h4 a (by simp)) 0 (by omega)).1
      have e1 : ct (.mk op name [a]) = sgn op ++ tx a 0 := by rw [ct]; rfl
      have hs := size_sgn op
      have hl0 : ¬ 0 < lvl op := by rcases ho with h | h <;> (rw [h]; decide)
      show (ct (.mk op name [a])).size + (if 0 < lvl op then 2 else 0) ≤ _
      rw [cntE, cntL, cntL, e1, ByteArray.size_append, if_neg hl0]
      omega
    | [a, b], h1, h4 =>
      have ho : op = 2 ∨ op = 3 ∨ op = 4 ∨ op = 5 := by rcases kidsI_cases h1 with ⟨_, h⟩ | ⟨_, h⟩ | ⟨h, _⟩ <;> first | exact h | simp at h
      have hl : 1 ≤ lvl op := by rcases ho with rfl | rfl | rfl | rfl <;> decide
      have ha := (ih a (h4 a (by simp)) (lvl op) (by omega)).1
      have hb := (ih b (h4 b (by simp)) (lvl op - 1) (by omega)).1
      have e1 : ct (.mk op name [a, b]) = tx a (lvl op) ++ sgn op ++ tx b (lvl op - 1) := by rw [ct]; rfl
      have hs := size_sgn op
      have hl0 : 0 < lvl op := by omega
      show (ct (.mk op name [a, b])).size + (if 0 < lvl op then 2 else 0) ≤ _
      rw [cntE, cntL, cntL, cntL, e1, ByteArray.size_append, ByteArray.size_append, if_pos hl0]
      omega
    | _ :: _ :: _ :: _, h1, _ =>
      simp only [List.length_cons] at h1
      rcases kidsI_cases h1 with ⟨_, h⟩ | ⟨_, h⟩ | ⟨_, h⟩ <;> omega
theorem ct_size {x : RE} (h : Val x) : (ct x).size ≤ 161 := by
  have h1 := (size_tx4 12 x h.1 0 (by omega)).2
  have h2 := h.2
  omega

theorem ct_ne {y : RE} (h : Val y) : ct y ≠ ⟨#[]⟩ := fun e => by
  have h1 := read_back h
  rw [e] at h1
  obtain ⟨e1, u1, h2, _⟩ := h1.lev_succ
  obtain ⟨e2, u2, h3, _⟩ := h2.lev_succ
  obtain ⟨e3, u3, h4, _⟩ := h3.lev_succ
  obtain ⟨c, t', h5, _⟩ := h4.lev_zero.atom_none
  cases h5
theorem RetRead.fail {w W : World} {t : ByteArray} (hb : Below w.heap.size w W) (hn : ∀ y, Val y → ct y ≠ t) : RetRead w t (.returned (.tuple #[.agg #[.int .i64 0, .string ⟨#[]⟩, .slice none 0 0], .bool false])) W :=
  ⟨.mk 0 ⟨#[]⟩ [], false, none, 0, [], rfl, Or.inr ⟨rfl, rfl, hn⟩, .nil, List.nodup_nil, (fun b hb => by cases hb), (by show ByteArray.size ⟨#[]⟩ ≤ 300; decide), hb⟩

end Go.Proofs.YtfgpbnncdfcjjabGreatDoor
