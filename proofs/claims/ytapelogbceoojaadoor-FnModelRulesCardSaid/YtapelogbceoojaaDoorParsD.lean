/-
  Reading and depth: what is read as a part of a shallow expression is shallow.
-/
import Derived.Test.YtapelogbceoojaaDoorPars
namespace Go.Proofs.YtapelogbceoojaaDoor
open Go.RowKit
set_option linter.unusedVariables false
set_option maxRecDepth 100000

theorem Shp.mono {m : Nat} : ∀ {e : RE}, Shp m e → Shp (m + 1) e := by
  induction m with
  | zero => intro e h; exact h.elim
  | succ m ih => intro e h; exact ⟨h.1, fun k hk => ih (h.2 k hk)⟩
theorem Shp.kid {m : Nat} {e k : RE} (h : Shp m e) (hk : k ∈ e.kids) : Shp m k := by
  cases m with
  | zero => exact h.elim
  | succ m => exact (h.2 k hk).mono
theorem Shp.kid' {m : Nat} {e k : RE} (h : Shp (m + 1) e) (hk : k ∈ e.kids) : Shp m k := h.2 k hk
/-- What a loop began with is a part of what it comes to. -/
theorem Ps.loop_shp {c : Cmd} {t : List UInt8} {x u} (h : Ps c t x u) : ∀ {l : Nat} {e : RE}, c = .loop l e → ∀ {m}, Shp m x → Shp m e := by
  induction h with
  | done _ => intro l e hc m hs; injection hc with _ h; subst h; exact hs
  | more h1 h2 h3 h4 h5 ih1 ih2 => intro l e hc m hs; injection hc with _ h; subst h; exact (ih2 rfl hs).kid (by simp [RE.kids])
  | _ => intro l e hc; cases hc

end Go.Proofs.YtapelogbceoojaaDoor
