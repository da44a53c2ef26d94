/-
  Drawn candidates in later worlds; what the laws on them have in common.
-/
import Derived.Test.YtfgpbnncdfcjjaaDoorDrCV
import Derived.Test.YtfgpbnncdfcjjaaDoorImRl
import Derived.Test.YtfgpbnncdfcjjaaDoorI3
namespace Go.Proofs.YtfgpbnncdfcjjaaDoor
open Go.RowKit
set_option linter.unusedVariables false
set_option maxRecDepth 100000

/-- A program and a candidate in a variable, and the table of names. -/
structure CdS (W : World) (bx : Nat) (Ap : Option Addr) (cp : Nat) (p : Prg) (A : Option Addr) (c : Nat) (B : Option Addr) (d : Nat) (x : Ex) : Prop where
  hp : PrgS W (.slice Ap p.length cp) p
  hr : Room W (.slice Ap p.length cp) p
  hx : RepX W A c B d x
  hg : GN W
  c0 : W.cell? ⟨bx, 0, none⟩ = some (.slice A x.from_.length c)
  c1 : W.cell? ⟨bx, 1, none⟩ = some (.slice B x.order.length d)
theorem CdS.le {W W' : World} {bx : Nat} {Ap : Option Addr} {cp : Nat} {p : Prg} {A : Option Addr} {c : Nat} {B : Option Addr} {d : Nat} {x : Ex} (h : CdS W bx Ap cp p A c B d x) (hl : Le W W') : CdS W' bx Ap cp p A c B d x :=
  ⟨PrgS.le h.hp hl, h.hr.le h.hp hl, h.hx.le hl, h.hg.le hl, hl _ _ h.c0, hl _ _ h.c1⟩
theorem CdS.lt {W : World} {bx : Nat} {Ap : Option Addr} {cp : Nat} {p : Prg} {A : Option Addr} {c : Nat} {B : Option Addr} {d : Nat} {x : Ex} (h : CdS W bx Ap cp p A c B d x) : bx < W.heap.size := World.block_lt_of_cell? _ _ h.c0
/-- The relation with name j, by the program. -/
theorem CdS.relOf {W : World} {bx : Nat} {Ap : Option Addr} {cp : Nat} {p : Prg} {A : Option Addr} {c : Nat} {B : Option Addr} {d : Nat} {x : Ex} (h : CdS W bx Ap cp p A c B d x) (hok : CandOk p x) (hl : p.length ≤ 1048576) (hls : ∀ t ∈ p, t.length ≤ 1048576) (hwx : wX x ≤ 1048576) {j : Nat} (hj : j < 10) (s : ByteArray) (hs : nmAt j = s) :
    Calls Tryd.prog 13 #[.slice Ap p.length cp, .agg #[.slice A x.from_.length c, .slice B x.order.length d], .string s] W (RetRel W (pairB p x (evs p) j) (evs p).length) := by
  subst hs
  refine (implRelOf_any p hl hls x hwx (nmAt j) W _ A B c d h.hg h.hp h.hr h.hx).mono fun e w' hh => ?_
  rw [relB_at hok hj] at hh
  exact RetRel.of hh
theorem evO_ok {p : Prg} (h : PrgOk p) : evO p = evs p := if_pos (prgB_iff.2 h)

end Go.Proofs.YtfgpbnncdfcjjaaDoor
