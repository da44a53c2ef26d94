/-
  The walks of the machine with store buffers: after.
-/
import Derived.Test.YtojmofnamppbdaaBfB
import Derived.Test.YtojmofnamppbdaaRgA
import Derived.Deep.MidRow
import Derived.Deep.WholeRow
namespace Go.Proofs.Ytojmofnamppbdaa
open Go.RowKit
set_option linter.unusedVariables false
set_option maxRecDepth 100000
theorem seqC_pget {Ap:Option Addr} {cp:Nat} {p:Prg} {s:St} {t:Nat} (ht:t<3):(seqC Ap cp p s)[1+t]?=some (.int .u8 ((pcS s t:Nat):Int)):=by
 match t,ht with
 | 0,_=>rfl
 | 1,_=>rfl
 | 2,_=>rfl
theorem seqC_rget {Ap:Option Addr} {cp:Nat} {p:Prg} {s:St} {i:Nat} (hi:i<9):(seqC Ap cp p s)[4+i]?=some (.int .u8 (rgF s i)):=by
 match i,hi with
 | 0,_=>rfl
 | 1,_=>rfl
 | 2,_=>rfl
 | 3,_=>rfl
 | 4,_=>rfl
 | 5,_=>rfl
 | 6,_=>rfl
 | 7,_=>rfl
 | 8,_=>rfl
end Go.Proofs.Ytojmofnamppbdaa
