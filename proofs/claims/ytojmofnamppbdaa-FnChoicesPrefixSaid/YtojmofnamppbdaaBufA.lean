/-
  The machines with store buffers, in plain words: states, moves, outcomes. No program in sight. There are few states with store buffers. No program in sight. The texts that tell states with store buffers apart. No program in sight. One memory within store buffers, buffers within split buffers; how many states. No program in sight. Buffers for one thread, for swaps alone, for one location. No program in sight. How many states there are with buffers, with split ones. No program in sight. A fence behind each instruction: buffers change nothing. No program in sight.
-/
import Derived.Test.YtojmofnamppbdaaPlM
namespace Go.Proofs.Ytojmofnamppbdaa
set_option linter.unusedVariables false
structure BSt where
 s:St
 bufs:List (List (Int×Int))
deriving DecidableEq
end Go.Proofs.Ytojmofnamppbdaa
namespace Go.Proofs.Ytojmofnamppbdaa
set_option linter.unusedVariables false
theorem getD_setP {α:Type} (d:α) (xs:List α) (i j:Nat) (v:α) (hi:i<xs.length):(xs.set i v).getD j d=if j=i then v else xs.getD j d:=by
 simp only [List.getD_eq_getElem?_getD]
 by_cases e:j=i
 ·subst e
  rw [if_pos rfl,List.getElem?_set_self hi]
  rfl
 ·rw [if_neg e,List.getElem?_set_ne (fun h=>e h.symm)]
end Go.Proofs.Ytojmofnamppbdaa
namespace Go.Proofs.Ytojmofnamppbdaa
set_option linter.unusedVariables false
end Go.Proofs.Ytojmofnamppbdaa
namespace Go.Proofs.Ytojmofnamppbdaa
set_option linter.unusedVariables false
end Go.Proofs.Ytojmofnamppbdaa
namespace Go.Proofs.Ytojmofnamppbdaa
set_option linter.unusedVariables false
end Go.Proofs.Ytojmofnamppbdaa
namespace Go.Proofs.Ytojmofnamppbdaa
set_option linter.unusedVariables false
end Go.Proofs.Ytojmofnamppbdaa
