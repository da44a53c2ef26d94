/-
  Views: outcomes with buffers lie within them (the lag of views behind buffers). No program in sight. UNDER WAY. Views: outcomes with buffers lie within them: buffers and views side by side, step by step. No program in sight.
-/
import Derived.Test.YtojmofnamppbdaaVwA
import Derived.Test.YtojmofnamppbdaaBufA
namespace Go.Proofs.Ytojmofnamppbdaa
set_option linter.unusedVariables false
theorem bump_id {l k:Nat} {v:List Nat} (h:atV v l<k):bumpV l k v=v:=by
 unfold bumpV
 rw [if_neg (by omega)]
 apply List.ext_getElem
 ·rw [List.length_set]
 ·intro i h1 h2
  rw [List.getElem_set]
  split
  ·rename_i e
   subst e
   unfold atV
   rw [List.getD_eq_getElem?_getD,List.getElem?_eq_getElem h2]
   rfl
  ·rfl
def upF {α:Type} (f:Nat→α) (i:Nat) (v:α):Nat→α:=fun j=>if j=i then v else f j
theorem upF_self {α:Type} (f:Nat→α) (i:Nat) (v:α):upF f i v i=v:=if_pos rfl
theorem upF_ne {α:Type} (f:Nat→α) {i j:Nat} (v:α) (h:j≠i):upF f i v j=f j:=if_neg h
end Go.Proofs.Ytojmofnamppbdaa
namespace Go.Proofs.Ytojmofnamppbdaa
set_option linter.unusedVariables false
theorem own_setO {L:List (List Nat)} {t u:Nat} {v:List Nat} (h:u≠t):(L.set t v).getD u [0,0,0]=L.getD u [0,0,0]:=by
 simp only [List.getD_eq_getElem?_getD]
 rw [List.getElem?_set_ne (fun k=>h k.symm)]
end Go.Proofs.Ytojmofnamppbdaa
