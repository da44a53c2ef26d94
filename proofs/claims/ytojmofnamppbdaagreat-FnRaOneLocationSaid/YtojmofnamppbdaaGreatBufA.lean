/-
  The machines with store buffers, in plain words: states, moves, outcomes. No program in sight. There are few states with store buffers. No program in sight. The texts that tell states with store buffers apart. No program in sight. One memory within store buffers, buffers within split buffers; how many states. No program in sight. Buffers for one thread, for swaps alone, for one location. No program in sight. How many states there are with buffers, with split ones. No program in sight. A fence behind each instruction: buffers change nothing. No program in sight.
-/
import Derived.Test.YtojmofnamppbdaaGreatPlM
namespace Go.Proofs.YtojmofnamppbdaaGreat
set_option linter.unusedVariables false
structure BSt where
 s:St
 bufs:List (List (Int×Int))
deriving DecidableEq
def nBf (p:Prg) (sp:Bool):Nat:=if sp=true then 3*p.length else p.length
def plB (sp:Bool) (t l:Nat):Nat:=if sp=true then 3*t+l else t
def bufB (b:BSt) (k:Nat):List (Int×Int):=b.bufs.getD k []
def empB (sp:Bool) (b:BSt) (t:Nat):Bool:=(List.range 3).all fun l=>(bufB b (plB sp t l)).isEmpty
structure BOk (p:Prg) (sp:Bool) (b:BSt):Prop where
 ok:StOk p b.s
 len:b.bufs.length=nBf p sp
 ent:∀ k,∀ w∈bufB b k,(0≤w.1∧w.1≤2)∧In03 w.2
 short:∀ t l,t<p.length→l<3→(bufB b (plB sp t l)).length≤pcS b.s t
 locs:sp=true→∀ t l,t<p.length→l<3→∀ w∈bufB b (plB sp t l),w.1=(l:Int)
theorem pl_lt {p:Prg} {sp:Bool} {t l:Nat} (ht:t<p.length) (hl:l<3):plB sp t l<nBf p sp:=by
 unfold plB nBf
 cases sp
 ·rw [if_neg (by decide),if_neg (by decide)]; exact ht
 ·rw [if_pos rfl,if_pos rfl]; omega
end Go.Proofs.YtojmofnamppbdaaGreat
namespace Go.Proofs.YtojmofnamppbdaaGreat
set_option linter.unusedVariables false
theorem getD_setP {α:Type} (d:α) (xs:List α) (i j:Nat) (v:α) (hi:i<xs.length):(xs.set i v).getD j d=if j=i then v else xs.getD j d:=by
 simp only [List.getD_eq_getElem?_getD]
 by_cases e:j=i
 ·subst e
  rw [if_pos rfl,List.getElem?_set_self hi]
  rfl
 ·rw [if_neg e,List.getElem?_set_ne (fun h=>e h.symm)]
theorem thrP_getB {p:Prg} {t:Nat} (h:t<p.length):thrP p t=p[t]:=by
 unfold thrP
 rw [List.getD_eq_getElem?_getD,List.getElem?_eq_getElem h]
 rfl
end Go.Proofs.YtojmofnamppbdaaGreat
namespace Go.Proofs.YtojmofnamppbdaaGreat
set_option linter.unusedVariables false
def flatW (bf:List (Int×Int)):List Int:=bf.flatMap fun w=>[w.1,w.2]
theorem sepR (ys:List (List (Int×Int))):(ys.flatMap fun bf=>255::(flatW bf).map Int.toNat)=[]∨∃ t,(ys.flatMap fun bf=>255::(flatW bf).map Int.toNat)=255::t:=by
 cases ys with
 | nil=>left; rfl
 | cons y ys=>right; exact⟨_,by rw [List.flatMap_cons,List.cons_append]⟩
def encZ (w:Int×Int):Int:=w.1*16+w.2
end Go.Proofs.YtojmofnamppbdaaGreat
namespace Go.Proofs.YtojmofnamppbdaaGreat
set_option linter.unusedVariables false
end Go.Proofs.YtojmofnamppbdaaGreat
namespace Go.Proofs.YtojmofnamppbdaaGreat
set_option linter.unusedVariables false
def OutS (p:Prg) (y:List Int):Prop:=∃ s,Reach (sucS p) (st0 p) s∧doneS p s=true∧outS s=y
def LocP (p:Prg) (l0:Nat):Prop:=∀ t,∀ x∈thrP p t,x.op=4∨x.loc=(l0:Int)
end Go.Proofs.YtojmofnamppbdaaGreat
namespace Go.Proofs.YtojmofnamppbdaaGreat
set_option linter.unusedVariables false
end Go.Proofs.YtojmofnamppbdaaGreat
