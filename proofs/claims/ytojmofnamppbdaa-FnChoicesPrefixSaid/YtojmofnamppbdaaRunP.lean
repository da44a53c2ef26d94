/-
  Moves that are made one after the other, in plain words. No program in sight.
-/
import Derived.Test.YtojmofnamppbdaaPlM
namespace Go.Proofs.Ytojmofnamppbdaa
set_option linter.unusedVariables false
section
variable {σ:Type} (succ:σ→List σ) (mv:σ→List Int)
def stepW (s:σ) (m:Int):Option σ:=((mv s).zip (succ s)).lookup m
def runW:σ→List Int→Option σ
 | s,[]=>some s
 | s,m::ms=>match stepW succ mv s m with
  | some t=>runW t ms
  | none=>none
end
theorem lookup_in {σ:Type}:∀ (xs:List Int) (ys:List σ) (m:Int),xs.length=ys.length→m∈xs→∃ i,∃ (hi:i<xs.length) (hj:i<ys.length),xs[i]=m∧(xs.zip ys).lookup m=some ys[i]
 | [],_,_,_,h=>by cases h
 | x::xs,[],_,hl,_=>by simp at hl
 | x::xs,y::ys,m,hl,h=>by
  by_cases e:x=m
  ·exact⟨0,by simp,by simp,by simpa using e,by simp [e]⟩
  ·have hm:m∈xs:=by
    rcases List.mem_cons.1 h with h | h
    ·exact absurd h.symm e
    ·exact h
   obtain⟨i,hi,hj,h1,h2⟩:=lookup_in xs ys m (by simpa using hl) hm
   have hne:(m == x)=false:=by rw [beq_eq_false_iff_ne]; exact fun h=>e h.symm
   refine⟨i+1,by simpa using hi,by simpa using hj,by simpa using h1,?_⟩
   rw [List.zip_cons_cons,List.lookup_cons,hne]
   simpa using h2
theorem lookup_out {σ:Type}:∀ (xs:List Int) (ys:List σ) (m:Int),m∉xs→(xs.zip ys).lookup m=none
 | [],_,_,_=>by simp
 | x::xs,[],_,_=>by simp
 | x::xs,y::ys,m,h=>by
  have hne:(m == x)=false:=by rw [beq_eq_false_iff_ne]; exact fun e=>h (by simp [e])
  rw [List.zip_cons_cons,List.lookup_cons,hne]
  exact lookup_out xs ys m fun hm=>h (List.mem_cons_of_mem _ hm)
section
variable {σ:Type} {succ:σ→List σ} {mv:σ→List Int} {s t:σ} {m:Int} {ms:List Int}
theorem step_some (h:stepW succ mv s m=some t) (hl:(mv s).length=(succ s).length):m∈mv s∧t∈succ s:=by
 by_cases hm:m∈mv s
 ·obtain⟨i,hi,hj,_,h2⟩:=lookup_in _ _ _ hl hm
  unfold stepW at h
  rw [h2] at h
  injection h with h
  exact⟨hm,by rw [← h]; exact List.getElem_mem hj⟩
 ·unfold stepW at h
  rw [lookup_out _ _ _ hm] at h
  cases h
theorem step_none (h:m∉mv s):stepW succ mv s m=none:=lookup_out _ _ _ h
theorem run_reach {s0:σ} (hl:∀ s,Reach succ s0 s→(mv s).length=(succ s).length):∀ (ms:List Int) (s:σ),Reach succ s0 s→runW succ mv s ms=some t→Reach succ s0 t
 | [],s,hr,h=>by
  injection h with h
  rw [← h]; exact hr
 | m::ms,s,hr,h=>by
  unfold runW at h
  split at h
  ·rename_i u hu
   exact run_reach hl ms u (.next hr (step_some hu (hl s hr)).2) h
  ·cases h
theorem run_snoc:∀ (ms:List Int) (s:σ) (m:Int),runW succ mv s (ms++[m])=(runW succ mv s ms).bind fun t=>stepW succ mv t m
 | [],s,m=>by
  simp only [List.nil_append,runW,Option.bind_some]
  cases stepW succ mv s m <;> rfl
 | k::ms,s,m=>by
  rw [List.cons_append,runW,runW]
  cases stepW succ mv s k with
  | none=>rfl
  | some u=>exact run_snoc ms u m
theorem run_take_none {i:Nat} (hi:i<ms.length) (h:runW succ mv s (ms.take (i+1))=none):runW succ mv s ms=none:=by
 have key:∀ (xs ys:List Int) (s:σ),runW succ mv s xs=none→runW succ mv s (xs++ys)=none:=fun xs=>by
  induction xs with
  | nil=>intro ys s h; cases h
  | cons x xs ih=>
   intro ys s h
   rw [List.cons_append,runW]
   rw [runW] at h
   cases hx:stepW succ mv s x with
   | none=>rfl
   | some u=>
    rw [hx] at h
    exact ih ys u h
 have:=key (ms.take (i+1)) (ms.drop (i+1)) s h
 rwa [List.take_append_drop] at this
theorem run_take {i:Nat} (hi:i<ms.length):runW succ mv s (ms.take (i+1))=(runW succ mv s (ms.take i)).bind fun t=>stepW succ mv t ms[i]:=by
 rw [List.take_succ_eq_append_getElem hi,run_snoc]
end
def resW {σ:Type} (succ:σ→List σ) (mv:σ→List Int) (done:σ→Bool) (out:σ→List Int) (s:σ) (ms:List Int):Option (List Int):=(runW succ mv s ms).bind fun t=>if done t=true then some (out t) else none
end Go.Proofs.Ytojmofnamppbdaa
