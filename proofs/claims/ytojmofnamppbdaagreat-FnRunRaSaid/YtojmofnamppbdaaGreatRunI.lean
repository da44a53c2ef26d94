/-
  The outcomes with buffers, as the program hands them back: RunTso, RunPso.
-/
import Derived.Test.YtojmofnamppbdaaGreatBfI
import Derived.Test.YtojmofnamppbdaaGreatOwE
namespace Go.Proofs.YtojmofnamppbdaaGreat
open Go.RowKit
set_option linter.unusedVariables false
set_option maxRecDepth 100000
theorem IsOutB.iff {p:Prg} {sp:Bool} {L:List (List Int)} (hp:PrgOk p) (h:IsOutB p sp L) (y:List Int):y∈L↔OutB p sp y:=by
 rcases h with ⟨_,V,h1,_,h3⟩ | ⟨h1,_⟩
 ·rw [h3]
  exact⟨fun ⟨s,k1,k2⟩=>⟨s,h1.all.1 k1,k2⟩,fun⟨s,k1,k2⟩=>⟨s,h1.all.2 k1,k2⟩⟩
 ·exact absurd hp h1
theorem IsOutB.few {p:Prg} {sp:Bool} {L:List (List Int)} (h:IsOutB p sp L):L.length≤1000000000000:=by
 rcases h with ⟨hp,V,h1,h2,h3⟩ | ⟨_,rfl⟩
 ·have hV:=buf_few hp h1.nd h1.reach
  have hn:L.Nodup:=h2.imp fun h e=>by rw [e,lexC_self] at h; omega
  have h4:=nodup_le L (V.map outB) hn fun y hy=>by
   obtain⟨s,k1,_,k3⟩:=(h3 y).1 hy
   exact List.mem_map.2 ⟨s,k1,k3⟩
  rw [List.length_map] at h4
  omega
 ·exact Nat.zero_le _
def RetRnB (p:Prg) (sp:Bool) (W:World) (e:Ending) (W':World):Prop:=∃ v L F,e=.returned v∧OwI2 W' v L F∧F.Nodup∧(∀ b∈F,W.heap.size≤b)∧IsOutB p sp L∧L.length≤1000000000000∧Below W.heap.size W W'
theorem RetRb.ow {p:Prg} {sp:Bool} {W W':World} {e:Ending} (h:RetRb p sp W e W'):∃ (v:Value) (n:Nat) (L:List (List Int)) (F:List Nat),e=.returned (.tuple #[v,.int .i64 (n:Int)])∧OwI2 W' v L F∧F.Nodup∧(∀ b∈F,W.heap.size≤b)∧IsOutB p sp L∧Below W.heap.size W W':=by
 obtain⟨v,n,B,os,rfl,hB,hrow,hrows,hnd,hout,_,hb⟩:=h
 obtain⟨F,h1,h2,h3⟩:=outs_ow hrow hrows hnd
 exact⟨v,n,_,F,rfl,h1,h2,fun b hb=>by have:=h3 b hb; omega,hout,hb⟩
set_option maxHeartbeats 1000000 in
theorem implRt_any (p:Prg) (hl:p.length≤1048576) (hls:∀ t∈p,t.length≤1048576) (W:World) (v:Value) (hr:PrgS W v p):Calls Tryz.prog 19 #[v] W (RetRnB p false W):=by
 have hc:=runBuf_any p hl hls false W v hr
 obtain⟨A,c,rfl,_⟩:=hr.slice
 go_enter Tryz.func19,Tryz.ntmps19
 go_wp2_with fail
 refine hc.mono ?_
 rintro e1 w1 h1
 obtain⟨v1,n,L,F,rfl,ho,hn,hF,hout,hb1⟩:=h1.ow
 have How:=Lib.hid (And.intro ho (And.intro hn (And.intro hF hout)))
 clear hc ho hn hF hout h1
 go_wp2_with fail
 go_ret
 exact⟨v1,L,F,rfl,How.out.1,How.out.2.1,How.out.2.2.1,How.out.2.2.2,How.out.2.2.2.few,hb1⟩
end Go.Proofs.YtojmofnamppbdaaGreat
