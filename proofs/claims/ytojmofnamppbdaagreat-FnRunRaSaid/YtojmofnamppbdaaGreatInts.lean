/-
  The walks over slices of ints: sizes, copies, equality. The walks of equality of slices of ints, and of slices of such slices. Candidates for executions, as they lie in memory; the walks of szExec, toExec, eqExec, impl.ExecSame.
-/
import Derived.Test.YtojmofnamppbdaaGreatLib
import Derived.StillTailTactics
namespace Go.Proofs.YtojmofnamppbdaaGreat
open Go.RowKit
set_option linter.unusedVariables false
set_option maxRecDepth 100000
theorem Tryz.infoInt:(Tryz.prog.info? 3).map (fun i=>(i.zero,i.size,i.bytes))=some (some (.int .i64 0),1,8):=by kernel_rfl
theorem Tryz.infoInts:(Tryz.prog.info? 31).map (fun i=>(i.zero,i.size,i.bytes))=some (some (.slice none 0 0),1,24):=by kernel_rfl
end Go.Proofs.YtojmofnamppbdaaGreat
namespace Go.Proofs.YtojmofnamppbdaaGreat
open Go.RowKit
set_option linter.unusedVariables false
set_option maxRecDepth 100000
set_option maxHeartbeats 400000 in
theorem equal_any (xs ys:List Int) (w:World) (A A':Option Addr) (c c':Nat) (hr:Ints w A c xs) (hr':Ints w A' c' ys):
  Calls Tryz.prog 95 #[.slice A xs.length c,.slice A' ys.length c'] w (RetB w (eqB xs ys)):=by
 have hm:=hr.len
 have hm':=hr'.len
 go_enter Tryz.func95,Tryz.ntmps95
 by_cases hlen:xs.length=ys.length
 ·have hne:((xs.length:Int) != (ys.length:Int))=false:=by simp [hlen]
  have Hlen:=Lib.hid hlen
  clear hlen
  go_wp2_with fail
  go_loopg [13] xs.length (fun g s17 wr=>∃ k:Nat,k≤xs.length∧g=xs.length-k∧s17=.int .i64 k∧Hid (xs.take k=ys.take k)∧Below w.heap.size w wr)
  case atStart=>exact⟨0,Nat.zero_le _,rfl,rfl,rfl,Below.refl _ _⟩
  case round=>
   obtain⟨k,hk,rfl,rfl,hpre,hb⟩:=hrel
   by_cases hlt:k<xs.length
   ·have hlt':k<ys.length:=by have:=Hlen.out; omega
    obtain⟨b,o,rfl,hbl,k0⟩:=(hr.le (Le.below hb)).get hlt
    obtain⟨b',o',rfl,hbl',d0⟩:=(hr'.le (Le.below hb)).get hlt'
    clear hr hr'
    by_cases he:xs[k]=ys[k]
    ·have heb:(xs[k] != ys[k])=false:=by simp [he]
     have He:=Lib.hid he
     clear he
     go_wp2_with fail
     go_quiet (fail)
     go_wp2_with fail
     go_roundg (xs.length-(k+1))
     case measure=>omega
     case rel=>exact⟨k+1,by omega,rfl,by go_num,take_eq_of' hlt hlt' hpre.out He.out,below_drewN hb _⟩
    ·have heb:(xs[k] != ys[k])=true:=by simp [he]
     go_wp2_with fail
     go_quiet (fail)
     go_wp2_with fail
     go_ret
     refine⟨ret_bool ?_,below_drewN hb _⟩
     rw [eq_comm,eqB_false]
     intro e
     exact he (by simp only [e])
   ·go_wp2_with fail
    go_ret
    refine⟨ret_bool ?_,hb⟩
    obtain rfl:k=xs.length:=by omega
    rw [eq_comm,eqB_iff]
    exact eq_of_take Hlen.out hpre.out
 ·have hne:((xs.length:Int) != (ys.length:Int))=true:=by simp; omega
  go_wp2_with fail
  go_ret
  exact⟨ret_bool (eqB_ne_length hlen).symm,Below.refl _ _⟩
end Go.Proofs.YtojmofnamppbdaaGreat
namespace Go.Proofs.YtojmofnamppbdaaGreat
open Go.RowKit
set_option linter.unusedVariables false
set_option maxRecDepth 100000
end Go.Proofs.YtojmofnamppbdaaGreat
