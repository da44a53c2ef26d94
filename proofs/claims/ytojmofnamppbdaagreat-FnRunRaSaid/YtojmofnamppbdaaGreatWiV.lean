/-
  Outcomes with views against those of one memory.
-/
import Derived.Test.YtojmofnamppbdaaGreatSqV
import Derived.Test.YtojmofnamppbdaaGreatWmA
import Derived.Test.YtojmofnamppbdaaGreatVsZ
namespace Go.Proofs.YtojmofnamppbdaaGreat
open Go.RowKit
set_option linter.unusedVariables false
set_option maxRecDepth 100000
set_option maxHeartbeats 1000000 in
theorem wmWi_any (L M:List (List Int)) (hall:∀ x∈L,x∈M) (W:World) (A B:Option Addr) (c d:Nat) (hI:Intss W A c L) (hJ:Intss W B d M):Calls Tryz.prog 17 #[.slice A L.length c,.slice B M.length d] W (RetB W true):=by
 have hm:=hI.len
 have HI:=Lib.hid hI
 have HJ:=Lib.hid hJ
 have HA:=Lib.hid hall
 clear hI hJ hall
 go_enter Tryz.func17,Tryz.ntmps17
 go_wp2_with fail
 go_loopg [5] L.length (fun g s5 wr=>∃ i:Nat,i≤L.length∧g=L.length-i∧s5=.int .i64 i∧Below W.heap.size W wr)
 case atStart=>exact⟨0,Nat.zero_le _,rfl,rfl,Below.refl _ _⟩
 case round=>
  obtain⟨i,hi,rfl,rfl,hb⟩:=hrel
  by_cases hlt:i<L.length
  ·obtain⟨b,o',A1,c1,rfl,hb1,k0,h0⟩:=(HI.out.le (Le.below hb)).get hlt
   have hwm:=wmOut_any M L[i] wr B A1 d c1 (HJ.out.le (Le.below hb)) h0
   rw [inL_iff.2 (HA.out _ (List.getElem_mem hlt))] at hwm
   generalize L[i]=x at k0 h0 hwm
   clear h0
   go_wp2_with fail
   refine hwm.mono ?_
   rintro e5 w5 ⟨rfl,hb5⟩
   have hB5:=hb.trans (hb5.mono hb.size)
   clear hwm k0
   go_wp2_with fail
   go_roundg (L.length-(i+1))
   case measure=>omega
   case rel=>exact⟨i+1,by omega,rfl,by go_num,hB5⟩
  ·obtain rfl:i=L.length:=by omega
   go_wp2_with fail
   go_ret
   exact⟨rfl,hb⟩
theorem OwI2.formV {w:World} {v:Value} {L:List (List Int)} {F:List Nat} (h:OwI2 w v L F):∃ A c,v=.slice A L.length c:=by
 obtain⟨A,c,e,_⟩:=OwRow.slice h
 exact⟨A,c,e⟩
end Go.Proofs.YtojmofnamppbdaaGreat
