/-
  The walk of FnExactRaStates: it answers true.
-/
import Derived.Test.YtojmofnamppbdaaGreatVsZ
namespace Go.Proofs.YtojmofnamppbdaaGreat
open Go.RowKit
set_option linter.unusedVariables false
set_option maxRecDepth 100000
set_option maxHeartbeats 2000000 in
theorem lawRS_walk (p:Prg) (w:World) (v:Value) (hr:PrgS w v p):Calls Tryz.prog 5 #[v] w (RetB w true):=by
 obtain⟨A,c,rfl,hlen⟩:=hr.slice
 go_enter Tryz.func5,Tryz.ntmps5
 go_wp2_with fail
 refine (szInsSS_any p _ A c 1048576 hr (by omega) (by omega)).mono ?_
 rintro e1 w1 ⟨rfl,hb1⟩
 by_cases hfit:((p.length+wSum List.length p:Nat):Int)≤1048576
 ·rw [restI_le hfit]
  have hl:p.length≤1048576:=by omega
  have hls:∀ t∈p,t.length≤1048576:=fun t ht=>by have:=wSum_mem List.length ht; omega
  have Hls:=Lib.hid hls
  clear hls
  have hr1:=PrgS.le hr (Le.below hb1)
  go_wp2_with fail
  refine (toInsSS_any p hl Hls.out _ A c hr1).mono ?_
  rintro e2 w2 ⟨v2,F2,rfl,ho2,_,_,hb2⟩
  have hB2:=hb1.trans (hb2.mono hb1.size)
  go_wp2_with fail
  refine (specRaS_any p hl _ _ ho2.prgSR).mono ?_
  rintro e3 w3 hc3
  have Hc3:=Lib.hid hc3
  obtain⟨n,rfl,hn',hb3⟩:=hc3
  have hn:=hn'.le
  have hB3:=hB2.trans (hb3.mono hB2.size)
  have hr3:=PrgS.le hr (Le.below hB3)
  clear ho2 hb2 hb3 hr1 hn'
  go_wp2_with fail
  refine (toInsSS_any p hl Hls.out _ A c hr3).mono ?_
  rintro e4 w4 ⟨v4,F4,rfl,ho4,hn4,hF4,hb4⟩
  have hB4:=hB3.trans (hb4.mono hB3.size)
  go_wp2_with fail
  refine (implRaS_any p hl Hls.out _ _ ho4.prgSR).mono ?_
  rintro e5 w5 hc5
  have hee:=Hc3.out.same hc5
  obtain⟨m,rfl,hm',hb5⟩:=hc5
  have hm:=hm'.le
  have hnm:m=n:=by
   injection hee with hee
   injection hee with _ hee
   omega
  subst hnm
  have hB5:=hB4.trans (hb5.mono hB4.size)
  have ho45:OwPr w5 v4 p F4:=ho4.below pinsS_loc hb5
  have hr5:=PrgS.le hr (Le.below hB5)
  clear Hc3 hee hm'
  go_wp2_with fail
  refine (toInsSS_any p hl Hls.out _ A c hr5).mono ?_
  rintro e7 w7 ⟨v7,F7,rfl,ho7,_,_,hb7⟩
  have hB7:=hB5.trans (hb7.mono hB5.size)
  have ho47:OwPr w7 v4 p F4:=ho45.below pinsS_loc hb7
  go_wp2_with fail
  refine (eqInsSS_any p _ _ _ ho47.prgSR ho7.prgSR).mono ?_
  rintro e8 w8 ⟨rfl,hb8⟩
  have hB8:=hB7.trans (hb8.mono hB7.size)
  go_wp2_with fail
  go_ret
  exact⟨rfl,hB8⟩
 ·rw [restI_gt (by omega)]
  go_wp2_with fail
  go_ret
  exact⟨rfl,hb1⟩
end Go.Proofs.YtojmofnamppbdaaGreat
