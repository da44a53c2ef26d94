/-
  The walk of FnExactFormatModel.
-/
import Derived.Test.YtapelogbceoojaaDoorWFmtM2
import Derived.Test.YtapelogbceoojaaDoorWRule
namespace Go.Proofs.YtapelogbceoojaaDoor
open Go.RowKit
set_option linter.unusedVariables false
set_option maxRecDepth 100000

set_option maxHeartbeats 1000000 in
theorem lawFmtM_walk (rs : List RU) (w : World) (v : Value) (hg : GN w) (hgr : GR w) (hr : SlR 4 RepU w v rs) :
    Calls Tryd.prog 9 #[v] w (RetB w true) := by
  go_enter Tryd.func9, Tryd.ntmps9
  go_wp2_with fail
  refine (szUs_any rs _ v _ hr (by omega) (by omega)).mono ?_
  rintro e1 w1 ⟨rfl, hb1⟩
  by_cases hwx : ((rs.length + wSum wU rs : Nat) : Int) ≤ 1048576
  case neg =>
    rw [restI_gt (by omega)]
    go_wp2_with fail
    go_ret
    exact ⟨rfl, hb1⟩
  rw [restI_le hwx]
  have hl : rs.length ≤ 1048576 := by omega
  have hwe : ∀ r ∈ rs, wE r.e ≤ 1048576 := fun r h => by have : wE r.e ≤ wSum wU rs := wSum_mem wU h; omega
  have hcn : ∀ r ∈ rs, cntE r.e ≤ 1048577 := fun r h => by have := hwe r h; have := cntE_le r.e; omega
  have hr1 := RepUs.le hr (Le.below hb1)
  clear hr
  go_wp2_with fail
  refine (toUs_any rs hl hwe _ v hr1).mono ?_
  rintro e2 w2 ⟨v2, rfl, hk2, hb2⟩
  go_wp2_with fail
  refine (specFormatM_any rs hcn _ v2 (RepUs.le hk2 (Le.above _ _))).mono ?_
  rintro e3 w3 ⟨rfl, hb3⟩
  have b3 : Below w.heap.size w w3 := (hb1.trans (hb2.mono hb1.size)).trans (hb3.mono (by have := hb1.size; have := hb2.size; omega))
  have hr3 := RepUs.le (RepUs.le hr1 (Le.below hb2)) (Le.below hb3)
  clear hb2 hk2 hb3 hr1
  go_wp2_with fail
  refine (toUs_any rs hl hwe _ v hr3).mono ?_
  rintro e4 w4 ⟨v4, rfl, hk4, hb4⟩
  have b4 : Below w.heap.size w w4 := b3.trans (hb4.mono b3.size)
  have hr4 := RepUs.le hr3 (Le.below hb4)
  have hk4' := RepUs.le hk4 (Le.above _ _)
  clear hb4 hk4 hr3 b3
  go_wp2_with fail
  refine (formatM_any rs _ v4 (hg.le (Le.below b4)) (hgr.le (Le.below b4)) hk4').mono ?_
  rintro e5 w5 ⟨rfl, hb5⟩
  have b5 : Below w.heap.size w w5 := b4.trans (hb5.mono b4.size)
  have hr5 := RepUs.le hr4 (Le.below hb5)
  have hk5 := RepUs.le hk4' (Le.below hb5)
  have sx : sameUs rs rs = true := sameUs_iff.2 rfl
  clear hb5 hk4' hr4 b4
  go_wp2_with fail
  refine (toUs_any rs hl hwe _ v hr5).mono ?_
  rintro e6 w6 ⟨v6, rfl, hk6, hb6⟩
  go_wp2_with fail
  refine (eqUs_any rs rs _ v4 v6 (RepUs.le hk5 (Le.below hb6)) (RepUs.le hk6 (Le.above _ _))).mono ?_
  rintro e7 w7 ⟨rfl, hb7⟩
  have b7 : Below w.heap.size w w7 := (b5.trans (hb6.mono b5.size)).trans (hb7.mono (by have := b5.size; have := hb6.size; omega))
  clear hb6 hb7 hk6 hk5 hr5 b5
  go_wp2_with fail
  go_ret
  exact ⟨rfl, b7⟩

end Go.Proofs.YtapelogbceoojaaDoor
