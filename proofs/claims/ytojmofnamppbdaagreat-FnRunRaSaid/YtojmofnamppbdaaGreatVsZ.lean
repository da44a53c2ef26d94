/-
  The reference's states with views: l5Do. The reference's search with views: what it keeps in memory. The reference's search with views: spec.l5Run walked. The outcomes and the states with views, as the reference hands them back: RunRa, RaStates.
-/
import Derived.Test.YtojmofnamppbdaaGreatVsY
import Derived.Test.YtojmofnamppbdaaGreatVwA
import Derived.Test.YtojmofnamppbdaaGreatMcA
import Derived.Test.YtojmofnamppbdaaGreatPut
import Derived.Test.YtojmofnamppbdaaGreatTab
import Derived.Test.YtojmofnamppbdaaGreatVxJ
namespace Go.Proofs.YtojmofnamppbdaaGreat
open Go.RowKit
set_option linter.unusedVariables false
set_option linter.unusedSimpArgs false
set_option maxRecDepth 100000
def TAl (f:Nat→Value) (a B:Nat) (t:TypeId) (cs:Array Value) (d:Nat) (w:World) (v:Value):Prop:=if d=a then HasB B t cs w v else v=f d
theorem tal_nx {f:Nat→Value} {a B:Nat} {t:TypeId} {cs:Array Value}:∀ d w w' v,Nx w w'→TAl f a B t cs d w v→TAl f a B t cs d w' v:=fun d w w' v hb h=>by
 unfold TAl at h ⊢
 split at h
 ·rename_i e
  rw [if_pos e]
  exact h.nx hb
 ·rename_i e
  rw [if_neg e]
  exact h
theorem tal_blk {f:Nat→Value} {a B:Nat} {t:TypeId} {cs:Array Value}:∀ d w v b,TAl f a B t cs d w v→(if d=a then 1 else 0:Nat)≠0→blkV v=some b→b<w.heap.size:=fun d w v b h hc hb=>by
 unfold TAl at h
 by_cases e:d=a
 ·rw [if_pos e] at h
  exact h.blk hb
 ·rw [if_neg e] at hc
  exact absurd rfl hc
theorem join_B5 {u v:List Nat} (hu:VwB u) (hv:VwB v):VwB (joinV u v):=⟨join_len hu.1 hv.1,fun l hl=>by
 rw [join_at hu.1 hv.1 l hl]
 have:=hu.2 l hl
 have:=hv.2 l hl
 omega⟩
theorem msg_bytes {p:Prg} {s:VSt} (hp:PrgOk p) (h:VOk p s) {l j:Nat} (hl:l<3) (hj:j<(lstV s l).length):VwB (gM (lstV s l) j).view:=by
 have h3:=h.len
 have hm:lstV s l∈s.lists:=by
  unfold lstV
  rw [List.getD_eq_getElem?_getD,List.getElem?_eq_getElem (show l<s.lists.length by omega)]
  exact List.getElem_mem _
 refine vw_bytes hp h (h.vals _ hm _ ?_).2
 unfold gM
 rw [List.getD_eq_getElem?_getD,List.getElem?_eq_getElem hj]
 exact List.getElem_mem _
theorem Own5.obs {w a:World} {base n:Nat} {q:L5} {p:Prg} {s:VSt} {P:Nat→Nat} {G:Nat→Int} {V:Nat→V5} {N Lb Lc:Nat→Nat} {M:Nat→Nat→M5} {κ:Nat→Nat} (h:Own5 w base q n P G V N Lb Lc M κ) (hn:n=p.length) (ho:ObP p s P G (fun u=>(V u).v) N (fun l j=>(M l j).m)) (ha:Le (above base w) a):Rep5 a q p s:=
 h.rep hn (fun u hu=>ho.pc u (by omega)) (fun i hi=>ho.reg i (by omega)) (fun u hu=>ho.own u (by omega)) ho.len ho.msg ha
theorem Own5.rebase {w:World} {base base' n:Nat} {q:L5} {P:Nat→Nat} {G:Nat→Int} {V:Nat→V5} {N Lb Lc:Nat→Nat} {M:Nat→Nat→M5} {κ:Nat→Nat} (h:Own5 w base q n P G V N Lb Lc M κ) (hb:base'≤base):Own5 w base' q n P G V N Lb Lc M κ:=
 { h with at_:=h.at_.rebase hb,regs:=h.regs.rebase hb,view:=h.view.rebase hb,list:=h.list.rebase hb,vw:=fun t ht=>(h.vw t ht).rebase hb,lb:=fun l hl=>(h.lb l hl).rebase hb,mv:=fun l hl k hk=>(h.mv l hl k hk).rebase hb }
theorem Own5.farS {w:World} {base n g:Nat} {q:L5} {P:Nat→Nat} {G:Nat→Int} {V:Nat→V5} {N Lb Lc:Nat→Nat} {M:Nat→Nat→M5} {κ:Nat→Nat} (h:Own5 w base q n P G V N Lb Lc M κ) {cs:Array Value} (ho:Own w g 73 cs) (i:Nat) (u:Value):Own5 (w.setCell ⟨g,i,none⟩ u) base q n P G V N Lb Lc M κ:=
 have f:∀ {b ty k F},CelW w base b ty k F→ty≠73→CelW (w.setCell ⟨g,i,none⟩ u) base b ty k F:=fun hc hn=>hc.far (hc.ne_own ho hn) u
 { h with at_:=f h.at_ (by decide),regs:=f h.regs (by decide),view:=f h.view (by decide),list:=f h.list (by decide),vw:=fun t ht=>f (h.vw t ht) (by decide),lb:=fun l hl=>f (h.lb l hl) (by decide),mv:=fun l hl k hk=>f (h.mv l hl k hk) (by decide) }
def RetO5 (W:World) (p:Prg) (s:VSt) (e:Ending) (W':World):Prop:=∃ q P G V N Lb Lc M κ,e=.returned (v5 q p.length)∧Own5 W' W.heap.size q p.length P G V N Lb Lc M κ∧ObP p s P G (fun u=>(V u).v) N (fun l j=>(M l j).m)∧Below W.heap.size W W'
set_option maxHeartbeats 8000000 in
theorem l5Do_any (p:Prg) (hp:PrgOk p) (s:VSt) (hs:VOk p s) (t k:Nat) (ht:t<p.length) (hcan:canV p s t k=true) (W:World) (vp:Value) (hpr:PrgS W vp p) (q:L5) (hr:Rep5 W q p s):
  Calls Tryz.prog 84 #[vp,v5 q p.length,.int .i64 ((t:Nat):Int),.int .i64 ((k:Nat):Int)] W (RetO5 W p (doV s t (insS p s.s t) k)):=by
 obtain⟨Ap,cp,rfl,hpl⟩:=SlR.slice hpr
 have hp3:=hp.1.1
 obtain⟨V,hV⟩:∃ V,V=(W.alloc (.cells #[.slice (some ⟨q.b1,0,none⟩) p.length q.c1,.slice (some ⟨q.b2,0,none⟩) (p.length*3) q.c2,.slice (some ⟨q.b3,0,none⟩) p.length q.c3,.slice (some ⟨q.b4,0,none⟩) 3 q.c4] 73)).alloc (.cells #[.slice none 0 0,.slice none 0 0,.slice none 0 0,.slice none 0 0] 73):=⟨_,rfl⟩
 have hB:Below W.heap.size W V:=by rw [hV]; exact ((Below.refl _ _).alloc (Nat.le_refl _) _).alloc (by simp) _
 have hVs:V.heap.size=W.heap.size+2:=by rw [hV]; simp
 have oX:Own V W.heap.size 73 #[.slice (some ⟨q.b1,0,none⟩) p.length q.c1,.slice (some ⟨q.b2,0,none⟩) (p.length*3) q.c2,.slice (some ⟨q.b3,0,none⟩) p.length q.c3,.slice (some ⟨q.b4,0,none⟩) 3 q.c4]:=by rw [hV]; exact (Own.new _ _ _).alloc _
 have oR:Own V (W.heap.size+1) 73 #[.slice none 0 0,.slice none 0 0,.slice none 0 0,.slice none 0 0]:=by rw [hV]; simpa using Own.new (W.alloc (.cells #[.slice (some ⟨q.b1,0,none⟩) p.length q.c1,.slice (some ⟨q.b2,0,none⟩) (p.length*3) q.c2,.slice (some ⟨q.b3,0,none⟩) p.length q.c3,.slice (some ⟨q.b4,0,none⟩) 3 q.c4] 73)) 73 #[.slice none 0 0,.slice none 0 0,.slice none 0 0,.slice none 0 0]
 have hcp:=l5Copy_any p hp s hs V q (hr.le (Le.below hB))
 unfold v5 v5C at hcp
 have x0:=oX.cell (i:=0) rfl
 have x1:=oX.cell (i:=1) rfl
 have x2:=oX.cell (i:=2) rfl
 have x3:=oX.cell (i:=3) rfl
 have hWV:=oX.lt
 have HO:=Lib.hid (And.intro oX (And.intro oR (And.intro hVs hr)))
 have HP:=Lib.hid hpr
 have hpc:pcS s.s t<(thrP p t).length:=by
  rcases Nat.lt_or_ge (pcS s.s t) (thrP p t).length with h | h
  ·exact h
  ·rw [canV_off (by omega)] at hcan; cases hcan
 have hcn:=canV_cn (k:=k) hpc
 rw [hcan] at hcn
 have hix:=ins_ok hp hpc
 have hth:=thrP_get ht
 obtain⟨bp,op,A5,c5,e5,hbp,k0,_,hins⟩:=SlR.getSub HP.out ht
 subst e5
 obtain⟨th,hthe⟩:∃ th,th=p[t]:=⟨_,rfl⟩
 rw [← hthe] at k0 hins hth
 obtain⟨j,hjj⟩:∃ j,j=pcS s.s t:=⟨_,rfl⟩
 have hjl:j<th.length:=by rw [hjj,← hth]; exact hpc
 have hx:th[j]'hjl=insS p s.s t:=by
  have h:=ins_get hpc
  rw [h]
  simp only [hth,hjj]
 obtain⟨b1,o1,e6,hb1,ii0,ii1,ii2,ii3⟩:=InsS.get hins hjl
 subst e6
 rw [hx] at ii0 ii1 ii2 ii3
 obtain⟨x,hxe⟩:∃ x,x=insS p s.s t:=⟨_,rfl⟩
 rw [← hxe] at ii0 ii1 ii2 ii3 hix hcn ⊢
 have hth7:th.length≤7:=by rw [← hth]; exact (thr_ok hp t).1
 have j0:=hr.at_ t ht
 rw [← hjj] at j0
 have HW:Hid ((W.cell? ⟨bp,op+t,none⟩=some (.slice (some ⟨b1,o1,none⟩) th.length c5)∧W.cell? ⟨q.b1,t,none⟩=some (.int .i64 (j:Int)))∧W.cell? ⟨b1,o1+j*4,none⟩=some (.int .i64 x.op)∧W.cell? ⟨b1,o1+j*4+1,none⟩=some (.int .i64 x.loc)∧W.cell? ⟨b1,o1+j*4+2,none⟩=some (.int .i64 x.reg)∧W.cell? ⟨b1,o1+j*4+3,none⟩=some (.int .i64 x.val)):=⟨⟨k0,j0⟩,ii0,ii1,ii2,ii3⟩
 obtain⟨r,hr2⟩:∃ r:Nat,x.reg=(r:Int):=⟨x.reg.toNat,by have:=hix.reg; omega⟩
 obtain⟨l,hl2⟩:∃ l:Nat,x.loc=(l:Int):=⟨x.loc.toNat,by have:=hix.loc; omega⟩
 have hr3:r<3:=by have:=hix.reg; omega
 have hl3:l<3:=by have:=hix.loc; omega
 have hlt:x.loc.toNat=l:=by omega
 have hrt:rgI t x=t*3+r:=by unfold rgI; omega
 rw [hlt] at hcn
 have hval:=hix.val
 have hopb:=hix.op
 have HX:Hid (x.reg=(r:Int)∧x.loc=(l:Int)∧x.loc.toNat=l∧rgI t x=t*3+r):=⟨hr2,hl2,hlt,hrt⟩
 have hlen:=lens_le hp hs hl3
 have Hcn:Hid (true=cn5 x (lstV s l) (atV (ownV s t) l) k):=hcn
 have hk1:x.op=1∨x.op=5→k<(lstV s l).length:=fun h=>by
  unfold cn5 at hcn
  rcases h with h | h
  ·rw [if_neg (by omega),if_pos h] at hcn
   exact of_decide_eq_true (Bool.and_eq_true_iff.1 hcn.symm).2
  ·rw [if_neg (by omega),if_neg (by omega),if_pos h] at hcn
   exact of_decide_eq_true (Bool.and_eq_true_iff.1 (Bool.and_eq_true_iff.1 hcn.symm).1).2
 have hk2:x.op=2∨x.op=3→1≤k∧k≤(lstV s l).length:=fun h=>by
  unfold cn5 at hcn
  rw [if_neg (by omega),if_neg (by omega),if_neg (by omega)] at hcn
  obtain⟨h1,h2⟩:=Bool.and_eq_true_iff.1 (Bool.and_eq_true_iff.1 hcn.symm).1
  exact⟨by have:=of_decide_eq_true h1; omega,of_decide_eq_true h2⟩
 have hk100:x.op≠4→k≤13:=fun h=>by
  rcases (show x.op=1∨x.op=5∨x.op=2∨x.op=3 by omega) with h | h | h | h
  ·have:=hk1 (.inl h); omega
  ·have:=hk1 (.inr h); omega
  ·have:=hk2 (.inl h); omega
  ·have:=hk2 (.inr h); omega
 have HK1:=Lib.hid hk1
 have HK2:=Lib.hid hk2
 have HK3:=Lib.hid hk100
 have hrd:=fun (h:x.op=1∨x.op=5)=>(ObP.refl p s).rd (t:=t) (k:=k) (x:=x) ht hs.ok.pcl hs.ok.regl hs.ownl (by rw [hrt]; omega) (by omega) (fun _=>by rw [hlt]; exact hk1 h)
 have hrn:=fun (h:rdB x=false)=>(ObP.refl p s).rd (t:=t) (k:=k) (x:=x) ht hs.ok.pcl hs.ok.regl hs.ownl (by rw [hrt]; omega) (by omega) (fun e=>by rw [h] at e; cases e)
 have HRd:=Lib.hid hrd
 have HRn:=Lib.hid hrn
 have Hs:=Lib.hid hs
 have Hp:=Lib.hid hp
 have hjI:(j:Int)<(th.length:Int):=by omega
 have htI:(t:Int)<(p.length:Int):=by omega
 have Hjj:=Lib.hid hjj
 clear hVs oR oX hpr hr hk1 hk2 hk100 hrd hrn hcn hix hth hthe hins ii0 ii1 ii2 ii3 k0 j0 hx hxe hcan hpc hr2 hl2 hlt hrt hjj
 unfold v5 v5C
 go_enter Tryz.func84,Tryz.ntmps84
 go_upto_region 1 with (fail)
 rw [← hV]
 clear hV
 go_wp2_with fail
 refine hcp.mono ?_
 rintro e5 w5 ⟨q5,Vf,N,Lb,Lc,M,κ,rfl,ho5,hv5,hn5,hm5,hb5⟩
 unfold v5 v5C
 obtain⟨w6,hw6⟩:∃ w6,w6=w5.alloc (.cells #[.slice (some ⟨q5.b1,0,none⟩) p.length q5.c1,.slice (some ⟨q5.b2,0,none⟩) (p.length*3) q5.c2,.slice (some ⟨q5.b3,0,none⟩) p.length q5.c3,.slice (some ⟨q5.b4,0,none⟩) 3 q5.c4] 73):=⟨_,rfl⟩
 have hB6:Below V.heap.size V w6:=by rw [hw6]; exact hb5.alloc hb5.size _
 have oT6:Own w6 w5.heap.size 73 #[.slice (some ⟨q5.b1,0,none⟩) p.length q5.c1,.slice (some ⟨q5.b2,0,none⟩) (p.length*3) q5.c2,.slice (some ⟨q5.b3,0,none⟩) p.length q5.c3,.slice (some ⟨q5.b4,0,none⟩) 3 q5.c4]:=by rw [hw6]; exact Own.new _ _ _
 have hs6:w6.heap.size=w5.heap.size+1:=by rw [hw6]; simp
 have H5:Hid (Own5 w6 V.heap.size q5 p.length (fun t=>pcS s.s t) (fun i=>s.s.regs.getD i 0) Vf N Lb Lc M κ):=ho5.under (by rw [hw6]; exact (Below.refl _ _).alloc (Nat.le_refl _) _)
 have HR:Hid (∀ U,Below V.heap.size V U→(U.cell? ⟨W.heap.size,0,none⟩=some (.slice (some ⟨q.b1,0,none⟩) p.length q.c1)∧U.cell? ⟨W.heap.size,1,none⟩=some (.slice (some ⟨q.b2,0,none⟩) (p.length*3) q.c2))∧Rep5 U q p s∧Own U (W.heap.size+1) 73 #[.slice none 0 0,.slice none 0 0,.slice none 0 0,.slice none 0 0]∧Le W U):=fun U hU=>by
  have hl:Le W U:=(Le.below hB).trans (Le.below hU)
  have oX:=HO.out.1
  exact⟨⟨Le.below hU _ _ (oX.cell (i:=0) rfl),Le.below hU _ _ (oX.cell (i:=1) rfl)⟩,HO.out.2.2.2.le hl,HO.out.2.1.under hU,hl⟩
 have HV5:=Lib.hid (And.intro hv5 (And.intro hn5 hm5))
 have HVs:=Lib.hid HO.out.2.2.1
 have OT6:=Lib.hid oT6
 obtain⟨T,hTT⟩:∃ T,T=w5.heap.size:=⟨_,rfl⟩
 have hT6:T<w6.heap.size:=by omega
 have hb5s:=hb5.size
 have hVT:V.heap.size≤T:=by omega
 rw [← hTT] at OT6
 have HEnd:Hid (∀ (sE:VSt) (wf:World) (P:Nat→Nat) (G:Nat→Int) (Vg:Nat→V5) (Ng Lbg Lcg:Nat→Nat) (Mg:Nat→Nat→M5) (κg:Nat→Nat),Own5 wf V.heap.size q5 p.length P G Vg Ng Lbg Lcg Mg κg→ObP p sE P G (fun u=>(Vg u).v) Ng (fun l j=>(Mg l j).m)→Below V.heap.size V wf→RetO5 W p sE (.returned (.agg #[.slice (some ⟨q5.b1,0,none⟩) p.length q5.c1,.slice (some ⟨q5.b2,0,none⟩) (p.length*3) q5.c2,.slice (some ⟨q5.b3,0,none⟩) p.length q5.c3,.slice (some ⟨q5.b4,0,none⟩) 3 q5.c4])) ((((wf.setCell ⟨W.heap.size+1,0,none⟩ (.slice (some ⟨q5.b1,0,none⟩) p.length q5.c1)).setCell ⟨W.heap.size+1,1,none⟩ (.slice (some ⟨q5.b2,0,none⟩) (p.length*3) q5.c2)).setCell ⟨W.heap.size+1,2,none⟩ (.slice (some ⟨q5.b3,0,none⟩) p.length q5.c3)).setCell ⟨W.heap.size+1,3,none⟩ (.slice (some ⟨q5.b4,0,none⟩) 3 q5.c4))):=fun sE wf P G Vg Ng Lbg Lcg Mg κg h1 h2 h3=>by
  have hWV2:=HVs.out
  have hWR:W.heap.size≤W.heap.size+1:=Nat.le_succ _
  refine⟨q5,P,G,Vg,Ng,Lbg,Lcg,Mg,κg,rfl,(h1.of_blocks fun b hb hl=>?_).rebase (by omega),h2,((((hB.trans (h3.mono hB.size)).setCell hWR _).setCell hWR _).setCell hWR _).setCell hWR _⟩
  have hne:b≠W.heap.size+1:=by omega
  rw [Go.Deep.blk_setCell_other _ _ _ _ hne,Go.Deep.blk_setCell_other _ _ _ _ hne,Go.Deep.blk_setCell_other _ _ _ _ hne,Go.Deep.blk_setCell_other _ _ _ _ hne]
 have HT1:Hid (W.heap.size+1<V.heap.size):=by have:=HVs.out; show _<_; omega
 clear oT6 ho5 hv5 hn5 hm5 hcp x0 x1 x2 x3
 go_upto_region 2 with (fail)
 rw [← hw6,← hTT]
 clear hw6 hTT hb5 hs6 hb5s
 obtain⟨fa,hfa⟩:∃ f:Nat→Value,f=(fun d=>match d with | 15=>.slice (some ⟨bp,op,none⟩) p.length cp | 16=>.int .i64 (t:Int) | 17=>.pointer (some ⟨bp,op+t,none⟩) | 18=>.slice (some ⟨b1,o1,none⟩) th.length c5 | 19=>.pointer (some ⟨W.heap.size,0,none⟩) | 20=>.slice (some ⟨q.b1,0,none⟩) p.length q.c1 | 21=>.int .i64 (t:Int) | 22=>.pointer (some ⟨q.b1,t,none⟩) | 23=>.int .i64 (j:Int) | 24=>.pointer (some ⟨b1,o1+j*4,none⟩) | 25=>.agg #[.int .i64 x.op,.int .i64 x.loc,.int .i64 x.reg,.int .i64 x.val] | _=>undef):=⟨_,rfl⟩
 have hf15:fa 15=.slice (some ⟨bp,op,none⟩) p.length cp:=congrFun hfa 15
 have hf16:fa 16=.int .i64 (t:Int):=congrFun hfa 16
 have hf17:fa 17=.pointer (some ⟨bp,op+t,none⟩):=congrFun hfa 17
 have hf18:fa 18=.slice (some ⟨b1,o1,none⟩) th.length c5:=congrFun hfa 18
 have hf19:fa 19=.pointer (some ⟨W.heap.size,0,none⟩):=congrFun hfa 19
 have hf20:fa 20=.slice (some ⟨q.b1,0,none⟩) p.length q.c1:=congrFun hfa 20
 have hf21:fa 21=.int .i64 (t:Int):=congrFun hfa 21
 have hf22:fa 22=.pointer (some ⟨q.b1,t,none⟩):=congrFun hfa 22
 have hf23:fa 23=.int .i64 (j:Int):=congrFun hfa 23
 have hf24:fa 24=.pointer (some ⟨b1,o1+j*4,none⟩):=congrFun hfa 24
 have hf25:fa 25=.agg #[.int .i64 x.op,.int .i64 x.loc,.int .i64 x.reg,.int .i64 x.val]:=congrFun hfa 25
 clear hfa
 refine wp_region_rel [0,1,2,3,4,5,6,7,8,9,10,11] [12] (TAl fa 10 w6.heap.size 50 #[.int .i64 0,.int .i64 0,.int .i64 0,.int .i64 0]) (fun d=>if d=10 then 1 else 0) [15,16,17,18,19,20,21,22,23,24,25,10] (by kernel_rfl) (by kernel_rfl) rfl (by simp) tal_nx tal_blk ?_ ?_
 ·refine⟨?_,?_,?_,?_,?_,?_,?_,?_,?_,?_,?_,?_,trivial⟩
  all_goals (intro xs w hw hdep hsep; have hbw:=nx_below hw; simp only [shpA,fillL,List.contains_cons,List.contains_nil,Nat.reduceAdd,Nat.reduceBEq,Bool.or_false,Bool.or_true,Bool.false_eq_true,↓reduceIte])
  ·go_wp2_with fail
   exact RelPost.mk (Nx.refl _) _ rfl hf15.symm rfl
  ·go_wp2_with fail
   exact RelPost.mk (Nx.refl _) _ rfl hf16.symm rfl
  ·have e15:xs 15=.slice (some ⟨bp,op,none⟩) p.length cp:=(show xs 15=fa 15 from hdep 15 (List.mem_of_elem_eq_true (by kernel_rfl))).trans hf15
   have e16:xs 16=.int .i64 (t:Int):=(show xs 16=fa 16 from hdep 16 (List.mem_of_elem_eq_true (by kernel_rfl))).trans hf16
   rw [e15,e16]
   go_wp2_with fail
   exact RelPost.mk (Nx.refl _) _ rfl hf17.symm rfl
  ·have e17:xs 17=.pointer (some ⟨bp,op+t,none⟩):=(show xs 17=fa 17 from hdep 17 (List.mem_of_elem_eq_true (by kernel_rfl))).trans hf17
   have q0:=(HR.out w (hB6.trans (hbw.mono hB6.size))).2.2.2 _ _ HW.out.1.1
   rw [e17]
   go_wp2_with fail
   exact RelPost.mk (Nx.refl _) _ rfl hf18.symm rfl
  ·go_wp2_with fail
   exact RelPost.mk (Nx.refl _) _ rfl hf19.symm rfl
  ·have e19:xs 19=.pointer (some ⟨W.heap.size,0,none⟩):=(show xs 19=fa 19 from hdep 19 (List.mem_of_elem_eq_true (by kernel_rfl))).trans hf19
   have q0:=(HR.out w (hB6.trans (hbw.mono hB6.size))).1.1
   rw [e19]
   go_wp2_with fail
   exact RelPost.mk (Nx.refl _) _ rfl hf20.symm rfl
  ·go_wp2_with fail
   exact RelPost.mk (Nx.refl _) _ rfl hf21.symm rfl
  ·have e20:xs 20=.slice (some ⟨q.b1,0,none⟩) p.length q.c1:=(show xs 20=fa 20 from hdep 20 (List.mem_of_elem_eq_true (by kernel_rfl))).trans hf20
   have e21:xs 21=.int .i64 (t:Int):=(show xs 21=fa 21 from hdep 21 (List.mem_of_elem_eq_true (by kernel_rfl))).trans hf21
   rw [e20,e21]
   go_wp2_with fail
   exact RelPost.mk (Nx.refl _) _ rfl hf22.symm rfl
  ·have e22:xs 22=.pointer (some ⟨q.b1,t,none⟩):=(show xs 22=fa 22 from hdep 22 (List.mem_of_elem_eq_true (by kernel_rfl))).trans hf22
   have q0:=(HR.out w (hB6.trans (hbw.mono hB6.size))).2.2.2 _ _ HW.out.1.2
   rw [e22]
   go_wp2_with fail
   exact RelPost.mk (Nx.refl _) _ rfl hf23.symm rfl
  ·have e18:xs 18=.slice (some ⟨b1,o1,none⟩) th.length c5:=(show xs 18=fa 18 from hdep 18 (List.mem_of_elem_eq_true (by kernel_rfl))).trans hf18
   have e23:xs 23=.int .i64 (j:Int):=(show xs 23=fa 23 from hdep 23 (List.mem_of_elem_eq_true (by kernel_rfl))).trans hf23
   rw [e18,e23]
   go_wp2_with fail
   exact RelPost.mk (Nx.refl _) _ rfl hf24.symm rfl
  ·have e24:xs 24=.pointer (some ⟨b1,o1+j*4,none⟩):=(show xs 24=fa 24 from hdep 24 (List.mem_of_elem_eq_true (by kernel_rfl))).trans hf24
   have q0:=(HR.out w (hB6.trans (hbw.mono hB6.size))).2.2.2 _ _ HW.out.2.1
   have q1:=(HR.out w (hB6.trans (hbw.mono hB6.size))).2.2.2 _ _ HW.out.2.2.1
   have q2:=(HR.out w (hB6.trans (hbw.mono hB6.size))).2.2.2 _ _ HW.out.2.2.2.1
   have q3:=(HR.out w (hB6.trans (hbw.mono hB6.size))).2.2.2 _ _ HW.out.2.2.2.2
   rw [e24]
   go_wp2_with fail
   exact RelPost.mk (Nx.refl _) _ rfl hf25.symm rfl
  ·go_wp2_with fail
   exact RelPost.own ((Below.refl _ _).alloc (Nat.le_refl _) _) _ rfl ⟨w.heap.size,rfl,Own.new w _ _,Below.size hbw⟩ (fun b hb=>.inl (by injection hb with hb; simp only at hb; omega))
 intro xs w7 hw hT hsep
 have hbw:=nx_below hw
 obtain⟨X,e10,oX7,hX6⟩:HasB w6.heap.size 50 #[.int .i64 0,.int .i64 0,.int .i64 0,.int .i64 0] w7 (xs 10):=hT 10 (List.mem_of_elem_eq_true (by kernel_rfl))
 have e25:xs 25=.agg #[.int .i64 x.op,.int .i64 x.loc,.int .i64 x.reg,.int .i64 x.val]:=(show xs 25=fa 25 from hT 25 (List.mem_of_elem_eq_true (by kernel_rfl))).trans hf25
 show wpList _ _ _ [_] _ _
 simp only [shpA,fillL,List.contains_cons,List.contains_nil,Nat.reduceAdd,Nat.reduceBEq,Bool.or_false,Bool.or_true,Bool.false_eq_true,↓reduceIte]
 rw [e10,e25]
 clear hT hsep hw e10 e25 hf15 hf16 hf17 hf18 hf19 hf20 hf21 hf22 hf23 hf24 hf25
 generalize xs 15=u15x
 generalize xs 16=u16x
 generalize xs 17=u17x
 generalize xs 18=u18x
 generalize xs 19=u19x
 generalize xs 20=u20x
 generalize xs 21=u21x
 generalize xs 22=u22x
 generalize xs 23=u23x
 generalize xs 24=u24x
 have z0:=oX7.cell (i:=0) rfl
 have z1:=oX7.cell (i:=1) rfl
 have z2:=oX7.cell (i:=2) rfl
 have z3:=oX7.cell (i:=3) rfl
 have y0:=oX7.frozen 0
 have y1:=oX7.frozen 1
 have y2:=oX7.frozen 2
 have y3:=oX7.frozen 3
 obtain⟨w8,hw8⟩:∃ w8,w8=(((w7.setCell ⟨X,0,none⟩ (.int .i64 x.op)).setCell ⟨X,1,none⟩ (.int .i64 x.loc)).setCell ⟨X,2,none⟩ (.int .i64 x.reg)).setCell ⟨X,3,none⟩ (.int .i64 x.val):=⟨_,rfl⟩
 have oX8:Own w8 X 50 #[.int .i64 x.op,.int .i64 x.loc,.int .i64 x.reg,.int .i64 x.val]:=by rw [hw8]; exact (((oX7.set 0 (.int .i64 x.op)).set 1 (.int .i64 x.loc)).set 2 (.int .i64 x.reg)).set 3 (.int .i64 x.val)
 have hb8:Below w6.heap.size w6 w8:=by rw [hw8]; exact (((hbw.setCell hX6 _).setCell hX6 _).setCell hX6 _).setCell hX6 _
 have hBV8:Below V.heap.size V w8:=hB6.trans (hb8.mono hB6.size)
 have H8:=Lib.hid (H5.out.under hb8)
 have OX8:=Lib.hid oX8
 have OT8:=Lib.hid (OT6.out.under hb8)
 have hX8:=oX8.lt
 have hT8:T<w8.heap.size:=Nat.lt_of_lt_of_le hT6 hb8.size
 have hatl:=H8.out.at_.lt
 have hatf:=Lib.hid (H8.out.at_.frozen t)
 go_upto_region 3 with (fail)
 rw [← hw8]
 clear hw8 oX7 oX8 z0 z1 z2 z3 y0 y1 y2 y3 hbw H5 OT6
 obtain⟨fb,hfb⟩:∃ f:Nat→Value,f=(fun d=>match d with | 26=>.pointer (some ⟨T,0,none⟩) | 27=>.slice (some ⟨q5.b1,0,none⟩) p.length q5.c1 | 28=>.int .i64 (t:Int) | 29=>.pointer (some ⟨W.heap.size,0,none⟩) | 30=>.slice (some ⟨q.b1,0,none⟩) p.length q.c1 | 31=>.int .i64 (t:Int) | 32=>.pointer (some ⟨q.b1,t,none⟩) | 33=>.int .i64 (j:Int) | 34=>.int .i64 ((j:Int)+1) | 35=>.pointer (some ⟨q5.b1,t,none⟩) | _=>undef):=⟨_,rfl⟩
 have hf26:fb 26=.pointer (some ⟨T,0,none⟩):=congrFun hfb 26
 have hf27:fb 27=.slice (some ⟨q5.b1,0,none⟩) p.length q5.c1:=congrFun hfb 27
 have hf28:fb 28=.int .i64 (t:Int):=congrFun hfb 28
 have hf29:fb 29=.pointer (some ⟨W.heap.size,0,none⟩):=congrFun hfb 29
 have hf30:fb 30=.slice (some ⟨q.b1,0,none⟩) p.length q.c1:=congrFun hfb 30
 have hf31:fb 31=.int .i64 (t:Int):=congrFun hfb 31
 have hf32:fb 32=.pointer (some ⟨q.b1,t,none⟩):=congrFun hfb 32
 have hf33:fb 33=.int .i64 (j:Int):=congrFun hfb 33
 have hf34:fb 34=.int .i64 ((j:Int)+1):=congrFun hfb 34
 have hf35:fb 35=.pointer (some ⟨q5.b1,t,none⟩):=congrFun hfb 35
 clear hfb
 refine wp_region_rel [0,1,2,3,4,5,6,7,8,9] [10] (TEq fb) (fun _=>0) [26,27,28,29,30,31,32,33,34,35] (by kernel_rfl) (by kernel_rfl) rfl (by simp) teq_nx teq_blk ?_ ?_
 ·refine⟨?_,?_,?_,?_,?_,?_,?_,?_,?_,?_,trivial⟩
  all_goals (intro xs w hw hdep hsep; have hbw:=nx_below hw; simp only [shpA,fillL,List.contains_cons,List.contains_nil,Nat.reduceAdd,Nat.reduceBEq,Bool.or_false,Bool.or_true,Bool.false_eq_true,↓reduceIte])
  ·go_wp2_with fail
   exact RelPost.mk (Nx.refl _) _ rfl hf26.symm rfl
  ·have e26:xs 26=.pointer (some ⟨T,0,none⟩):=(show xs 26=fb 26 from hdep 26 (List.mem_of_elem_eq_true (by kernel_rfl))).trans hf26
   have q0:=(OT8.out.under hbw).cell (i:=0) rfl
   rw [e26]
   go_wp2_with fail
   exact RelPost.mk (Nx.refl _) _ rfl hf27.symm rfl
  ·go_wp2_with fail
   exact RelPost.mk (Nx.refl _) _ rfl hf28.symm rfl
  ·go_wp2_with fail
   exact RelPost.mk (Nx.refl _) _ rfl hf29.symm rfl
  ·have e29:xs 29=.pointer (some ⟨W.heap.size,0,none⟩):=(show xs 29=fb 29 from hdep 29 (List.mem_of_elem_eq_true (by kernel_rfl))).trans hf29
   have q0:=(HR.out w (hBV8.trans (hbw.mono hBV8.size))).1.1
   rw [e29]
   go_wp2_with fail
   exact RelPost.mk (Nx.refl _) _ rfl hf30.symm rfl
  ·go_wp2_with fail
   exact RelPost.mk (Nx.refl _) _ rfl hf31.symm rfl
  ·have e30:xs 30=.slice (some ⟨q.b1,0,none⟩) p.length q.c1:=(show xs 30=fb 30 from hdep 30 (List.mem_of_elem_eq_true (by kernel_rfl))).trans hf30
   have e31:xs 31=.int .i64 (t:Int):=(show xs 31=fb 31 from hdep 31 (List.mem_of_elem_eq_true (by kernel_rfl))).trans hf31
   rw [e30,e31]
   go_wp2_with fail
   exact RelPost.mk (Nx.refl _) _ rfl hf32.symm rfl
  ·have e32:xs 32=.pointer (some ⟨q.b1,t,none⟩):=(show xs 32=fb 32 from hdep 32 (List.mem_of_elem_eq_true (by kernel_rfl))).trans hf32
   have q0:=(HR.out w (hBV8.trans (hbw.mono hBV8.size))).2.2.2 _ _ HW.out.1.2
   rw [e32]
   go_wp2_with fail
   exact RelPost.mk (Nx.refl _) _ rfl hf33.symm rfl
  ·have e33:xs 33=.int .i64 (j:Int):=(show xs 33=fb 33 from hdep 33 (List.mem_of_elem_eq_true (by kernel_rfl))).trans hf33
   rw [e33]
   go_wp2_with fail
   exact RelPost.mk (Nx.refl _) _ rfl hf34.symm rfl
  ·have e27:xs 27=.slice (some ⟨q5.b1,0,none⟩) p.length q5.c1:=(show xs 27=fb 27 from hdep 27 (List.mem_of_elem_eq_true (by kernel_rfl))).trans hf27
   have e28:xs 28=.int .i64 (t:Int):=(show xs 28=fb 28 from hdep 28 (List.mem_of_elem_eq_true (by kernel_rfl))).trans hf28
   rw [e27,e28]
   go_wp2_with fail
   exact RelPost.mk (Nx.refl _) _ rfl hf35.symm rfl
 intro xs w9 hw hT hsep
 have hbw:=nx_below hw
 have e34:xs 34=.int .i64 ((j:Int)+1):=(show xs 34=fb 34 from hT 34 (List.mem_of_elem_eq_true (by kernel_rfl))).trans hf34
 have e35:xs 35=.pointer (some ⟨q5.b1,t,none⟩):=(show xs 35=fb 35 from hT 35 (List.mem_of_elem_eq_true (by kernel_rfl))).trans hf35
 show wpList _ _ _ [_] _ _
 simp only [shpA,fillL,List.contains_cons,List.contains_nil,Nat.reduceAdd,Nat.reduceBEq,Bool.or_false,Bool.or_true,Bool.false_eq_true,↓reduceIte]
 rw [e34,e35]
 clear hT hsep hw e34 e35 hf26 hf27 hf28 hf29 hf30 hf31 hf32 hf33 hf34 hf35
 generalize xs 26=u26x
 generalize xs 27=u27x
 generalize xs 28=u28x
 generalize xs 29=u29x
 generalize xs 30=u30x
 generalize xs 31=u31x
 generalize xs 32=u32x
 generalize xs 33=u33x
 have h9:=H8.out.under hbw
 have z1:=h9.at_.cell ht
 have f1:=h9.at_.frozen t
 have H10:=Lib.hid (h9.setA ht (j+1))
 obtain⟨w10,hw10⟩:∃ w10,w10=w9.setCell ⟨q5.b1,t,none⟩ (.int .i64 ((j:Int)+1)):=⟨_,rfl⟩
 have hneT:q5.b1≠T:=h9.at_.ne_own (OT8.out.under hbw) (by decide)
 have hneX:q5.b1≠X:=h9.at_.ne_own (OX8.out.under hbw) (by decide)
 have OT10:=Lib.hid ((OT8.out.under hbw).far (a:=⟨q5.b1,t,none⟩) (fun e=>hneT e.symm) (.int .i64 ((j:Int)+1)))
 have OX10:=Lib.hid ((OX8.out.under hbw).far (a:=⟨q5.b1,t,none⟩) (fun e=>hneX e.symm) (.int .i64 ((j:Int)+1)))
 have hBV10:Below V.heap.size V (w9.setCell ⟨q5.b1,t,none⟩ (.int .i64 ((j:Int)+1))):=(hBV8.trans (hbw.mono hBV8.size)).setCell h9.at_.1 _
 rw [show (((j+1:Nat):Int))=(j:Int)+1 by omega] at H10
 go_upto_region 4 with (fail)
 rw [← hw10] at H10 OT10 OX10 hBV10 ⊢
 clear hw10 z1 f1 OT8 OX8 H8 hbw hX8 hb8 hBV8 h9 hneT hneX hT8 hatl hatf
 have hX10:=OX10.out.lt
 have hT10:=OT10.out.lt
 have xc0:=OX10.out.cell (i:=0) rfl
 have xc3:=OX10.out.cell (i:=3) rfl
 have HXc:Hid (∀ U,Own U X 50 #[.int .i64 x.op,.int .i64 x.loc,.int .i64 x.reg,.int .i64 x.val]→U.cell? ⟨X,0,none⟩=some (.int .i64 x.op)∧U.cell? ⟨X,1,none⟩=some (.int .i64 (l:Int))∧U.cell? ⟨X,2,none⟩=some (.int .i64 (r:Int))):=fun U h=>⟨h.cell (i:=0) rfl,by rw [← HX.out.2.1]; exact h.cell (i:=1) rfl,by rw [← HX.out.1]; exact h.cell (i:=2) rfl⟩
 by_cases hop4:x.op=4
 ·have hop4:=hop4
  have o3:(x.op == (3:Int))=false:=by rw [hop4]; rfl
  have o4:(x.op == (4:Int))=true:=by rw [hop4]; rfl
  have oRr:=(HR.out w10 hBV10).2.2.1
  have p0:=oRr.cell (i:=0) rfl
  have p1:=oRr.cell (i:=1) rfl
  have p2:=oRr.cell (i:=2) rfl
  have p3:=oRr.cell (i:=3) rfl
  have f0:=oRr.frozen 0
  have f1:=oRr.frozen 1
  have f2:=oRr.frozen 2
  have f3:=oRr.frozen 3
  have hRl:=oRr.lt
  have q0:=OT10.out.cell (i:=0) rfl
  have q1:=OT10.out.cell (i:=1) rfl
  have q2:=OT10.out.cell (i:=2) rfl
  have q3:=OT10.out.cell (i:=3) rfl
  have hTl:=OT10.out.lt
  clear oRr
  go_wp2_with fail
  refine bodyPost_ret (v:=.agg #[.slice (some ⟨q5.b1,0,none⟩) p.length q5.c1,.slice (some ⟨q5.b2,0,none⟩) (p.length*3) q5.c2,.slice (some ⟨q5.b3,0,none⟩) p.length q5.c3,.slice (some ⟨q5.b4,0,none⟩) 3 q5.c4]) (by simp [results,Tryz.results84,go_sem,p0,p1,p2,p3]) rfl ?_
  refine HEnd.out _ _ _ _ _ _ _ _ _ _ H10.out ?_ hBV10
  have hrb:rdB x=false:=by unfold rdB; rw [hop4]; rfl
  have hwb:wrB x=false:=by unfold wrB; rw [hop4]; rfl
  rw [show doV s t x k=rdV s t x k by unfold doV; rw [if_neg (by omega),if_neg (by rw [hwb]; decide)]]
  obtain⟨hv5,hn5,hm5⟩:=HV5.out
  refine (HRn.out hrb).congr (fun u hu=>?_) (fun i hi=>?_) (fun u hu=>?_) hn5 fun l hl j hj=>hm5 l hl j (by rw [hn5 l hl]; exact hj)
  ·by_cases e:u=t
   ·simp only [if_pos e]
    rw [Hjj.out]
   ·simp only [if_neg e]
  ·simp only [hrb,Bool.false_eq_true,false_and,if_false]
  ·simp only [hrb,Bool.false_eq_true,false_and,if_false]
   exact hv5 u hu
 by_cases hop15:x.op=1∨x.op=5
 ·have hop15:=hop15
  have o3:(x.op == (3:Int))=false:=by rw [beq_eq_false_iff_ne]; omega
  have o4:(x.op == (4:Int))=false:=by rw [beq_eq_false_iff_ne]; exact hop4
  have hrb:rdB x=true:=by
   unfold rdB
   rcases hop15 with h | h
   ·rw [h]; rfl
   ·rw [h]; rfl
  have hkl:k<N l:=by rw [HV5.out.2.1 l hl3]; exact HK1.out hop15
  have hkI:(k:Int)<(N l:Int):=by omega
  have hk13:k≤13:=HK3.out hop4
  have hlI:(l:Int)<3:=by omega
  have t3:=OT10.out.cell (i:=3) rfl
  have b4:=H10.out.list.cell hl3
  have m0:=(H10.out.lb l hl3).cell (j:=k*3) (by omega)
  have m1:=(H10.out.lb l hl3).cell (j:=k*3+1) (by omega)
  have m2:=(H10.out.lb l hl3).cell (j:=k*3+2) (by omega)
  rw [mF0] at m0
  rw [mF1] at m1
  rw [mF2] at m2
  have xc1:=(HXc.out _ OX10.out).2.1
  obtain⟨mv,hmv⟩:∃ mv,mv=(M l k).m.val:=⟨_,rfl⟩
  obtain⟨lk,hlk⟩:∃ lk,lk=(M l k).m.lock:=⟨_,rfl⟩
  rw [← hmv] at m0
  rw [← hlk] at m1
  have Hmv:=Lib.hid (And.intro hmv hlk)
  have Ho15:=Lib.hid hop15
  obtain⟨w11,hw11⟩:∃ w11,w11=w10.alloc (.cells #[.int .i64 mv,.bool lk,.slice (some ⟨(M l k).b,0,none⟩) 3 (M l k).c] 137):=⟨_,rfl⟩
  have hb11:Below w10.heap.size w10 w11:=by rw [hw11]; exact (Below.refl _ _).alloc (Nat.le_refl _) _
  have oM11:Own w11 w10.heap.size 137 #[.int .i64 mv,.bool lk,.slice (some ⟨(M l k).b,0,none⟩) 3 (M l k).c]:=by rw [hw11]; exact Own.new _ _ _
  have hBV11:Below V.heap.size V w11:=hBV10.trans (hb11.mono hBV10.size)
  have H11:=Lib.hid (H10.out.under hb11)
  have OT11:=Lib.hid (OT10.out.under hb11)
  have OX11:=Lib.hid (OX10.out.under hb11)
  obtain⟨Mb,hMb⟩:∃ Mb,Mb=w10.heap.size:=⟨_,rfl⟩
  rw [← hMb] at oM11
  have OM11:=Lib.hid oM11
  have hM11:=oM11.lt
  have hO15:(x.op == (1:Int))=true∨(x.op == (1:Int))=false∧(x.op == (5:Int))=true:=by
   rcases hop15 with h | h
   ·exact .inl (by rw [h]; rfl)
   ·exact .inr ⟨by rw [h]; rfl,by rw [h]; rfl⟩
  clear hmv hlk oM11 hop15
  rcases hO15 with o1 | ⟨o1,o5⟩
  all_goals
   go_upto_region 13 with (fail)
   rw [← hw11,← hMb]
   clear hw11 hMb t3 b4 m0 m1 m2 xc0 xc1 xc3
   have hregI:((t*3+r:Nat):Int)<((p.length*3:Nat):Int):=by omega
   have hregN:t*3+r<p.length*3:=by omega
   have hregJ:(t:Int)*3+(r:Int)<(p.length:Int)*3:=by omega
   obtain⟨fc,hfc⟩:∃ f:Nat→Value,f=(fun d=>match d with | 66=>.pointer (some ⟨T,1,none⟩) | 67=>.slice (some ⟨q5.b2,0,none⟩) (p.length*3) q5.c2 | 68=>.int .i64 (t:Int) | 69=>.pointer (some ⟨X,2,none⟩) | 70=>.int .i64 (r:Int) | 71=>.int .i64 ((t*3+r:Nat):Int) | 72=>.pointer (some ⟨Mb,0,none⟩) | 73=>.int .i64 mv | 74=>.pointer (some ⟨q5.b2,t*3+r,none⟩) | _=>undef):=⟨_,rfl⟩
   have hf66:fc 66=.pointer (some ⟨T,1,none⟩):=congrFun hfc 66
   have hf67:fc 67=.slice (some ⟨q5.b2,0,none⟩) (p.length*3) q5.c2:=congrFun hfc 67
   have hf68:fc 68=.int .i64 (t:Int):=congrFun hfc 68
   have hf69:fc 69=.pointer (some ⟨X,2,none⟩):=congrFun hfc 69
   have hf70:fc 70=.int .i64 (r:Int):=congrFun hfc 70
   have hf71:fc 71=.int .i64 ((t*3+r:Nat):Int):=congrFun hfc 71
   have hf72:fc 72=.pointer (some ⟨Mb,0,none⟩):=congrFun hfc 72
   have hf73:fc 73=.int .i64 mv:=congrFun hfc 73
   have hf74:fc 74=.pointer (some ⟨q5.b2,t*3+r,none⟩):=congrFun hfc 74
   clear hfc
   refine wp_region_rel [0,1,2,3,4,5,6,7,8] [9] (TEq fc) (fun _=>0) [66,67,68,69,70,71,72,73,74] (by kernel_rfl) (by kernel_rfl) rfl (by simp) teq_nx teq_blk ?_ ?_
   ·refine⟨?_,?_,?_,?_,?_,?_,?_,?_,?_,trivial⟩
    all_goals (intro xs w hw hdep hsep; have hbw:=nx_below hw; simp only [shpA,fillL,List.contains_cons,List.contains_nil,Nat.reduceAdd,Nat.reduceBEq,Bool.or_false,Bool.or_true,Bool.false_eq_true,↓reduceIte])
    ·go_wp2_with fail
     exact RelPost.mk (Nx.refl _) _ rfl hf66.symm rfl
    ·have e66:xs 66=.pointer (some ⟨T,1,none⟩):=(show xs 66=fc 66 from hdep 66 (List.mem_of_elem_eq_true (by kernel_rfl))).trans hf66
     have q0:=(OT11.out.under hbw).cell (i:=1) rfl
     rw [e66]
     go_wp2_with fail
     exact RelPost.mk (Nx.refl _) _ rfl hf67.symm rfl
    ·go_wp2_with fail
     exact RelPost.mk (Nx.refl _) _ rfl hf68.symm rfl
    ·go_wp2_with fail
     exact RelPost.mk (Nx.refl _) _ rfl hf69.symm rfl
    ·have e69:xs 69=.pointer (some ⟨X,2,none⟩):=(show xs 69=fc 69 from hdep 69 (List.mem_of_elem_eq_true (by kernel_rfl))).trans hf69
     have q0:=(HXc.out w (OX11.out.under hbw)).2.2
     rw [e69]
     go_wp2_with fail
     exact RelPost.mk (Nx.refl _) _ rfl hf70.symm rfl
    ·have e68:xs 68=.int .i64 (t:Int):=(show xs 68=fc 68 from hdep 68 (List.mem_of_elem_eq_true (by kernel_rfl))).trans hf68
     have e70:xs 70=.int .i64 (r:Int):=(show xs 70=fc 70 from hdep 70 (List.mem_of_elem_eq_true (by kernel_rfl))).trans hf70
     rw [e68,e70]
     have hcc:=l3Reg_any t r (by omega) (by omega) w
     go_wp2_with fail
     refine hcc.mono ?_
     rintro ec wc ⟨rfl,hbc⟩
     go_wp2_with fail
     exact RelPost.mk hbc _ rfl hf71.symm rfl
    ·go_wp2_with fail
     exact RelPost.mk (Nx.refl _) _ rfl hf72.symm rfl
    ·have e72:xs 72=.pointer (some ⟨Mb,0,none⟩):=(show xs 72=fc 72 from hdep 72 (List.mem_of_elem_eq_true (by kernel_rfl))).trans hf72
     have q0:=(OM11.out.under hbw).cell (i:=0) rfl
     rw [e72]
     go_wp2_with fail
     exact RelPost.mk (Nx.refl _) _ rfl hf73.symm rfl
    ·have e67:xs 67=.slice (some ⟨q5.b2,0,none⟩) (p.length*3) q5.c2:=(show xs 67=fc 67 from hdep 67 (List.mem_of_elem_eq_true (by kernel_rfl))).trans hf67
     have e71:xs 71=.int .i64 ((t*3+r:Nat):Int):=(show xs 71=fc 71 from hdep 71 (List.mem_of_elem_eq_true (by kernel_rfl))).trans hf71
     rw [e67,e71]
     go_wp2_with fail
     exact RelPost.mk (Nx.refl _) _ rfl hf74.symm rfl
   intro xs w12 hw hT hsep
   have hbw:=nx_below hw
   have e73:xs 73=.int .i64 mv:=(show xs 73=fc 73 from hT 73 (List.mem_of_elem_eq_true (by kernel_rfl))).trans hf73
   have e74:xs 74=.pointer (some ⟨q5.b2,t*3+r,none⟩):=(show xs 74=fc 74 from hT 74 (List.mem_of_elem_eq_true (by kernel_rfl))).trans hf74
   show wpList _ _ _ [_] _ _
   simp only [shpA,fillL,List.contains_cons,List.contains_nil,Nat.reduceAdd,Nat.reduceBEq,Bool.or_false,Bool.or_true,Bool.false_eq_true,↓reduceIte]
   rw [e73,e74]
   clear hT hsep hw e73 e74 hf66 hf67 hf68 hf69 hf70 hf71 hf72 hf73 hf74
   generalize xs 66=u66x
   generalize xs 67=u67x
   generalize xs 68=u68x
   generalize xs 69=u69x
   generalize xs 70=u70x
   generalize xs 71=u71x
   generalize xs 72=u72x
   have h12:=H11.out.under hbw
   have z1:=h12.regs.cell hregN
   have f1:=h12.regs.frozen (t*3+r)
   have H13:=Lib.hid (h12.setG hregN mv)
   obtain⟨w13,hw13⟩:∃ w13,w13=w12.setCell ⟨q5.b2,t*3+r,none⟩ (.int .i64 mv):=⟨_,rfl⟩
   have hneT:q5.b2≠T:=h12.regs.ne_own (OT11.out.under hbw) (by decide)
   have hneX:q5.b2≠X:=h12.regs.ne_own (OX11.out.under hbw) (by decide)
   have hneM:q5.b2≠Mb:=h12.regs.ne_own (OM11.out.under hbw) (by decide)
   have OT13:=Lib.hid ((OT11.out.under hbw).far (a:=⟨q5.b2,t*3+r,none⟩) (fun e=>hneT e.symm) (.int .i64 mv))
   have OX13:=Lib.hid ((OX11.out.under hbw).far (a:=⟨q5.b2,t*3+r,none⟩) (fun e=>hneX e.symm) (.int .i64 mv))
   have OM13:=Lib.hid ((OM11.out.under hbw).far (a:=⟨q5.b2,t*3+r,none⟩) (fun e=>hneM e.symm) (.int .i64 mv))
   have hBV13:Below V.heap.size V (w12.setCell ⟨q5.b2,t*3+r,none⟩ (.int .i64 mv)):=(hBV11.trans (hbw.mono hBV11.size)).setCell h12.regs.1 _
   go_upto_region 14 with (fail)
   rw [← hw13] at H13 OT13 OX13 OM13 hBV13 ⊢
   clear hw13 z1 f1 OT11 OX11 OM11 H11 hbw h12 hneT hneX hneM hM11 hBV11 hb11
   have tc0:=OT13.out.cell (i:=0) rfl
   have tc1:=OT13.out.cell (i:=1) rfl
   have tc2:=OT13.out.cell (i:=2) rfl
   have tc3:=OT13.out.cell (i:=3) rfl
   have mc2:=OM13.out.cell (i:=2) rfl
   have hT13:=OT13.out.lt
   have hM13:=OM13.out.lt
   have hu3:VwB (Vf t).v:=by rw [HV5.out.1 t ht]; exact own_bytes Hp.out Hs.out t
   have hv3:VwB (M l k).m.view:=by rw [HV5.out.2.2 l hl3 k hkl]; exact msg_bytes Hp.out Hs.out hl3 (HK1.out Ho15.out)
   have Huv:=Lib.hid (And.intro hu3 hv3)
   have hjn:=l5Join_any w13 V.heap.size p.length q5 _ _ Vf N Lb Lc M κ H13.out hp3 t l k ht hl3 hkl hu3.1 hv3.1
   unfold v5 v5C at hjn
   clear hu3 hv3
   go_wp2_with fail
   refine hjn.mono ?_
   rintro e14 w14 ⟨rfl,ho14,hf14⟩
   have H14:=Lib.hid ho14
   have OT14:=Lib.hid (hf14.own OT13.out (by decide) (by decide))
   have OX14:=Lib.hid (hf14.own OX13.out (by decide) (by decide))
   have hBV14:Below V.heap.size V w14:=hf14.below hBV13 (Nat.le_refl _) hBV13.size
   have HrdO:=Lib.hid (HRd.out Ho15.out)
   clear hjn ho14 hf14 tc0 tc1 tc2 tc3 mc2 hT13 hM13 H13 OT13 OX13 OM13 hBV13
   have xc0:=OX14.out.cell (i:=0) rfl
   have hX14:=OX14.out.lt
  ·have o1:=o1
   have hop1:x.op=1:=by rw [beq_iff_eq] at o1; exact o1
   have o5:(x.op == (5:Int))=false:=by rw [hop1]; rfl
   have o2:(x.op == (2:Int))=false:=by rw [hop1]; rfl
   have oRr:=(HR.out w14 hBV14).2.2.1
   have p0:=oRr.cell (i:=0) rfl
   have p1:=oRr.cell (i:=1) rfl
   have p2:=oRr.cell (i:=2) rfl
   have p3:=oRr.cell (i:=3) rfl
   have f0:=oRr.frozen 0
   have f1:=oRr.frozen 1
   have f2:=oRr.frozen 2
   have f3:=oRr.frozen 3
   have hRl:=oRr.lt
   have q0:=OT14.out.cell (i:=0) rfl
   have q1:=OT14.out.cell (i:=1) rfl
   have q2:=OT14.out.cell (i:=2) rfl
   have q3:=OT14.out.cell (i:=3) rfl
   have hTl:=OT14.out.lt
   clear oRr
   go_wp2_with fail
   refine bodyPost_ret (v:=.agg #[.slice (some ⟨q5.b1,0,none⟩) p.length q5.c1,.slice (some ⟨q5.b2,0,none⟩) (p.length*3) q5.c2,.slice (some ⟨q5.b3,0,none⟩) p.length q5.c3,.slice (some ⟨q5.b4,0,none⟩) 3 q5.c4]) (by simp [results,Tryz.results84,go_sem,p0,p1,p2,p3]) rfl ?_
   refine HEnd.out _ _ _ _ _ _ _ _ _ _ H14.out ?_ hBV14
   have hwb:wrB x=false:=by unfold wrB; rw [hop1]; rfl
   rw [show doV s t x k=rdV s t x k by unfold doV; rw [if_neg (by omega),if_neg (by rw [hwb]; decide)]]
   obtain⟨hv5,hn5,hm5⟩:=HV5.out
   refine (HrdO.out).congr (fun u hu=>?_) (fun i hi=>?_) (fun u hu=>?_) hn5 fun l' hl' j hj=>hm5 l' hl' j (by rw [hn5 l' hl']; exact hj)
   ·by_cases e:u=t
    ·simp only [if_pos e]
     rw [Hjj.out]
    ·simp only [if_neg e]
   ·rw [HX.out.2.2.1,HX.out.2.2.2,← hm5 l hl3 k hkl,← Hmv.out.1]
    simp only [hrb,true_and]
   ·rw [HX.out.2.2.1,← hm5 l hl3 k hkl]
    by_cases e:u=t
    ·simp only [if_pos e,hrb,e,and_self,if_true]
     rw [← hv5 t ht]
    ·simp only [if_neg e,e,and_false,if_false]
     exact hv5 u hu
  ·have o5:=o5
   have hop5:x.op=5:=by rw [beq_iff_eq] at o5; exact o5
   have b4:=H14.out.list.cell hl3
   have lc1:=(H14.out.lb l hl3).cell (j:=k*3+1) (by omega)
   rw [mF1] at lc1
   have lf1:=(H14.out.lb l hl3).frozen (k*3+1)
   have hlbl:=(H14.out.lb l hl3).lt
   have tc3:=OT14.out.cell (i:=3) rfl
   have xc1:=(HXc.out _ OX14.out).2.1
   have hT14:=OT14.out.lt
   obtain⟨w15,hw15⟩:∃ w15,w15=w14.setCell ⟨Lb l,k*3+1,none⟩ (.bool true):=⟨_,rfl⟩
   have h15:=H14.out.setL hl3 hkl
   rw [← hw15] at h15
   have H15:=Lib.hid h15
   clear h15
   have hneT:Lb l≠T:=(H14.out.lb l hl3).ne_own OT14.out (by decide)
   have hneX:Lb l≠X:=(H14.out.lb l hl3).ne_own OX14.out (by decide)
   have OT15:Hid (Own w15 T 73 #[.slice (some ⟨q5.b1,0,none⟩) p.length q5.c1,.slice (some ⟨q5.b2,0,none⟩) (p.length*3) q5.c2,.slice (some ⟨q5.b3,0,none⟩) p.length q5.c3,.slice (some ⟨q5.b4,0,none⟩) 3 q5.c4]):=by show Own _ _ _ _; rw [hw15]; exact OT14.out.far (a:=⟨Lb l,k*3+1,none⟩) (fun e=>hneT e.symm) _
   have OX15:Hid (Own w15 X 50 #[.int .i64 x.op,.int .i64 x.loc,.int .i64 x.reg,.int .i64 x.val]):=by show Own _ _ _ _; rw [hw15]; exact OX14.out.far (a:=⟨Lb l,k*3+1,none⟩) (fun e=>hneX e.symm) _
   have hBV15:Below V.heap.size V w15:=by rw [hw15]; exact hBV14.setCell (H14.out.lb l hl3).1 _
   generalize (M l k).m.lock=lkk at lc1
   go_upto_region 18 with (fail)
   rw [← hw15]
   clear hw15 b4 lc1 lf1 hlbl tc3 xc1 hT14 hneT hneX H14 OT14 OX14 hBV14 xc0 hX14
   have tc0:=OT15.out.cell (i:=0) rfl
   have tc1:=OT15.out.cell (i:=1) rfl
   have tc2:=OT15.out.cell (i:=2) rfl
   have tc3:=OT15.out.cell (i:=3) rfl
   have xc1:=(HXc.out _ OX15.out).2.1
   have hX15:=OX15.out.lt
   have hT15:=OT15.out.lt
   have hVm:Hid (∀ l',l'<3→∀ j,j<N l'→VwB (M l' j).m.view):=fun l' hl' j hj=>by rw [HV5.out.2.2 l' hl' j hj]; exact msg_bytes Hp.out Hs.out hl' (by rw [← HV5.out.2.1 l' hl']; exact hj)
   have hin:=l5Insert_any w15 V.heap.size p.length q5 _ _ _ N Lb Lc _ κ H15.out hp3 hBV15.size t l (k+1) x.val ht hl3 (by omega) (by omega) (fun j hj=>by rw [HV5.out.2.1 j hj]; have:=lens_le Hp.out Hs.out hj; omega) (fun u hu=>by
    by_cases e:u=t
    ·simp only [if_pos e]
     exact join_B5 Huv.out.1 Huv.out.2
    ·simp only [if_neg e]
     rw [HV5.out.1 u hu]
     exact own_bytes Hp.out Hs.out u) (fun l' hl' j hj=>by
    by_cases e:l'=l∧j=k
    ·simp only [if_pos e]
     exact Huv.out.2
    ·simp only [if_neg e]
     exact hVm.out l' hl' j hj)
   rw [show (((k+1:Nat):Int))=(k:Int)+1 by omega] at hin
   unfold v5 v5C at hin
   go_wp2_with fail
   refine hin.mono ?_
   rintro e16 w16 ⟨rfl,⟨V',N',Lb',Lc',M',κ',ho16,hv16,hn16,hm16⟩,hf16⟩
   have H16:=Lib.hid ho16
   have HF16:=Lib.hid (And.intro hv16 (And.intro hn16 hm16))
   have OT16:=Lib.hid (hf16.own OT15.out (by decide) (by decide))
   have hBV16:Below V.heap.size V w16:=hf16.below hBV15 (Nat.le_refl _) hBV15.size
   clear hin ho16 hv16 hn16 hm16 hf16 tc0 tc1 tc2 tc3 xc1 hX15 hT15 H15 OT15 OX15 hBV15
   have oRr:=(HR.out w16 hBV16).2.2.1
   have p0:=oRr.cell (i:=0) rfl
   have p1:=oRr.cell (i:=1) rfl
   have p2:=oRr.cell (i:=2) rfl
   have p3:=oRr.cell (i:=3) rfl
   have f0:=oRr.frozen 0
   have f1:=oRr.frozen 1
   have f2:=oRr.frozen 2
   have f3:=oRr.frozen 3
   have hRl:=oRr.lt
   have q0:=OT16.out.cell (i:=0) rfl
   have q1:=OT16.out.cell (i:=1) rfl
   have q2:=OT16.out.cell (i:=2) rfl
   have q3:=OT16.out.cell (i:=3) rfl
   have hTl:=OT16.out.lt
   clear oRr
   go_wp2_with fail
   refine bodyPost_ret (v:=.agg #[.slice (some ⟨q5.b1,0,none⟩) p.length q5.c1,.slice (some ⟨q5.b2,0,none⟩) (p.length*3) q5.c2,.slice (some ⟨q5.b3,0,none⟩) p.length q5.c3,.slice (some ⟨q5.b4,0,none⟩) 3 q5.c4]) (by simp [results,Tryz.results84,go_sem,p0,p1,p2,p3]) rfl ?_
   refine HEnd.out _ _ _ _ _ _ _ _ _ _ H16.out ?_ hBV16
   obtain⟨hv5,hn5,hm5⟩:=HV5.out
   obtain⟨hv16,hn16,hm16⟩:=HF16.out
   have hls:=Hs.out.len
   have hol:(rdV s t x k).own.length=p.length:=by
    show (if rdB x=true then s.own.set t _ else s.own).length=_
    rw [if_pos hrb,List.length_set]
    exact Hs.out.ownl
   have hN1:k+1≤(lstV s l).length:=HK1.out Ho15.out
   have hob:=((HrdO.out.put (t:=t) (l:=l) (k:=k+1) hls hol x.val ht hl3 hN1)).lock (l:=l) (k:=k) (by
    show (insL s.lists l (k+1) _).length=3
    rw [insL_len]
    exact hls) hl3 (by rw [if_pos rfl]; omega)
   rw [show doV s t x k=⟨(putV (rdV s t x k) t l (k+1) x.val).s,(putV (rdV s t x k) t l (k+1) x.val).lists.set l (lockM (lstV (putV (rdV s t x k) t l (k+1) x.val) l) k),(putV (rdV s t x k) t l (k+1) x.val).own⟩ by unfold doV; rw [if_pos hop5,HX.out.2.2.1]]
   have hE:joinV (ownV s t) (gM (lstV s x.loc.toNat) k).view=joinV (Vf t).v (M l k).m.view:=by rw [HX.out.2.2.1,← hm5 l hl3 k hkl,← hv5 t ht]
   refine hob.congr (fun u hu=>?_) (fun i hi=>?_) (fun u hu=>?_) (fun l' hl'=>?_) fun l' hl' j hj=>?_
   ·by_cases e:u=t
    ·simp only [if_pos e]
     rw [Hjj.out]
    ·simp only [if_neg e]
   ·rw [HX.out.2.2.1,HX.out.2.2.2,← hm5 l hl3 k hkl,← Hmv.out.1]
    simp only [hrb,true_and]
   ·show (V' u).v=_
    rw [hv16 u hu]
    simp only [hrb,true_and,if_true,hE]
    by_cases e:u=t
    ·simp only [if_pos e]
    ·simp only [if_neg e]
     rw [hv5 u hu]
   ·rw [hn16 l' hl',hn5 l hl3]
    by_cases e:l'=l
    ·simp only [if_pos e]
    ·simp only [if_neg e]
     exact hn5 l' hl'
   ·have hj':j<N' l':=by
     rw [hn16 l' hl',hn5 l hl3]
     by_cases e:l'=l
     ·simp only [if_pos e] at hj ⊢
      exact hj
     ·simp only [if_neg e] at hj ⊢
      rw [hn5 l' hl']
      exact hj
    show (M' l' j).m=_
    rw [hm16 l' hl' j hj']
    simp only [hrb,true_and,if_true,hE]
    by_cases e:l'=l
    ·subst e
     simp only [if_true,true_and] at hj ⊢
     by_cases e0:j=k
     ·subst e0
      rw [if_pos (Nat.lt_succ_self _),if_pos rfl,if_pos (Nat.lt_succ_self _),if_pos rfl]
      rw [hm5 l' hl' j hkl]
      rfl
     ·rw [if_neg e0,if_neg e0]
      by_cases e1:j<k+1
      ·rw [if_pos e1,if_pos e1,hm5 l' hl' j (by omega)]
      ·rw [if_neg e1,if_neg e1]
       by_cases e2:j=k+1
       ·rw [if_pos e2,if_pos e2]
       ·rw [if_neg e2,if_neg e2]
        have hj2:j<(lstV s l').length+1:=hj
        rw [if_neg (show ¬ j-1=k by omega),hm5 l' hl' (j-1) (by rw [hn5 l' hl']; omega)]
    ·simp only [if_neg e,e,false_and,if_false] at hj ⊢
     rw [hm5 l' hl' j (by rw [hn5 l' hl']; exact hj)]
 have hop23:x.op=2∨x.op=3:=by omega
 have hk23:=HK2.out hop23
 have hkN:k≤N l:=by rw [HV5.out.2.1 l hl3]; exact hk23.2
 have hk13:k≤13:=HK3.out hop4
 have hk1p:=hk23.1
 have hrb:rdB x=false:=by
  unfold rdB
  rcases hop23 with h | h
  ·rw [h]; rfl
  ·rw [h]; rfl
 have hwb:wrB x=true:=by
  unfold wrB
  rcases hop23 with h | h
  ·rw [h]; rfl
  ·rw [h]; rfl
 have o4:(x.op == (4:Int))=false:=by rw [beq_eq_false_iff_ne]; exact hop4
 have o1:(x.op == (1:Int))=false:=by rw [beq_eq_false_iff_ne]; omega
 have o5:(x.op == (5:Int))=false:=by rw [beq_eq_false_iff_ne]; omega
 have HrnO:=Lib.hid (HRn.out hrb)
 have Hdo:Hid (doV s t x k=putV (rdV s t x k) t l k (valS s.s t x)):=by
  show _=_
  unfold doV
  rw [if_neg (by omega),if_pos hwb,HX.out.2.2.1]
 obtain⟨vv,hvv⟩:∃ vv,vv=valS s.s t x:=⟨_,rfl⟩
 rw [← hvv] at Hdo
 have Hvv:=Lib.hid hvv
 have hO23:(x.op == (2:Int))=true∧(x.op == (3:Int))=false∨(x.op == (2:Int))=false∧(x.op == (3:Int))=true:=by
  rcases hop23 with h | h
  ·exact .inl ⟨by rw [h]; rfl,by rw [h]; rfl⟩
  ·exact .inr ⟨by rw [h]; rfl,by rw [h]; rfl⟩
 clear hvv hop23
 rcases hO23 with ⟨o2,o3⟩ | ⟨o2,o3⟩
 case' inl=>
  have hvx:x.val=vv:=by rw [Hvv.out]; unfold valS; rw [if_neg (by rw [beq_eq_false_iff_ne] at o3; exact o3)]
  obtain⟨wv,hwv⟩:∃ wv,wv=w10:=⟨_,rfl⟩
  have xc1:=(HXc.out _ OX10.out).2.1
  have Hvx:=Lib.hid hvx
  rw [hvx] at xc3
  have xc3:w10.cell? ⟨X,3,none⟩=some (.int .i64 vv):=xc3
  clear hvx
  go_upto_region 21 with (fail)
  rw [← hwv]
  rw [← hwv] at H10 OT10 OX10 hBV10
  clear hwv xc0 xc1 xc3 hX10 hT10
 case' inr=>
  have hvx:s.s.regs.getD (t*3+r) 0=vv:=by rw [Hvv.out]; unfold valS; rw [if_pos (by rw [beq_iff_eq] at o3; exact o3),HX.out.2.2.2]
  have Hvx:=Lib.hid hvx
  clear hvx
  go_upto_region 6 with (fail)
  clear xc3
  have hregN:t*3+r<p.length*3:=by omega
  have hregI:((t*3+r:Nat):Int)<((p.length*3:Nat):Int):=by omega
  have hregJ:(t:Int)*3+(r:Int)<(p.length:Int)*3:=by omega
  obtain⟨fd,hfd⟩:∃ f:Nat→Value,f=(fun d=>match d with | 41=>.pointer (some ⟨W.heap.size,1,none⟩) | 42=>.slice (some ⟨q.b2,0,none⟩) (p.length*3) q.c2 | 43=>.int .i64 (t:Int) | 44=>.pointer (some ⟨X,2,none⟩) | 45=>.int .i64 (r:Int) | 46=>.int .i64 ((t*3+r:Nat):Int) | 47=>.pointer (some ⟨q.b2,t*3+r,none⟩) | 48=>.int .i64 vv | _=>undef):=⟨_,rfl⟩
  have hf41:fd 41=.pointer (some ⟨W.heap.size,1,none⟩):=congrFun hfd 41
  have hf42:fd 42=.slice (some ⟨q.b2,0,none⟩) (p.length*3) q.c2:=congrFun hfd 42
  have hf43:fd 43=.int .i64 (t:Int):=congrFun hfd 43
  have hf44:fd 44=.pointer (some ⟨X,2,none⟩):=congrFun hfd 44
  have hf45:fd 45=.int .i64 (r:Int):=congrFun hfd 45
  have hf46:fd 46=.int .i64 ((t*3+r:Nat):Int):=congrFun hfd 46
  have hf47:fd 47=.pointer (some ⟨q.b2,t*3+r,none⟩):=congrFun hfd 47
  have hf48:fd 48=.int .i64 vv:=congrFun hfd 48
  clear hfd
  refine wp_region_rel [0,1,2,3,4,5,6,7] [8] (TEq fd) (fun _=>0) [41,42,43,44,45,46,47,48] (by kernel_rfl) (by kernel_rfl) rfl (by simp) teq_nx teq_blk ?_ ?_
  ·refine⟨?_,?_,?_,?_,?_,?_,?_,?_,trivial⟩
   all_goals (intro xs w hw hdep hsep; have hbw:=nx_below hw; simp only [shpA,fillL,List.contains_cons,List.contains_nil,Nat.reduceAdd,Nat.reduceBEq,Bool.or_false,Bool.or_true,Bool.false_eq_true,↓reduceIte])
   ·go_wp2_with fail
    exact RelPost.mk (Nx.refl _) _ rfl hf41.symm rfl
   ·have e41:xs 41=.pointer (some ⟨W.heap.size,1,none⟩):=(show xs 41=fd 41 from hdep 41 (List.mem_of_elem_eq_true (by kernel_rfl))).trans hf41
    have q0:=(HR.out w (hBV10.trans (hbw.mono hBV10.size))).1.2
    rw [e41]
    go_wp2_with fail
    exact RelPost.mk (Nx.refl _) _ rfl hf42.symm rfl
   ·go_wp2_with fail
    exact RelPost.mk (Nx.refl _) _ rfl hf43.symm rfl
   ·go_wp2_with fail
    exact RelPost.mk (Nx.refl _) _ rfl hf44.symm rfl
   ·have e44:xs 44=.pointer (some ⟨X,2,none⟩):=(show xs 44=fd 44 from hdep 44 (List.mem_of_elem_eq_true (by kernel_rfl))).trans hf44
    have q0:=(HXc.out w (OX10.out.under hbw)).2.2
    rw [e44]
    go_wp2_with fail
    exact RelPost.mk (Nx.refl _) _ rfl hf45.symm rfl
   ·have e43:xs 43=.int .i64 (t:Int):=(show xs 43=fd 43 from hdep 43 (List.mem_of_elem_eq_true (by kernel_rfl))).trans hf43
    have e45:xs 45=.int .i64 (r:Int):=(show xs 45=fd 45 from hdep 45 (List.mem_of_elem_eq_true (by kernel_rfl))).trans hf45
    rw [e43,e45]
    have hcc:=l3Reg_any t r (by omega) (by omega) w
    go_wp2_with fail
    refine hcc.mono ?_
    rintro ec wc ⟨rfl,hbc⟩
    go_wp2_with fail
    exact RelPost.mk hbc _ rfl hf46.symm rfl
   ·have e42:xs 42=.slice (some ⟨q.b2,0,none⟩) (p.length*3) q.c2:=(show xs 42=fd 42 from hdep 42 (List.mem_of_elem_eq_true (by kernel_rfl))).trans hf42
    have e46:xs 46=.int .i64 ((t*3+r:Nat):Int):=(show xs 46=fd 46 from hdep 46 (List.mem_of_elem_eq_true (by kernel_rfl))).trans hf46
    rw [e42,e46]
    go_wp2_with fail
    exact RelPost.mk (Nx.refl _) _ rfl hf47.symm rfl
   ·have e47:xs 47=.pointer (some ⟨q.b2,t*3+r,none⟩):=(show xs 47=fd 47 from hdep 47 (List.mem_of_elem_eq_true (by kernel_rfl))).trans hf47
    have q0:=(show w.cell? ⟨q.b2,t*3+r,none⟩=some (.int .i64 vv) from by rw [← Hvx.out]; exact (HR.out w (hBV10.trans (hbw.mono hBV10.size))).2.1.regs _ hregN)
    rw [e47]
    go_wp2_with fail
    exact RelPost.mk (Nx.refl _) _ rfl hf48.symm rfl
  intro xs wv hw hT hsep
  have hbw:=nx_below hw
  have e48:xs 48=.int .i64 vv:=(show xs 48=fd 48 from hT 48 (List.mem_of_elem_eq_true (by kernel_rfl))).trans hf48
  show wpList _ _ _ [_] _ _
  simp only [shpA,fillL,List.contains_cons,List.contains_nil,Nat.reduceAdd,Nat.reduceBEq,Bool.or_false,Bool.or_true,Bool.false_eq_true,↓reduceIte]
  rw [e48]
  clear hT hsep hw e48 hf41 hf42 hf43 hf44 hf45 hf46 hf47 hf48
  generalize xs 41=u41x
  generalize xs 42=u42x
  generalize xs 43=u43x
  generalize xs 44=u44x
  generalize xs 45=u45x
  generalize xs 46=u46x
  generalize xs 47=u47x
  have OTv:=OT10.out.under hbw
  have OXv:=OX10.out.under hbw
  have H10v:=H10.out.under hbw
  have hBVv:=hBV10.trans (hbw.mono hBV10.size)
  clear OT10 OX10 H10 hBV10 xc0 hX10 hT10
  have OT10:=Lib.hid OTv
  have OX10:=Lib.hid OXv
  have H10:=Lib.hid H10v
  have hBV10:=hBVv
  clear OTv OXv H10v hBVv hbw
  have xc0:=OX10.out.cell (i:=0) rfl
  have xc1:=(HXc.out _ OX10.out).2.1
  have hX10:=OX10.out.lt
  go_upto_region 21 with (fail)
  clear xc0 xc1 hX10
 all_goals
  have tc0:=OT10.out.cell (i:=0) rfl
  have tc1:=OT10.out.cell (i:=1) rfl
  have tc2:=OT10.out.cell (i:=2) rfl
  have tc3:=OT10.out.cell (i:=3) rfl
  have xc1:=(HXc.out _ OX10.out).2.1
  have hX10:=OX10.out.lt
  have hT10:=OT10.out.lt
  have hin:=l5Insert_any wv V.heap.size p.length q5 _ _ Vf N Lb Lc M κ H10.out hp3 hBV10.size t l k vv ht hl3 hk1p hkN (fun j hj=>by rw [HV5.out.2.1 j hj]; have:=lens_le Hp.out Hs.out hj; omega) (fun u hu=>by rw [HV5.out.1 u hu]; exact own_bytes Hp.out Hs.out u) (fun l' hl' j hj=>by rw [HV5.out.2.2 l' hl' j hj]; exact msg_bytes Hp.out Hs.out hl' (by rw [← HV5.out.2.1 l' hl']; exact hj))
  unfold v5 v5C at hin
  go_wp2_with fail
  refine hin.mono ?_
  rintro e16 w16 ⟨rfl,⟨V',N',Lb',Lc',M',κ',ho16,hv16,hn16,hm16⟩,hf16⟩
  have H16:=Lib.hid ho16
  have HF16:=Lib.hid (And.intro hv16 (And.intro hn16 hm16))
  have OT16:=Lib.hid (hf16.own OT10.out (by decide) (by decide))
  have hBV16:Below V.heap.size V w16:=hf16.below hBV10 (Nat.le_refl _) hBV10.size
  clear hin ho16 hv16 hn16 hm16 hf16 tc0 tc1 tc2 tc3 xc1 hX10 hT10 H10 OT10 OX10 hBV10
  have oRr:=(HR.out w16 hBV16).2.2.1
  have p0:=oRr.cell (i:=0) rfl
  have p1:=oRr.cell (i:=1) rfl
  have p2:=oRr.cell (i:=2) rfl
  have p3:=oRr.cell (i:=3) rfl
  have f0:=oRr.frozen 0
  have f1:=oRr.frozen 1
  have f2:=oRr.frozen 2
  have f3:=oRr.frozen 3
  have hRl:=oRr.lt
  have q0:=OT16.out.cell (i:=0) rfl
  have q1:=OT16.out.cell (i:=1) rfl
  have q2:=OT16.out.cell (i:=2) rfl
  have q3:=OT16.out.cell (i:=3) rfl
  have hTl:=OT16.out.lt
  clear oRr
  go_wp2_with fail
  refine bodyPost_ret (v:=.agg #[.slice (some ⟨q5.b1,0,none⟩) p.length q5.c1,.slice (some ⟨q5.b2,0,none⟩) (p.length*3) q5.c2,.slice (some ⟨q5.b3,0,none⟩) p.length q5.c3,.slice (some ⟨q5.b4,0,none⟩) 3 q5.c4]) (by simp [results,Tryz.results84,go_sem,p0,p1,p2,p3]) rfl ?_
  rw [Hdo.out]
  refine HEnd.out _ _ _ _ _ _ _ _ _ _ H16.out ?_ hBV16
  obtain⟨hv5,hn5,hm5⟩:=HV5.out
  obtain⟨hv16,hn16,hm16⟩:=HF16.out
  have hls:=Hs.out.len
  have hol:(rdV s t x k).own.length=p.length:=by
   show (if rdB x=true then s.own.set t _ else s.own).length=_
   rw [if_neg (by rw [hrb]; decide)]
   exact Hs.out.ownl
  have hob:=HrnO.out.put (t:=t) (l:=l) (k:=k) hls hol vv ht hl3 hk23.2
  simp only [hrb,Bool.false_eq_true,false_and,if_false] at hob
  refine hob.congr (fun u hu=>?_) (fun i hi=>rfl) (fun u hu=>?_) (fun l' hl'=>?_) fun l' hl' j hj=>?_
  ·by_cases e:u=t
   ·simp only [if_pos e]
    rw [Hjj.out]
   ·simp only [if_neg e]
  ·show (V' u).v=_
   rw [hv16 u hu,hv5 t ht,hv5 u hu]
  ·rw [hn16 l' hl',hn5 l hl3]
   by_cases e:l'=l
   ·simp only [if_pos e]
   ·simp only [if_neg e]
    exact hn5 l' hl'
  ·have hj':j<N' l':=by
    rw [hn16 l' hl',hn5 l hl3]
    by_cases e:l'=l
    ·simp only [if_pos e] at hj ⊢
     exact hj
    ·simp only [if_neg e] at hj ⊢
     rw [hn5 l' hl']
     exact hj
   show (M' l' j).m=_
   rw [hm16 l' hl' j hj',hv5 t ht]
   by_cases e:l'=l
   ·subst e
    simp only [if_true] at hj ⊢
    by_cases e1:j<k
    ·rw [if_pos e1,if_pos e1,hm5 l' hl' j (by omega)]
    ·rw [if_neg e1,if_neg e1]
     by_cases e2:j=k
     ·rw [if_pos e2,if_pos e2]
     ·rw [if_neg e2,if_neg e2,hm5 l' hl' (j-1) (by rw [hn5 l' hl']; omega)]
   ·simp only [if_neg e] at hj ⊢
    rw [hm5 l' hl' j (by rw [hn5 l' hl']; exact hj)]
end Go.Proofs.YtojmofnamppbdaaGreat
namespace Go.Proofs.YtojmofnamppbdaaGreat
open Go.RowKit
set_option linter.unusedVariables false
set_option maxRecDepth 100000
def TabK (w:World) (g:Nat) (bs:Nat→Option Nat) (ks:List ByteArray):Prop:=∃ xss,TabM w g xss bs∧(∀ k,k∈xss (hashS k)↔k∈ks)∧∀ i,(xss i).length≤ks.length
theorem TabK.mark {w':World} {g:Nat} {bs':Nat→Option Nat} {ks:List ByteArray} {s:ByteArray} {xss:Nat→List ByteArray} (h1:∀ k,k∈xss (hashS k)↔k∈ks) (h2:∀ i,(xss i).length≤ks.length) (h:TabM w' g (fun i=>if i=hashS s then xss (hashS s)++[s] else xss i) bs'):TabK w' g bs' (ks++[s]):=by
 refine⟨_,h,fun k=>?_,fun i=>?_⟩
 ·by_cases e:hashS k=hashS s
  ·simp only [if_pos e]
   rw [← e,List.mem_append,h1,List.mem_append]
  ·simp only [if_neg e]
   rw [h1,List.mem_append]
   refine⟨.inl,fun h=>h.resolve_right fun hm=>e ?_⟩
   rw [List.mem_singleton.1 hm]
 ·have:=h2 i
  have h3:=h2 (hashS s)
  split
  ·simp only [List.length_append,List.length_singleton]; omega
  ·simp only [List.length_append,List.length_singleton]; omega
def OwQ (g R:Nat) (bs:Nat→Option Nat) (o:Option Nat) (b:Nat):Prop:=OwT g bs b∨o=some b∨b=R
def HQ (B g R:Nat) (bs:Nat→Option Nat) (o:Option Nat) (b:Nat):Prop:=OwQ g R bs o b∨b<B
theorem putL_length:∀ (L:List (List Int)) (o:List Int),(putL L o).length≤L.length+1
 | [],o=>by simp [putL]
 | a::L,o=>by
  have:=putL_length L o
  rw [putL]
  split
  ·simp only [List.length_cons]; omega
  ·split
   ·simp
   ·simp
def Wh {σ:Type} (done:σ→Bool) (out:σ→List Int) (V K:List σ) (L:List (List Int)):Prop:=Asc L∧(∀ y,y∈L↔∃ s∈V,s∉K∧done s=true∧out s=y)∧L.length+K.length≤V.length
section
variable {σ:Type} {done:σ→Bool} {out:σ→List Int} {V K:List σ} {L:List (List Int)} {s:σ}
theorem Wh.start (s0:σ):Wh done out [s0] [s0] []:=⟨by simp [Asc],fun y=>⟨fun h=>by simp at h,fun⟨s,h1,h2,_⟩=>absurd h1 h2⟩,by simp⟩
theorem Wh.pop (h:Wh done out V (K++[s]) L) (hd:done s=false):Wh done out V K L:=by
 obtain⟨h1,h2,h3⟩:=h
 refine⟨h1,fun y=>(h2 y).trans ⟨?_,?_⟩,by simp only [List.length_append,List.length_singleton] at h3; omega⟩
 ·rintro ⟨t,k1,k2,k3,k4⟩
  exact⟨t,k1,fun hm=>k2 (List.mem_append_left _ hm),k3,k4⟩
 ·rintro ⟨t,k1,k2,k3,k4⟩
  refine⟨t,k1,fun hm=>?_,k3,k4⟩
  rcases List.mem_append.1 hm with hm | hm
  ·exact k2 hm
  ·rw [List.mem_singleton.1 hm,hd] at k3
   cases k3
theorem Wh.popOut (h:Wh done out V (K++[s]) L) (hd:done s=true) (hs:s∈V) (hk:s∉K):Wh done out V K (putL L (out s)):=by
 obtain⟨h1,h2,h3⟩:=h
 refine⟨putL_asc _ _ h1,fun y=>?_,by have:=putL_length L (out s); simp only [List.length_append,List.length_singleton] at h3; omega⟩
 rw [putL_mem,h2]
 constructor
 ·rintro (rfl | ⟨t,k1,k2,k3,k4⟩)
  ·exact⟨s,hs,hk,hd,rfl⟩
  ·exact⟨t,k1,fun hm=>k2 (List.mem_append_left _ hm),k3,k4⟩
 ·rintro ⟨t,k1,k2,k3,k4⟩
  by_cases e:out t=out s
  ·left; rw [← k4,e]
  ·refine .inr ⟨t,k1,fun hm=>?_,k3,k4⟩
   rcases List.mem_append.1 hm with hm | hm
   ·exact k2 hm
   ·exact e (by rw [List.mem_singleton.1 hm])
theorem Wh.new (h:Wh done out V K L) (hs:s∉V):Wh done out (V++[s]) (K++[s]) L:=by
 obtain⟨h1,h2,h3⟩:=h
 refine⟨h1,fun y=>(h2 y).trans ⟨?_,?_⟩,by simp only [List.length_append,List.length_singleton]; omega⟩
 ·rintro ⟨t,k1,k2,k3,k4⟩
  refine⟨t,List.mem_append_left _ k1,fun hm=>?_,k3,k4⟩
  rcases List.mem_append.1 hm with hm | hm
  ·exact k2 hm
  ·exact hs (by rw [← List.mem_singleton.1 hm]; exact k1)
 ·rintro ⟨t,k1,k2,k3,k4⟩
  rcases List.mem_append.1 k1 with k1 | k1
  ·exact⟨t,k1,fun hm=>k2 (List.mem_append_left _ hm),k3,k4⟩
  ·exact absurd (List.mem_append_right _ k1) k2
theorem Wh.len (h:Wh done out V K L) {m:Nat} (ho:∀ s∈V,(out s).length=m):∀ x∈L,x.length=m:=fun x hx=>by
 obtain⟨s,h1,_,_,h4⟩:=(h.2.1 x).1 hx
 rw [← h4]
 exact ho s h1
end
theorem Tryz.infoSs:(Tryz.prog.info? 127).map (fun i=>(i.zero,i.size,i.bytes))=some (some (.slice none 0 0),1,24):=by kernel_rfl
theorem snoc_casesQ {α:Type} (l:List α):l=[]∨∃ L b,l=L++[b]:=by
 rcases List.eq_nil_or_concat l with h | ⟨L,b,h⟩
 ·exact .inl h
 ·exact .inr ⟨L,b,by rw [h,List.concat_eq_append]⟩
def RetSq {σ:Type} (succ:σ→List σ) (s0:σ) (done:σ→Bool) (out:σ→List Int) (W:World) (e:Ending) (W':World):Prop:=
 ∃ (V:List σ) (L:List (List Int)) (go oo co:Nat),e=.returned (.agg #[.int .i64 (V.length:Int),.slice (some ⟨go,oo,none⟩) L.length co])∧Dfs succ s0 V []∧Wh done out V [] L∧Intss (above W.heap.size W') (some ⟨go,oo,none⟩) co L∧W.heap.size≤W'.heap.size∧Below W.heap.size W W'
def QS5 (p:Prg) (W:World) (cs:Nat→Value) (s:VSt):Prop:=∃ q:L5,cs 0=.slice (some ⟨q.b1,0,none⟩) p.length q.c1∧cs 1=.slice (some ⟨q.b2,0,none⟩) (p.length*3) q.c2∧cs 2=.slice (some ⟨q.b3,0,none⟩) p.length q.c3∧cs 3=.slice (some ⟨q.b4,0,none⟩) 3 q.c4∧Rep5 W q p s
theorem qs5_congr (p:Prg) (W:World):∀ (f g:Nat→Value) (x:VSt),(∀ j,j<4→f j=g j)→QS5 p W f x→QS5 p W g x:=fun f g x h ⟨q,e0,e1,e2,e3,hr⟩=>
 ⟨q,(h 0 (by omega)).symm.trans e0,(h 1 (by omega)).symm.trans e1,(h 2 (by omega)).symm.trans e2,(h 3 (by omega)).symm.trans e3,hr⟩
theorem QS5.le {p:Prg} {W W':World} (hl:Le W W') {cs:Nat→Value} {x:VSt}:QS5 p W cs x→QS5 p W' cs x:=fun⟨q,e0,e1,e2,e3,hr⟩=>⟨q,e0,e1,e2,e3,hr.le hl⟩
structure SrV (p:Prg) (B g R:Nat) (w:World) (bs:Nat→Option Nat) (v4:Value) (n:Int) (ks:List ByteArray) (K:List VSt) (L:List (List Int)) (go oo co:Nat):Prop where
 tab:TabK w g bs ks
 stk:RowOf 4 (QS5 p (hidP (HQ B g R bs v4.ownBlock) w)) w B 73 v4 K
 outs:Intss (hidP (HQ B g R bs v4.ownBlock) w) (some ⟨go,oo,none⟩) co L
 cap:L.length≤co∧co≤9223372036854775807
 cell:Own w R 58 #[.int .i64 n,.slice (some ⟨go,oo,none⟩) L.length co]
 sep4:∀ b,v4.ownBlock=some b→¬ OwT g bs b∧b≠R
 sepR:¬ OwT g bs R
 low:∀ b,OwQ g R bs v4.ownBlock b→B≤b
section
variable {p:Prg} {B g R:Nat} {w w':World} {bs bs':Nat→Option Nat} {v4 v4':Value} {n n':Int} {ks:List ByteArray} {K:List VSt} {L L':List (List Int)} {go oo co go' oo' co':Nat}
theorem TabK.lt (h:TabK w g bs ks) {b:Nat} (hb:OwT g bs b):b<w.heap.size:=by
 obtain⟨_,h,_⟩:=h
 exact h.lt hb
theorem SrV.lt (h:SrV p B g R w bs v4 n ks K L go oo co) {b:Nat} (hb:OwQ g R bs v4.ownBlock b):b<w.heap.size:=by
 rcases hb with hb | hb | hb
 ·exact h.tab.lt hb
 ·exact (h.stk.blk hb).2
 ·rw [hb]; exact h.cell.lt
theorem SrV.ltH (h:SrV p B g R w bs v4 n ks K L go oo co) (hB:B≤w.heap.size) {b:Nat} (hb:HQ B g R bs v4.ownBlock b):b<w.heap.size:=by
 rcases hb with hb | hb
 ·exact h.lt hb
 ·omega
theorem SrV.leB (h:SrV p B g R w bs v4 n ks K L go oo co) (hb:Below w.heap.size w w'):Le (hidP (HQ B g R bs v4.ownBlock) w) (hidP (HQ B g R bs v4.ownBlock) w'):=Le.hidP_below hb (fun _ _=>.inr trivial)
theorem TabK.move (h:TabK w g bs ks) (hb:∀ b,OwT g bs b→w'.heap[b]?=w.heap[b]?):TabK w' g bs ks:=by
 obtain⟨xss,h,h1,h2⟩:=h
 exact⟨xss,h.move hb,h1,h2⟩
theorem SrV.below (h:SrV p B g R w bs v4 n ks K L go oo co) (hb:Below w.heap.size w w'):SrV p B g R w' bs v4 n ks K L go oo co:=
 ⟨h.tab.move fun b hm=>hb.block b (h.tab.lt hm),((h.stk.imp fun cs x hq=>QS5.le (h.leB hb) hq).below hb),h.outs.le (h.leB hb),h.cap,h.cell.under hb,h.sep4,h.sepR,h.low⟩
theorem SrV.pop {s:VSt} (h:SrV p B g R w bs v4 n ks (K++[s]) L go oo co):∃ g4 c cs,v4=.slice (some ⟨g4,0,none⟩) (K.length+1) c∧g4<w.heap.size∧K.length<c∧c≤9223372036854775807∧(∀ j,j<4→w.cell? ⟨g4,K.length*4+j,none⟩=some (cs j))∧QS5 p (hidP (HQ B g R bs (some g4)) w) cs s∧SrV p B g R w bs (.slice (some ⟨g4,0,none⟩) K.length c) n ks K L go oo co:=by
 obtain⟨g4,c,cs,hv,hg,hl,hc,hc9,hcell,hq,hrow⟩:=RowOf.pop (qs5_congr _ _) (by omega) h.stk
 subst hv
 exact⟨g4,c,cs,rfl,hl,hc,hc9,hcell,hq,h.tab,hrow,h.outs,h.cap,h.cell,h.sep4,h.sepR,h.low⟩
theorem mv_setR (i:Nat) (u:Value):MvP (fun b=>b=R) w (w.setCell ⟨R,i,none⟩ u):=⟨rfl,rfl,rfl,by simp,fun b _ hn=>Go.Deep.blk_setCell_other _ _ _ _ (fun e=>hn (by simpa using e))⟩
theorem SrV.leR (h:SrV p B g R w bs v4 n ks K L go oo co) (i:Nat) (u:Value):Le (hidP (HQ B g R bs v4.ownBlock) w) (hidP (HQ B g R bs v4.ownBlock) (w.setCell ⟨R,i,none⟩ u)):=Le.hidP_mv (mv_setR i u) (fun _ _ e=>.inl (.inr (.inr e))) (fun _ h=>.inl h)
theorem SrV.setR (h:SrV p B g R w bs v4 n ks K L go oo co) {i:Nat} {u:Value} (ho:Own (w.setCell ⟨R,i,none⟩ u) R 58 #[.int .i64 n',.slice (some ⟨go',oo',none⟩) L'.length co']) (hc:L'.length≤co'∧co'≤9223372036854775807) (hL:Intss (hidP (HQ B g R bs v4.ownBlock) w) (some ⟨go',oo',none⟩) co' L'):SrV p B g R (w.setCell ⟨R,i,none⟩ u) bs v4 n' ks K L' go' oo' co':=
 ⟨h.tab.move fun b hm=>Go.Deep.blk_setCell_other _ _ _ _ (fun e=>h.sepR (by rw [← show b=R from e]; exact hm)),(h.stk.imp fun cs x hq=>QS5.le (h.leR i u) hq).of_block fun b _ hb _=>Go.Deep.blk_setCell_other _ _ _ _ (fun e=>(h.sep4 b hb).2 e),hL.le (h.leR i u),hc,ho,h.sep4,h.sepR,h.low⟩
theorem SrV.leM (h:SrV p B g R w bs v4 n ks K L go oo co) (hm:MvP (OwT g bs) w w') (hb:∀ b,OwT g bs' b→OwT g bs b∨w.heap.size≤b):Le (hidP (HQ B g R bs v4.ownBlock) w) (hidP (HQ B g R bs' v4.ownBlock) w'):=
 Le.hidP_mv hm (fun _ _ e=>.inl (.inl e)) fun b hq=>by
  rcases hq with (hq | hq | hq) | hq
  ·exact (hb b hq).imp (fun h=>.inl (.inl h)) id
  ·exact .inl (.inl (.inr (.inl hq)))
  ·exact .inl (.inl (.inr (.inr hq)))
  ·exact .inl (.inr hq)
theorem SrV.mark {s:ByteArray} {xss:Nat→List ByteArray} (h:SrV p B g R w bs v4 n ks K L go oo co) (h1:∀ k,k∈xss (hashS k)↔k∈ks) (h2:∀ i,(xss i).length≤ks.length) (ht:TabM w' g (fun i=>if i=hashS s then xss (hashS s)++[s] else xss i) bs') (hm:MvP (OwT g bs) w w') (hb:∀ b,OwT g bs' b→OwT g bs b∨w.heap.size≤b) (hBw:B≤w.heap.size):SrV p B g R w' bs' v4 n (ks++[s]) K L go oo co:=by
 have h4:∀ b,v4.ownBlock=some b→w'.heap[b]?=w.heap[b]?:=fun b hv=>hm.block b (h.stk.blk hv).2 (h.sep4 b hv).1
 refine⟨TabK.mark h1 h2 ht,(h.stk.imp fun cs x hq=>QS5.le (h.leM hm hb) hq).of_block fun b _ hv _=>h4 b hv,h.outs.le (h.leM hm hb),h.cap,h.cell.of_block (hm.block R h.cell.lt h.sepR),fun b hv=>⟨fun ho=>?_,(h.sep4 b hv).2⟩,fun ho=>?_,fun b hq=>?_⟩
 ·rcases hb b ho with ho | ho
  ·exact (h.sep4 b hv).1 ho
  ·have:=(h.stk.blk hv).2; omega
 ·rcases hb R ho with ho | ho
  ·exact h.sepR ho
  ·have:=h.cell.lt; omega
 ·rcases hq with hq | hq | hq
  ·rcases hb b hq with ho | ho
   ·exact h.low b (.inl ho)
   ·omega
  ·exact h.low b (.inr (.inl hq))
  ·exact h.low b (.inr (.inr hq))
theorem SrV.leP (h:SrV p B g R w bs v4 n ks K L go oo co) (hg:w.grownBy w' v4.ownBlock) (h4:∀ b,v4'.ownBlock=some b→v4.ownBlock=some b∨w.heap.size≤b):Le (hidP (HQ B g R bs v4.ownBlock) w) (hidP (HQ B g R bs v4'.ownBlock) w'):=
 Le.hidP_mv (q:=fun b=>v4.ownBlock=some b) (.of_grown hg fun _ h=>h) (fun _ _ e=>.inl (.inr (.inl e))) fun b hq=>by
  rcases hq with (hq | hq | hq) | hq
  ·exact .inl (.inl (.inl hq))
  ·exact (h4 b hq).imp (fun h=>.inl (.inr (.inl h))) id
  ·exact .inl (.inl (.inr (.inr hq)))
  ·exact .inl (.inr hq)
theorem SrV.push {s:VSt} (h:SrV p B g R w bs v4 n ks K L go oo co) (hg:w.grownBy w' v4.ownBlock) (h4:∀ b,v4'.ownBlock=some b→v4.ownBlock=some b∨w.heap.size≤b) (hBw:B≤w.heap.size) (hr:RowOf 4 (QS5 p (hidP (HQ B g R bs v4'.ownBlock) w')) w' B 73 v4' (K++[s])):SrV p B g R w' bs v4' n ks (K++[s]) L go oo co:=by
 refine⟨h.tab.move fun b hm=>World.grownBy.block hg b (h.tab.lt hm) (fun e=>(h.sep4 b e.symm).1 hm),hr,h.outs.le (h.leP hg h4),h.cap,h.cell.of_block (World.grownBy.block hg R h.cell.lt fun e=>(h.sep4 R e.symm).2 rfl),fun b hv=>?_,h.sepR,fun b hq=>?_⟩
 ·rcases h4 b hv with hv | hv
  ·exact h.sep4 b hv
  ·exact⟨fun ho=>by have:=h.tab.lt ho; omega,fun e=>by have:=h.cell.lt; omega⟩
 ·rcases hq with hq | hq | hq
  ·exact h.low b (.inl hq)
  ·rcases h4 b hq with hv | hv
   ·exact h.low b (.inr (.inl hv))
   ·omega
  ·exact h.low b (.inr (.inr hq))
end
structure QCur5 (a:World) (S:Nat) (q:L5) (p:Prg) (s:VSt):Prop where
 q0:a.cell? ⟨S,0,none⟩=some (.slice (some ⟨q.b1,0,none⟩) p.length q.c1)
 q1:a.cell? ⟨S,1,none⟩=some (.slice (some ⟨q.b2,0,none⟩) (p.length*3) q.c2)
 q2:a.cell? ⟨S,2,none⟩=some (.slice (some ⟨q.b3,0,none⟩) p.length q.c3)
 q3:a.cell? ⟨S,3,none⟩=some (.slice (some ⟨q.b4,0,none⟩) 3 q.c4)
 rep:Rep5 a q p s
theorem QCur5.le {a a':World} {S:Nat} {q:L5} {p:Prg} {s:VSt} (h:QCur5 a S q p s) (hl:Le a a'):QCur5 a' S q p s:=⟨hl _ _ h.q0,hl _ _ h.q1,hl _ _ h.q2,hl _ _ h.q3,h.rep.le hl⟩
theorem QCur5.below {P:Nat→Prop} {w w':World} {S:Nat} {q:L5} {p:Prg} {s:VSt} (h:QCur5 (hidP P w) S q p s) (hb:Below w.heap.size w w'):QCur5 (hidP P w') S q p s:=h.le (Le.hidP_below hb (fun _ _=>.inr trivial))
theorem QCur5.new {P:Nat→Prop} {w:World} {q:L5} {p:Prg} {s:VSt} {t:TypeId} (hP:∀ b,P b→b<w.heap.size) (hr:Rep5 (hidP P w) q p s):QCur5 (hidP P (w.alloc (.cells (v5C q p.length) t))) w.heap.size q p s:=by
 have ho:=Own.new w t (v5C q p.length)
 have hn:¬ P w.heap.size:=fun h=>by have:=hP _ h; omega
 exact⟨cell_hidP.2 ⟨hn,ho.cell (i:=0) rfl⟩,cell_hidP.2 ⟨hn,ho.cell (i:=1) rfl⟩,cell_hidP.2 ⟨hn,ho.cell (i:=2) rfl⟩,cell_hidP.2 ⟨hn,ho.cell (i:=3) rfl⟩,hr.le (Le.hidP_below ((Below.refl _ _).alloc (Nat.le_refl _) _) (fun _ _=>.inr trivial))⟩
theorem QCur5.size {P:Nat→Prop} {w:World} {S:Nat} {q:L5} {p:Prg} {s:VSt} (h:QCur5 (hidP P w) S q p s):S<w.heap.size:=World.block_lt_of_cell? _ _ (cell_hidP.1 h.q0).2
theorem SrV.start {p:Prg} {B g R:Nat} {w:World} {bs:Nat→Option Nat} {b4 go:Nat} {k:ByteArray} {s:VSt} {q:L5} (ht:TabK w g bs [k]) (h4:Own w b4 73 (v5C q p.length))
  (hr:Rep5 (hidP (HQ B g R bs (some b4)) w) q p s) (hR:Own w R 58 #[.int .i64 0,.slice (some ⟨go,0,none⟩) 0 0]) (hs4:¬ OwT g bs b4∧b4≠R) (hsR:¬ OwT g bs R) (hlow:∀ b,OwQ g R bs (some b4) b→B≤b):
  SrV p B g R w bs (.slice (some ⟨b4,0,none⟩) 1 1) 0 [k] [s] [] go 0 0:=
 ⟨ht,⟨(v5C q p.length).toList,⟨by simp [v5C],.inr ⟨b4,1,_,rfl,hlow _ (.inr (.inl rfl)),h4,by simp,by simp [maxLen],by simp [v5C],by simp [v5C]⟩⟩,fun i hi=>by
  obtain rfl:i=0:=by simpa using hi
  exact⟨q,rfl,rfl,rfl,rfl,hr⟩⟩,⟨_,_,rfl,by simp,fun i hi=>absurd hi (Nat.not_lt_zero _)⟩,⟨Nat.le_refl _,by omega⟩,hR,fun b hb=>by
  injection hb with hb
  simp only at hb
  subst hb
  exact hs4,hsR,hlow⟩
end Go.Proofs.YtojmofnamppbdaaGreat
namespace Go.Proofs.YtojmofnamppbdaaGreat
open Go.RowKit
set_option linter.unusedVariables false
set_option maxRecDepth 100000
theorem Tryz.infoS5:(Tryz.prog.info? 73).map (fun i=>(i.zero,i.size,i.bytes))=some (some (.agg #[.slice none 0 0,.slice none 0 0,.slice none 0 0,.slice none 0 0]),4,96):=by kernel_rfl
theorem keyVS_len {p:Prg} (hp:PrgOk p) {s:VSt} (hs:VOk p s):(keyVS s).size≤1000000:=by
 rw [← key5_eq hp hs,strOfNums_size]
 have h3:=hp.1.1
 have h1:=k3_len s p.length
 have h2:=k4_len (s:=s) (fun l hl=>(lens_le hp hs hl).2) 3 (Nat.le_refl _)
 simp only [List.length_append,k1I,k2I,List.length_map,List.length_range]
 omega
def NxO (B:Nat) (p:Prg) (nx:VSt) (w:World) (v:Value):Prop:=∃ q P G V N Lb Lc M κ,v=.agg #[.slice (some ⟨q.b1,0,none⟩) p.length q.c1,.slice (some ⟨q.b2,0,none⟩) (p.length*3) q.c2,.slice (some ⟨q.b3,0,none⟩) p.length q.c3,.slice (some ⟨q.b4,0,none⟩) 3 q.c4]∧Own5 w B q p.length P G V N Lb Lc M κ∧ObP p nx P G (fun u=>(V u).v) N (fun l j=>(M l j).m)
theorem NxO.nx {B:Nat} {p:Prg} {nx:VSt} {w w':World} {v:Value} (hb:Nx w w') (h:NxO B p nx w v):NxO B p nx w' v:=by
 obtain⟨q,P,G,V,N,Lb,Lc,M,κ,h1,h2,h3⟩:=h
 exact⟨q,P,G,V,N,Lb,Lc,M,κ,h1,h2.under (show Below w.heap.size w w' from hb),h3⟩
def TN5 (f:Nat→Value) (B:Nat) (p:Prg) (nx:VSt) (d:Nat) (w:World) (v:Value):Prop:=if d=71 then NxO B p nx w v else if d=9 then HasB B 73 #[.slice none 0 0,.slice none 0 0,.slice none 0 0,.slice none 0 0] w v else v=f d
theorem tn5_nx {f:Nat→Value} {B:Nat} {p:Prg} {nx:VSt}:∀ d w w' v,Nx w w'→TN5 f B p nx d w v→TN5 f B p nx d w' v:=fun d w w' v hb h=>by
 unfold TN5 at h ⊢
 split at h
 ·rename_i e
  rw [if_pos e]
  exact h.nx hb
 ·rename_i e
  rw [if_neg e]
  split at h
  ·rename_i e
   rw [if_pos e]
   exact h.nx hb
  ·rename_i e
   rw [if_neg e]
   exact h
def TV5 (R go oo co Ln Vz:Nat) (ag:Value) (os:List Int) (M:List (List Int)) (P:Nat→Prop) (d:Nat) (w:World) (v:Value):Prop:=
 match d with
 | 44=>v=.pointer (some ⟨R,1,none⟩)
 | 45=>v=.slice (some ⟨go,oo,none⟩) Ln co
 | 46=>v=ag
 | 47=>HasI Vz os w v
 | 48=>∃ g o c,v=.slice (some ⟨g,o,none⟩) M.length c∧M.length≤c∧c≤9223372036854775807∧Intss (hidP P w) (some ⟨g,o,none⟩) c M
 | _=>True
theorem tv5_nx {R go oo co Ln Vz:Nat} {ag:Value} {os:List Int} {M:List (List Int)} {P:Nat→Prop}:∀ d w w' v,Nx w w'→TV5 R go oo co Ln Vz ag os M P d w v→TV5 R go oo co Ln Vz ag os M P d w' v:=fun d w w' v hb h=>by
 unfold TV5 at h ⊢
 split at h <;> first | exact h | exact HasI.nx hb h | (obtain⟨g,o,c,e,h1,h2,h3⟩:=h; exact⟨g,o,c,e,h1,h2,h3.le (Le.hidP_below hb (fun _ _=>.inr trivial))⟩) | trivial
theorem tv5_blk {R go oo co Ln Vz:Nat} {ag:Value} {os:List Int} {M:List (List Int)} {P:Nat→Prop}:∀ d w v b,TV5 R go oo co Ln Vz ag os M P d w v→(fun _=>0:Nat→Nat) d≠0→blkV v=some b→b<w.heap.size:=fun _ _ _ _ _ h=>absurd rfl h
set_option maxHeartbeats 4000000 in
theorem l5Run_any (p:Prg) (hp:PrgOk p) (W:World) (vp:Value) (hpr:PrgS W vp p):
  Calls Tryz.prog 45 #[vp] W (RetSq (sucV p) (vt0 p) (doneV p) outV W):=by
 obtain⟨Ap,cp,rfl,hpl⟩:=SlR.slice hpr
 obtain⟨i0,hi0,hz0,hz1,hz2⟩:=info_parts Tryz.infoS5
 have hmk:=run_make_any (P:=Tryz.prog) 75 127 _ 1 24 Tryz.underlying75 Tryz.infoSs 4096 (by omega) (by omega)
 have hmkT:∀ w,(Instr.makeSlice 75 (.int .i64 4096) (.int .i64 4096)).run Tryz.prog w=.ok (.slice (some ⟨w.heap.size,0,none⟩) 4096 4096) (w.alloc (.cells (madeCells #[.slice none 0 0] 4096) 127)):=fun w=>hmk w
 obtain⟨cur,hcur⟩:∃ cur,cur=madeCells #[Value.slice none 0 0] 4096:=⟨_,rfl⟩
 have Hcur:Hid (cur.size=4096∧∀ i,i<4096→cur[i]?=some (.slice none 0 0)):=by
  rw [hcur]
  exact⟨size_madeCells _ _,fun i hi=>by rw [← Array.getElem?_toList,made_rep,List.getElem?_replicate,if_pos hi]⟩
 rw [← hcur] at hmkT
 clear hmk hcur
 have HP:=Lib.hid hpr
 have Hp:=Lib.hid hp
 have hp3:=hp.1.1
 obtain⟨V1,hV1⟩:∃ V1,V1=(W.alloc (.cells #[.int .i64 0,.slice none 0 0] 58)).alloc (.cells cur 127):=⟨_,rfl⟩
 have hB1:Below W.heap.size W V1:=by rw [hV1]; exact ((Below.refl _ _).alloc (Nat.le_refl _) _).alloc (by simp) _
 have hs1:V1.heap.size=W.heap.size+2:=by rw [hV1]; simp
 have oR1:Own V1 W.heap.size 58 #[.int .i64 0,.slice none 0 0]:=by rw [hV1]; exact (Own.new _ _ _).alloc _
 have oT1:Own V1 (W.heap.size+1) 127 cur:=by rw [hV1]; simpa using Own.new (W.alloc (.cells #[.int .i64 0,.slice none 0 0] 58)) 127 cur
 have hst:=l5Start_any p hp V1 (.slice Ap p.length cp) (hpr.le (Le.below hB1))
 have OR1:=Lib.hid (And.intro oR1 (And.intro oT1 hs1))
 clear hpr oR1 oT1 hp
 go_enter Tryz.func45,Tryz.ntmps45
 go_upto_region 2 with (fail)
 rw [← hV1]
 clear hV1
 go_wp2_with fail
 refine hst.mono ?_
 rintro e5 w5 ⟨q,rfl,hr5,hb5⟩
 unfold v5 v5C
 clear hst hmkT
 have hok0:VOk p (vt0 p):=VOk.start p
 have Hb5:Hid (Below V1.heap.size V1 w5):=hb5
 clear hb5
 obtain⟨w6,hw6⟩:∃ w6,w6=w5.alloc (.cells #[.slice (some ⟨q.b1,0,none⟩) p.length q.c1,.slice (some ⟨q.b2,0,none⟩) (p.length*3) q.c2,.slice (some ⟨q.b3,0,none⟩) p.length q.c3,.slice (some ⟨q.b4,0,none⟩) 3 q.c4] 73):=⟨_,rfl⟩
 have hb56:Below w5.heap.size w5 w6:=by rw [hw6]; exact (Below.refl _ _).alloc (Nat.le_refl _) _
 have oB6:Own w6 w5.heap.size 73 #[.slice (some ⟨q.b1,0,none⟩) p.length q.c1,.slice (some ⟨q.b2,0,none⟩) (p.length*3) q.c2,.slice (some ⟨q.b3,0,none⟩) p.length q.c3,.slice (some ⟨q.b4,0,none⟩) 3 q.c4]:=by rw [hw6]; exact Own.new _ _ _
 have hs6:w6.heap.size=w5.heap.size+1:=by rw [hw6]; simp
 have x0:=oB6.cell (i:=0) rfl
 have x1:=oB6.cell (i:=1) rfl
 have x2:=oB6.cell (i:=2) rfl
 have x3:=oB6.cell (i:=3) rfl
 have hkey:=l5Key_any p Hp.out (vt0 p) hok0 w6 q (hr5.le ((Le.above _ _).trans (Le.below hb56)))
 unfold v5 v5C at hkey
 have OB6:=Lib.hid oB6
 have Hr5:=Lib.hid hr5
 have hl6:=oB6.lt
 have hkz:=keyVS_len Hp.out hok0
 obtain⟨ky,hky⟩:∃ ky,ky=keyVS (vt0 p):=⟨_,rfl⟩
 rw [← hky] at hkey hkz
 have Hky:=Lib.hid hky
 clear oB6 hr5 hky
 go_upto_region 3 with (fail)
 rw [← hw6]
 clear hw6
 go_wp2_with fail
 refine hkey.mono ?_
 rintro e7 w7 ⟨rfl,hb7⟩
 have Hb7:=Lib.hid hb7
 have ht7:TabM w7 (W.heap.size+1) (fun _=>[]) (fun _=>none):=((TabM.made OR1.out.2.1 Hcur.out.1 Hcur.out.2).below Hb5.out).below hb56 |>.below hb7
 have hmk:=l3Mark_any ky hkz w7 (W.heap.size+1) _ _ ht7 (by simp)
 clear hkey hb7 x0 x1 x2 x3
 go_wp2_with fail
 refine hmk.mono ?_
 rintro e8 w8 ⟨rfl,bs0,ht8,hm8,hbs8⟩
 clear hmk ht7
 obtain⟨w9,hw9⟩:∃ w9,w9=(w8.alloc (.cells #[] 31)).alloc (.cells #[.int .i64 0,.slice (some ⟨w8.heap.size,0,none⟩) 0 0] 58):=⟨_,rfl⟩
 have hs9:w9.heap.size=w8.heap.size+2:=by rw [hw9]; simp
 have hb89:Below w8.heap.size w8 w9:=by rw [hw9]; exact ((Below.refl _ _).alloc (Nat.le_refl _) _).alloc (by simp) _
 have oR9:Own w9 (w8.heap.size+1) 58 #[.int .i64 0,.slice (some ⟨w8.heap.size,0,none⟩) 0 0]:=by rw [hw9]; simpa using Own.new (w8.alloc (.cells #[] 31)) 58 #[.int .i64 0,.slice (some ⟨w8.heap.size,0,none⟩) 0 0]
 have hown0:∀ b,OwT (W.heap.size+1) (fun _=>none) b→b=W.heap.size+1:=fun b hb=>by
  rcases hb with h | ⟨_,_,h⟩
  ·exact h
  ·cases h
 have hs1:=OR1.out.2.2
 have hs15:V1.heap.size≤w5.heap.size:=Hb5.out.size
 have hs67:w6.heap.size≤w7.heap.size:=Hb7.out.size
 have hs78:w7.heap.size≤w8.heap.size:=hm8.size
 have hown8:∀ b,OwT (W.heap.size+1) bs0 b→b=W.heap.size+1∨(w7.heap.size≤b∧b<w8.heap.size):=fun b hb=>by
  rcases hbs8 b hb with h | h
  ·exact .inl (hown0 b h)
  ·exact .inr ⟨h,ht8.lt hb⟩
 have hkeep:∀ b,b<w7.heap.size→b≠W.heap.size+1→w9.heap[b]?=w7.heap[b]?:=fun b hb hn=>(hb89.block b (by omega)).trans (hm8.block b hb fun hm=>hn (hown0 b hm))
 have hSr:Hid (SrV p (W.heap.size+1) (W.heap.size+1) (w8.heap.size+1) w9 bs0 (.slice (some ⟨w5.heap.size,0,none⟩) 1 1) 0 [ky] [vt0 p] [] w8.heap.size 0 0):=by
  refine SrV.start ((TabK.mark (ks:=[]) (fun k=>Iff.rfl) (fun i=>Nat.le_refl _) ht8).move fun b hb=>hb89.block b (ht8.lt hb)) ((OB6.out.under Hb7.out).of_block (hkeep _ (by omega) (by omega))) (Hr5.out.le fun a v hc=>?_) oR9 ⟨fun h=>?_,by omega⟩ (fun h=>?_) (fun b hb=>?_)
  ·obtain⟨h1,h2⟩:=cell_above_lt hc
   have hl:=World.block_lt_of_cell? _ _ h2
   refine cell_hidP.2 ⟨fun hm=>?_,?_⟩
   ·rcases hm with (hm | hm | hm) | hm
    ·rcases hown8 _ hm with h | h <;> omega
    ·injection hm with hm; omega
    ·omega
    ·omega
   ·rw [World.cell?_of_block (w:=w7) (hkeep a.block (by omega) (by omega))]
    exact Le.below Hb7.out _ _ (Le.below hb56 _ _ h2)
  ·rcases hown8 _ h with h | h <;> omega
  ·rcases hown8 _ h with h | h <;> omega
  ·rcases hb with hb | hb | hb
   ·rcases hown8 _ hb with h | h <;> omega
   ·injection hb with hb; omega
   ·omega
 have HB9:Hid (Below W.heap.size W w9):=(((hB1.trans (Hb5.out.mono hB1.size)).trans (hb56.mono (by omega))).trans (Hb7.out.mono (by omega))).trans ((hm8.below (fun b hb=>by have:=hown0 b hb; omega) (by omega)).trans (hb89.mono (by omega)))
 have HRes:Hid (Own w9 W.heap.size 58 #[.int .i64 0,.slice none 0 0]):=(((OR1.out.1.under Hb5.out).under hb56).under Hb7.out).of_block (hkeep _ (by omega) (by omega))
 go_upto_region 5 with (fail)
 rw [← hw9]
 obtain⟨R,hR⟩:∃ R,R=w8.heap.size+1:=⟨_,rfl⟩
 obtain⟨g,hg⟩:∃ g,g=W.heap.size+1:=⟨_,rfl⟩
 rw [← hR,← hg] at hSr ⊢
 have HgR:=Lib.hid (And.intro hg hR)
 have hSr':Hid (SrV p (W.heap.size+1) g R w9 bs0 (.slice (some ⟨w5.heap.size,0,none⟩) 1 1) ((([vt0 p]:List VSt).length:Int)-(([vt0 p]:List VSt).length:Int)) ([vt0 p].map keyVS) [vt0 p] [] w8.heap.size 0 0):=by
  have h:=hSr.out
  rw [Hky.out] at h
  show SrV _ _ _ _ _ _ _ _ _ _ _ _ _ _
  rw [← HgR.out.1]
  exact h
 have hgW:g=W.heap.size+1:=hg
 have hw9W:W.heap.size+1≤w9.heap.size:=by omega
 clear hSr hg hR hs9 hb89 oR9 hown0 hs1 hs15 hs67 hs78 hown8 hkeep ht8 hm8 hbs8 hb56 hs6 hl6 OB6 Hr5 Hb5 Hb7 hw9 Hcur hgW
 clear hkz hok0 OR1 hB1
 go_wp2_with fail
 go_loopg [4] 5000000000000 (fun gk s4 wr=>∃ (V K:List VSt) (L:List (List Int)) (v4:Value) (bs:Nat→Option Nat) (go oo co:Nat),gk+V.length=5000000000000+K.length∧v4=s4∧Hid (Dfs (sucV p) (vt0 p) V K)∧Hid (SrV p (W.heap.size+1) g R wr bs v4 ((V.length:Int)-(K.length:Int)) (V.map keyVS) K L go oo co)∧Hid (Wh (doneV p) outV V K L)∧Hid (Below (W.heap.size+1) w9 wr))
 case atStart=>exact⟨[vt0 p],[vt0 p],[],_,bs0,w8.heap.size,0,0,rfl,rfl,Dfs.start _ _,hSr'.out,Wh.start _,Below.refl _ _⟩
 case round=>
  obtain⟨wo,rfl⟩:∃ wo:World,wo=wr:=⟨_,rfl⟩
  obtain⟨V,K,L,v4,bs,go,oo,co,hgk,rfl,hdfs,hsr,hwh,hb⟩:=hrel
  have hfew:=view_few Hp.out hdfs.out.nd hdfs.out.reach
  have hwo:W.heap.size+1≤wo.heap.size:=Nat.le_trans hw9W hb.out.size
  have HPU:Hid (∀ U,Below (W.heap.size+1) w9 U→PrgS U (.slice Ap p.length cp) p∧Own U W.heap.size 58 #[.int .i64 0,.slice none 0 0]):=fun U hU=>⟨HP.out.le (Le.below (HB9.out.trans (hU.mono (by omega)))),HRes.out.below hU (by omega)⟩
  clear hSr'
  rcases snoc_casesQ K with rfl | ⟨Kt,s,rfl⟩
  ·obtain⟨A6,c6,rfl,_,_⟩:=hsr.out.stk.slice
   have oRo:=hsr.out.cell
   have r0:=oRo.cell (i:=0) rfl
   have r1:=oRo.cell (i:=1) rfl
   have hRl:=oRo.lt
   have oRes:=(HPU.out wo hb.out).2
   have p0:=oRes.cell (i:=0) rfl
   have p1:=oRes.cell (i:=1) rfl
   have f0:=oRes.frozen 0
   have f1:=oRes.frozen 1
   have hWl:=oRes.lt
   have HsrO:=hsr
   have r0':wo.cell? ⟨R,0,none⟩=some (.int .i64 (V.length:Int)):=by rw [r0]; simp
   clear oRo oRes r0 hsr
   go_wp2_with fail
   refine bodyPost_ret (v:=.agg #[.int .i64 (V.length:Int),.slice (some ⟨go,oo,none⟩) L.length co]) (by simp [results,Tryz.results45,go_sem,p0,p1]) rfl ?_
   have hset:Le (hidP (HQ (W.heap.size+1) g R bs (Value.slice A6 ([]:List VSt).length c6).ownBlock) wo) (above W.heap.size ((wo.setCell ⟨W.heap.size,0,none⟩ (.int .i64 (V.length:Int))).setCell ⟨W.heap.size,1,none⟩ (.slice (some ⟨go,oo,none⟩) L.length co))):=fun x u hc=>by
    obtain⟨h1,h2⟩:=cell_hidP.1 hc
    have hge:¬ x.block<W.heap.size+1:=fun e=>h1 (.inr e)
    have hne:x.block≠W.heap.size:=by omega
    refine cell_above_of (by omega) ?_
    rw [World.cell?_setCell_other _ _ _ _ (fun e=>hne (congrArg Addr.block e).symm),World.cell?_setCell_other _ _ _ _ (fun e=>hne (congrArg Addr.block e).symm)]
    exact h2
   have hbW:Below W.heap.size W wo:=HB9.out.trans (hb.out.mono (by omega))
   refine⟨V,L,go,oo,co,rfl,hdfs.out,hwh.out,HsrO.out.outs.le hset,by simp; exact hbW.size,(hbW.setCell (Nat.le_refl _) _).setCell (Nat.le_refl _) _⟩
  ·have hsr1:=hsr.out
   obtain⟨g4,c,cs,rfl,hg4,hc,hc9,hcell,hq4,hsrp⟩:=hsr1.pop
   obtain⟨q,e0,e1,e2,e3,hrep⟩:=hq4
   have q0:=hcell 0 (by omega)
   have q1:=hcell 1 (by omega)
   have q2:=hcell 2 (by omega)
   have q3:=hcell 3 (by omega)
   rw [e0,Nat.add_zero] at q0
   rw [e1] at q1
   rw [e2] at q2
   rw [e3] at q3
   have hcur6:=QCur5.new (t:=73) (fun b hb=>hsrp.ltH hwo hb) hrep
   unfold v5C at hcur6
   obtain⟨nn,hnn⟩:∃ nn:Int,nn=(V.length:Int)-((Kt++[s]).length:Int):=⟨_,rfl⟩
   rw [← hnn] at hsrp
   have hKV:Kt.length+1≤V.length:=by have:=hwh.out.2.2; rw [List.length_append,List.length_singleton] at this; omega
   have hn0:0≤nn∧nn≤10000000000000:=by rw [hnn,List.length_append,List.length_singleton]; omega
   have Hnn:Hid (nn+1=(V.length:Int)-(Kt.length:Int)):=by show _=_; rw [hnn,List.length_append,List.length_singleton]; omega
   have hsV:=hdfs.out.sub s (by simp)
   have Hre:=Lib.hid (hdfs.out.reach s hsV)
   have HsV:=Lib.hid hsV
   have Hat:Hid (DfsAt (sucV p) (vt0 p) V Kt s 0):=Dfs.pop hdfs.out
   have hok:=reachV_ok Hp.out Hre.out
   have Hok:=Lib.hid hok
   rw [List.length_append,List.length_singleton] at hgk
   have sr6:=hsrp.below ((Below.refl wo.heap.size wo).alloc (Nat.le_refl _) (.cells #[.slice (some ⟨q.b1,0,none⟩) p.length q.c1,.slice (some ⟨q.b2,0,none⟩) (p.length*3) q.c2,.slice (some ⟨q.b3,0,none⟩) p.length q.c3,.slice (some ⟨q.b4,0,none⟩) 3 q.c4] 73))
   obtain⟨w6,hw6⟩:∃ w6,w6=wo.alloc (.cells #[.slice (some ⟨q.b1,0,none⟩) p.length q.c1,.slice (some ⟨q.b2,0,none⟩) (p.length*3) q.c2,.slice (some ⟨q.b3,0,none⟩) p.length q.c3,.slice (some ⟨q.b4,0,none⟩) 3 q.c4] 73):=⟨_,rfl⟩
   obtain⟨S6,hS6⟩:∃ S6,S6=wo.heap.size:=⟨_,rfl⟩
   have hb6:Below wo.heap.size wo w6:=by rw [hw6]; exact (Below.refl _ _).alloc (Nat.le_refl _) _
   rw [← hw6] at sr6 hcur6
   have Hcur6:=Lib.hid hcur6
   have Sr6:=Lib.hid sr6
   have oR6:=sr6.cell
   have r0:=oR6.cell (i:=0) rfl
   have f0:=oR6.frozen 0
   have hRl:=oR6.lt
   clear hcell e0 e1 e2 e3 hrep hcur6 hsr1 hsrp hsr hnn hsV hok hdfs sr6
   go_upto_region 7 with (fail)
   rw [← hw6]
   clear hw6 q0 q1 q2 q3
   go_upto_region 9 with (fail)
   obtain⟨w8b,hw8⟩:∃ w8b,w8b=w6.setCell ⟨R,0,none⟩ (.int .i64 (nn+1)):=⟨_,rfl⟩
   have sr8:=Sr6.out.setR (i:=0) (u:=.int .i64 (nn+1)) (n':=nn+1) (L':=L) (go':=go) (oo':=oo) (co':=co) (oR6.set 0 _) Sr6.out.cap Sr6.out.outs
   have cur8:=Hcur6.out.le (Sr6.out.leR 0 (.int .i64 (nn+1)))
   have hb8:Below (W.heap.size+1) w9 w8b:=by
    rw [hw8]
    exact (hb.out.trans (hb6.mono hwo)).setCell (Sr6.out.low R (.inr (.inr rfl))) _
   rw [← hw8] at sr8 cur8 ⊢
   have hs8:w8b.heap.size=w6.heap.size:=by rw [hw8]; simp
   clear hw8 oR6 r0 f0 Sr6 Hcur6
   rw [← hS6]
   rw [← hS6] at cur8
   have hWa:W.heap.size+1≤w8b.heap.size:=Nat.le_trans hw9W hb8.size
   have hdn:=l5Done_any p Hp.out s w8b (.slice Ap p.length cp) (HPU.out w8b hb8).1 q (cur8.rep.le (Le.hidP _ _))
   unfold v5 v5C at hdn
   have x0:=Le.hidP _ _ _ _ cur8.q0
   have x1:=Le.hidP _ _ _ _ cur8.q1
   have x2:=Le.hidP _ _ _ _ cur8.q2
   have x3:=Le.hidP _ _ _ _ cur8.q3
   have hS8:=cur8.size
   have Sr8:=Lib.hid sr8
   have Cur8:=Lib.hid cur8
   clear sr8 cur8 hS6
   go_wp2_with fail
   refine hdn.mono ?_
   rintro ea wa ⟨rfl,hba⟩
   have srA:=Lib.hid (Sr8.out.below hba)
   have curA:=Lib.hid (Cur8.out.below hba)
   have hbA:Below (W.heap.size+1) w9 wa:=hb8.trans (hba.mono hWa)
   clear hdn x0 x1 x2 x3 Sr8 Cur8 hba hS8 hb6
   cases hdo:doneV p s
   case' false=>
    have whB:=Lib.hid (Wh.pop hwh.out hdo)
    obtain⟨wb,hwb⟩:∃ wb:World,wb=wa:=⟨_,rfl⟩
    rw [← hwb] at srA curA hbA
    obtain⟨L2,rfl⟩:∃ x,x=L:=⟨_,rfl⟩
    obtain⟨go2,rfl⟩:∃ x,x=go:=⟨_,rfl⟩
    obtain⟨oo2,rfl⟩:∃ x,x=oo:=⟨_,rfl⟩
    obtain⟨co2,rfl⟩:∃ x,x=co:=⟨_,rfl⟩
    have srB:=srA
    have curB:=curA
    have hbB:=hbA
    clear srA curA hbA hdo
    go_upto_region 11 with (fail)
    rw [← hwb]
    clear hwb hwh
   case' true=>
    have whB:=Lib.hid (Wh.popOut hwh.out hdo HsV.out Hat.out.notk)
    have hlen9:∀ x∈L,x.length=(outV s).length:=Wh.len (m:=(outV s).length) hwh.out (fun t ht=>by
     have h1:=reachV_ok Hp.out (Hat.out.reach t ht)
     rw [outV_len h1,outV_len Hok.out])
    have Hlen9:=Lib.hid hlen9
    have hLl:L.length≤5000000000000:=by have:=hwh.out.2.2; omega
    have HlP:Hid (∀ b,HQ (W.heap.size+1) g R bs (some g4) b→b<wa.heap.size):=fun b hb=>srA.out.ltH (Nat.le_trans hw9W hbA.size) hb
    obtain⟨hcap1,hcap2⟩:=srA.out.cap
    have hRa:=srA.out.cell.lt
    clear hlen9
    go_upto_region 10 with (fail)
    refine wp_region_rel [0,1,2,3,4] [5,6] (TV5 R go oo co L.length wa.heap.size (.agg #[.slice (some ⟨q.b1,0,none⟩) p.length q.c1,.slice (some ⟨q.b2,0,none⟩) (p.length*3) q.c2,.slice (some ⟨q.b3,0,none⟩) p.length q.c3,.slice (some ⟨q.b4,0,none⟩) 3 q.c4]) (outV s) (putL L (outV s)) (HQ (W.heap.size+1) g R bs (some g4))) (fun _=>0) [44,45,46,47,48] (by kernel_rfl) (by kernel_rfl) rfl (by simp) tv5_nx tv5_blk ?_ ?_
    ·refine⟨?_,?_,?_,?_,?_,trivial⟩
     all_goals (intro xs w hw hdep hsep; have hbw:=nx_below hw; simp only [shpA,fillL,List.contains_cons,List.contains_nil,Nat.reduceAdd,Nat.reduceBEq,Bool.or_false,Bool.or_true,Bool.false_eq_true,↓reduceIte])
     ·go_wp2_with fail
      exact RelPost.mk (Nx.refl _) _ rfl rfl rfl
     ·have e43:xs 44=.pointer (some ⟨R,1,none⟩):=hdep 44 (List.mem_of_elem_eq_true (by kernel_rfl))
      have y1:=(srA.out.cell.under hbw).cell (i:=1) rfl
      rw [e43]
      go_wp2_with fail
      exact RelPost.mk (Nx.refl _) _ rfl rfl rfl
     ·have cw:=curA.out.below hbw
      have y0:=Le.hidP _ _ _ _ cw.q0
      have y1:=Le.hidP _ _ _ _ cw.q1
      have y2:=Le.hidP _ _ _ _ cw.q2
      have y3:=Le.hidP _ _ _ _ cw.q3
      clear cw
      go_wp2_with fail
      exact RelPost.mk (Nx.refl _) _ rfl rfl rfl
     ·have e45:xs 46=.agg #[.slice (some ⟨q.b1,0,none⟩) p.length q.c1,.slice (some ⟨q.b2,0,none⟩) (p.length*3) q.c2,.slice (some ⟨q.b3,0,none⟩) p.length q.c3,.slice (some ⟨q.b4,0,none⟩) 3 q.c4]:=hdep 46 (List.mem_of_elem_eq_true (by kernel_rfl))
      have hoc:=l5Outcome_any p Hp.out s Hok.out w q ((curA.out.below hbw).rep.le (Le.hidP _ _))
      unfold v5 v5C at hoc
      have hsw:=hbw.size
      rw [e45]
      go_wp2_with fail
      refine hoc.mono ?_
      rintro ec wc ⟨Ao,co',rfl,hro,hbc⟩
      go_wp2_with fail
      exact RelPost.mk hbc _ rfl ⟨Ao,co',rfl,RowOf.rebase hro (fun b hb=>by have:=(hro.blk hb).1; omega)⟩ rfl
     ·have e44:xs 45=.slice (some ⟨go,oo,none⟩) L.length co:=hdep 45 (List.mem_of_elem_eq_true (by kernel_rfl))
      obtain⟨Ao,do',e46,hro⟩:HasI wa.heap.size (outV s) w (xs 47):=hdep 47 (List.mem_of_elem_eq_true (by kernel_rfl))
      have hsw:=hbw.size
      have hao:Ints (hidP (HQ (W.heap.size+1) g R bs (some g4)) w) Ao do' (outV s):=by
       obtain⟨A',c',e,hI⟩:=hro.ints
       injection e with e1 e2 e3
       subst e1 e3
       exact hI.le (Le.above_hidP HlP.out)
      have hput:=l3Put_any L (outV s) Hlen9.out hLl w go oo co Ao do' (hidP (HQ (W.heap.size+1) g R bs (some g4)) w) (Le.hidP _ _) (srA.out.outs.le (srA.out.leB hbw)) hcap1 hcap2 hao
      rw [e44,e46]
      go_wp2_with fail
      refine hput.mono ?_
      rintro ec wc ⟨g2,o2,c2',rfl,k1,k2,k3,hbc⟩
      go_wp2_with fail
      exact RelPost.mk hbc _ rfl ⟨g2,o2,c2',rfl,k1,k2,k3 _ (Le.hidP_below hbc (fun _ _=>.inr trivial)) (Le.above_hidP (fun b hb=>Nat.lt_of_lt_of_le (HlP.out b hb) hsw))⟩ rfl
    intro xs wy hw hT hsep
    have hbw:=nx_below hw
    obtain⟨go2,oo2,co2,e47,k1,k2,k3⟩:∃ g' o c,xs 48=.slice (some ⟨g',o,none⟩) (putL L (outV s)).length c∧(putL L (outV s)).length≤c∧c≤9223372036854775807∧Intss (hidP (HQ (W.heap.size+1) g R bs (some g4)) wy) (some ⟨g',o,none⟩) c (putL L (outV s)):=hT 48 (List.mem_of_elem_eq_true (by kernel_rfl))
    show wpList _ _ _ [_,_] _ _
    simp only [shpA,fillL,List.contains_cons,List.contains_nil,Nat.reduceAdd,Nat.reduceBEq,Bool.or_false,Bool.or_true,Bool.false_eq_true,↓reduceIte]
    rw [e47]
    obtain⟨L2,hL2⟩:∃ x,x=putL L (outV s):=⟨_,rfl⟩
    rw [← hL2] at whB k1 k3 ⊢
    have sry:=srA.out.below hbw
    have cury:=curA.out.below hbw
    have hby:Below (W.heap.size+1) w9 wy:=hbA.trans (hbw.mono (Nat.le_trans hw9W hbA.size))
    have oRy:=sry.cell
    have y1:=oRy.cell (i:=1) rfl
    have f1:=oRy.frozen 1
    have srB:=Lib.hid (sry.setR (i:=1) (u:=.slice (some ⟨go2,oo2,none⟩) L2.length co2) (n':=nn+1) (L':=L2) (go':=go2) (oo':=oo2) (co':=co2) (oRy.set 1 _) ⟨k1,k2⟩ k3)
    have curB:=Lib.hid (cury.le (sry.leR 1 (.slice (some ⟨go2,oo2,none⟩) L2.length co2)))
    have hbB:Below (W.heap.size+1) w9 (wy.setCell ⟨R,1,none⟩ (.slice (some ⟨go2,oo2,none⟩) L2.length co2)):=hby.setCell (sry.low R (.inr (.inr rfl))) _
    clear e47 hT hsep hw hL2 sry cury srA curA hbA hdo Hlen9 hLl HlP hcap1 hcap2 k3 hwh
    generalize xs 44=y43
    generalize xs 45=y44
    generalize xs 46=y45
    generalize xs 47=y46
    go_upto_region 11 with (fail)
    obtain⟨wb,hwb⟩:∃ wb,wb=wy.setCell ⟨R,1,none⟩ (.slice (some ⟨go2,oo2,none⟩) L2.length co2):=⟨_,rfl⟩
    rw [← hwb] at srB curB hbB ⊢
    clear hwb y1 f1 oRy hby hbw
   all_goals
    have hwB:W.heap.size+1≤wb.heap.size:=Nat.le_trans hw9W hbB.size
    have hch:=l5Choices_any p Hp.out s Hok.out wb (.slice Ap p.length cp) (HPU.out wb hbB).1 q (curB.out.rep.le (Le.hidP _ _))
    unfold v5 v5C at hch
    have x0:=Le.hidP _ _ _ _ curB.out.q0
    have x1:=Le.hidP _ _ _ _ curB.out.q1
    have x2:=Le.hidP _ _ _ _ curB.out.q2
    have x3:=Le.hidP _ _ _ _ curB.out.q3
    have hS6b:=curB.out.size
    go_wp2_with fail
    refine hch.mono ?_
    rintro ec wc ⟨Al,cl,rfl,hrl,hbc⟩
    have srC:=Lib.hid (srB.out.below hbc)
    have curC:=Lib.hid (curB.out.below hbc)
    have hbC:Below (W.heap.size+1) w9 wc:=hbB.trans (hbc.mono hwB)
    obtain⟨ls,hls⟩:∃ ls,ls=(mvV p s).map fun c=>((c:Nat):Int):=⟨_,rfl⟩
    rw [← hls] at hrl ⊢
    have hIl:Ints (above wb.heap.size wc) Al cl ls:=by
     obtain⟨A',c',e,hI⟩:=hrl.ints
     injection e with e1 e2 e3
     subst e1 e3
     exact hI
    have HIC:Hid (Ints (hidP (HQ (W.heap.size+1) g R bs (some g4)) wc) Al cl ls):=hIl.le (Le.above_hidP fun b hb=>srB.out.ltH hwB hb)
    have Hls:=Lib.hid hls
    have Hll:Hid (ls.length=(sucV p s).length):=by show _=_; rw [hls]; unfold sucV; rw [List.length_map,List.length_map]
    have hl42:ls.length≤42:=by
     have:=most_le Hp.out Hok.out
     have h:ls.length≤3*mostV s:=by
      rw [hls,List.length_map]
      unfold mvV
      exact Nat.le_trans (List.length_filter_le _ _) (by rw [List.length_range]; exact Nat.le_refl _)
     omega
    clear hch hrl hbc hls hIl x0 x1 x2 x3 hS6b srB curB hbB hwB
    go_wp2_with fail
    go_loopg [4,8] ls.length (fun gi s4 s8 wi=>∃ (t:Nat) (V1 K1:List VSt) (v4:Value) (bs1:Nat→Option Nat),t≤ls.length∧gi=ls.length-t∧v4=s4∧s8=.int .i64 t∧Hid (DfsAt (sucV p) (vt0 p) V1 K1 s t)∧Hid (SrV p (W.heap.size+1) g R wi bs1 v4 (nn+1) (V1.map keyVS) K1 L2 go2 oo2 co2)∧Hid (Wh (doneV p) outV V1 K1 L2)∧Hid (QCur5 (hidP (HQ (W.heap.size+1) g R bs1 v4.ownBlock) wi) S6 q p s)∧Hid (Ints (hidP (HQ (W.heap.size+1) g R bs1 v4.ownBlock) wi) Al cl ls)∧V1.length+Kt.length=K1.length+V.length∧Hid (Below (W.heap.size+1) w9 wi))
    case atStart=>exact⟨0,V,Kt,_,bs,Nat.zero_le _,rfl,rfl,rfl,Hat.out,srC.out,whB.out,curC.out,HIC.out,Nat.add_comm _ _,hbC⟩
    case round=>
     obtain⟨wi,rfl⟩:∃ wi:World,wi=wr:=⟨_,rfl⟩
     obtain⟨t,V1,K1,v4,bs1,hti,rfl,rfl,rfl,hat1,hsr1,hwh1,hcur1,hil1,hcnt,hbi⟩:=hrel
     have hfew1:=view_few Hp.out hat1.out.nd hat1.out.reach
     have hwi:W.heap.size+1≤wi.heap.size:=Nat.le_trans hw9W hbi.out.size
     clear srC whB curC HIC hbC
     by_cases hlt:t<ls.length
     ·have hltI:(t:Int)<(ls.length:Int):=by omega
      have hcl:t<(mvV p s).length:=by have h:=Hll.out; unfold sucV at h; rw [List.length_map] at h; omega
      obtain⟨c,hce⟩:∃ c,c=(mvV p s)[t]:=⟨_,rfl⟩
      have hlc:ls[t]=(c:Int):=by simp only [Hls.out,List.getElem_map,hce]
      have hcm:c∈mvV p s:=by rw [hce]; exact List.getElem_mem _
      obtain⟨bl,ol,el,hbl,hl0⟩:=Ints.get hil1.out hlt
      rw [hlc] at hl0
      subst el
      obtain⟨hc1,hc2,hc3⟩:=mem_mvV_iff.1 hcm
      have hc42:c≤42:=by have:=most_le Hp.out Hok.out; omega
      obtain⟨nx,hnx⟩:∃ nx,nx=nxV p s c:=⟨_,rfl⟩
      have hreN:Reach (sucV p) (vt0 p) nx:=by rw [hnx]; exact .next Hre.out (List.mem_map.2 ⟨c,hcm,rfl⟩)
      have hokn:VOk p nx:=reachV_ok Hp.out hreN
      have HreN:=Lib.hid hreN
      have Hokn:=Lib.hid hokn
      have Hil:Hid (t<(sucV p s).length):=by show _<_; rw [← Hll.out]; exact hlt
      have Hig:Hid ((sucV p s)[t]'Hil.out=nx):=by
       show _=_
       rw [hnx,hce]
       unfold sucV
       rw [List.getElem_map]
      have hq1:(c:Int) % 3=((c % 3:Nat):Int):=by omega
      have hq2:(c:Int) / 3=((c / 3:Nat):Int):=by omega
      have hq3:(c:Int).tmod 3=((c % 3:Nat):Int):=by rw [Int.tmod_eq_emod_of_nonneg (by omega)]; omega
      have hq4:(c:Int).tdiv 3=((c / 3:Nat):Int):=by rw [Int.tdiv_eq_ediv_of_nonneg (by omega)]; omega
      have Hdo:Hid (∀ U,Below wi.heap.size wi U→Calls Tryz.prog 84 #[.slice Ap p.length cp,.agg #[.slice (some ⟨q.b1,0,none⟩) p.length q.c1,.slice (some ⟨q.b2,0,none⟩) (p.length*3) q.c2,.slice (some ⟨q.b3,0,none⟩) p.length q.c3,.slice (some ⟨q.b4,0,none⟩) 3 q.c4],.int .i64 ((c % 3:Nat):Int),.int .i64 ((c / 3:Nat):Int)] U (RetO5 U p nx)):=fun U hU=>by
       have h:=l5Do_any p Hp.out s Hok.out (c % 3) (c / 3) hc2 hc3 U (.slice Ap p.length cp) (HPU.out U (hbi.out.trans (hU.mono hwi))).1 q ((hcur1.out.below hU).rep.le (Le.hidP _ _))
       unfold v5 v5C at h
       rw [hnx]
       exact h
      have HLo:Hid (∀ U,Below wi.heap.size wi U→U.cell? ⟨bl,ol+t,none⟩=some (.int .i64 (c:Int))∧QCur5 U S6 q p s):=fun U hU=>⟨Le.below hU _ _ (Le.hidP _ _ _ _ hl0),(hcur1.out.below hU).le (Le.hidP _ _)⟩
      have hr2:c / 3≤14:=by omega
      obtain⟨r1,hr1e⟩:∃ r,r=c % 3:=⟨_,rfl⟩
      obtain⟨r2,hr2e⟩:∃ r,r=c / 3:=⟨_,rfl⟩
      rw [← hr1e] at hq1 hq3 Hdo
      rw [← hr2e] at hq2 hq4 Hdo hr2
      clear hcl hlc hcm hnx hreN hokn hl0 hbl hce hc1 hc2 hc3 hr1e hr2e
      go_upto_region 15 with (fail)
      obtain⟨fn,hfn⟩:∃ f:Nat→Value,f=(fun d=>match d with | 59=>.slice Ap p.length cp | 60=>.agg #[.slice (some ⟨q.b1,0,none⟩) p.length q.c1,.slice (some ⟨q.b2,0,none⟩) (p.length*3) q.c2,.slice (some ⟨q.b3,0,none⟩) p.length q.c3,.slice (some ⟨q.b4,0,none⟩) 3 q.c4] | 61=>.slice (some ⟨bl,ol,none⟩) ls.length cl | 62=>.int .i64 (t:Int) | 63=>.pointer (some ⟨bl,ol+t,none⟩) | 64=>.int .i64 (c:Int) | 65=>.int .i64 ((r1:Nat):Int) | 66=>.slice (some ⟨bl,ol,none⟩) ls.length cl | 67=>.int .i64 (t:Int) | 68=>.pointer (some ⟨bl,ol+t,none⟩) | 69=>.int .i64 (c:Int) | 70=>.int .i64 ((r2:Nat):Int) | _=>undef):=⟨_,rfl⟩
      have hf59:fn 59=.slice Ap p.length cp:=congrFun hfn 59
      have hf60:fn 60=.agg #[.slice (some ⟨q.b1,0,none⟩) p.length q.c1,.slice (some ⟨q.b2,0,none⟩) (p.length*3) q.c2,.slice (some ⟨q.b3,0,none⟩) p.length q.c3,.slice (some ⟨q.b4,0,none⟩) 3 q.c4]:=congrFun hfn 60
      have hf61:fn 61=.slice (some ⟨bl,ol,none⟩) ls.length cl:=congrFun hfn 61
      have hf62:fn 62=.int .i64 (t:Int):=congrFun hfn 62
      have hf63:fn 63=.pointer (some ⟨bl,ol+t,none⟩):=congrFun hfn 63
      have hf64:fn 64=.int .i64 (c:Int):=congrFun hfn 64
      have hf65:fn 65=.int .i64 ((r1:Nat):Int):=congrFun hfn 65
      have hf66:fn 66=.slice (some ⟨bl,ol,none⟩) ls.length cl:=congrFun hfn 66
      have hf67:fn 67=.int .i64 (t:Int):=congrFun hfn 67
      have hf68:fn 68=.pointer (some ⟨bl,ol+t,none⟩):=congrFun hfn 68
      have hf69:fn 69=.int .i64 (c:Int):=congrFun hfn 69
      have hf70:fn 70=.int .i64 ((r2:Nat):Int):=congrFun hfn 70
      clear hfn
      refine wp_region_rel [0,1,2,3,4,5,6,7,8,9,10,11,12,13] [14] (TN5 fn wi.heap.size p nx) (fun _=>0) [59,60,61,62,63,64,65,66,67,68,69,70,71,9] (by kernel_rfl) (by kernel_rfl) rfl (by simp) tn5_nx (fun _ _ _ _ _ h=>absurd rfl h) ?_ ?_
      ·refine⟨?_,?_,?_,?_,?_,?_,?_,?_,?_,?_,?_,?_,?_,?_,trivial⟩
       all_goals (intro xs w hw hdep hsep; have hbw:=nx_below hw; simp only [shpA,fillL,List.contains_cons,List.contains_nil,Nat.reduceAdd,Nat.reduceBEq,Bool.or_false,Bool.or_true,Bool.false_eq_true,↓reduceIte])
       ·go_wp2_with fail
        exact RelPost.mk (Nx.refl _) _ rfl hf59.symm rfl
       ·have q0:=(HLo.out w hbw).2.q0
        have q1:=(HLo.out w hbw).2.q1
        have q2:=(HLo.out w hbw).2.q2
        have q3:=(HLo.out w hbw).2.q3
        go_wp2_with fail
        exact RelPost.mk (Nx.refl _) _ rfl hf60.symm rfl
       ·go_wp2_with fail
        exact RelPost.mk (Nx.refl _) _ rfl hf61.symm rfl
       ·go_wp2_with fail
        exact RelPost.mk (Nx.refl _) _ rfl hf62.symm rfl
       ·have e61:xs 61=.slice (some ⟨bl,ol,none⟩) ls.length cl:=(show xs 61=fn 61 from hdep 61 (List.mem_of_elem_eq_true (by kernel_rfl))).trans hf61
        have e62:xs 62=.int .i64 (t:Int):=(show xs 62=fn 62 from hdep 62 (List.mem_of_elem_eq_true (by kernel_rfl))).trans hf62
        rw [e61,e62]
        go_wp2_with fail
        exact RelPost.mk (Nx.refl _) _ rfl hf63.symm rfl
       ·have e63:xs 63=.pointer (some ⟨bl,ol+t,none⟩):=(show xs 63=fn 63 from hdep 63 (List.mem_of_elem_eq_true (by kernel_rfl))).trans hf63
        have q0:=(HLo.out w hbw).1
        rw [e63]
        go_wp2_with fail
        exact RelPost.mk (Nx.refl _) _ rfl hf64.symm rfl
       ·have e64:xs 64=.int .i64 (c:Int):=(show xs 64=fn 64 from hdep 64 (List.mem_of_elem_eq_true (by kernel_rfl))).trans hf64
        rw [e64]
        go_wp2_with fail
        exact RelPost.mk (Nx.refl _) _ rfl hf65.symm rfl
       ·go_wp2_with fail
        exact RelPost.mk (Nx.refl _) _ rfl hf66.symm rfl
       ·go_wp2_with fail
        exact RelPost.mk (Nx.refl _) _ rfl hf67.symm rfl
       ·have e66:xs 66=.slice (some ⟨bl,ol,none⟩) ls.length cl:=(show xs 66=fn 66 from hdep 66 (List.mem_of_elem_eq_true (by kernel_rfl))).trans hf66
        have e67:xs 67=.int .i64 (t:Int):=(show xs 67=fn 67 from hdep 67 (List.mem_of_elem_eq_true (by kernel_rfl))).trans hf67
        rw [e66,e67]
        go_wp2_with fail
        exact RelPost.mk (Nx.refl _) _ rfl hf68.symm rfl
       ·have e68:xs 68=.pointer (some ⟨bl,ol+t,none⟩):=(show xs 68=fn 68 from hdep 68 (List.mem_of_elem_eq_true (by kernel_rfl))).trans hf68
        have q0:=(HLo.out w hbw).1
        rw [e68]
        go_wp2_with fail
        exact RelPost.mk (Nx.refl _) _ rfl hf69.symm rfl
       ·have e69:xs 69=.int .i64 (c:Int):=(show xs 69=fn 69 from hdep 69 (List.mem_of_elem_eq_true (by kernel_rfl))).trans hf69
        rw [e69]
        go_wp2_with fail
        exact RelPost.mk (Nx.refl _) _ rfl hf70.symm rfl
       ·have e59:xs 59=.slice Ap p.length cp:=(show xs 59=fn 59 from hdep 59 (List.mem_of_elem_eq_true (by kernel_rfl))).trans hf59
        have e60:xs 60=.agg #[.slice (some ⟨q.b1,0,none⟩) p.length q.c1,.slice (some ⟨q.b2,0,none⟩) (p.length*3) q.c2,.slice (some ⟨q.b3,0,none⟩) p.length q.c3,.slice (some ⟨q.b4,0,none⟩) 3 q.c4]:=(show xs 60=fn 60 from hdep 60 (List.mem_of_elem_eq_true (by kernel_rfl))).trans hf60
        have e65:xs 65=.int .i64 ((r1:Nat):Int):=(show xs 65=fn 65 from hdep 65 (List.mem_of_elem_eq_true (by kernel_rfl))).trans hf65
        have e70:xs 70=.int .i64 ((r2:Nat):Int):=(show xs 70=fn 70 from hdep 70 (List.mem_of_elem_eq_true (by kernel_rfl))).trans hf70
        have hcc:=Hdo.out w hbw
        rw [e59,e60,e65,e70]
        go_wp2_with fail
        refine hcc.mono ?_
        rintro ec wc ⟨qn,Pn,Gn,Vn,Nn,Lbn,Lcn,Mn,κn,rfl,hn1,hn2,hbc⟩
        unfold v5 v5C
        go_wp2_with fail
        exact RelPost.mk hbc _ rfl ⟨qn,Pn,Gn,Vn,Nn,Lbn,Lcn,Mn,κn,rfl,hn1.rebase (Below.size hbw),hn2⟩ rfl
       ·go_wp2_with fail
        exact RelPost.mk ((Below.refl _ _).alloc (Nat.le_refl _) _) _ rfl ⟨w.heap.size,rfl,Own.new w _ _,Below.size hbw⟩ rfl
      intro xs wj hw hT hsep
      have hbw:=nx_below hw
      obtain⟨g9,e9,oN9,hN9⟩:HasB wi.heap.size 73 #[.slice none 0 0,.slice none 0 0,.slice none 0 0,.slice none 0 0] wj (xs 9):=hT 9 (List.mem_of_elem_eq_true (by kernel_rfl))
      obtain⟨qn,Pn,Gn,Vn,Nn,Lbn,Lcn,Mn,κn,e71,hn1,hn2⟩:NxO wi.heap.size p nx wj (xs 71):=hT 71 (List.mem_of_elem_eq_true (by kernel_rfl))
      show wpList _ _ _ [_] _ _
      simp only [shpA,fillL,List.contains_cons,List.contains_nil,Nat.reduceAdd,Nat.reduceBEq,Bool.or_false,Bool.or_true,Bool.false_eq_true,↓reduceIte]
      rw [e9,e71]
      clear hT hsep hw  hf59 hf60 hf61 hf62 hf63 hf64 hf65 hf66 hf67 hf68 hf69 hf70
      generalize xs 59=u59x
      generalize xs 60=u60x
      generalize xs 61=u61x
      generalize xs 62=u62x
      generalize xs 63=u63x
      generalize xs 64=u64x
      generalize xs 65=u65x
      generalize xs 66=u66x
      generalize xs 67=u67x
      generalize xs 68=u68x
      generalize xs 69=u69x
      generalize xs 70=u70x
      clear e9 e71
      have z0:=oN9.cell (i:=0) rfl
      have z1:=oN9.cell (i:=1) rfl
      have z2:=oN9.cell (i:=2) rfl
      have z3:=oN9.cell (i:=3) rfl
      have y0:=oN9.frozen 0
      have y1:=oN9.frozen 1
      have y2:=oN9.frozen 2
      have y3:=oN9.frozen 3
      obtain⟨wk,hwk⟩:∃ wk,wk=(((wj.setCell ⟨g9,0,none⟩ (.slice (some ⟨qn.b1,0,none⟩) p.length qn.c1)).setCell ⟨g9,1,none⟩ (.slice (some ⟨qn.b2,0,none⟩) (p.length*3) qn.c2)).setCell ⟨g9,2,none⟩ (.slice (some ⟨qn.b3,0,none⟩) p.length qn.c3)).setCell ⟨g9,3,none⟩ (.slice (some ⟨qn.b4,0,none⟩) 3 qn.c4):=⟨_,rfl⟩
      have hbk:Below wi.heap.size wi wk:=by rw [hwk]; exact (((hbw.setCell hN9 _).setCell hN9 _).setCell hN9 _).setCell hN9 _
      have oN1:=oN9.set 0 (.slice (some ⟨qn.b1,0,none⟩) p.length qn.c1)
      have oN2:=oN1.set 1 (.slice (some ⟨qn.b2,0,none⟩) (p.length*3) qn.c2)
      have oN3:=oN2.set 2 (.slice (some ⟨qn.b3,0,none⟩) p.length qn.c3)
      have oNk:Own wk g9 73 #[.slice (some ⟨qn.b1,0,none⟩) p.length qn.c1,.slice (some ⟨qn.b2,0,none⟩) (p.length*3) qn.c2,.slice (some ⟨qn.b3,0,none⟩) p.length qn.c3,.slice (some ⟨qn.b4,0,none⟩) 3 qn.c4]:=by rw [hwk]; exact oN3.set 3 _
      have hnk:=((((hn1.farS oN9 0 (.slice (some ⟨qn.b1,0,none⟩) p.length qn.c1)).farS oN1 1 (.slice (some ⟨qn.b2,0,none⟩) (p.length*3) qn.c2)).farS oN2 2 (.slice (some ⟨qn.b3,0,none⟩) p.length qn.c3)).farS oN3 3 (.slice (some ⟨qn.b4,0,none⟩) 3 qn.c4))
      rw [← hwk] at hnk
      have hHQ:∀ b,HQ (W.heap.size+1) g R bs1 v4.ownBlock b→b<wi.heap.size:=fun b hb=>hsr1.out.ltH hwi hb
      have hrepk:Rep5 (hidP (HQ (W.heap.size+1) g R bs1 v4.ownBlock) wk) qn p nx:=hnk.obs rfl hn2 (Le.above_hidP hHQ)
      have hn9:¬ HQ (W.heap.size+1) g R bs1 v4.ownBlock g9:=fun h=>by have:=hHQ _ h; omega
      have hcurNx:QCur5 (hidP (HQ (W.heap.size+1) g R bs1 v4.ownBlock) wk) g9 qn p nx:=⟨cell_hidP.2 ⟨hn9,oNk.cell (i:=0) rfl⟩,cell_hidP.2 ⟨hn9,oNk.cell (i:=1) rfl⟩,cell_hidP.2 ⟨hn9,oNk.cell (i:=2) rfl⟩,cell_hidP.2 ⟨hn9,oNk.cell (i:=3) rfl⟩,hrepk⟩
      have hsrk:=Lib.hid (hsr1.out.below hbk)
      have hcurk:=Lib.hid (hcur1.out.below hbk)
      have hilk:=Lib.hid (hil1.out.le (hsr1.out.leB hbk))
      have hcurN:=Lib.hid hcurNx
      have hbk9:Below (W.heap.size+1) w9 wk:=hbi.out.trans (hbk.mono hwi)
      have hwk1:W.heap.size+1≤wk.heap.size:=Nat.le_trans hw9W hbk9.size
      have hkey:=l5Key_any p Hp.out nx Hokn.out wk qn (hcurN.out.rep.le (Le.hidP _ _))
      unfold v5 v5C at hkey
      have hkz:=keyVS_len Hp.out Hokn.out
      obtain⟨kn,hkn⟩:∃ kn,kn=keyVS nx:=⟨_,rfl⟩
      rw [← hkn] at hkey hkz
      have Hkn:Hid (kn=keyVS nx):=hkn
      clear hkn hsr1 hcur1 hil1 hbi hrepk hcurNx hn9 hHQ hnk oN1 oN2 oN3 oNk hn1 hn2 hq1 hq2 hq3 hq4 hr2
      go_upto_region 16 with (fail)
      rw [← hwk]
      clear hwk z0 z1 z2 z3 y0 y1 y2 y3 oN9 hbw hbk
      have x0:=Le.hidP _ _ _ _ hcurN.out.q0
      have x1:=Le.hidP _ _ _ _ hcurN.out.q1
      have x2:=Le.hidP _ _ _ _ hcurN.out.q2
      have x3:=Le.hidP _ _ _ _ hcurN.out.q3
      have hNk:=hcurN.out.size
      go_wp2_with fail
      refine hkey.mono ?_
      rintro el wl ⟨rfl,hbl⟩
      have hsrl:=Lib.hid (hsrk.out.below hbl)
      have hcurl:=Lib.hid (hcurk.out.below hbl)
      have hill:=Lib.hid (hilk.out.le (hsrk.out.leB hbl))
      have hcurNl:=Lib.hid (hcurN.out.below hbl)
      have hbl9:Below (W.heap.size+1) w9 wl:=hbk9.trans (hbl.mono hwk1)
      obtain⟨xss,htab,hks1,hks2⟩:=hsrl.out.tab
      have hfd:=l3Found_any kn hkz wl g xss bs1 htab
      have Htab:=Lib.hid (And.intro htab (And.intro hks1 hks2))
      have Hmem:Hid (inB (xss (hashS kn)) kn=true↔nx∈V1):=by
       show _↔_
       rw [inB_iff,hks1,List.mem_map]
       constructor
       ·rintro ⟨u,hu,he⟩
        have:u=nx:=keyVS_inj Hp.out (hat1.out.reach u hu) HreN.out (by rw [he,Hkn.out])
        rw [← this]; exact hu
       ·intro hu
        exact⟨nx,hu,Hkn.out.symm⟩
      clear hkey x0 x1 x2 x3 hsrk hcurk hilk hcurN hbl htab hks1 hks2 hNk hbk9
      generalize hfb:inB (xss (hashS kn)) kn=fb at hfd Hmem
      have Hfb:=Lib.hid hfb
      clear hfb
      go_wp2_with fail
      refine hfd.mono ?_
      rintro em wm ⟨rfl,hbm⟩
      have hsrm:=Lib.hid (hsrl.out.below hbm)
      have hcurm:=Lib.hid (hcurl.out.below hbm)
      have hilm:=Lib.hid (hill.out.le (hsrl.out.leB hbm))
      have hcurNm:=Lib.hid (hcurNl.out.below hbm)
      have hwl1:W.heap.size+1≤wl.heap.size:=Nat.le_trans hw9W hbl9.size
      have hbm9:Below (W.heap.size+1) w9 wm:=hbl9.trans (hbm.mono hwl1)
      have htabm:=Htab.out.1.below hbm
      clear hfd hsrl hcurl hill hcurNl hbl9
      cases fb
      ·have Hnin:Hid (nx∉V1):=fun h=>by have:=Hmem.out.2 h; cases this
       have hl5:(xss (hashS kn)).length≤5000000000000:=by
        have:=Htab.out.2.2 (hashS kn)
        rw [List.length_map] at this
        omega
       have hmk:=l3Mark_any kn hkz wm g xss bs1 htabm hl5
       clear htabm hbm
       go_wp2_with fail
       refine hmk.mono ?_
       rintro eo wo2 ⟨rfl,bs2,ht2,hm2,hbs2⟩
       have hsro:=hsrm.out.mark Htab.out.2.1 Htab.out.2.2 ht2 hm2 hbs2 (Nat.le_trans hw9W hbm9.size)
       have hcuro:=hcurm.out.le (hsrm.out.leM hm2 hbs2)
       have hilo:=hilm.out.le (hsrm.out.leM hm2 hbs2)
       have hcurNo:=hcurNm.out.le (hsrm.out.leM hm2 hbs2)
       have hbo9:Below (W.heap.size+1) w9 wo2:=hbm9.trans (hm2.below (fun b hb=>hsrm.out.low b (.inl hb)) (Nat.le_trans hw9W hbm9.size))
       have hwo1:W.heap.size+1≤wo2.heap.size:=Nat.le_trans hw9W hbo9.size
       have hksn:Hid (List.map keyVS V1++[kn]=(V1++[nx]).map keyVS):=by show _=_; rw [List.map_append,Hkn.out]; rfl
       rw [hksn.out] at hsro
       have hbX:Below wo2.heap.size wo2 (wo2.alloc (.cells #[.slice (some ⟨qn.b1,0,none⟩) p.length qn.c1,.slice (some ⟨qn.b2,0,none⟩) (p.length*3) qn.c2,.slice (some ⟨qn.b3,0,none⟩) p.length qn.c3,.slice (some ⟨qn.b4,0,none⟩) 3 qn.c4] 73)):=(Below.refl _ _).alloc (Nat.le_refl _) _
       have HsrX:=Lib.hid (hsro.below hbX)
       have HcurX:=Lib.hid (hcuro.below hbX)
       have HilX:=Lib.hid (hilo.le (hsro.leB hbX))
       have HcurNX:=Lib.hid (hcurNo.below hbX)
       have x0:=Le.hidP _ _ _ _ hcurNo.q0
       have x1:=Le.hidP _ _ _ _ hcurNo.q1
       have x2:=Le.hidP _ _ _ _ hcurNo.q2
       have x3:=Le.hidP _ _ _ _ hcurNo.q3
       have hNo:=hcurNo.size
       obtain⟨cs4,hown4,hq4⟩:=HsrX.out.stk
       have Hown4:=Lib.hid hown4
       have Hq4:=Lib.hid hq4
       have hK5:K1.length≤1300000000000:=by have:=hwh1.out.2.2; omega
       have Hown4':=Lib.hid hown4
       clear hown4 hq4 hmk ht2 hm2 hbs2 hsro hcuro hcurNo hilo hsrm hcurm hilm hcurNm hl5 hbm9
       go_wp2_with (at_builtin; refine wpList_append_lies (o:=⟨some 84,_,_,_,_,_⟩) _ (by rfl) _ _ _ (by rfl) (W.heap.size+1) 73 i0 _ 4 96 Tryz.underlying113 hi0 hz0 hz1 hz2 rfl (by omega) v4 K1.length cs4 (by rfl) Hown4'.out ⟨wo2.heap.size,0,none⟩ 1 1 [.slice (some ⟨qn.b1,0,none⟩) p.length qn.c1,.slice (some ⟨qn.b2,0,none⟩) (p.length*3) qn.c2,.slice (some ⟨qn.b3,0,none⟩) p.length qn.c3,.slice (some ⟨qn.b4,0,none⟩) 3 qn.c4] (by rfl) (by rfl) (World.news_of_block (cs:=#[.slice (some ⟨qn.b1,0,none⟩) p.length qn.c1,.slice (some ⟨qn.b2,0,none⟩) (p.length*3) qn.c2,.slice (some ⟨qn.b3,0,none⟩) p.length qn.c3,.slice (some ⟨qn.b4,0,none⟩) 3 qn.c4]) (t:=73) (fr:=(0,0)) (heap_alloc_new wo2 _)) (by simp [Value.oneCell']) (by omega) (by simp [maxLen]; omega) (by omega) (by simp; omega) (wo2.heap.size+1) (by simp) ?_; intro gg cap wz hownz hgrowz hatz hltz)
       have h4z:∀ b,(Value.slice (some ⟨gg,0,none⟩) (K1.length+1) cap).ownBlock=some b→v4.ownBlock=some b∨(wo2.alloc (.cells #[.slice (some ⟨qn.b1,0,none⟩) p.length qn.c1,.slice (some ⟨qn.b2,0,none⟩) (p.length*3) qn.c2,.slice (some ⟨qn.b3,0,none⟩) p.length qn.c3,.slice (some ⟨qn.b4,0,none⟩) 3 qn.c4] 73)).heap.size≤b:=fun b hb=>by
        simp only [Value.ownBlock,Option.some.injEq] at hb
        subst hb
        rcases hatz with h | h
        ·exact .inl h
        ·right; simp; omega
       have hrz:RowOf 4 (QS5 p (hidP (HQ (W.heap.size+1) g R bs2 (Value.slice (some ⟨gg,0,none⟩) (K1.length+1) cap).ownBlock) wz)) wz (W.heap.size+1) 73 (.slice (some ⟨gg,0,none⟩) (K1.length+1) cap) (K1++[nx]):=by
        refine RowOf.snoc (news:=[.slice (some ⟨qn.b1,0,none⟩) p.length qn.c1,.slice (some ⟨qn.b2,0,none⟩) (p.length*3) qn.c2,.slice (some ⟨qn.b3,0,none⟩) p.length qn.c3,.slice (some ⟨qn.b4,0,none⟩) 3 qn.c4]) (qs5_congr _ _) Hown4.out (fun i hi=>QS5.le (HsrX.out.leP hgrowz h4z) (Hq4.out i hi)) rfl ⟨qn,rfl,rfl,rfl,rfl,HcurNX.out.rep.le (HsrX.out.leP hgrowz h4z)⟩ ?_
        exact hownz
       have hsrz:=HsrX.out.push hgrowz h4z (by simp; omega) hrz
       have Hsrz:Hid (SrV p (W.heap.size+1) g R wz bs2 (.slice (some ⟨gg,0,none⟩) (K1.length+1) cap) (nn+1) ((V1++[nx]).map keyVS) (K1++[nx]) L2 go2 oo2 co2):=by
        exact hsrz
       have Hcur':Hid (QCur5 (hidP (HQ (W.heap.size+1) g R bs2 (Value.slice (some ⟨gg,0,none⟩) (K1.length+1) cap).ownBlock) wz) S6 q p s):=by exact HcurX.out.le (HsrX.out.leP hgrowz h4z)
       have Hil':Hid (Ints (hidP (HQ (W.heap.size+1) g R bs2 (Value.slice (some ⟨gg,0,none⟩) (K1.length+1) cap).ownBlock) wz) (some ⟨bl,ol,none⟩) cl ls):=by exact HilX.out.le (HsrX.out.leP hgrowz h4z)
       have hbz9:Hid (Below (W.heap.size+1) w9 wz):=below_of_grown (hbo9.alloc hwo1 _) hgrowz (by simp; omega) (fun b hb=>HsrX.out.low b (.inr (.inl hb)))
       have Hat':Hid (DfsAt (sucV p) (vt0 p) (V1++[nx]) (K1++[nx]) s (t+1)):=by
        have h:=hat1.out.new Hil.out (by rw [Hig.out]; exact Hnin.out)
        rw [Hig.out] at h
        exact h
       have Hwh':Hid (Wh (doneV p) outV (V1++[nx]) (K1++[nx]) L2):=hwh1.out.new Hnin.out
       have hcnt':(V1++[nx]).length+Kt.length=(K1++[nx]).length+V.length:=by simp only [List.length_append,List.length_singleton]; omega
       clear hownz hgrowz hatz h4z hrz hsrz x0 x1 x2 x3
       go_wp2_with fail
       go_roundg (ls.length-(t+1))
       case measure=>omega
       case rel=>exact⟨t+1,V1++[nx],K1++[nx],_,bs2,by omega,rfl,rfl,by go_num,Hat'.out,Hsrz.out,Hwh'.out,Hcur'.out,Hil'.out,hcnt',hbz9.out⟩
      ·have Hin:Hid (nx∈V1):=Hmem.out.1 rfl
       have Hat':Hid (DfsAt (sucV p) (vt0 p) V1 K1 s (t+1)):=by
        exact hat1.out.seen Hil.out (by rw [Hig.out]; exact Hin.out)
       have Hcur':Hid (QCur5 (hidP (HQ (W.heap.size+1) g R bs1 v4.ownBlock) wm) S6 q p s):=by exact hcurm.out
       clear htabm hat1 hbm
       go_wp2_with fail
       go_roundg (ls.length-(t+1))
       case measure=>omega
       case rel=>exact⟨t+1,V1,K1,_,bs1,by omega,rfl,rfl,by go_num,Hat'.out,hsrm.out,hwh1.out,Hcur'.out,hilm.out,hcnt,hbm9⟩
     ·have hte:t=ls.length:=by omega
      have Hdf:Hid (Dfs (sucV p) (vt0 p) V1 K1):=hat1.out.fin (by rw [← Hll.out,hte]; exact Nat.le_refl _)
      have hltI:¬ (t:Int)<(ls.length:Int):=by omega
      clear hte
      have Hnn':Hid (nn+1=(V1.length:Int)-(K1.length:Int)):=by show _=_; rw [Hnn.out]; omega
      have Hsr':Hid (SrV p (W.heap.size+1) g R wi bs1 v4 ((V1.length:Int)-(K1.length:Int)) (V1.map keyVS) K1 L2 go2 oo2 co2):=by show SrV _ _ _ _ _ _ _ _ _ _ _ _ _ _; rw [← Hnn'.out]; exact hsr1.out
      have hcl:gk-1+V1.length=5000000000000+K1.length:=by omega
      clear hat1 hsr1
      go_wp2_with fail
      go_roundg (gk-1)
      case measure=>omega
      case rel=>exact⟨V1,K1,L2,_,bs1,go2,oo2,co2,hcl,rfl,Hdf.out,Hsr'.out,hwh1.out,hbi.out⟩
end Go.Proofs.YtojmofnamppbdaaGreat
namespace Go.Proofs.YtojmofnamppbdaaGreat
open Go.RowKit
set_option linter.unusedVariables false
set_option maxRecDepth 100000
theorem fldV (n:Int) (A:Option Addr) (k c:Nat):(∀ w,(Instr.field 58 (.agg #[.int .i64 n,.slice A k c]) 0).run Tryz.prog w=.ok (.int .i64 n) w)∧(∀ w,(Instr.field 58 (.agg #[.int .i64 n,.slice A k c]) 1).run Tryz.prog w=.ok (.slice A k c) w):=
 ⟨fun w=>by kernel_rfl,fun w=>by kernel_rfl⟩
def RetRsV (p:Prg) (W:World) (e:Ending) (W':World):Prop:=∃ A L c,e=.returned (.slice A L.length c)∧Intss W' A c L∧IsOutV p L∧Below W.heap.size W W'
set_option maxHeartbeats 1000000 in
theorem specRa_any (p:Prg) (hl:p.length≤1048576) (W:World) (v:Value) (hr:PrgS W v p):Calls Tryz.prog 14 #[v] W (RetRsV p W):=by
 have hv:=specPrg_any p hl W v hr
 have HR:=Lib.hid hr
 obtain⟨A,c,rfl,_⟩:=hr.slice
 have HF:Hid (prgB p=false→¬ PrgOk p):=fun h=>prgB_false.1 h
 have HT:Hid (prgB p=true→PrgOk p):=fun h=>prgB_iff.1 h
 go_enter Tryz.func14,Tryz.ntmps14
 go_wp2_with fail
 refine hv.mono ?_
 rintro e1 w1 ⟨rfl,hb1⟩
 clear hv
 cases hpb:prgB p
 ·have Hn:Hid (¬ PrgOk p):=HF.out hpb
  clear hpb HT HF
  go_wp2_with fail
  go_ret
  exact⟨_,[],_,rfl,⟨_,_,rfl,by simp,fun i hi=>absurd hi (Nat.not_lt_zero _)⟩,.inr ⟨Hn.out,rfl⟩,hb1.alloc hb1.size _⟩
 ·have Hp:Hid (PrgOk p):=HT.out hpb
  have hns:=l5Run_any p Hp.out w1 _ (HR.out.le (Le.below hb1))
  clear hpb HT HF
  go_wp2_with fail
  refine hns.mono ?_
  rintro e2 w2 ⟨V,L,go,oo,co,rfl,hdfs,hwh,hI,_,hb2⟩
  have hB2:=hb1.trans (hb2.mono hb1.size)
  have Hout:Hid (IsOutV p L):=.inl ⟨Hp.out,V,hdfs,hwh.1,fun y=>(hwh.2.1 y).trans ⟨fun⟨s,h1,_,h3⟩=>⟨s,h1,h3⟩,fun⟨s,h1,h3⟩=>⟨s,h1,by simp,h3⟩⟩⟩
  have HI:=Lib.hid (hI.le (Le.above _ _))
  clear hns hdfs hwh hI
  obtain⟨hf0,hf1⟩:=fldV (V.length:Int) (some ⟨go,oo,none⟩) L.length co
  go_wp2_with fail
  go_ret
  exact⟨_,L,co,rfl,HI.out,Hout.out,hB2⟩
end Go.Proofs.YtojmofnamppbdaaGreat
