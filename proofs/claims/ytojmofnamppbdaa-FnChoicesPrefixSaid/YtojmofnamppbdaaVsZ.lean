/-
  The reference's states with views: l5Do. The reference's search with views: what it keeps in memory. The reference's search with views: spec.l5Run walked. The outcomes and the states with views, as the reference hands them back: RunRa, RaStates.
-/
import Derived.Test.YtojmofnamppbdaaVsY
import Derived.Test.YtojmofnamppbdaaVwA
import Derived.Test.YtojmofnamppbdaaMcA
import Derived.Test.YtojmofnamppbdaaPut
import Derived.Test.YtojmofnamppbdaaTab
import Derived.Test.YtojmofnamppbdaaVxJ
namespace Go.Proofs.Ytojmofnamppbdaa
open Go.RowKit
set_option linter.unusedVariables false
set_option linter.unusedSimpArgs false
set_option maxRecDepth 100000
def TAl (f:Nat→Value) (a B:Nat) (t:TypeId) (cs:Array Value) (d:Nat) (w:World) (v:Value):Prop:=if d=a then HasB B t cs w v else v=f d
theorem tal_nx {f:Nat→Value} {a B:Nat} {t:TypeId} {cs:Array Value}:∀ d w w' v,Nx w w'→TAl f a B t cs d w v→TAl f a B t cs d w' v:=fun d w w' v hb h=>by
 unfold TAl at h ⊢
 split at h
 ·rename_i e
  rw [if_pos e]
  exact h.nx hb
 ·rename_i e
  rw [if_neg e]
  exact h
theorem tal_blk {f:Nat→Value} {a B:Nat} {t:TypeId} {cs:Array Value}:∀ d w v b,TAl f a B t cs d w v→(if d=a then 1 else 0:Nat)≠0→blkV v=some b→b<w.heap.size:=fun d w v b h hc hb=>by
 unfold TAl at h
 by_cases e:d=a
 ·rw [if_pos e] at h
  exact h.blk hb
 ·rw [if_neg e] at hc
  exact absurd rfl hc
theorem join_B5 {u v:List Nat} (hu:VwB u) (hv:VwB v):VwB (joinV u v):=⟨join_len hu.1 hv.1,fun l hl=>by
 rw [join_at hu.1 hv.1 l hl]
 have:=hu.2 l hl
 have:=hv.2 l hl
 omega⟩
theorem msg_bytes {p:Prg} {s:VSt} (hp:PrgOk p) (h:VOk p s) {l j:Nat} (hl:l<3) (hj:j<(lstV s l).length):VwB (gM (lstV s l) j).view:=by
 have h3:=h.len
 have hm:lstV s l∈s.lists:=by
  unfold lstV
  rw [List.getD_eq_getElem?_getD,List.getElem?_eq_getElem (show l<s.lists.length by omega)]
  exact List.getElem_mem _
 refine vw_bytes hp h (h.vals _ hm _ ?_).2
 unfold gM
 rw [List.getD_eq_getElem?_getD,List.getElem?_eq_getElem hj]
 exact List.getElem_mem _
theorem Own5.obs {w a:World} {base n:Nat} {q:L5} {p:Prg} {s:VSt} {P:Nat→Nat} {G:Nat→Int} {V:Nat→V5} {N Lb Lc:Nat→Nat} {M:Nat→Nat→M5} {κ:Nat→Nat} (h:Own5 w base q n P G V N Lb Lc M κ) (hn:n=p.length) (ho:ObP p s P G (fun u=>(V u).v) N (fun l j=>(M l j).m)) (ha:Le (above base w) a):Rep5 a q p s:=
 h.rep hn (fun u hu=>ho.pc u (by omega)) (fun i hi=>ho.reg i (by omega)) (fun u hu=>ho.own u (by omega)) ho.len ho.msg ha
theorem Own5.rebase {w:World} {base base' n:Nat} {q:L5} {P:Nat→Nat} {G:Nat→Int} {V:Nat→V5} {N Lb Lc:Nat→Nat} {M:Nat→Nat→M5} {κ:Nat→Nat} (h:Own5 w base q n P G V N Lb Lc M κ) (hb:base'≤base):Own5 w base' q n P G V N Lb Lc M κ:=
 { h with at_:=h.at_.rebase hb,regs:=h.regs.rebase hb,view:=h.view.rebase hb,list:=h.list.rebase hb,vw:=fun t ht=>(h.vw t ht).rebase hb,lb:=fun l hl=>(h.lb l hl).rebase hb,mv:=fun l hl k hk=>(h.mv l hl k hk).rebase hb }
theorem Own5.farS {w:World} {base n g:Nat} {q:L5} {P:Nat→Nat} {G:Nat→Int} {V:Nat→V5} {N Lb Lc:Nat→Nat} {M:Nat→Nat→M5} {κ:Nat→Nat} (h:Own5 w base q n P G V N Lb Lc M κ) {cs:Array Value} (ho:Own w g 48 cs) (i:Nat) (u:Value):Own5 (w.setCell ⟨g,i,none⟩ u) base q n P G V N Lb Lc M κ:=
 have f:∀ {b ty k F},CelW w base b ty k F→ty≠48→CelW (w.setCell ⟨g,i,none⟩ u) base b ty k F:=fun hc hn=>hc.far (hc.ne_own ho hn) u
 { h with at_:=f h.at_ (by decide),regs:=f h.regs (by decide),view:=f h.view (by decide),list:=f h.list (by decide),vw:=fun t ht=>f (h.vw t ht) (by decide),lb:=fun l hl=>f (h.lb l hl) (by decide),mv:=fun l hl k hk=>f (h.mv l hl k hk) (by decide) }
def RetO5 (W:World) (p:Prg) (s:VSt) (e:Ending) (W':World):Prop:=∃ q P G V N Lb Lc M κ,e=.returned (v5 q p.length)∧Own5 W' W.heap.size q p.length P G V N Lb Lc M κ∧ObP p s P G (fun u=>(V u).v) N (fun l j=>(M l j).m)∧Below W.heap.size W W'
theorem RetO5.ret {W W':World} {p:Prg} {s:VSt} {e:Ending} (h:RetO5 W p s e W'):RetV5 W p s e W':=by
 obtain⟨q,P,G,V,N,Lb,Lc,M,κ,h1,h2,h3,h4⟩:=h
 exact⟨q,h1,h2.obs rfl h3 (Le.refl _),h4⟩
set_option maxHeartbeats 8000000 in
theorem l5Do_any (p:Prg) (hp:PrgOk p) (s:VSt) (hs:VOk p s) (t k:Nat) (ht:t<p.length) (hcan:canV p s t k=true) (W:World) (vp:Value) (hpr:PrgS W vp p) (q:L5) (hr:Rep5 W q p s):
  Calls Try.prog 46 #[vp,v5 q p.length,.int .i64 ((t:Nat):Int),.int .i64 ((k:Nat):Int)] W (RetO5 W p (doV s t (insS p s.s t) k)):=by
 obtain⟨Ap,cp,rfl,hpl⟩:=SlR.slice hpr
 have hp3:=hp.1.1
 obtain⟨V,hV⟩:∃ V,V=(W.alloc (.cells #[.slice (some ⟨q.b1,0,none⟩) p.length q.c1,.slice (some ⟨q.b2,0,none⟩) (p.length*3) q.c2,.slice (some ⟨q.b3,0,none⟩) p.length q.c3,.slice (some ⟨q.b4,0,none⟩) 3 q.c4] 48)).alloc (.cells #[.slice none 0 0,.slice none 0 0,.slice none 0 0,.slice none 0 0] 48):=⟨_,rfl⟩
 have hB:Below W.heap.size W V:=by rw [hV]; exact ((Below.refl _ _).alloc (Nat.le_refl _) _).alloc (by simp) _
 have hVs:V.heap.size=W.heap.size+2:=by rw [hV]; simp
 have oX:Own V W.heap.size 48 #[.slice (some ⟨q.b1,0,none⟩) p.length q.c1,.slice (some ⟨q.b2,0,none⟩) (p.length*3) q.c2,.slice (some ⟨q.b3,0,none⟩) p.length q.c3,.slice (some ⟨q.b4,0,none⟩) 3 q.c4]:=by rw [hV]; exact (Own.new _ _ _).alloc _
 have oR:Own V (W.heap.size+1) 48 #[.slice none 0 0,.slice none 0 0,.slice none 0 0,.slice none 0 0]:=by rw [hV]; simpa using Own.new (W.alloc (.cells #[.slice (some ⟨q.b1,0,none⟩) p.length q.c1,.slice (some ⟨q.b2,0,none⟩) (p.length*3) q.c2,.slice (some ⟨q.b3,0,none⟩) p.length q.c3,.slice (some ⟨q.b4,0,none⟩) 3 q.c4] 48)) 48 #[.slice none 0 0,.slice none 0 0,.slice none 0 0,.slice none 0 0]
 have hcp:=l5Copy_any p hp s hs V q (hr.le (Le.below hB))
 unfold v5 v5C at hcp
 have x0:=oX.cell (i:=0) rfl
 have x1:=oX.cell (i:=1) rfl
 have x2:=oX.cell (i:=2) rfl
 have x3:=oX.cell (i:=3) rfl
 have hWV:=oX.lt
 have HO:=Lib.hid (And.intro oX (And.intro oR (And.intro hVs hr)))
 have HP:=Lib.hid hpr
 have hpc:pcS s.s t<(thrP p t).length:=by
  rcases Nat.lt_or_ge (pcS s.s t) (thrP p t).length with h | h
  ·exact h
  ·rw [canV_off (by omega)] at hcan; cases hcan
 have hcn:=canV_cn (k:=k) hpc
 rw [hcan] at hcn
 have hix:=ins_ok hp hpc
 have hth:=thrP_get ht
 obtain⟨bp,op,A5,c5,e5,hbp,k0,_,hins⟩:=SlR.getSub HP.out ht
 subst e5
 obtain⟨th,hthe⟩:∃ th,th=p[t]:=⟨_,rfl⟩
 rw [← hthe] at k0 hins hth
 obtain⟨j,hjj⟩:∃ j,j=pcS s.s t:=⟨_,rfl⟩
 have hjl:j<th.length:=by rw [hjj,← hth]; exact hpc
 have hx:th[j]'hjl=insS p s.s t:=by
  have h:=ins_get hpc
  rw [h]
  simp only [hth,hjj]
 obtain⟨b1,o1,e6,hb1,ii0,ii1,ii2,ii3⟩:=InsS.get hins hjl
 subst e6
 rw [hx] at ii0 ii1 ii2 ii3
 obtain⟨x,hxe⟩:∃ x,x=insS p s.s t:=⟨_,rfl⟩
 rw [← hxe] at ii0 ii1 ii2 ii3 hix hcn ⊢
 have hth7:th.length≤7:=by rw [← hth]; exact (thr_ok hp t).1
 have j0:=hr.at_ t ht
 rw [← hjj] at j0
 have HW:Hid ((W.cell? ⟨bp,op+t,none⟩=some (.slice (some ⟨b1,o1,none⟩) th.length c5)∧W.cell? ⟨q.b1,t,none⟩=some (.int .i64 (j:Int)))∧W.cell? ⟨b1,o1+j*4,none⟩=some (.int .i64 x.op)∧W.cell? ⟨b1,o1+j*4+1,none⟩=some (.int .i64 x.loc)∧W.cell? ⟨b1,o1+j*4+2,none⟩=some (.int .i64 x.reg)∧W.cell? ⟨b1,o1+j*4+3,none⟩=some (.int .i64 x.val)):=⟨⟨k0,j0⟩,ii0,ii1,ii2,ii3⟩
 obtain⟨r,hr2⟩:∃ r:Nat,x.reg=(r:Int):=⟨x.reg.toNat,by have:=hix.reg; omega⟩
 obtain⟨l,hl2⟩:∃ l:Nat,x.loc=(l:Int):=⟨x.loc.toNat,by have:=hix.loc; omega⟩
 have hr3:r<3:=by have:=hix.reg; omega
 have hl3:l<3:=by have:=hix.loc; omega
 have hlt:x.loc.toNat=l:=by omega
 have hrt:rgI t x=t*3+r:=by unfold rgI; omega
 rw [hlt] at hcn
 have hval:=hix.val
 have hopb:=hix.op
 have HX:Hid (x.reg=(r:Int)∧x.loc=(l:Int)∧x.loc.toNat=l∧rgI t x=t*3+r):=⟨hr2,hl2,hlt,hrt⟩
 have hlen:=lens_le hp hs hl3
 have Hcn:Hid (true=cn5 x (lstV s l) (atV (ownV s t) l) k):=hcn
 have hk1:x.op=1∨x.op=5→k<(lstV s l).length:=fun h=>by
  unfold cn5 at hcn
  rcases h with h | h
  ·rw [if_neg (by omega),if_pos h] at hcn
   exact of_decide_eq_true (Bool.and_eq_true_iff.1 hcn.symm).2
  ·rw [if_neg (by omega),if_neg (by omega),if_pos h] at hcn
   exact of_decide_eq_true (Bool.and_eq_true_iff.1 (Bool.and_eq_true_iff.1 hcn.symm).1).2
 have hk2:x.op=2∨x.op=3→1≤k∧k≤(lstV s l).length:=fun h=>by
  unfold cn5 at hcn
  rw [if_neg (by omega),if_neg (by omega),if_neg (by omega)] at hcn
  obtain⟨h1,h2⟩:=Bool.and_eq_true_iff.1 (Bool.and_eq_true_iff.1 hcn.symm).1
  exact⟨by have:=of_decide_eq_true h1; omega,of_decide_eq_true h2⟩
 have hk100:x.op≠4→k≤13:=fun h=>by
  rcases (show x.op=1∨x.op=5∨x.op=2∨x.op=3 by omega) with h | h | h | h
  ·have:=hk1 (.inl h); omega
  ·have:=hk1 (.inr h); omega
  ·have:=hk2 (.inl h); omega
  ·have:=hk2 (.inr h); omega
 have HK1:=Lib.hid hk1
 have HK2:=Lib.hid hk2
 have HK3:=Lib.hid hk100
 have hrd:=fun (h:x.op=1∨x.op=5)=>(ObP.refl p s).rd (t:=t) (k:=k) (x:=x) ht hs.ok.pcl hs.ok.regl hs.ownl (by rw [hrt]; omega) (by omega) (fun _=>by rw [hlt]; exact hk1 h)
 have hrn:=fun (h:rdB x=false)=>(ObP.refl p s).rd (t:=t) (k:=k) (x:=x) ht hs.ok.pcl hs.ok.regl hs.ownl (by rw [hrt]; omega) (by omega) (fun e=>by rw [h] at e; cases e)
 have HRd:=Lib.hid hrd
 have HRn:=Lib.hid hrn
 have Hs:=Lib.hid hs
 have Hp:=Lib.hid hp
 have hjI:(j:Int)<(th.length:Int):=by omega
 have htI:(t:Int)<(p.length:Int):=by omega
 have Hjj:=Lib.hid hjj
 clear hVs oR oX hpr hr hk1 hk2 hk100 hrd hrn hcn hix hth hthe hins ii0 ii1 ii2 ii3 k0 j0 hx hxe hcan hpc hr2 hl2 hlt hrt hjj
 unfold v5 v5C
 go_enter Try.func46,Try.ntmps46
 go_upto_region 1 with (fail)
 rw [← hV]
 clear hV
 go_wp2_with fail
 refine hcp.mono ?_
 rintro e5 w5 ⟨q5,Vf,N,Lb,Lc,M,κ,rfl,ho5,hv5,hn5,hm5,hb5⟩
 unfold v5 v5C
 obtain⟨w6,hw6⟩:∃ w6,w6=w5.alloc (.cells #[.slice (some ⟨q5.b1,0,none⟩) p.length q5.c1,.slice (some ⟨q5.b2,0,none⟩) (p.length*3) q5.c2,.slice (some ⟨q5.b3,0,none⟩) p.length q5.c3,.slice (some ⟨q5.b4,0,none⟩) 3 q5.c4] 48):=⟨_,rfl⟩
 have hB6:Below V.heap.size V w6:=by rw [hw6]; exact hb5.alloc hb5.size _
 have oT6:Own w6 w5.heap.size 48 #[.slice (some ⟨q5.b1,0,none⟩) p.length q5.c1,.slice (some ⟨q5.b2,0,none⟩) (p.length*3) q5.c2,.slice (some ⟨q5.b3,0,none⟩) p.length q5.c3,.slice (some ⟨q5.b4,0,none⟩) 3 q5.c4]:=by rw [hw6]; exact Own.new _ _ _
 have hs6:w6.heap.size=w5.heap.size+1:=by rw [hw6]; simp
 have H5:Hid (Own5 w6 V.heap.size q5 p.length (fun t=>pcS s.s t) (fun i=>s.s.regs.getD i 0) Vf N Lb Lc M κ):=ho5.under (by rw [hw6]; exact (Below.refl _ _).alloc (Nat.le_refl _) _)
 have HR:Hid (∀ U,Below V.heap.size V U→(U.cell? ⟨W.heap.size,0,none⟩=some (.slice (some ⟨q.b1,0,none⟩) p.length q.c1)∧U.cell? ⟨W.heap.size,1,none⟩=some (.slice (some ⟨q.b2,0,none⟩) (p.length*3) q.c2))∧Rep5 U q p s∧Own U (W.heap.size+1) 48 #[.slice none 0 0,.slice none 0 0,.slice none 0 0,.slice none 0 0]∧Le W U):=fun U hU=>by
  have hl:Le W U:=(Le.below hB).trans (Le.below hU)
  have oX:=HO.out.1
  exact⟨⟨Le.below hU _ _ (oX.cell (i:=0) rfl),Le.below hU _ _ (oX.cell (i:=1) rfl)⟩,HO.out.2.2.2.le hl,HO.out.2.1.under hU,hl⟩
 have HV5:=Lib.hid (And.intro hv5 (And.intro hn5 hm5))
 have HVs:=Lib.hid HO.out.2.2.1
 have OT6:=Lib.hid oT6
 obtain⟨T,hTT⟩:∃ T,T=w5.heap.size:=⟨_,rfl⟩
 have hT6:T<w6.heap.size:=by omega
 have hb5s:=hb5.size
 have hVT:V.heap.size≤T:=by omega
 rw [← hTT] at OT6
 have HEnd:Hid (∀ (sE:VSt) (wf:World) (P:Nat→Nat) (G:Nat→Int) (Vg:Nat→V5) (Ng Lbg Lcg:Nat→Nat) (Mg:Nat→Nat→M5) (κg:Nat→Nat),Own5 wf V.heap.size q5 p.length P G Vg Ng Lbg Lcg Mg κg→ObP p sE P G (fun u=>(Vg u).v) Ng (fun l j=>(Mg l j).m)→Below V.heap.size V wf→RetO5 W p sE (.returned (.agg #[.slice (some ⟨q5.b1,0,none⟩) p.length q5.c1,.slice (some ⟨q5.b2,0,none⟩) (p.length*3) q5.c2,.slice (some ⟨q5.b3,0,none⟩) p.length q5.c3,.slice (some ⟨q5.b4,0,none⟩) 3 q5.c4])) ((((wf.setCell ⟨W.heap.size+1,0,none⟩ (.slice (some ⟨q5.b1,0,none⟩) p.length q5.c1)).setCell ⟨W.heap.size+1,1,none⟩ (.slice (some ⟨q5.b2,0,none⟩) (p.length*3) q5.c2)).setCell ⟨W.heap.size+1,2,none⟩ (.slice (some ⟨q5.b3,0,none⟩) p.length q5.c3)).setCell ⟨W.heap.size+1,3,none⟩ (.slice (some ⟨q5.b4,0,none⟩) 3 q5.c4))):=fun sE wf P G Vg Ng Lbg Lcg Mg κg h1 h2 h3=>by
  have hWV2:=HVs.out
  have hWR:W.heap.size≤W.heap.size+1:=Nat.le_succ _
  refine⟨q5,P,G,Vg,Ng,Lbg,Lcg,Mg,κg,rfl,(h1.of_blocks fun b hb hl=>?_).rebase (by omega),h2,((((hB.trans (h3.mono hB.size)).setCell hWR _).setCell hWR _).setCell hWR _).setCell hWR _⟩
  have hne:b≠W.heap.size+1:=by omega
  rw [Go.Deep.blk_setCell_other _ _ _ _ hne,Go.Deep.blk_setCell_other _ _ _ _ hne,Go.Deep.blk_setCell_other _ _ _ _ hne,Go.Deep.blk_setCell_other _ _ _ _ hne]
 have HT1:Hid (W.heap.size+1<V.heap.size):=by have:=HVs.out; show _<_; omega
 clear oT6 ho5 hv5 hn5 hm5 hcp x0 x1 x2 x3
 go_upto_region 2 with (fail)
 rw [← hw6,← hTT]
 clear hw6 hTT hb5 hs6 hb5s
 obtain⟨fa,hfa⟩:∃ f:Nat→Value,f=(fun d=>match d with | 15=>.slice (some ⟨bp,op,none⟩) p.length cp | 16=>.int .i64 (t:Int) | 17=>.pointer (some ⟨bp,op+t,none⟩) | 18=>.slice (some ⟨b1,o1,none⟩) th.length c5 | 19=>.pointer (some ⟨W.heap.size,0,none⟩) | 20=>.slice (some ⟨q.b1,0,none⟩) p.length q.c1 | 21=>.int .i64 (t:Int) | 22=>.pointer (some ⟨q.b1,t,none⟩) | 23=>.int .i64 (j:Int) | 24=>.pointer (some ⟨b1,o1+j*4,none⟩) | 25=>.agg #[.int .i64 x.op,.int .i64 x.loc,.int .i64 x.reg,.int .i64 x.val] | _=>undef):=⟨_,rfl⟩
 have hf15:fa 15=.slice (some ⟨bp,op,none⟩) p.length cp:=congrFun hfa 15
 have hf16:fa 16=.int .i64 (t:Int):=congrFun hfa 16
 have hf17:fa 17=.pointer (some ⟨bp,op+t,none⟩):=congrFun hfa 17
 have hf18:fa 18=.slice (some ⟨b1,o1,none⟩) th.length c5:=congrFun hfa 18
 have hf19:fa 19=.pointer (some ⟨W.heap.size,0,none⟩):=congrFun hfa 19
 have hf20:fa 20=.slice (some ⟨q.b1,0,none⟩) p.length q.c1:=congrFun hfa 20
 have hf21:fa 21=.int .i64 (t:Int):=congrFun hfa 21
 have hf22:fa 22=.pointer (some ⟨q.b1,t,none⟩):=congrFun hfa 22
 have hf23:fa 23=.int .i64 (j:Int):=congrFun hfa 23
 have hf24:fa 24=.pointer (some ⟨b1,o1+j*4,none⟩):=congrFun hfa 24
 have hf25:fa 25=.agg #[.int .i64 x.op,.int .i64 x.loc,.int .i64 x.reg,.int .i64 x.val]:=congrFun hfa 25
 clear hfa
 refine wp_region_rel [0,1,2,3,4,5,6,7,8,9,10,11] [12] (TAl fa 10 w6.heap.size 84 #[.int .i64 0,.int .i64 0,.int .i64 0,.int .i64 0]) (fun d=>if d=10 then 1 else 0) [15,16,17,18,19,20,21,22,23,24,25,10] (by kernel_rfl) (by kernel_rfl) rfl (by simp) tal_nx tal_blk ?_ ?_
 ·refine⟨?_,?_,?_,?_,?_,?_,?_,?_,?_,?_,?_,?_,trivial⟩
  all_goals (intro xs w hw hdep hsep; have hbw:=nx_below hw; simp only [shpA,fillL,List.contains_cons,List.contains_nil,Nat.reduceAdd,Nat.reduceBEq,Bool.or_false,Bool.or_true,Bool.false_eq_true,↓reduceIte])
  ·go_wp2_with fail
   exact RelPost.mk (Nx.refl _) _ rfl hf15.symm rfl
  ·go_wp2_with fail
   exact RelPost.mk (Nx.refl _) _ rfl hf16.symm rfl
  ·have e15:xs 15=.slice (some ⟨bp,op,none⟩) p.length cp:=(show xs 15=fa 15 from hdep 15 (List.mem_of_elem_eq_true (by kernel_rfl))).trans hf15
   have e16:xs 16=.int .i64 (t:Int):=(show xs 16=fa 16 from hdep 16 (List.mem_of_elem_eq_true (by kernel_rfl))).trans hf16
   rw [e15,e16]
   go_wp2_with fail
   exact RelPost.mk (Nx.refl _) _ rfl hf17.symm rfl
  ·have e17:xs 17=.pointer (some ⟨bp,op+t,none⟩):=(show xs 17=fa 17 from hdep 17 (List.mem_of_elem_eq_true (by kernel_rfl))).trans hf17
   have q0:=(HR.out w (hB6.trans (hbw.mono hB6.size))).2.2.2 _ _ HW.out.1.1
   rw [e17]
   go_wp2_with fail
   exact RelPost.mk (Nx.refl _) _ rfl hf18.symm rfl
  ·go_wp2_with fail
   exact RelPost.mk (Nx.refl _) _ rfl hf19.symm rfl
  ·have e19:xs 19=.pointer (some ⟨W.heap.size,0,none⟩):=(show xs 19=fa 19 from hdep 19 (List.mem_of_elem_eq_true (by kernel_rfl))).trans hf19
   have q0:=(HR.out w (hB6.trans (hbw.mono hB6.size))).1.1
   rw [e19]
   go_wp2_with fail
   exact RelPost.mk (Nx.refl _) _ rfl hf20.symm rfl
  ·go_wp2_with fail
   exact RelPost.mk (Nx.refl _) _ rfl hf21.symm rfl
  ·have e20:xs 20=.slice (some ⟨q.b1,0,none⟩) p.length q.c1:=(show xs 20=fa 20 from hdep 20 (List.mem_of_elem_eq_true (by kernel_rfl))).trans hf20
   have e21:xs 21=.int .i64 (t:Int):=(show xs 21=fa 21 from hdep 21 (List.mem_of_elem_eq_true (by kernel_rfl))).trans hf21
   rw [e20,e21]
   go_wp2_with fail
   exact RelPost.mk (Nx.refl _) _ rfl hf22.symm rfl
  ·have e22:xs 22=.pointer (some ⟨q.b1,t,none⟩):=(show xs 22=fa 22 from hdep 22 (List.mem_of_elem_eq_true (by kernel_rfl))).trans hf22
   have q0:=(HR.out w (hB6.trans (hbw.mono hB6.size))).2.2.2 _ _ HW.out.1.2
   rw [e22]
   go_wp2_with fail
   exact RelPost.mk (Nx.refl _) _ rfl hf23.symm rfl
  ·have e18:xs 18=.slice (some ⟨b1,o1,none⟩) th.length c5:=(show xs 18=fa 18 from hdep 18 (List.mem_of_elem_eq_true (by kernel_rfl))).trans hf18
   have e23:xs 23=.int .i64 (j:Int):=(show xs 23=fa 23 from hdep 23 (List.mem_of_elem_eq_true (by kernel_rfl))).trans hf23
   rw [e18,e23]
   go_wp2_with fail
   exact RelPost.mk (Nx.refl _) _ rfl hf24.symm rfl
  ·have e24:xs 24=.pointer (some ⟨b1,o1+j*4,none⟩):=(show xs 24=fa 24 from hdep 24 (List.mem_of_elem_eq_true (by kernel_rfl))).trans hf24
   have q0:=(HR.out w (hB6.trans (hbw.mono hB6.size))).2.2.2 _ _ HW.out.2.1
   have q1:=(HR.out w (hB6.trans (hbw.mono hB6.size))).2.2.2 _ _ HW.out.2.2.1
   have q2:=(HR.out w (hB6.trans (hbw.mono hB6.size))).2.2.2 _ _ HW.out.2.2.2.1
   have q3:=(HR.out w (hB6.trans (hbw.mono hB6.size))).2.2.2 _ _ HW.out.2.2.2.2
   rw [e24]
   go_wp2_with fail
   exact RelPost.mk (Nx.refl _) _ rfl hf25.symm rfl
  ·go_wp2_with fail
   exact RelPost.own ((Below.refl _ _).alloc (Nat.le_refl _) _) _ rfl ⟨w.heap.size,rfl,Own.new w _ _,Below.size hbw⟩ (fun b hb=>.inl (by injection hb with hb; simp only at hb; omega))
 intro xs w7 hw hT hsep
 have hbw:=nx_below hw
 obtain⟨X,e10,oX7,hX6⟩:HasB w6.heap.size 84 #[.int .i64 0,.int .i64 0,.int .i64 0,.int .i64 0] w7 (xs 10):=hT 10 (List.mem_of_elem_eq_true (by kernel_rfl))
 have e25:xs 25=.agg #[.int .i64 x.op,.int .i64 x.loc,.int .i64 x.reg,.int .i64 x.val]:=(show xs 25=fa 25 from hT 25 (List.mem_of_elem_eq_true (by kernel_rfl))).trans hf25
 show wpList _ _ _ [_] _ _
 simp only [shpA,fillL,List.contains_cons,List.contains_nil,Nat.reduceAdd,Nat.reduceBEq,Bool.or_false,Bool.or_true,Bool.false_eq_true,↓reduceIte]
 rw [e10,e25]
 clear hT hsep hw e10 e25 hf15 hf16 hf17 hf18 hf19 hf20 hf21 hf22 hf23 hf24 hf25
 generalize xs 15=u15x
 generalize xs 16=u16x
 generalize xs 17=u17x
 generalize xs 18=u18x
 generalize xs 19=u19x
 generalize xs 20=u20x
 generalize xs 21=u21x
 generalize xs 22=u22x
 generalize xs 23=u23x
 generalize xs 24=u24x
 have z0:=oX7.cell (i:=0) rfl
 have z1:=oX7.cell (i:=1) rfl
 have z2:=oX7.cell (i:=2) rfl
 have z3:=oX7.cell (i:=3) rfl
 have y0:=oX7.frozen 0
 have y1:=oX7.frozen 1
 have y2:=oX7.frozen 2
 have y3:=oX7.frozen 3
 obtain⟨w8,hw8⟩:∃ w8,w8=(((w7.setCell ⟨X,0,none⟩ (.int .i64 x.op)).setCell ⟨X,1,none⟩ (.int .i64 x.loc)).setCell ⟨X,2,none⟩ (.int .i64 x.reg)).setCell ⟨X,3,none⟩ (.int .i64 x.val):=⟨_,rfl⟩
 have oX8:Own w8 X 84 #[.int .i64 x.op,.int .i64 x.loc,.int .i64 x.reg,.int .i64 x.val]:=by rw [hw8]; exact (((oX7.set 0 (.int .i64 x.op)).set 1 (.int .i64 x.loc)).set 2 (.int .i64 x.reg)).set 3 (.int .i64 x.val)
 have hb8:Below w6.heap.size w6 w8:=by rw [hw8]; exact (((hbw.setCell hX6 _).setCell hX6 _).setCell hX6 _).setCell hX6 _
 have hBV8:Below V.heap.size V w8:=hB6.trans (hb8.mono hB6.size)
 have H8:=Lib.hid (H5.out.under hb8)
 have OX8:=Lib.hid oX8
 have OT8:=Lib.hid (OT6.out.under hb8)
 have hX8:=oX8.lt
 have hT8:T<w8.heap.size:=Nat.lt_of_lt_of_le hT6 hb8.size
 have hatl:=H8.out.at_.lt
 have hatf:=Lib.hid (H8.out.at_.frozen t)
 go_upto_region 3 with (fail)
 rw [← hw8]
 clear hw8 oX7 oX8 z0 z1 z2 z3 y0 y1 y2 y3 hbw H5 OT6
 obtain⟨fb,hfb⟩:∃ f:Nat→Value,f=(fun d=>match d with | 26=>.pointer (some ⟨T,0,none⟩) | 27=>.slice (some ⟨q5.b1,0,none⟩) p.length q5.c1 | 28=>.int .i64 (t:Int) | 29=>.pointer (some ⟨W.heap.size,0,none⟩) | 30=>.slice (some ⟨q.b1,0,none⟩) p.length q.c1 | 31=>.int .i64 (t:Int) | 32=>.pointer (some ⟨q.b1,t,none⟩) | 33=>.int .i64 (j:Int) | 34=>.int .i64 ((j:Int)+1) | 35=>.pointer (some ⟨q5.b1,t,none⟩) | _=>undef):=⟨_,rfl⟩
 have hf26:fb 26=.pointer (some ⟨T,0,none⟩):=congrFun hfb 26
 have hf27:fb 27=.slice (some ⟨q5.b1,0,none⟩) p.length q5.c1:=congrFun hfb 27
 have hf28:fb 28=.int .i64 (t:Int):=congrFun hfb 28
 have hf29:fb 29=.pointer (some ⟨W.heap.size,0,none⟩):=congrFun hfb 29
 have hf30:fb 30=.slice (some ⟨q.b1,0,none⟩) p.length q.c1:=congrFun hfb 30
 have hf31:fb 31=.int .i64 (t:Int):=congrFun hfb 31
 have hf32:fb 32=.pointer (some ⟨q.b1,t,none⟩):=congrFun hfb 32
 have hf33:fb 33=.int .i64 (j:Int):=congrFun hfb 33
 have hf34:fb 34=.int .i64 ((j:Int)+1):=congrFun hfb 34
 have hf35:fb 35=.pointer (some ⟨q5.b1,t,none⟩):=congrFun hfb 35
 clear hfb
 refine wp_region_rel [0,1,2,3,4,5,6,7,8,9] [10] (TEq fb) (fun _=>0) [26,27,28,29,30,31,32,33,34,35] (by kernel_rfl) (by kernel_rfl) rfl (by simp) teq_nx teq_blk ?_ ?_
 ·refine⟨?_,?_,?_,?_,?_,?_,?_,?_,?_,?_,trivial⟩
  all_goals (intro xs w hw hdep hsep; have hbw:=nx_below hw; simp only [shpA,fillL,List.contains_cons,List.contains_nil,Nat.reduceAdd,Nat.reduceBEq,Bool.or_false,Bool.or_true,Bool.false_eq_true,↓reduceIte])
  ·go_wp2_with fail
   exact RelPost.mk (Nx.refl _) _ rfl hf26.symm rfl
  ·have e26:xs 26=.pointer (some ⟨T,0,none⟩):=(show xs 26=fb 26 from hdep 26 (List.mem_of_elem_eq_true (by kernel_rfl))).trans hf26
   have q0:=(OT8.out.under hbw).cell (i:=0) rfl
   rw [e26]
   go_wp2_with fail
   exact RelPost.mk (Nx.refl _) _ rfl hf27.symm rfl
  ·go_wp2_with fail
   exact RelPost.mk (Nx.refl _) _ rfl hf28.symm rfl
  ·go_wp2_with fail
   exact RelPost.mk (Nx.refl _) _ rfl hf29.symm rfl
  ·have e29:xs 29=.pointer (some ⟨W.heap.size,0,none⟩):=(show xs 29=fb 29 from hdep 29 (List.mem_of_elem_eq_true (by kernel_rfl))).trans hf29
   have q0:=(HR.out w (hBV8.trans (hbw.mono hBV8.size))).1.1
   rw [e29]
   go_wp2_with fail
   exact RelPost.mk (Nx.refl _) _ rfl hf30.symm rfl
  ·go_wp2_with fail
   exact RelPost.mk (Nx.refl _) _ rfl hf31.symm rfl
  ·have e30:xs 30=.slice (some ⟨q.b1,0,none⟩) p.length q.c1:=(show xs 30=fb 30 from hdep 30 (List.mem_of_elem_eq_true (by kernel_rfl))).trans hf30
   have e31:xs 31=.int .i64 (t:Int):=(show xs 31=fb 31 from hdep 31 (List.mem_of_elem_eq_true (by kernel_rfl))).trans hf31
   rw [e30,e31]
   go_wp2_with fail
   exact RelPost.mk (Nx.refl _) _ rfl hf32.symm rfl
  ·have e32:xs 32=.pointer (some ⟨q.b1,t,none⟩):=(show xs 32=fb 32 from hdep 32 (List.mem_of_elem_eq_true (by kernel_rfl))).trans hf32
   have q0:=(HR.out w (hBV8.trans (hbw.mono hBV8.size))).2.2.2 _ _ HW.out.1.2
   rw [e32]
   go_wp2_with fail
   exact RelPost.mk (Nx.refl _) _ rfl hf33.symm rfl
  ·have e33:xs 33=.int .i64 (j:Int):=(show xs 33=fb 33 from hdep 33 (List.mem_of_elem_eq_true (by kernel_rfl))).trans hf33
   rw [e33]
   go_wp2_with fail
   exact RelPost.mk (Nx.refl _) _ rfl hf34.symm rfl
  ·have e27:xs 27=.slice (some ⟨q5.b1,0,none⟩) p.length q5.c1:=(show xs 27=fb 27 from hdep 27 (List.mem_of_elem_eq_true (by kernel_rfl))).trans hf27
   have e28:xs 28=.int .i64 (t:Int):=(show xs 28=fb 28 from hdep 28 (List.mem_of_elem_eq_true (by kernel_rfl))).trans hf28
   rw [e27,e28]
   go_wp2_with fail
   exact RelPost.mk (Nx.refl _) _ rfl hf35.symm rfl
 intro xs w9 hw hT hsep
 have hbw:=nx_below hw
 have e34:xs 34=.int .i64 ((j:Int)+1):=(show xs 34=fb 34 from hT 34 (List.mem_of_elem_eq_true (by kernel_rfl))).trans hf34
 have e35:xs 35=.pointer (some ⟨q5.b1,t,none⟩):=(show xs 35=fb 35 from hT 35 (List.mem_of_elem_eq_true (by kernel_rfl))).trans hf35
 show wpList _ _ _ [_] _ _
 simp only [shpA,fillL,List.contains_cons,List.contains_nil,Nat.reduceAdd,Nat.reduceBEq,Bool.or_false,Bool.or_true,Bool.false_eq_true,↓reduceIte]
 rw [e34,e35]
 clear hT hsep hw e34 e35 hf26 hf27 hf28 hf29 hf30 hf31 hf32 hf33 hf34 hf35
 generalize xs 26=u26x
 generalize xs 27=u27x
 generalize xs 28=u28x
 generalize xs 29=u29x
 generalize xs 30=u30x
 generalize xs 31=u31x
 generalize xs 32=u32x
 generalize xs 33=u33x
 have h9:=H8.out.under hbw
 have z1:=h9.at_.cell ht
 have f1:=h9.at_.frozen t
 have H10:=Lib.hid (h9.setA ht (j+1))
 obtain⟨w10,hw10⟩:∃ w10,w10=w9.setCell ⟨q5.b1,t,none⟩ (.int .i64 ((j:Int)+1)):=⟨_,rfl⟩
 have hneT:q5.b1≠T:=h9.at_.ne_own (OT8.out.under hbw) (by decide)
 have hneX:q5.b1≠X:=h9.at_.ne_own (OX8.out.under hbw) (by decide)
 have OT10:=Lib.hid ((OT8.out.under hbw).far (a:=⟨q5.b1,t,none⟩) (fun e=>hneT e.symm) (.int .i64 ((j:Int)+1)))
 have OX10:=Lib.hid ((OX8.out.under hbw).far (a:=⟨q5.b1,t,none⟩) (fun e=>hneX e.symm) (.int .i64 ((j:Int)+1)))
 have hBV10:Below V.heap.size V (w9.setCell ⟨q5.b1,t,none⟩ (.int .i64 ((j:Int)+1))):=(hBV8.trans (hbw.mono hBV8.size)).setCell h9.at_.1 _
 rw [show (((j+1:Nat):Int))=(j:Int)+1 by omega] at H10
 go_upto_region 4 with (fail)
 rw [← hw10] at H10 OT10 OX10 hBV10 ⊢
 clear hw10 z1 f1 OT8 OX8 H8 hbw hX8 hb8 hBV8 h9 hneT hneX hT8 hatl hatf
 have hX10:=OX10.out.lt
 have hT10:=OT10.out.lt
 have xc0:=OX10.out.cell (i:=0) rfl
 have xc3:=OX10.out.cell (i:=3) rfl
 have HXc:Hid (∀ U,Own U X 84 #[.int .i64 x.op,.int .i64 x.loc,.int .i64 x.reg,.int .i64 x.val]→U.cell? ⟨X,0,none⟩=some (.int .i64 x.op)∧U.cell? ⟨X,1,none⟩=some (.int .i64 (l:Int))∧U.cell? ⟨X,2,none⟩=some (.int .i64 (r:Int))):=fun U h=>⟨h.cell (i:=0) rfl,by rw [← HX.out.2.1]; exact h.cell (i:=1) rfl,by rw [← HX.out.1]; exact h.cell (i:=2) rfl⟩
 by_cases hop4:x.op=4
 ·have hop4:=hop4
  have o3:(x.op == (3:Int))=false:=by rw [hop4]; rfl
  have o4:(x.op == (4:Int))=true:=by rw [hop4]; rfl
  have oRr:=(HR.out w10 hBV10).2.2.1
  have p0:=oRr.cell (i:=0) rfl
  have p1:=oRr.cell (i:=1) rfl
  have p2:=oRr.cell (i:=2) rfl
  have p3:=oRr.cell (i:=3) rfl
  have f0:=oRr.frozen 0
  have f1:=oRr.frozen 1
  have f2:=oRr.frozen 2
  have f3:=oRr.frozen 3
  have hRl:=oRr.lt
  have q0:=OT10.out.cell (i:=0) rfl
  have q1:=OT10.out.cell (i:=1) rfl
  have q2:=OT10.out.cell (i:=2) rfl
  have q3:=OT10.out.cell (i:=3) rfl
  have hTl:=OT10.out.lt
  clear oRr
  go_wp2_with fail
  refine bodyPost_ret (v:=.agg #[.slice (some ⟨q5.b1,0,none⟩) p.length q5.c1,.slice (some ⟨q5.b2,0,none⟩) (p.length*3) q5.c2,.slice (some ⟨q5.b3,0,none⟩) p.length q5.c3,.slice (some ⟨q5.b4,0,none⟩) 3 q5.c4]) (by simp [results,Try.results46,go_sem,p0,p1,p2,p3]) rfl ?_
  refine HEnd.out _ _ _ _ _ _ _ _ _ _ H10.out ?_ hBV10
  have hrb:rdB x=false:=by unfold rdB; rw [hop4]; rfl
  have hwb:wrB x=false:=by unfold wrB; rw [hop4]; rfl
  rw [show doV s t x k=rdV s t x k by unfold doV; rw [if_neg (by omega),if_neg (by rw [hwb]; decide)]]
  obtain⟨hv5,hn5,hm5⟩:=HV5.out
  refine (HRn.out hrb).congr (fun u hu=>?_) (fun i hi=>?_) (fun u hu=>?_) hn5 fun l hl j hj=>hm5 l hl j (by rw [hn5 l hl]; exact hj)
  ·by_cases e:u=t
   ·simp only [if_pos e]
    rw [Hjj.out]
   ·simp only [if_neg e]
  ·simp only [hrb,Bool.false_eq_true,false_and,if_false]
  ·simp only [hrb,Bool.false_eq_true,false_and,if_false]
   exact hv5 u hu
 by_cases hop15:x.op=1∨x.op=5
 ·have hop15:=hop15
  have o3:(x.op == (3:Int))=false:=by rw [beq_eq_false_iff_ne]; omega
  have o4:(x.op == (4:Int))=false:=by rw [beq_eq_false_iff_ne]; exact hop4
  have hrb:rdB x=true:=by
   unfold rdB
   rcases hop15 with h | h
   ·rw [h]; rfl
   ·rw [h]; rfl
  have hkl:k<N l:=by rw [HV5.out.2.1 l hl3]; exact HK1.out hop15
  have hkI:(k:Int)<(N l:Int):=by omega
  have hk13:k≤13:=HK3.out hop4
  have hlI:(l:Int)<3:=by omega
  have t3:=OT10.out.cell (i:=3) rfl
  have b4:=H10.out.list.cell hl3
  have m0:=(H10.out.lb l hl3).cell (j:=k*3) (by omega)
  have m1:=(H10.out.lb l hl3).cell (j:=k*3+1) (by omega)
  have m2:=(H10.out.lb l hl3).cell (j:=k*3+2) (by omega)
  rw [mF0] at m0
  rw [mF1] at m1
  rw [mF2] at m2
  have xc1:=(HXc.out _ OX10.out).2.1
  obtain⟨mv,hmv⟩:∃ mv,mv=(M l k).m.val:=⟨_,rfl⟩
  obtain⟨lk,hlk⟩:∃ lk,lk=(M l k).m.lock:=⟨_,rfl⟩
  rw [← hmv] at m0
  rw [← hlk] at m1
  have Hmv:=Lib.hid (And.intro hmv hlk)
  have Ho15:=Lib.hid hop15
  obtain⟨w11,hw11⟩:∃ w11,w11=w10.alloc (.cells #[.int .i64 mv,.bool lk,.slice (some ⟨(M l k).b,0,none⟩) 3 (M l k).c] 81):=⟨_,rfl⟩
  have hb11:Below w10.heap.size w10 w11:=by rw [hw11]; exact (Below.refl _ _).alloc (Nat.le_refl _) _
  have oM11:Own w11 w10.heap.size 81 #[.int .i64 mv,.bool lk,.slice (some ⟨(M l k).b,0,none⟩) 3 (M l k).c]:=by rw [hw11]; exact Own.new _ _ _
  have hBV11:Below V.heap.size V w11:=hBV10.trans (hb11.mono hBV10.size)
  have H11:=Lib.hid (H10.out.under hb11)
  have OT11:=Lib.hid (OT10.out.under hb11)
  have OX11:=Lib.hid (OX10.out.under hb11)
  obtain⟨Mb,hMb⟩:∃ Mb,Mb=w10.heap.size:=⟨_,rfl⟩
  rw [← hMb] at oM11
  have OM11:=Lib.hid oM11
  have hM11:=oM11.lt
  have hO15:(x.op == (1:Int))=true∨(x.op == (1:Int))=false∧(x.op == (5:Int))=true:=by
   rcases hop15 with h | h
   ·exact .inl (by rw [h]; rfl)
   ·exact .inr ⟨by rw [h]; rfl,by rw [h]; rfl⟩
  clear hmv hlk oM11 hop15
  rcases hO15 with o1 | ⟨o1,o5⟩
  all_goals
   go_upto_region 13 with (fail)
   rw [← hw11,← hMb]
   clear hw11 hMb t3 b4 m0 m1 m2 xc0 xc1 xc3
   have hregI:((t*3+r:Nat):Int)<((p.length*3:Nat):Int):=by omega
   have hregN:t*3+r<p.length*3:=by omega
   have hregJ:(t:Int)*3+(r:Int)<(p.length:Int)*3:=by omega
   obtain⟨fc,hfc⟩:∃ f:Nat→Value,f=(fun d=>match d with | 66=>.pointer (some ⟨T,1,none⟩) | 67=>.slice (some ⟨q5.b2,0,none⟩) (p.length*3) q5.c2 | 68=>.int .i64 (t:Int) | 69=>.pointer (some ⟨X,2,none⟩) | 70=>.int .i64 (r:Int) | 71=>.int .i64 ((t*3+r:Nat):Int) | 72=>.pointer (some ⟨Mb,0,none⟩) | 73=>.int .i64 mv | 74=>.pointer (some ⟨q5.b2,t*3+r,none⟩) | _=>undef):=⟨_,rfl⟩
   have hf66:fc 66=.pointer (some ⟨T,1,none⟩):=congrFun hfc 66
   have hf67:fc 67=.slice (some ⟨q5.b2,0,none⟩) (p.length*3) q5.c2:=congrFun hfc 67
   have hf68:fc 68=.int .i64 (t:Int):=congrFun hfc 68
   have hf69:fc 69=.pointer (some ⟨X,2,none⟩):=congrFun hfc 69
   have hf70:fc 70=.int .i64 (r:Int):=congrFun hfc 70
   have hf71:fc 71=.int .i64 ((t*3+r:Nat):Int):=congrFun hfc 71
   have hf72:fc 72=.pointer (some ⟨Mb,0,none⟩):=congrFun hfc 72
   have hf73:fc 73=.int .i64 mv:=congrFun hfc 73
   have hf74:fc 74=.pointer (some ⟨q5.b2,t*3+r,none⟩):=congrFun hfc 74
   clear hfc
   refine wp_region_rel [0,1,2,3,4,5,6,7,8] [9] (TEq fc) (fun _=>0) [66,67,68,69,70,71,72,73,74] (by kernel_rfl) (by kernel_rfl) rfl (by simp) teq_nx teq_blk ?_ ?_
   ·refine⟨?_,?_,?_,?_,?_,?_,?_,?_,?_,trivial⟩
    all_goals (intro xs w hw hdep hsep; have hbw:=nx_below hw; simp only [shpA,fillL,List.contains_cons,List.contains_nil,Nat.reduceAdd,Nat.reduceBEq,Bool.or_false,Bool.or_true,Bool.false_eq_true,↓reduceIte])
    ·go_wp2_with fail
     exact RelPost.mk (Nx.refl _) _ rfl hf66.symm rfl
    ·have e66:xs 66=.pointer (some ⟨T,1,none⟩):=(show xs 66=fc 66 from hdep 66 (List.mem_of_elem_eq_true (by kernel_rfl))).trans hf66
     have q0:=(OT11.out.under hbw).cell (i:=1) rfl
     rw [e66]
     go_wp2_with fail
     exact RelPost.mk (Nx.refl _) _ rfl hf67.symm rfl
    ·go_wp2_with fail
     exact RelPost.mk (Nx.refl _) _ rfl hf68.symm rfl
    ·go_wp2_with fail
     exact RelPost.mk (Nx.refl _) _ rfl hf69.symm rfl
    ·have e69:xs 69=.pointer (some ⟨X,2,none⟩):=(show xs 69=fc 69 from hdep 69 (List.mem_of_elem_eq_true (by kernel_rfl))).trans hf69
     have q0:=(HXc.out w (OX11.out.under hbw)).2.2
     rw [e69]
     go_wp2_with fail
     exact RelPost.mk (Nx.refl _) _ rfl hf70.symm rfl
    ·have e68:xs 68=.int .i64 (t:Int):=(show xs 68=fc 68 from hdep 68 (List.mem_of_elem_eq_true (by kernel_rfl))).trans hf68
     have e70:xs 70=.int .i64 (r:Int):=(show xs 70=fc 70 from hdep 70 (List.mem_of_elem_eq_true (by kernel_rfl))).trans hf70
     rw [e68,e70]
     have hcc:=l3Reg_any t r (by omega) (by omega) w
     go_wp2_with fail
     refine hcc.mono ?_
     rintro ec wc ⟨rfl,hbc⟩
     go_wp2_with fail
     exact RelPost.mk hbc _ rfl hf71.symm rfl
    ·go_wp2_with fail
     exact RelPost.mk (Nx.refl _) _ rfl hf72.symm rfl
    ·have e72:xs 72=.pointer (some ⟨Mb,0,none⟩):=(show xs 72=fc 72 from hdep 72 (List.mem_of_elem_eq_true (by kernel_rfl))).trans hf72
     have q0:=(OM11.out.under hbw).cell (i:=0) rfl
     rw [e72]
     go_wp2_with fail
     exact RelPost.mk (Nx.refl _) _ rfl hf73.symm rfl
    ·have e67:xs 67=.slice (some ⟨q5.b2,0,none⟩) (p.length*3) q5.c2:=(show xs 67=fc 67 from hdep 67 (List.mem_of_elem_eq_true (by kernel_rfl))).trans hf67
     have e71:xs 71=.int .i64 ((t*3+r:Nat):Int):=(show xs 71=fc 71 from hdep 71 (List.mem_of_elem_eq_true (by kernel_rfl))).trans hf71
     rw [e67,e71]
     go_wp2_with fail
     exact RelPost.mk (Nx.refl _) _ rfl hf74.symm rfl
   intro xs w12 hw hT hsep
   have hbw:=nx_below hw
   have e73:xs 73=.int .i64 mv:=(show xs 73=fc 73 from hT 73 (List.mem_of_elem_eq_true (by kernel_rfl))).trans hf73
   have e74:xs 74=.pointer (some ⟨q5.b2,t*3+r,none⟩):=(show xs 74=fc 74 from hT 74 (List.mem_of_elem_eq_true (by kernel_rfl))).trans hf74
   show wpList _ _ _ [_] _ _
   simp only [shpA,fillL,List.contains_cons,List.contains_nil,Nat.reduceAdd,Nat.reduceBEq,Bool.or_false,Bool.or_true,Bool.false_eq_true,↓reduceIte]
   rw [e73,e74]
   clear hT hsep hw e73 e74 hf66 hf67 hf68 hf69 hf70 hf71 hf72 hf73 hf74
   generalize xs 66=u66x
   generalize xs 67=u67x
   generalize xs 68=u68x
   generalize xs 69=u69x
   generalize xs 70=u70x
   generalize xs 71=u71x
   generalize xs 72=u72x
   have h12:=H11.out.under hbw
   have z1:=h12.regs.cell hregN
   have f1:=h12.regs.frozen (t*3+r)
   have H13:=Lib.hid (h12.setG hregN mv)
   obtain⟨w13,hw13⟩:∃ w13,w13=w12.setCell ⟨q5.b2,t*3+r,none⟩ (.int .i64 mv):=⟨_,rfl⟩
   have hneT:q5.b2≠T:=h12.regs.ne_own (OT11.out.under hbw) (by decide)
   have hneX:q5.b2≠X:=h12.regs.ne_own (OX11.out.under hbw) (by decide)
   have hneM:q5.b2≠Mb:=h12.regs.ne_own (OM11.out.under hbw) (by decide)
   have OT13:=Lib.hid ((OT11.out.under hbw).far (a:=⟨q5.b2,t*3+r,none⟩) (fun e=>hneT e.symm) (.int .i64 mv))
   have OX13:=Lib.hid ((OX11.out.under hbw).far (a:=⟨q5.b2,t*3+r,none⟩) (fun e=>hneX e.symm) (.int .i64 mv))
   have OM13:=Lib.hid ((OM11.out.under hbw).far (a:=⟨q5.b2,t*3+r,none⟩) (fun e=>hneM e.symm) (.int .i64 mv))
   have hBV13:Below V.heap.size V (w12.setCell ⟨q5.b2,t*3+r,none⟩ (.int .i64 mv)):=(hBV11.trans (hbw.mono hBV11.size)).setCell h12.regs.1 _
   go_upto_region 14 with (fail)
   rw [← hw13] at H13 OT13 OX13 OM13 hBV13 ⊢
   clear hw13 z1 f1 OT11 OX11 OM11 H11 hbw h12 hneT hneX hneM hM11 hBV11 hb11
   have tc0:=OT13.out.cell (i:=0) rfl
   have tc1:=OT13.out.cell (i:=1) rfl
   have tc2:=OT13.out.cell (i:=2) rfl
   have tc3:=OT13.out.cell (i:=3) rfl
   have mc2:=OM13.out.cell (i:=2) rfl
   have hT13:=OT13.out.lt
   have hM13:=OM13.out.lt
   have hu3:VwB (Vf t).v:=by rw [HV5.out.1 t ht]; exact own_bytes Hp.out Hs.out t
   have hv3:VwB (M l k).m.view:=by rw [HV5.out.2.2 l hl3 k hkl]; exact msg_bytes Hp.out Hs.out hl3 (HK1.out Ho15.out)
   have Huv:=Lib.hid (And.intro hu3 hv3)
   have hjn:=l5Join_any w13 V.heap.size p.length q5 _ _ Vf N Lb Lc M κ H13.out hp3 t l k ht hl3 hkl hu3.1 hv3.1
   unfold v5 v5C at hjn
   clear hu3 hv3
   go_wp2_with fail
   refine hjn.mono ?_
   rintro e14 w14 ⟨rfl,ho14,hf14⟩
   have H14:=Lib.hid ho14
   have OT14:=Lib.hid (hf14.own OT13.out (by decide) (by decide))
   have OX14:=Lib.hid (hf14.own OX13.out (by decide) (by decide))
   have hBV14:Below V.heap.size V w14:=hf14.below hBV13 (Nat.le_refl _) hBV13.size
   have HrdO:=Lib.hid (HRd.out Ho15.out)
   clear hjn ho14 hf14 tc0 tc1 tc2 tc3 mc2 hT13 hM13 H13 OT13 OX13 OM13 hBV13
   have xc0:=OX14.out.cell (i:=0) rfl
   have hX14:=OX14.out.lt
  ·have o1:=o1
   have hop1:x.op=1:=by rw [beq_iff_eq] at o1; exact o1
   have o5:(x.op == (5:Int))=false:=by rw [hop1]; rfl
   have o2:(x.op == (2:Int))=false:=by rw [hop1]; rfl
   have oRr:=(HR.out w14 hBV14).2.2.1
   have p0:=oRr.cell (i:=0) rfl
   have p1:=oRr.cell (i:=1) rfl
   have p2:=oRr.cell (i:=2) rfl
   have p3:=oRr.cell (i:=3) rfl
   have f0:=oRr.frozen 0
   have f1:=oRr.frozen 1
   have f2:=oRr.frozen 2
   have f3:=oRr.frozen 3
   have hRl:=oRr.lt
   have q0:=OT14.out.cell (i:=0) rfl
   have q1:=OT14.out.cell (i:=1) rfl
   have q2:=OT14.out.cell (i:=2) rfl
   have q3:=OT14.out.cell (i:=3) rfl
   have hTl:=OT14.out.lt
   clear oRr
   go_wp2_with fail
   refine bodyPost_ret (v:=.agg #[.slice (some ⟨q5.b1,0,none⟩) p.length q5.c1,.slice (some ⟨q5.b2,0,none⟩) (p.length*3) q5.c2,.slice (some ⟨q5.b3,0,none⟩) p.length q5.c3,.slice (some ⟨q5.b4,0,none⟩) 3 q5.c4]) (by simp [results,Try.results46,go_sem,p0,p1,p2,p3]) rfl ?_
   refine HEnd.out _ _ _ _ _ _ _ _ _ _ H14.out ?_ hBV14
   have hwb:wrB x=false:=by unfold wrB; rw [hop1]; rfl
   rw [show doV s t x k=rdV s t x k by unfold doV; rw [if_neg (by omega),if_neg (by rw [hwb]; decide)]]
   obtain⟨hv5,hn5,hm5⟩:=HV5.out
   refine (HrdO.out).congr (fun u hu=>?_) (fun i hi=>?_) (fun u hu=>?_) hn5 fun l' hl' j hj=>hm5 l' hl' j (by rw [hn5 l' hl']; exact hj)
   ·by_cases e:u=t
    ·simp only [if_pos e]
     rw [Hjj.out]
    ·simp only [if_neg e]
   ·rw [HX.out.2.2.1,HX.out.2.2.2,← hm5 l hl3 k hkl,← Hmv.out.1]
    simp only [hrb,true_and]
   ·rw [HX.out.2.2.1,← hm5 l hl3 k hkl]
    by_cases e:u=t
    ·simp only [if_pos e,hrb,e,and_self,if_true]
     rw [← hv5 t ht]
    ·simp only [if_neg e,e,and_false,if_false]
     exact hv5 u hu
  ·have o5:=o5
   have hop5:x.op=5:=by rw [beq_iff_eq] at o5; exact o5
   have b4:=H14.out.list.cell hl3
   have lc1:=(H14.out.lb l hl3).cell (j:=k*3+1) (by omega)
   rw [mF1] at lc1
   have lf1:=(H14.out.lb l hl3).frozen (k*3+1)
   have hlbl:=(H14.out.lb l hl3).lt
   have tc3:=OT14.out.cell (i:=3) rfl
   have xc1:=(HXc.out _ OX14.out).2.1
   have hT14:=OT14.out.lt
   obtain⟨w15,hw15⟩:∃ w15,w15=w14.setCell ⟨Lb l,k*3+1,none⟩ (.bool true):=⟨_,rfl⟩
   have h15:=H14.out.setL hl3 hkl
   rw [← hw15] at h15
   have H15:=Lib.hid h15
   clear h15
   have hneT:Lb l≠T:=(H14.out.lb l hl3).ne_own OT14.out (by decide)
   have hneX:Lb l≠X:=(H14.out.lb l hl3).ne_own OX14.out (by decide)
   have OT15:Hid (Own w15 T 48 #[.slice (some ⟨q5.b1,0,none⟩) p.length q5.c1,.slice (some ⟨q5.b2,0,none⟩) (p.length*3) q5.c2,.slice (some ⟨q5.b3,0,none⟩) p.length q5.c3,.slice (some ⟨q5.b4,0,none⟩) 3 q5.c4]):=by show Own _ _ _ _; rw [hw15]; exact OT14.out.far (a:=⟨Lb l,k*3+1,none⟩) (fun e=>hneT e.symm) _
   have OX15:Hid (Own w15 X 84 #[.int .i64 x.op,.int .i64 x.loc,.int .i64 x.reg,.int .i64 x.val]):=by show Own _ _ _ _; rw [hw15]; exact OX14.out.far (a:=⟨Lb l,k*3+1,none⟩) (fun e=>hneX e.symm) _
   have hBV15:Below V.heap.size V w15:=by rw [hw15]; exact hBV14.setCell (H14.out.lb l hl3).1 _
   generalize (M l k).m.lock=lkk at lc1
   go_upto_region 18 with (fail)
   rw [← hw15]
   clear hw15 b4 lc1 lf1 hlbl tc3 xc1 hT14 hneT hneX H14 OT14 OX14 hBV14 xc0 hX14
   have tc0:=OT15.out.cell (i:=0) rfl
   have tc1:=OT15.out.cell (i:=1) rfl
   have tc2:=OT15.out.cell (i:=2) rfl
   have tc3:=OT15.out.cell (i:=3) rfl
   have xc1:=(HXc.out _ OX15.out).2.1
   have hX15:=OX15.out.lt
   have hT15:=OT15.out.lt
   have hVm:Hid (∀ l',l'<3→∀ j,j<N l'→VwB (M l' j).m.view):=fun l' hl' j hj=>by rw [HV5.out.2.2 l' hl' j hj]; exact msg_bytes Hp.out Hs.out hl' (by rw [← HV5.out.2.1 l' hl']; exact hj)
   have hin:=l5Insert_any w15 V.heap.size p.length q5 _ _ _ N Lb Lc _ κ H15.out hp3 hBV15.size t l (k+1) x.val ht hl3 (by omega) (by omega) (fun j hj=>by rw [HV5.out.2.1 j hj]; have:=lens_le Hp.out Hs.out hj; omega) (fun u hu=>by
    by_cases e:u=t
    ·simp only [if_pos e]
     exact join_B5 Huv.out.1 Huv.out.2
    ·simp only [if_neg e]
     rw [HV5.out.1 u hu]
     exact own_bytes Hp.out Hs.out u) (fun l' hl' j hj=>by
    by_cases e:l'=l∧j=k
    ·simp only [if_pos e]
     exact Huv.out.2
    ·simp only [if_neg e]
     exact hVm.out l' hl' j hj)
   rw [show (((k+1:Nat):Int))=(k:Int)+1 by omega] at hin
   unfold v5 v5C at hin
   go_wp2_with fail
   refine hin.mono ?_
   rintro e16 w16 ⟨rfl,⟨V',N',Lb',Lc',M',κ',ho16,hv16,hn16,hm16⟩,hf16⟩
   have H16:=Lib.hid ho16
   have HF16:=Lib.hid (And.intro hv16 (And.intro hn16 hm16))
   have OT16:=Lib.hid (hf16.own OT15.out (by decide) (by decide))
   have hBV16:Below V.heap.size V w16:=hf16.below hBV15 (Nat.le_refl _) hBV15.size
   clear hin ho16 hv16 hn16 hm16 hf16 tc0 tc1 tc2 tc3 xc1 hX15 hT15 H15 OT15 OX15 hBV15
   have oRr:=(HR.out w16 hBV16).2.2.1
   have p0:=oRr.cell (i:=0) rfl
   have p1:=oRr.cell (i:=1) rfl
   have p2:=oRr.cell (i:=2) rfl
   have p3:=oRr.cell (i:=3) rfl
   have f0:=oRr.frozen 0
   have f1:=oRr.frozen 1
   have f2:=oRr.frozen 2
   have f3:=oRr.frozen 3
   have hRl:=oRr.lt
   have q0:=OT16.out.cell (i:=0) rfl
   have q1:=OT16.out.cell (i:=1) rfl
   have q2:=OT16.out.cell (i:=2) rfl
   have q3:=OT16.out.cell (i:=3) rfl
   have hTl:=OT16.out.lt
   clear oRr
   go_wp2_with fail
   refine bodyPost_ret (v:=.agg #[.slice (some ⟨q5.b1,0,none⟩) p.length q5.c1,.slice (some ⟨q5.b2,0,none⟩) (p.length*3) q5.c2,.slice (some ⟨q5.b3,0,none⟩) p.length q5.c3,.slice (some ⟨q5.b4,0,none⟩) 3 q5.c4]) (by simp [results,Try.results46,go_sem,p0,p1,p2,p3]) rfl ?_
   refine HEnd.out _ _ _ _ _ _ _ _ _ _ H16.out ?_ hBV16
   obtain⟨hv5,hn5,hm5⟩:=HV5.out
   obtain⟨hv16,hn16,hm16⟩:=HF16.out
   have hls:=Hs.out.len
   have hol:(rdV s t x k).own.length=p.length:=by
    show (if rdB x=true then s.own.set t _ else s.own).length=_
    rw [if_pos hrb,List.length_set]
    exact Hs.out.ownl
   have hN1:k+1≤(lstV s l).length:=HK1.out Ho15.out
   have hob:=((HrdO.out.put (t:=t) (l:=l) (k:=k+1) hls hol x.val ht hl3 hN1)).lock (l:=l) (k:=k) (by
    show (insL s.lists l (k+1) _).length=3
    rw [insL_len]
    exact hls) hl3 (by rw [if_pos rfl]; omega)
   rw [show doV s t x k=⟨(putV (rdV s t x k) t l (k+1) x.val).s,(putV (rdV s t x k) t l (k+1) x.val).lists.set l (lockM (lstV (putV (rdV s t x k) t l (k+1) x.val) l) k),(putV (rdV s t x k) t l (k+1) x.val).own⟩ by unfold doV; rw [if_pos hop5,HX.out.2.2.1]]
   have hE:joinV (ownV s t) (gM (lstV s x.loc.toNat) k).view=joinV (Vf t).v (M l k).m.view:=by rw [HX.out.2.2.1,← hm5 l hl3 k hkl,← hv5 t ht]
   refine hob.congr (fun u hu=>?_) (fun i hi=>?_) (fun u hu=>?_) (fun l' hl'=>?_) fun l' hl' j hj=>?_
   ·by_cases e:u=t
    ·simp only [if_pos e]
     rw [Hjj.out]
    ·simp only [if_neg e]
   ·rw [HX.out.2.2.1,HX.out.2.2.2,← hm5 l hl3 k hkl,← Hmv.out.1]
    simp only [hrb,true_and]
   ·show (V' u).v=_
    rw [hv16 u hu]
    simp only [hrb,true_and,if_true,hE]
    by_cases e:u=t
    ·simp only [if_pos e]
    ·simp only [if_neg e]
     rw [hv5 u hu]
   ·rw [hn16 l' hl',hn5 l hl3]
    by_cases e:l'=l
    ·simp only [if_pos e]
    ·simp only [if_neg e]
     exact hn5 l' hl'
   ·have hj':j<N' l':=by
     rw [hn16 l' hl',hn5 l hl3]
     by_cases e:l'=l
     ·simp only [if_pos e] at hj ⊢
      exact hj
     ·simp only [if_neg e] at hj ⊢
      rw [hn5 l' hl']
      exact hj
    show (M' l' j).m=_
    rw [hm16 l' hl' j hj']
    simp only [hrb,true_and,if_true,hE]
    by_cases e:l'=l
    ·subst e
     simp only [if_true,true_and] at hj ⊢
     by_cases e0:j=k
     ·subst e0
      rw [if_pos (Nat.lt_succ_self _),if_pos rfl,if_pos (Nat.lt_succ_self _),if_pos rfl]
      rw [hm5 l' hl' j hkl]
      rfl
     ·rw [if_neg e0,if_neg e0]
      by_cases e1:j<k+1
      ·rw [if_pos e1,if_pos e1,hm5 l' hl' j (by omega)]
      ·rw [if_neg e1,if_neg e1]
       by_cases e2:j=k+1
       ·rw [if_pos e2,if_pos e2]
       ·rw [if_neg e2,if_neg e2]
        have hj2:j<(lstV s l').length+1:=hj
        rw [if_neg (show ¬ j-1=k by omega),hm5 l' hl' (j-1) (by rw [hn5 l' hl']; omega)]
    ·simp only [if_neg e,e,false_and,if_false] at hj ⊢
     rw [hm5 l' hl' j (by rw [hn5 l' hl']; exact hj)]
 have hop23:x.op=2∨x.op=3:=by omega
 have hk23:=HK2.out hop23
 have hkN:k≤N l:=by rw [HV5.out.2.1 l hl3]; exact hk23.2
 have hk13:k≤13:=HK3.out hop4
 have hk1p:=hk23.1
 have hrb:rdB x=false:=by
  unfold rdB
  rcases hop23 with h | h
  ·rw [h]; rfl
  ·rw [h]; rfl
 have hwb:wrB x=true:=by
  unfold wrB
  rcases hop23 with h | h
  ·rw [h]; rfl
  ·rw [h]; rfl
 have o4:(x.op == (4:Int))=false:=by rw [beq_eq_false_iff_ne]; exact hop4
 have o1:(x.op == (1:Int))=false:=by rw [beq_eq_false_iff_ne]; omega
 have o5:(x.op == (5:Int))=false:=by rw [beq_eq_false_iff_ne]; omega
 have HrnO:=Lib.hid (HRn.out hrb)
 have Hdo:Hid (doV s t x k=putV (rdV s t x k) t l k (valS s.s t x)):=by
  show _=_
  unfold doV
  rw [if_neg (by omega),if_pos hwb,HX.out.2.2.1]
 obtain⟨vv,hvv⟩:∃ vv,vv=valS s.s t x:=⟨_,rfl⟩
 rw [← hvv] at Hdo
 have Hvv:=Lib.hid hvv
 have hO23:(x.op == (2:Int))=true∧(x.op == (3:Int))=false∨(x.op == (2:Int))=false∧(x.op == (3:Int))=true:=by
  rcases hop23 with h | h
  ·exact .inl ⟨by rw [h]; rfl,by rw [h]; rfl⟩
  ·exact .inr ⟨by rw [h]; rfl,by rw [h]; rfl⟩
 clear hvv hop23
 rcases hO23 with ⟨o2,o3⟩ | ⟨o2,o3⟩
 case' inl=>
  have hvx:x.val=vv:=by rw [Hvv.out]; unfold valS; rw [if_neg (by rw [beq_eq_false_iff_ne] at o3; exact o3)]
  obtain⟨wv,hwv⟩:∃ wv,wv=w10:=⟨_,rfl⟩
  have xc1:=(HXc.out _ OX10.out).2.1
  have Hvx:=Lib.hid hvx
  rw [hvx] at xc3
  have xc3:w10.cell? ⟨X,3,none⟩=some (.int .i64 vv):=xc3
  clear hvx
  go_upto_region 21 with (fail)
  rw [← hwv]
  rw [← hwv] at H10 OT10 OX10 hBV10
  clear hwv xc0 xc1 xc3 hX10 hT10
 case' inr=>
  have hvx:s.s.regs.getD (t*3+r) 0=vv:=by rw [Hvv.out]; unfold valS; rw [if_pos (by rw [beq_iff_eq] at o3; exact o3),HX.out.2.2.2]
  have Hvx:=Lib.hid hvx
  clear hvx
  go_upto_region 6 with (fail)
  clear xc3
  have hregN:t*3+r<p.length*3:=by omega
  have hregI:((t*3+r:Nat):Int)<((p.length*3:Nat):Int):=by omega
  have hregJ:(t:Int)*3+(r:Int)<(p.length:Int)*3:=by omega
  obtain⟨fd,hfd⟩:∃ f:Nat→Value,f=(fun d=>match d with | 41=>.pointer (some ⟨W.heap.size,1,none⟩) | 42=>.slice (some ⟨q.b2,0,none⟩) (p.length*3) q.c2 | 43=>.int .i64 (t:Int) | 44=>.pointer (some ⟨X,2,none⟩) | 45=>.int .i64 (r:Int) | 46=>.int .i64 ((t*3+r:Nat):Int) | 47=>.pointer (some ⟨q.b2,t*3+r,none⟩) | 48=>.int .i64 vv | _=>undef):=⟨_,rfl⟩
  have hf41:fd 41=.pointer (some ⟨W.heap.size,1,none⟩):=congrFun hfd 41
  have hf42:fd 42=.slice (some ⟨q.b2,0,none⟩) (p.length*3) q.c2:=congrFun hfd 42
  have hf43:fd 43=.int .i64 (t:Int):=congrFun hfd 43
  have hf44:fd 44=.pointer (some ⟨X,2,none⟩):=congrFun hfd 44
  have hf45:fd 45=.int .i64 (r:Int):=congrFun hfd 45
  have hf46:fd 46=.int .i64 ((t*3+r:Nat):Int):=congrFun hfd 46
  have hf47:fd 47=.pointer (some ⟨q.b2,t*3+r,none⟩):=congrFun hfd 47
  have hf48:fd 48=.int .i64 vv:=congrFun hfd 48
  clear hfd
  refine wp_region_rel [0,1,2,3,4,5,6,7] [8] (TEq fd) (fun _=>0) [41,42,43,44,45,46,47,48] (by kernel_rfl) (by kernel_rfl) rfl (by simp) teq_nx teq_blk ?_ ?_
  ·refine⟨?_,?_,?_,?_,?_,?_,?_,?_,trivial⟩
   all_goals (intro xs w hw hdep hsep; have hbw:=nx_below hw; simp only [shpA,fillL,List.contains_cons,List.contains_nil,Nat.reduceAdd,Nat.reduceBEq,Bool.or_false,Bool.or_true,Bool.false_eq_true,↓reduceIte])
   ·go_wp2_with fail
    exact RelPost.mk (Nx.refl _) _ rfl hf41.symm rfl
   ·have e41:xs 41=.pointer (some ⟨W.heap.size,1,none⟩):=(show xs 41=fd 41 from hdep 41 (List.mem_of_elem_eq_true (by kernel_rfl))).trans hf41
    have q0:=(HR.out w (hBV10.trans (hbw.mono hBV10.size))).1.2
    rw [e41]
    go_wp2_with fail
    exact RelPost.mk (Nx.refl _) _ rfl hf42.symm rfl
   ·go_wp2_with fail
    exact RelPost.mk (Nx.refl _) _ rfl hf43.symm rfl
   ·go_wp2_with fail
    exact RelPost.mk (Nx.refl _) _ rfl hf44.symm rfl
   ·have e44:xs 44=.pointer (some ⟨X,2,none⟩):=(show xs 44=fd 44 from hdep 44 (List.mem_of_elem_eq_true (by kernel_rfl))).trans hf44
    have q0:=(HXc.out w (OX10.out.under hbw)).2.2
    rw [e44]
    go_wp2_with fail
    exact RelPost.mk (Nx.refl _) _ rfl hf45.symm rfl
   ·have e43:xs 43=.int .i64 (t:Int):=(show xs 43=fd 43 from hdep 43 (List.mem_of_elem_eq_true (by kernel_rfl))).trans hf43
    have e45:xs 45=.int .i64 (r:Int):=(show xs 45=fd 45 from hdep 45 (List.mem_of_elem_eq_true (by kernel_rfl))).trans hf45
    rw [e43,e45]
    have hcc:=l3Reg_any t r (by omega) (by omega) w
    go_wp2_with fail
    refine hcc.mono ?_
    rintro ec wc ⟨rfl,hbc⟩
    go_wp2_with fail
    exact RelPost.mk hbc _ rfl hf46.symm rfl
   ·have e42:xs 42=.slice (some ⟨q.b2,0,none⟩) (p.length*3) q.c2:=(show xs 42=fd 42 from hdep 42 (List.mem_of_elem_eq_true (by kernel_rfl))).trans hf42
    have e46:xs 46=.int .i64 ((t*3+r:Nat):Int):=(show xs 46=fd 46 from hdep 46 (List.mem_of_elem_eq_true (by kernel_rfl))).trans hf46
    rw [e42,e46]
    go_wp2_with fail
    exact RelPost.mk (Nx.refl _) _ rfl hf47.symm rfl
   ·have e47:xs 47=.pointer (some ⟨q.b2,t*3+r,none⟩):=(show xs 47=fd 47 from hdep 47 (List.mem_of_elem_eq_true (by kernel_rfl))).trans hf47
    have q0:=(show w.cell? ⟨q.b2,t*3+r,none⟩=some (.int .i64 vv) from by rw [← Hvx.out]; exact (HR.out w (hBV10.trans (hbw.mono hBV10.size))).2.1.regs _ hregN)
    rw [e47]
    go_wp2_with fail
    exact RelPost.mk (Nx.refl _) _ rfl hf48.symm rfl
  intro xs wv hw hT hsep
  have hbw:=nx_below hw
  have e48:xs 48=.int .i64 vv:=(show xs 48=fd 48 from hT 48 (List.mem_of_elem_eq_true (by kernel_rfl))).trans hf48
  show wpList _ _ _ [_] _ _
  simp only [shpA,fillL,List.contains_cons,List.contains_nil,Nat.reduceAdd,Nat.reduceBEq,Bool.or_false,Bool.or_true,Bool.false_eq_true,↓reduceIte]
  rw [e48]
  clear hT hsep hw e48 hf41 hf42 hf43 hf44 hf45 hf46 hf47 hf48
  generalize xs 41=u41x
  generalize xs 42=u42x
  generalize xs 43=u43x
  generalize xs 44=u44x
  generalize xs 45=u45x
  generalize xs 46=u46x
  generalize xs 47=u47x
  have OTv:=OT10.out.under hbw
  have OXv:=OX10.out.under hbw
  have H10v:=H10.out.under hbw
  have hBVv:=hBV10.trans (hbw.mono hBV10.size)
  clear OT10 OX10 H10 hBV10 xc0 hX10 hT10
  have OT10:=Lib.hid OTv
  have OX10:=Lib.hid OXv
  have H10:=Lib.hid H10v
  have hBV10:=hBVv
  clear OTv OXv H10v hBVv hbw
  have xc0:=OX10.out.cell (i:=0) rfl
  have xc1:=(HXc.out _ OX10.out).2.1
  have hX10:=OX10.out.lt
  go_upto_region 21 with (fail)
  clear xc0 xc1 hX10
 all_goals
  have tc0:=OT10.out.cell (i:=0) rfl
  have tc1:=OT10.out.cell (i:=1) rfl
  have tc2:=OT10.out.cell (i:=2) rfl
  have tc3:=OT10.out.cell (i:=3) rfl
  have xc1:=(HXc.out _ OX10.out).2.1
  have hX10:=OX10.out.lt
  have hT10:=OT10.out.lt
  have hin:=l5Insert_any wv V.heap.size p.length q5 _ _ Vf N Lb Lc M κ H10.out hp3 hBV10.size t l k vv ht hl3 hk1p hkN (fun j hj=>by rw [HV5.out.2.1 j hj]; have:=lens_le Hp.out Hs.out hj; omega) (fun u hu=>by rw [HV5.out.1 u hu]; exact own_bytes Hp.out Hs.out u) (fun l' hl' j hj=>by rw [HV5.out.2.2 l' hl' j hj]; exact msg_bytes Hp.out Hs.out hl' (by rw [← HV5.out.2.1 l' hl']; exact hj))
  unfold v5 v5C at hin
  go_wp2_with fail
  refine hin.mono ?_
  rintro e16 w16 ⟨rfl,⟨V',N',Lb',Lc',M',κ',ho16,hv16,hn16,hm16⟩,hf16⟩
  have H16:=Lib.hid ho16
  have HF16:=Lib.hid (And.intro hv16 (And.intro hn16 hm16))
  have OT16:=Lib.hid (hf16.own OT10.out (by decide) (by decide))
  have hBV16:Below V.heap.size V w16:=hf16.below hBV10 (Nat.le_refl _) hBV10.size
  clear hin ho16 hv16 hn16 hm16 hf16 tc0 tc1 tc2 tc3 xc1 hX10 hT10 H10 OT10 OX10 hBV10
  have oRr:=(HR.out w16 hBV16).2.2.1
  have p0:=oRr.cell (i:=0) rfl
  have p1:=oRr.cell (i:=1) rfl
  have p2:=oRr.cell (i:=2) rfl
  have p3:=oRr.cell (i:=3) rfl
  have f0:=oRr.frozen 0
  have f1:=oRr.frozen 1
  have f2:=oRr.frozen 2
  have f3:=oRr.frozen 3
  have hRl:=oRr.lt
  have q0:=OT16.out.cell (i:=0) rfl
  have q1:=OT16.out.cell (i:=1) rfl
  have q2:=OT16.out.cell (i:=2) rfl
  have q3:=OT16.out.cell (i:=3) rfl
  have hTl:=OT16.out.lt
  clear oRr
  go_wp2_with fail
  refine bodyPost_ret (v:=.agg #[.slice (some ⟨q5.b1,0,none⟩) p.length q5.c1,.slice (some ⟨q5.b2,0,none⟩) (p.length*3) q5.c2,.slice (some ⟨q5.b3,0,none⟩) p.length q5.c3,.slice (some ⟨q5.b4,0,none⟩) 3 q5.c4]) (by simp [results,Try.results46,go_sem,p0,p1,p2,p3]) rfl ?_
  rw [Hdo.out]
  refine HEnd.out _ _ _ _ _ _ _ _ _ _ H16.out ?_ hBV16
  obtain⟨hv5,hn5,hm5⟩:=HV5.out
  obtain⟨hv16,hn16,hm16⟩:=HF16.out
  have hls:=Hs.out.len
  have hol:(rdV s t x k).own.length=p.length:=by
   show (if rdB x=true then s.own.set t _ else s.own).length=_
   rw [if_neg (by rw [hrb]; decide)]
   exact Hs.out.ownl
  have hob:=HrnO.out.put (t:=t) (l:=l) (k:=k) hls hol vv ht hl3 hk23.2
  simp only [hrb,Bool.false_eq_true,false_and,if_false] at hob
  refine hob.congr (fun u hu=>?_) (fun i hi=>rfl) (fun u hu=>?_) (fun l' hl'=>?_) fun l' hl' j hj=>?_
  ·by_cases e:u=t
   ·simp only [if_pos e]
    rw [Hjj.out]
   ·simp only [if_neg e]
  ·show (V' u).v=_
   rw [hv16 u hu,hv5 t ht,hv5 u hu]
  ·rw [hn16 l' hl',hn5 l hl3]
   by_cases e:l'=l
   ·simp only [if_pos e]
   ·simp only [if_neg e]
    exact hn5 l' hl'
  ·have hj':j<N' l':=by
    rw [hn16 l' hl',hn5 l hl3]
    by_cases e:l'=l
    ·simp only [if_pos e] at hj ⊢
     exact hj
    ·simp only [if_neg e] at hj ⊢
     rw [hn5 l' hl']
     exact hj
   show (M' l' j).m=_
   rw [hm16 l' hl' j hj',hv5 t ht]
   by_cases e:l'=l
   ·subst e
    simp only [if_true] at hj ⊢
    by_cases e1:j<k
    ·rw [if_pos e1,if_pos e1,hm5 l' hl' j (by omega)]
    ·rw [if_neg e1,if_neg e1]
     by_cases e2:j=k
     ·rw [if_pos e2,if_pos e2]
     ·rw [if_neg e2,if_neg e2,hm5 l' hl' (j-1) (by rw [hn5 l' hl']; omega)]
   ·simp only [if_neg e] at hj ⊢
    rw [hm5 l' hl' j (by rw [hn5 l' hl']; exact hj)]
end Go.Proofs.Ytojmofnamppbdaa
namespace Go.Proofs.Ytojmofnamppbdaa
open Go.RowKit
set_option linter.unusedVariables false
set_option maxRecDepth 100000
def TabK (w:World) (g:Nat) (bs:Nat→Option Nat) (ks:List ByteArray):Prop:=∃ xss,TabM w g xss bs∧(∀ k,k∈xss (hashS k)↔k∈ks)∧∀ i,(xss i).length≤ks.length
theorem TabK.mark {w':World} {g:Nat} {bs':Nat→Option Nat} {ks:List ByteArray} {s:ByteArray} {xss:Nat→List ByteArray} (h1:∀ k,k∈xss (hashS k)↔k∈ks) (h2:∀ i,(xss i).length≤ks.length) (h:TabM w' g (fun i=>if i=hashS s then xss (hashS s)++[s] else xss i) bs'):TabK w' g bs' (ks++[s]):=by
 refine⟨_,h,fun k=>?_,fun i=>?_⟩
 ·by_cases e:hashS k=hashS s
  ·simp only [if_pos e]
   rw [← e,List.mem_append,h1,List.mem_append]
  ·simp only [if_neg e]
   rw [h1,List.mem_append]
   refine⟨.inl,fun h=>h.resolve_right fun hm=>e ?_⟩
   rw [List.mem_singleton.1 hm]
 ·have:=h2 i
  have h3:=h2 (hashS s)
  split
  ·simp only [List.length_append,List.length_singleton]; omega
  ·simp only [List.length_append,List.length_singleton]; omega
def OwQ (g R:Nat) (bs:Nat→Option Nat) (o:Option Nat) (b:Nat):Prop:=OwT g bs b∨o=some b∨b=R
def HQ (B g R:Nat) (bs:Nat→Option Nat) (o:Option Nat) (b:Nat):Prop:=OwQ g R bs o b∨b<B
def Wh {σ:Type} (done:σ→Bool) (out:σ→List Int) (V K:List σ) (L:List (List Int)):Prop:=Asc L∧(∀ y,y∈L↔∃ s∈V,s∉K∧done s=true∧out s=y)∧L.length+K.length≤V.length
section
variable {σ:Type} {done:σ→Bool} {out:σ→List Int} {V K:List σ} {L:List (List Int)} {s:σ}
theorem Wh.new (h:Wh done out V K L) (hs:s∉V):Wh done out (V++[s]) (K++[s]) L:=by
 obtain⟨h1,h2,h3⟩:=h
 refine⟨h1,fun y=>(h2 y).trans ⟨?_,?_⟩,by simp only [List.length_append,List.length_singleton]; omega⟩
 ·rintro ⟨t,k1,k2,k3,k4⟩
  refine⟨t,List.mem_append_left _ k1,fun hm=>?_,k3,k4⟩
  rcases List.mem_append.1 hm with hm | hm
  ·exact k2 hm
  ·exact hs (by rw [← List.mem_singleton.1 hm]; exact k1)
 ·rintro ⟨t,k1,k2,k3,k4⟩
  rcases List.mem_append.1 k1 with k1 | k1
  ·exact⟨t,k1,fun hm=>k2 (List.mem_append_left _ hm),k3,k4⟩
  ·exact absurd (List.mem_append_right _ k1) k2
theorem Wh.len (h:Wh done out V K L) {m:Nat} (ho:∀ s∈V,(out s).length=m):∀ x∈L,x.length=m:=fun x hx=>by
 obtain⟨s,h1,_,_,h4⟩:=(h.2.1 x).1 hx
 rw [← h4]
 exact ho s h1
end
theorem Try.infoSs:(Try.prog.info? 111).map (fun i=>(i.zero,i.size,i.bytes))=some (some (.slice none 0 0),1,24):=by kernel_rfl
def QS5 (p:Prg) (W:World) (cs:Nat→Value) (s:VSt):Prop:=∃ q:L5,cs 0=.slice (some ⟨q.b1,0,none⟩) p.length q.c1∧cs 1=.slice (some ⟨q.b2,0,none⟩) (p.length*3) q.c2∧cs 2=.slice (some ⟨q.b3,0,none⟩) p.length q.c3∧cs 3=.slice (some ⟨q.b4,0,none⟩) 3 q.c4∧Rep5 W q p s
theorem QS5.le {p:Prg} {W W':World} (hl:Le W W') {cs:Nat→Value} {x:VSt}:QS5 p W cs x→QS5 p W' cs x:=fun⟨q,e0,e1,e2,e3,hr⟩=>⟨q,e0,e1,e2,e3,hr.le hl⟩
section
variable {p:Prg} {B g R:Nat} {w w':World} {bs bs':Nat→Option Nat} {v4 v4':Value} {n n':Int} {ks:List ByteArray} {K:List VSt} {L L':List (List Int)} {go oo co go' oo' co':Nat}
theorem TabK.lt (h:TabK w g bs ks) {b:Nat} (hb:OwT g bs b):b<w.heap.size:=by
 obtain⟨_,h,_⟩:=h
 exact h.lt hb
theorem TabK.move (h:TabK w g bs ks) (hb:∀ b,OwT g bs b→w'.heap[b]?=w.heap[b]?):TabK w' g bs ks:=by
 obtain⟨xss,h,h1,h2⟩:=h
 exact⟨xss,h.move hb,h1,h2⟩
end
structure QCur5 (a:World) (S:Nat) (q:L5) (p:Prg) (s:VSt):Prop where
 q0:a.cell? ⟨S,0,none⟩=some (.slice (some ⟨q.b1,0,none⟩) p.length q.c1)
 q1:a.cell? ⟨S,1,none⟩=some (.slice (some ⟨q.b2,0,none⟩) (p.length*3) q.c2)
 q2:a.cell? ⟨S,2,none⟩=some (.slice (some ⟨q.b3,0,none⟩) p.length q.c3)
 q3:a.cell? ⟨S,3,none⟩=some (.slice (some ⟨q.b4,0,none⟩) 3 q.c4)
 rep:Rep5 a q p s
theorem QCur5.le {a a':World} {S:Nat} {q:L5} {p:Prg} {s:VSt} (h:QCur5 a S q p s) (hl:Le a a'):QCur5 a' S q p s:=⟨hl _ _ h.q0,hl _ _ h.q1,hl _ _ h.q2,hl _ _ h.q3,h.rep.le hl⟩
theorem QCur5.below {P:Nat→Prop} {w w':World} {S:Nat} {q:L5} {p:Prg} {s:VSt} (h:QCur5 (hidP P w) S q p s) (hb:Below w.heap.size w w'):QCur5 (hidP P w') S q p s:=h.le (Le.hidP_below hb (fun _ _=>.inr trivial))
theorem QCur5.new {P:Nat→Prop} {w:World} {q:L5} {p:Prg} {s:VSt} {t:TypeId} (hP:∀ b,P b→b<w.heap.size) (hr:Rep5 (hidP P w) q p s):QCur5 (hidP P (w.alloc (.cells (v5C q p.length) t))) w.heap.size q p s:=by
 have ho:=Own.new w t (v5C q p.length)
 have hn:¬ P w.heap.size:=fun h=>by have:=hP _ h; omega
 exact⟨cell_hidP.2 ⟨hn,ho.cell (i:=0) rfl⟩,cell_hidP.2 ⟨hn,ho.cell (i:=1) rfl⟩,cell_hidP.2 ⟨hn,ho.cell (i:=2) rfl⟩,cell_hidP.2 ⟨hn,ho.cell (i:=3) rfl⟩,hr.le (Le.hidP_below ((Below.refl _ _).alloc (Nat.le_refl _) _) (fun _ _=>.inr trivial))⟩
theorem QCur5.size {P:Nat→Prop} {w:World} {S:Nat} {q:L5} {p:Prg} {s:VSt} (h:QCur5 (hidP P w) S q p s):S<w.heap.size:=World.block_lt_of_cell? _ _ (cell_hidP.1 h.q0).2
end Go.Proofs.Ytojmofnamppbdaa
namespace Go.Proofs.Ytojmofnamppbdaa
open Go.RowKit
set_option linter.unusedVariables false
set_option maxRecDepth 100000
theorem keyVS_len {p:Prg} (hp:PrgOk p) {s:VSt} (hs:VOk p s):(keyVS s).size≤1000000:=by
 rw [← key5_eq hp hs,strOfNums_size]
 have h3:=hp.1.1
 have h1:=k3_len s p.length
 have h2:=k4_len (s:=s) (fun l hl=>(lens_le hp hs hl).2) 3 (Nat.le_refl _)
 simp only [List.length_append,k1I,k2I,List.length_map,List.length_range]
 omega
def NxO (B:Nat) (p:Prg) (nx:VSt) (w:World) (v:Value):Prop:=∃ q P G V N Lb Lc M κ,v=.agg #[.slice (some ⟨q.b1,0,none⟩) p.length q.c1,.slice (some ⟨q.b2,0,none⟩) (p.length*3) q.c2,.slice (some ⟨q.b3,0,none⟩) p.length q.c3,.slice (some ⟨q.b4,0,none⟩) 3 q.c4]∧Own5 w B q p.length P G V N Lb Lc M κ∧ObP p nx P G (fun u=>(V u).v) N (fun l j=>(M l j).m)
theorem NxO.nx {B:Nat} {p:Prg} {nx:VSt} {w w':World} {v:Value} (hb:Nx w w') (h:NxO B p nx w v):NxO B p nx w' v:=by
 obtain⟨q,P,G,V,N,Lb,Lc,M,κ,h1,h2,h3⟩:=h
 exact⟨q,P,G,V,N,Lb,Lc,M,κ,h1,h2.under (show Below w.heap.size w w' from hb),h3⟩
end Go.Proofs.Ytojmofnamppbdaa
namespace Go.Proofs.Ytojmofnamppbdaa
open Go.RowKit
set_option linter.unusedVariables false
set_option maxRecDepth 100000
theorem wtIs_smallR:∀ (p:Prg),wSum wtIs p=4*wSum List.length p
 | []=>rfl
 | t::p=>by
  have:=wtIs_smallR p
  simp only [wSum,wtIs] at *
  omega
end Go.Proofs.Ytojmofnamppbdaa
