/-
  The reference's states with views: what they are in memory; l5Done, l5Most, l5Outcome. The reference's states with views: l5Outcome, l5Can, l5Choices. The reference's states with views: l5Choices. The reference's states with views: l5Key.
-/
import Derived.Test.YtojmofnamppbdaaGreatS3A
import Derived.Test.YtojmofnamppbdaaGreatVxG
import Derived.Test.YtojmofnamppbdaaGreatRgA
namespace Go.Proofs.YtojmofnamppbdaaGreat
open Go.RowKit
set_option linter.unusedVariables false
set_option maxRecDepth 100000
structure L5 where
 b1:Nat
 c1:Nat
 b2:Nat
 c2:Nat
 b3:Nat
 c3:Nat
 b4:Nat
 c4:Nat
def v5C (q:L5) (n:Nat):Array Value:=#[.slice (some ⟨q.b1,0,none⟩) n q.c1,.slice (some ⟨q.b2,0,none⟩) (n*3) q.c2,.slice (some ⟨q.b3,0,none⟩) n q.c3,.slice (some ⟨q.b4,0,none⟩) 3 q.c4]
def v5 (q:L5) (n:Nat):Value:=.agg (v5C q n)
def View3 (W:World) (b:Nat) (v:List Nat):Prop:=∀ j,j<3→W.cell? ⟨b,j,none⟩=some (.int .i64 (aV v j))
def Msg3 (W:World) (b k:Nat) (m:Msg):Prop:=W.cell? ⟨b,k*3,none⟩=some (.int .i64 m.val)∧W.cell? ⟨b,k*3+1,none⟩=some (.bool m.lock)∧∃ bv cv,3≤cv∧W.cell? ⟨b,k*3+2,none⟩=some (.slice (some ⟨bv,0,none⟩) 3 cv)∧View3 W bv m.view
theorem View3.le {W W':World} {b:Nat} {v:List Nat} (h:View3 W b v) (hl:Le W W'):View3 W' b v:=fun j hj=>hl _ _ (h j hj)
theorem Msg3.le {W W':World} {b k:Nat} {m:Msg} (h:Msg3 W b k m) (hl:Le W W'):Msg3 W' b k m:=by
 obtain⟨h0,h1,bv,cv,hc,h2,h3⟩:=h
 exact⟨hl _ _ h0,hl _ _ h1,bv,cv,hc,hl _ _ h2,h3.le hl⟩
structure Rep5 (W:World) (q:L5) (p:Prg) (s:VSt):Prop where
 at_:∀ t,t<p.length→W.cell? ⟨q.b1,t,none⟩=some (.int .i64 ((pcS s.s t:Nat):Int))
 regs:∀ i,i<p.length*3→W.cell? ⟨q.b2,i,none⟩=some (.int .i64 (s.s.regs.getD i 0))
 view:∀ t,t<p.length→∃ b c,3≤c∧W.cell? ⟨q.b3,t,none⟩=some (.slice (some ⟨b,0,none⟩) 3 c)∧View3 W b (ownV s t)
 list:∀ l,l<3→∃ b c,(lstV s l).length≤c∧W.cell? ⟨q.b4,l,none⟩=some (.slice (some ⟨b,0,none⟩) (lstV s l).length c)∧∀ k,k<(lstV s l).length→Msg3 W b k (gM (lstV s l) k)
theorem Rep5.le {W W':World} {q:L5} {p:Prg} {s:VSt} (h:Rep5 W q p s) (hl:Le W W'):Rep5 W' q p s:=
 ⟨fun t ht=>hl _ _ (h.at_ t ht),fun i hi=>hl _ _ (h.regs i hi),fun t ht=>by
  obtain⟨b,c,h1,h2,h3⟩:=h.view t ht
  exact⟨b,c,h1,hl _ _ h2,h3.le hl⟩,fun l h'=>by
  obtain⟨b,c,h1,h2,h3⟩:=h.list l h'
  exact⟨b,c,h1,hl _ _ h2,fun k hk=>(h3 k hk).le hl⟩⟩
set_option maxHeartbeats 1500000 in
theorem l5Done_any (p:Prg) (hp:PrgOk p) (s:VSt) (W:World) (vp:Value) (hpr:PrgS W vp p) (q:L5) (hr:Rep5 W q p s):
  Calls Tryz.prog 72 #[vp,v5 q p.length] W (RetB W (doneV p s)):=by
 obtain⟨Ap,cp,rfl,hpl⟩:=SlR.slice hpr
 have h3:=hp.1.1
 obtain⟨m,hm⟩:∃ m,m=p.length*3:=⟨_,rfl⟩
 unfold v5 v5C
 rw [← hm]
 obtain⟨V,hV⟩:∃ V,V=W.alloc (.cells #[.slice (some ⟨q.b1,0,none⟩) p.length q.c1,.slice (some ⟨q.b2,0,none⟩) m q.c2,.slice (some ⟨q.b3,0,none⟩) p.length q.c3,.slice (some ⟨q.b4,0,none⟩) 3 q.c4] 73):=⟨_,rfl⟩
 have hB:Below W.heap.size W V:=by rw [hV]; exact (Below.refl _ _).alloc (Nat.le_refl _) _
 have oV:Own V W.heap.size 73 #[.slice (some ⟨q.b1,0,none⟩) p.length q.c1,.slice (some ⟨q.b2,0,none⟩) m q.c2,.slice (some ⟨q.b3,0,none⟩) p.length q.c3,.slice (some ⟨q.b4,0,none⟩) 3 q.c4]:=by rw [hV]; exact Own.new _ _ _
 have q0:=oV.cell (i:=0) rfl
 have R1:=Lib.hid (hr.le (Le.below hB)).at_
 have RP:=Lib.hid (PrgS.le hpr (Le.below hB))
 generalize q.b1=b1 at *
 generalize q.b2=b2 at *
 generalize q.b3=b3 at *
 generalize q.b4=b4 at *
 generalize q.c1=c1 at *
 generalize q.c2=c2 at *
 generalize q.c3=c3 at *
 generalize q.c4=c4 at *
 clear hr hpr hm oV
 go_enter Tryz.func72,Tryz.ntmps72
 go_upto_region 1 with (fail)
 rw [← hV]
 clear hV
 go_wp2_with fail
 go_loopg [5] p.length (fun g s5 wr=>∃ t:Nat,t≤p.length∧g=p.length-t∧s5=.int .i64 t∧Hid (∀ u,u<t→onS p s.s u=false)∧Below V.heap.size V wr)
 case atStart=>exact⟨0,Nat.zero_le _,rfl,rfl,fun u hu=>absurd hu (Nat.not_lt_zero _),Below.refl _ _⟩
 case round=>
  obtain⟨wo,rfl⟩:∃ wo:World,wo=wr:=⟨_,rfl⟩
  obtain⟨t,hi,rfl,rfl,hall,hb⟩:=hrel
  by_cases hlt:t<p.length
  ·have p0:=Le.below hb _ _ q0
   have k1:=Le.below hb _ _ (R1.out t hlt)
   obtain⟨b2,o2,A5,c5,e2,hb2,k2,hm2,_⟩:=SlR.getSub RP.out hlt
   subst e2
   have k2:=Le.below hb _ _ k2
   have f0:=fun n:Ext wo=>n.le _ _ p0
   have f1:=fun n:Ext wo=>n.le _ _ k1
   have f2:=fun n:Ext wo=>n.le _ _ k2
   have Hon:Hid (onS p s.s t=decide (pcS s.s t<p[t].length)):=by
    show onS p s.s t=_
    unfold onS
    rw [thrP_get hlt]
   have htl:(t:Int)<(p.length:Int):=by omega
   generalize p[t]=th at k2 f2 Hon hm2
   generalize pcS s.s t=at1 at k1 f1 Hon
   clear k1 k2 p0
   go_wp2_with fail
   refine wp_region_ext _ (by kernel_rfl) (by kernel_rfl) (Below.refl _ _) ?_
   repeat (go_big_quiet_step (fail))
   refine wpQuiet_nil ?_
   rintro wn ⟨⟨_,hbn⟩,rfl⟩
   have hBn:=hb.trans (hbn.mono hb.size)
   clear f0 f1 f2 hbn
   by_cases hon:at1<th.length
   ·have hd:decide ((at1:Int)<(th.length:Int))=true:=by rw [decide_eq_true_iff]; omega
    have Hr:Hid (doneV p s=false):=by
     show doneS p s.s=false
     unfold doneS
     rw [List.all_eq_false]
     exact⟨t,List.mem_range.2 hlt,by rw [Hon.out,decide_eq_true hon]; decide⟩
    go_wp2_with fail
    go_ret
    exact⟨by rw [Hr.out]; rfl,hB.trans (hBn.mono hB.size)⟩
   ·have hd:decide ((at1:Int)<(th.length:Int))=false:=by rw [decide_eq_false_iff_not]; omega
    have Hof:Hid (onS p s.s t=false):=by show _=_; rw [Hon.out,decide_eq_false hon]
    go_wp2_with fail
    go_roundg (p.length-(t+1))
    case measure=>omega
    case rel=>exact⟨t+1,by omega,rfl,by go_num,fun u hu=>by
     by_cases e:u=t
     ·rw [e]; exact Hof.out
     ·exact hall.out u (by omega),hBn⟩
  ·obtain rfl:t=p.length:=by omega
   have Hr:Hid (doneV p s=true):=by
    show doneS p s.s=true
    unfold doneS
    rw [List.all_eq_true]
    intro u hu
    rw [hall.out u (List.mem_range.1 hu)]
    rfl
   go_wp2_with fail
   go_ret
   exact⟨by rw [Hr.out]; rfl,hB.trans (hb.mono hB.size)⟩
def most5 (s:VSt) (i:Nat):Nat:=((List.range i).map fun l=>(lstV s l).length).foldr max 0
theorem foldr_max_app (xs:List Nat) (y:Nat):(xs++[y]).foldr max 0=max (xs.foldr max 0) y:=by
 induction xs with
 | nil=>simp
 | cons x xs ih=>simp only [List.cons_append,List.foldr_cons,ih]; omega
theorem most5_next (s:VSt) (i:Nat):most5 s (i+1)=max (most5 s i) (lstV s i).length:=by
 unfold most5
 rw [List.range_succ,List.map_append,List.map_cons,List.map_nil,foldr_max_app]
theorem most5_all {p:Prg} {s:VSt} (h:VOk p s):most5 s 3+1=mostV s:=by
 obtain⟨st,L,O⟩:=s
 have h3:L.length=3:=h.len
 match L,h3 with
 | [a,b,c],_=>rfl
set_option maxHeartbeats 1500000 in
theorem l5Most_any (p:Prg) (hp:PrgOk p) (s:VSt) (hs:VOk p s) (W:World) (q:L5) (hr:Rep5 W q p s):
  Calls Tryz.prog 113 #[v5 q p.length] W (RetI W ((mostV s:Nat):Int)):=by
 have h3:=hp.1.1
 obtain⟨m,hm⟩:∃ m,m=p.length*3:=⟨_,rfl⟩
 unfold v5 v5C
 rw [← hm]
 obtain⟨V,hV⟩:∃ V,V=W.alloc (.cells #[.slice (some ⟨q.b1,0,none⟩) p.length q.c1,.slice (some ⟨q.b2,0,none⟩) m q.c2,.slice (some ⟨q.b3,0,none⟩) p.length q.c3,.slice (some ⟨q.b4,0,none⟩) 3 q.c4] 73):=⟨_,rfl⟩
 have hB:Below W.heap.size W V:=by rw [hV]; exact (Below.refl _ _).alloc (Nat.le_refl _) _
 have oV:Own V W.heap.size 73 #[.slice (some ⟨q.b1,0,none⟩) p.length q.c1,.slice (some ⟨q.b2,0,none⟩) m q.c2,.slice (some ⟨q.b3,0,none⟩) p.length q.c3,.slice (some ⟨q.b4,0,none⟩) 3 q.c4]:=by rw [hV]; exact Own.new _ _ _
 have q3:=oV.cell (i:=3) rfl
 have R4:=Lib.hid (hr.le (Le.below hB)).list
 have HN:Hid (∀ l,l<3→(lstV s l).length≤13):=fun l hl=>(lens_le hp hs hl).2
 have HA:=Lib.hid (most5_all hs)
 generalize q.b1=b1 at *
 generalize q.b2=b2 at *
 generalize q.b3=b3 at *
 generalize q.b4=b4 at *
 generalize q.c1=c1 at *
 generalize q.c2=c2 at *
 generalize q.c3=c3 at *
 generalize q.c4=c4 at *
 generalize p.length=n at *
 clear hr hm oV
 go_enter Tryz.func113,Tryz.ntmps113
 go_upto_region 1 with (fail)
 rw [← hV]
 clear hV
 go_wp2_with fail
 go_loopg [3,4] 3 (fun g s3 s4 wr=>∃ i x:Nat,i≤3∧g=3-i∧s3=.int .i64 x∧s4=.int .i64 i∧Hid (x=most5 s i+1)∧x≤14∧V=wr)
 case atStart=>exact⟨0,1,Nat.zero_le _,rfl,rfl,rfl,rfl,by omega,rfl⟩
 case round=>
  obtain⟨i,x,hi,rfl,rfl,rfl,hx,hx14,rfl⟩:=hrel
  by_cases hlt:i<3
  ·obtain⟨bl,cl,_,k1,_⟩:=R4.out i hlt
   have hl13:=HN.out i hlt
   have Hn:=Lib.hid (most5_next s i)
   have hi3:(i:Int)<3:=by omega
   generalize (lstV s i).length=y at k1 hl13 Hn
   by_cases hge:x≤y
   ·have hd:decide ((y:Int)≥(x:Int))=true:=by rw [decide_eq_true_iff]; omega
    have hd':decide ((x:Int)≤(y:Int))=true:=hd
    go_wp2_with fail
    go_roundg (3-(i+1))
    case measure=>omega
    case rel=>exact⟨i+1,y+1,by omega,rfl,by go_num,by go_num,by show y+1=_; rw [Hn.out]; have:=hx.out; omega,by omega,rfl⟩
   ·have hd:decide ((y:Int)≥(x:Int))=false:=by rw [decide_eq_false_iff_not]; omega
    have hd':decide ((x:Int)≤(y:Int))=false:=hd
    go_wp2_with fail
    go_roundg (3-(i+1))
    case measure=>omega
    case rel=>exact⟨i+1,x,by omega,rfl,rfl,by go_num,by show x=_; rw [Hn.out]; have:=hx.out; omega,by omega,rfl⟩
  ·obtain rfl:i=3:=by omega
   have Hv:Hid (x=mostV s):=by show x=_; rw [hx.out]; exact HA.out
   go_wp2_with fail
   go_ret
   exact⟨by rw [Hv.out]; rfl,hB⟩
end Go.Proofs.YtojmofnamppbdaaGreat
namespace Go.Proofs.YtojmofnamppbdaaGreat
open Go.RowKit
set_option linter.unusedVariables false
set_option maxRecDepth 100000
theorem lastV_at {ms:List Msg} {y:Nat} (h:ms.length=y+1):lastV ms=(gM ms y).val:=by
 unfold lastV
 rw [h]
 rfl
theorem lists_take {p:Prg} {s:VSt} (h:VOk p s) {i:Nat} (hi:i<3):(s.lists.map lastV).take (i+1)=(s.lists.map lastV).take i++[lastV (lstV s i)]:=by
 have hl:i<(s.lists.map lastV).length:=by rw [List.length_map,h.len]; exact hi
 rw [List.take_succ_eq_append_getElem hl,List.getElem_map]
 unfold lstV
 rw [List.getD_eq_getElem?_getD,List.getElem?_eq_getElem (by rw [h.len]; exact hi)]
 rfl
theorem Rep5.regsI {W:World} {q:L5} {p:Prg} {s:VSt} (hp:PrgOk p) (hs:VOk p s) (h:Rep5 W q p s):Ints W (some ⟨q.b2,0,none⟩) q.c2 s.s.regs:=
 Ints.mk (by rw [hs.ok.regl]; have:=hp.1.1; omega) fun i hi=>by
  have h1:=h.regs i (by rw [← hs.ok.regl]; exact hi)
  rw [Nat.zero_add,h1,List.getD_eq_getElem?_getD,List.getElem?_eq_getElem hi]
  rfl
set_option maxHeartbeats 2000000 in
theorem l5Outcome_any (p:Prg) (hp:PrgOk p) (s:VSt) (hs:VOk p s) (W:World) (q:L5) (hr:Rep5 W q p s):
  Calls Tryz.prog 73 #[v5 q p.length] W (RetRowI W (outV s)):=by
 have h3:=hp.1.1
 obtain⟨i0,hi0,hz0,hz1,hz2⟩:=info_parts Tryz.infoInt
 have hrl9:s.s.regs.length≤9:=by rw [hs.ok.regl]; omega
 unfold v5 v5C
 rw [← hs.ok.regl]
 obtain⟨V,hV⟩:∃ V,V=W.alloc (.cells #[.slice (some ⟨q.b1,0,none⟩) p.length q.c1,.slice (some ⟨q.b2,0,none⟩) s.s.regs.length q.c2,.slice (some ⟨q.b3,0,none⟩) p.length q.c3,.slice (some ⟨q.b4,0,none⟩) 3 q.c4] 73):=⟨_,rfl⟩
 have hB:Below W.heap.size W V:=by rw [hV]; exact (Below.refl _ _).alloc (Nat.le_refl _) _
 have oV:Own V W.heap.size 73 #[.slice (some ⟨q.b1,0,none⟩) p.length q.c1,.slice (some ⟨q.b2,0,none⟩) s.s.regs.length q.c2,.slice (some ⟨q.b3,0,none⟩) p.length q.c3,.slice (some ⟨q.b4,0,none⟩) 3 q.c4]:=by rw [hV]; exact Own.new _ _ _
 have q1:=oV.cell (i:=1) rfl
 have q3:=oV.cell (i:=3) rfl
 have hWV:=oV.lt
 have hI:Ints V (some ⟨q.b2,0,none⟩) q.c2 s.s.regs:=(Rep5.regsI hp hs hr).le (Le.below hB)
 have R4:=Lib.hid (hr.le (Le.below hB)).list
 have HN:Hid (∀ l,l<3→0<(lstV s l).length∧(lstV s l).length≤13):=fun l hl=>lens_le hp hs hl
 have HT:Hid (∀ i,i<3→(s.lists.map lastV).take (i+1)=(s.lists.map lastV).take i++[lastV (lstV s i)]):=fun i hi=>lists_take hs hi
 have HT3:Hid ((s.lists.map lastV).take 3=s.lists.map lastV):=List.take_of_length_le (by rw [List.length_map,hs.len]; omega)
 have HTl:Hid (∀ i,i≤3→((s.lists.map lastV).take i).length=i):=fun i hi=>by rw [List.length_take,List.length_map,hs.len]; omega
 have HO:Hid (outV s=s.s.regs++s.lists.map lastV):=rfl
 generalize q.b1=b1 at *
 generalize q.b2=b2 at *
 generalize q.b3=b3 at *
 generalize q.b4=b4 at *
 generalize q.c1=c1 at *
 generalize q.c2=c2 at *
 generalize q.c3=c3 at *
 generalize q.c4=c4 at *
 generalize p.length=n at *
 have HI:=Lib.hid hI
 clear hr oV hI
 generalize hrg:s.s.regs=rg at *
 clear hrg
 go_enter Tryz.func73,Tryz.ntmps73
 go_upto_region 1 with (fail)
 rw [← hV]
 clear hV
 go_wp2_with (at_builtin; refine wpList_append_list (by rfl) _ _ _ (by rfl) qint_congr (R:=RInt) V.heap.size 3 i0 _ 8 Tryz.underlying31 hi0 hz0 hz1 hz2 rfl (by omega) (.slice (some ⟨V.heap.size,0,none⟩) 0 0) [] (by rfl) (RowOf.made _ (Own.new V _ _) (Nat.le_refl _)) (some ⟨b2,0,none⟩) c2 rg (by rfl) (HI.out.le (Le.alloc _ _)) (fun cs y h=>h) qint_one (by simp [maxLen]; omega) (by simp; omega) (by simp) (V.heap.size+1) (by simp) ?_; intro A6 c6 w6 hrow6 hgrow6 hat6; rw [List.nil_append] at hrow6 hat6)
 have hB6:Below V.heap.size V w6:=below_of_grown ((Below.refl _ _).alloc (Nat.le_refl _) _) hgrow6 (by simp) (fun g hg=>by simp only [Value.ownBlock,Option.some.injEq] at hg; omega)
 have Hrow6:=Lib.hid hrow6
 clear hrow6 hgrow6 hat6
 go_wp2_with fail
 go_loopg [3,4] 3 (fun g s3 s4 wr=>∃ (i:Nat) (A:Option Addr) (c:Nat) (xs:List Int),i≤3∧g=3-i∧s3=.slice A xs.length c∧s4=.int .i64 i∧Hid (xs=rg++(s.lists.map lastV).take i)∧xs.length≤12∧Hid (RowI wr V.heap.size (.slice A xs.length c) xs)∧Below V.heap.size V wr)
 case atStart=>exact⟨0,A6,c6,rg,Nat.zero_le _,rfl,rfl,rfl,by show _=_; rw [List.take_zero,List.append_nil],by omega,Hrow6.out,hB6⟩
 case round=>
  clear Hrow6 hB6
  obtain⟨wo,rfl⟩:∃ wo:World,wo=wr:=⟨_,rfl⟩
  obtain⟨i,A,c,xs,hi,rfl,rfl,rfl,hxs,hx12,hrow,hb⟩:=hrel
  have hbs:=hb.size
  have p3:=Le.below hb _ _ q3
  by_cases hlt:i<3
  ·obtain⟨bl,cl,_,k1,km⟩:=R4.out i hlt
   have hl13:=HN.out i hlt
   have Hn:=Lib.hid (HT.out i hlt)
   have Hll:=Lib.hid (HTl.out (i+1) (by omega))
   have hi3:(i:Int)<3:=by omega
   obtain⟨y,hy⟩:∃ y,(lstV s i).length=y+1:=⟨(lstV s i).length-1,by omega⟩
   have k2:=(km y (by omega)).1
   rw [← lastV_at hy] at k2
   generalize (lstV s i).length=Y at k1 hl13 hy
   have hy0:(0:Int)≤(y:Int):=by omega
   have hyl:(y:Int)<(Y:Int):=by omega
   have hy13:y≤12:=by omega
   have hwr:IntKind.i64.wrap ((Y:Int)-1)=(y:Int):=by rw [IntKind.wrap_i64] <;> omega
   generalize lastV (lstV s i)=z at k2 Hn
   have k1':=k1
   have k2':=k2
   have k1:=Le.below hb _ _ k1
   have k2:=Le.below hb _ _ k2
   have HK:Hid (∀ U,Below V.heap.size V U→U.cell? ⟨W.heap.size,3,none⟩=some (.slice (some ⟨b4,0,none⟩) 3 c4)∧U.cell? ⟨b4,i,none⟩=some (.slice (some ⟨bl,0,none⟩) Y cl)∧U.cell? ⟨bl,y*3,none⟩=some (.int .i64 z)):=fun U hU=>⟨Le.below hU _ _ q3,Le.below hU _ _ k1',Le.below hU _ _ k2'⟩
   obtain⟨cs,hown,hqq⟩:=hrow.out
   have Hown:=Lib.hid hown
   have Hqq:=Lib.hid hqq
   have Hv:=Lib.hid (fun g (hg:(Value.slice A xs.length c).ownBlock=some g)=>(hrow.out.blk hg).1)
   have HBo:=Lib.hid hb
   clear hrow hown hqq km hl13 hy k1' k2'
   go_wp2_with fail
   clear k1 k2 p3
   go_region_held3 (fun U=>U.cell? ⟨W.heap.size,3,none⟩=some (.slice (some ⟨b4,0,none⟩) 3 c4)∧U.cell? ⟨b4,i,none⟩=some (.slice (some ⟨bl,0,none⟩) Y cl)∧U.cell? ⟨bl,y*3,none⟩=some (.int .i64 z))
    (first
     | exact HK.out _ HBo.out.drew
     | exact HK.out _ (HBo.out.drew.alloc hbs _)
     | exact HK.out _ hB8)
    (first | (refine step_append_lies _ (by rfl) _ _ _ (by rfl) V.heap.size 3 i0 _ 1 8 Tryz.underlying31 hi0 hz0 hz1 hz2 rfl (by omega) (.slice A xs.length c) xs.length cs (by rfl) (owns_alloc (show wo.drew.ownsRow _ _ _ _ _ _ from Hown.out) _) ⟨wo.heap.size,0,none⟩ 1 1 [.int .i64 z] (by rfl) (by rfl) (World.news_of_block (cs:=#[.int .i64 z]) (t:=3) (fr:=(0,0)) (heap_alloc_new wo.drew _)) (by simp [Value.oneCell']) (by omega) (by simp [maxLen]; omega) (by omega) (by simp; omega) (wo.heap.size+1) (by simp) ?_; intro gg cap w8 hown8 hgrow8 hat8 hlt8; have hB8:Below V.heap.size V w8:=below_of_grown (hb.drew.alloc hbs _) hgrow8 (by simp; omega) (fun g hg=>Hv.out g hg)))
   have hr8:=Lib.hid (RowOf.snoc (news:=[.int .i64 z]) (x:=z) qint_congr Hown.out Hqq.out rfl rfl hown8)
   clear hown8 hgrow8 hat8
   go_wp2_with fail
   go_roundg (3-(i+1))
   case measure=>omega
   case rel=>
    have he:xs++[z]=rg++(s.lists.map lastV).take (i+1):=by rw [hxs.out,Hn.out,List.append_assoc]
    exact⟨i+1,some ⟨gg,0,none⟩,cap,xs++[z],by omega,rfl,by rw [show (xs++[z]).length=xs.length+1 by simp],by go_num,he,by rw [he,List.length_append,Hll.out]; omega,by rw [show (xs++[z]).length=xs.length+1 by simp]; exact hr8.out,hB8⟩
  ·obtain rfl:i=3:=by omega
   have Hx:Hid (xs=outV s):=by show xs=_; rw [hxs.out,HT3.out,HO.out]
   have hBn:=hB.trans (hb.mono hB.size)
   clear hxs
   go_wp2_with fail
   go_ret
   refine RetRowI.mk ?_ hBn
   rw [← Hx.out]
   exact hrow.out.rebase fun g hg=>by have:=(hrow.out.blk hg).1; omega
def cn5 (x:Ins) (ms:List Msg) (v k:Nat):Bool:=
 if x.op=4 then decide (k=0) else if x.op=1 then decide (v≤k) && decide (k<ms.length) else if x.op=5 then decide (v≤k) && decide (k<ms.length) && !(gM ms k).lock
  else decide (v<k) && decide (k≤ms.length) && !(gM ms (k-1)).lock
theorem canV_cn {p:Prg} {s:VSt} {t k:Nat} (h:pcS s.s t<(thrP p t).length):canV p s t k=cn5 (insS p s.s t) (lstV s (insS p s.s t).loc.toNat) (atV (ownV s t) (insS p s.s t).loc.toNat) k:=by
 unfold canV
 rw [show onS p s.s t=true from decide_eq_true h,Bool.true_and]
 rfl
theorem canV_off {p:Prg} {s:VSt} {t k:Nat} (h:¬ pcS s.s t<(thrP p t).length):canV p s t k=false:=by
 unfold canV
 rw [show onS p s.s t=false from decide_eq_false h,Bool.false_and]
set_option maxHeartbeats 2000000 in
theorem l5Can_any (p:Prg) (hp:PrgOk p) (s:VSt) (hs:VOk p s) (t k:Nat) (hk:k≤9223372036854775807) (ht3:t<3) (W:World) (vp:Value) (hpr:PrgS W vp p) (q:L5) (hr:Rep5 W q p s):
  Calls Tryz.prog 102 #[vp,v5 q p.length,.int .i64 ((t:Nat):Int),.int .i64 ((k:Nat):Int)] W (RetB W (canV p s t k)):=by
 obtain⟨Ap,cp,rfl,hpl⟩:=SlR.slice hpr
 have h3:=hp.1.1
 obtain⟨m,hm⟩:∃ m,m=p.length*3:=⟨_,rfl⟩
 unfold v5 v5C
 rw [← hm]
 obtain⟨V,hV⟩:∃ V,V=W.alloc (.cells #[.slice (some ⟨q.b1,0,none⟩) p.length q.c1,.slice (some ⟨q.b2,0,none⟩) m q.c2,.slice (some ⟨q.b3,0,none⟩) p.length q.c3,.slice (some ⟨q.b4,0,none⟩) 3 q.c4] 73):=⟨_,rfl⟩
 have hB:Below W.heap.size W V:=by rw [hV]; exact (Below.refl _ _).alloc (Nat.le_refl _) _
 have oV:Own V W.heap.size 73 #[.slice (some ⟨q.b1,0,none⟩) p.length q.c1,.slice (some ⟨q.b2,0,none⟩) m q.c2,.slice (some ⟨q.b3,0,none⟩) p.length q.c3,.slice (some ⟨q.b4,0,none⟩) 3 q.c4]:=by rw [hV]; exact Own.new _ _ _
 have q0:=oV.cell (i:=0) rfl
 have q2:=oV.cell (i:=2) rfl
 have q3:=oV.cell (i:=3) rfl
 have hWV:=oV.lt
 have R1:=Lib.hid (hr.le (Le.below hB)).at_
 have R3:=Lib.hid (hr.le (Le.below hB)).view
 have R4:=Lib.hid (hr.le (Le.below hB)).list
 have RP:=Lib.hid (PrgS.le hpr (Le.below hB))
 have HN:Hid (∀ l,l<3→(lstV s l).length≤13):=fun l hl=>(lens_le hp hs hl).2
 have HV:Hid (∀ t l,l<3→atV (ownV s t) l≤100):=fun t l hl=>(own_bytes hp hs t).2 l hl
 generalize q.b1=b1 at *
 generalize q.b2=b2 at *
 generalize q.b3=b3 at *
 generalize q.b4=b4 at *
 generalize q.c1=c1 at *
 generalize q.c2=c2 at *
 generalize q.c3=c3 at *
 generalize q.c4=c4 at *
 clear hr hpr hm oV
 go_enter Tryz.func102,Tryz.ntmps102
 go_upto_region 1 with (fail)
 rw [← hV]
 clear hV
 have ht0:decide ((t:Int)<0)=false:=by rw [decide_eq_false_iff_not]; omega
 have hk0:decide ((k:Int)<0)=false:=by rw [decide_eq_false_iff_not]; omega
 by_cases htl:t<p.length
 case neg=>
  have hd:decide ((t:Int)≥(p.length:Int))=true:=by rw [decide_eq_true_iff]; omega
  have hd':decide (p.length≤t)=true:=by rw [decide_eq_true_iff]; omega
  have Hc:Hid (canV p s t k=false):=canV_off (by
   unfold thrP
   rw [List.getD_eq_getElem?_getD,List.getElem?_eq_none (by omega)]
   exact Nat.not_lt_zero _)
  refine wp_region_ext _ (by kernel_rfl) (by kernel_rfl) (Below.refl _ _) ?_
  repeat (go_big_quiet_step (fail))
  refine wpQuiet_nil ?_
  rintro wn ⟨⟨_,hbn⟩,rfl⟩
  have hBn:=hB.trans (hbn.mono hB.size)
  have hdp:p.length≤t:=by omega
  go_wp2_with fail
  go_ret
  exact⟨by rw [Hc.out]; rfl,hBn⟩
 have hd:decide ((t:Int)≥(p.length:Int))=false:=by rw [decide_eq_false_iff_not]; omega
 have hd':decide (p.length≤t)=false:=by rw [decide_eq_false_iff_not]; omega
 have htli:(t:Int)<(p.length:Int):=by omega
 have k1:=R1.out t htl
 obtain⟨b5,o2,A5,c5,e2,hb5,k2,hm2,hins⟩:=SlR.getSub RP.out htl
 subst e2
 have hth:=thrP_get htl
 generalize hthe:p[t]=th at k2 hm2 hins hth
 have Hth:=Lib.hid hth
 have hth7:th.length≤7:=by have h:=(thr_ok hp t).1; rw [hth] at h; exact h
 have hpc7:pcS s.s t≤th.length:=by have h:=hs.ok.pcb t; rw [hth] at h; exact h
 have Hins:=Lib.hid hins
 have Hoff:Hid (¬ pcS s.s t<th.length→canV p s t k=false):=fun h=>canV_off (by rw [Hth.out]; exact h)
 have Hon:Hid (pcS s.s t<th.length→∃ h:pcS s.s t<th.length,canV p s t k=cn5 (th[pcS s.s t]) (lstV s (th[pcS s.s t]).loc.toNat) (atV (ownV s t) (th[pcS s.s t]).loc.toNat) k∧InsOk (th[pcS s.s t])):=fun h=>by
  have h':pcS s.s t<(thrP p t).length:=by rw [Hth.out]; exact h
  have hg:=ins_get (p:=p) (s:=s.s) h'
  have hok:=ins_ok hp h'
  have hx:insS p s.s t=th[pcS s.s t]:=by rw [hg]; simp only [Hth.out]
  refine⟨h,?_,by rw [← hx]; exact hok⟩
  rw [canV_cn h',hx]
 generalize pcS s.s t=pc at k1 hpc7 Hoff Hon
 have f0:=fun n:Ext V=>n.le _ _ q0
 have f1:=fun n:Ext V=>n.le _ _ k1
 have f2:=fun n:Ext V=>n.le _ _ k2
 clear hins hth hthe
 by_cases hon:pc<th.length
 case neg=>
  have hpe:pc=th.length:=by omega
  have hd5:((pc:Int) == (th.length:Int))=true:=by rw [beq_iff_eq,hpe]
  have Hc:=Lib.hid (Hoff.out hon)
  clear hpe
  refine wp_region_ext _ (by kernel_rfl) (by kernel_rfl) (Below.refl _ _) ?_
  repeat (go_big_quiet_step (fail))
  refine wpQuiet_nil ?_
  rintro wn ⟨⟨_,hbn⟩,rfl⟩
  have hBn:=hB.trans (hbn.mono hB.size)
  clear f0 f1 f2
  go_wp2_with fail
  go_ret
  exact⟨by rw [Hc.out]; rfl,hBn⟩
 have hd5:((pc:Int) == (th.length:Int))=false:=by rw [beq_eq_false_iff_ne]; omega
 obtain⟨_,hcan,hix⟩:=Hon.out hon
 refine wp_region_ext _ (by kernel_rfl) (by kernel_rfl) (Below.refl _ _) ?_
 repeat (go_big_quiet_step (fail))
 refine wpQuiet_nil ?_
 rintro wn ⟨⟨_,hbn⟩,rfl⟩
 have hBn:=hB.trans (hbn.mono hB.size)
 clear f0 f1 f2
 obtain⟨b6,o6,e6,hb6,i0,i1,i2,i3⟩:=InsS.get Hins.out hon
 subst e6
 have hpi:(pc:Int)<(th.length:Int):=by omega
 obtain⟨l,hl,hxl⟩:∃ l:Nat,l<3∧(th[pc]).loc=(l:Int):=⟨(th[pc]).loc.toNat,by have:=hix.loc; omega,by have:=hix.loc; omega⟩
 rw [hxl] at i1 hcan
 rw [show ((l:Nat):Int).toNat=l from rfl] at hcan
 generalize th[pc]=x at i0 i1 i2 i3 hcan hix
 have Hcan:=Lib.hid hcan
 have Hix:=Lib.hid hix
 clear hcan hix hxl Hon Hoff
 have HK:Hid (∀ U,Below V.heap.size V U→U.cell? ⟨W.heap.size,0,none⟩=some (.slice (some ⟨b1,0,none⟩) p.length c1)∧U.cell? ⟨b1,t,none⟩=some (.int .i64 (pc:Int))∧U.cell? ⟨b5,o2+t,none⟩=some (.slice (some ⟨b6,o6,none⟩) th.length c5)∧(U.cell? ⟨b6,o6+pc*4,none⟩=some (.int .i64 x.op)∧U.cell? ⟨b6,o6+pc*4+1,none⟩=some (.int .i64 (l:Int))∧U.cell? ⟨b6,o6+pc*4+2,none⟩=some (.int .i64 x.reg)∧U.cell? ⟨b6,o6+pc*4+3,none⟩=some (.int .i64 x.val))):=fun U hU=>⟨Le.below hU _ _ q0,Le.below hU _ _ k1,Le.below hU _ _ k2,Le.below hU _ _ i0,Le.below hU _ _ i1,Le.below hU _ _ i2,Le.below hU _ _ i3⟩
 have HBo:=Lib.hid hbn
 have hbs:=hbn.size
 clear i0 i1 i2 i3 k1 k2 q0
 go_wp2_with fail
 go_region_held3 (fun U=>U.cell? ⟨W.heap.size,0,none⟩=some (.slice (some ⟨b1,0,none⟩) p.length c1)∧U.cell? ⟨b1,t,none⟩=some (.int .i64 (pc:Int))∧U.cell? ⟨b5,o2+t,none⟩=some (.slice (some ⟨b6,o6,none⟩) th.length c5)∧(U.cell? ⟨b6,o6+pc*4,none⟩=some (.int .i64 x.op)∧U.cell? ⟨b6,o6+pc*4+1,none⟩=some (.int .i64 (l:Int))∧U.cell? ⟨b6,o6+pc*4+2,none⟩=some (.int .i64 x.reg)∧U.cell? ⟨b6,o6+pc*4+3,none⟩=some (.int .i64 x.val)))
  (first
   | exact HK.out _ HBo.out.drew
   | exact HK.out _ (HBo.out.drew.alloc hbs _))
  (fail)
 obtain⟨X,hX⟩:∃ X,X=(wn.alloc (.cells #[.int .i64 x.op,.int .i64 (l:Int),.int .i64 x.reg,.int .i64 x.val] 50)).drew:=⟨_,rfl⟩
 have hbX:Below wn.heap.size wn X:=by rw [hX]; exact ((Below.refl _ _).alloc (Nat.le_refl _) _).drew
 have oX:Own X wn.heap.size 50 #[.int .i64 x.op,.int .i64 (l:Int),.int .i64 x.reg,.int .i64 x.val]:=by rw [hX]; exact (Own.new wn _ _).drew
 have hVX:Below V.heap.size V X:=hbn.trans (hbX.mono hbn.size)
 have hBX:=hB.trans (hVX.mono hB.size)
 have x0:=oX.cell (i:=0) rfl
 have x1:=oX.cell (i:=1) rfl
 obtain⟨bv,cv,_,v1,v2⟩:=R3.out t htl
 obtain⟨bl,cl,_,l1,l2⟩:=R4.out l hl
 have hy13:=HN.out l hl
 have hv100:=HV.out t l hl
 have v1:=Le.below hVX _ _ v1
 have v2:X.cell? ⟨bv,l,none⟩=some (.int .i64 ((atV (ownV s t) l:Nat):Int)):=Le.below hVX _ _ (v2 l hl)
 have l1:=Le.below hVX _ _ l1
 have q2:=Le.below hVX _ _ q2
 have q3:=Le.below hVX _ _ q3
 have Hm:Hid (∀ k,k<(lstV s l).length→X.cell? ⟨bl,k*3+1,none⟩=some (.bool (gM (lstV s l) k).lock)):=fun k hk=>Le.below hVX _ _ (l2 k hk).2.1
 have hli:(l:Int)<3:=by omega
 generalize lstV s l=ms at l1 hy13 Hm Hcan
 generalize atV (ownV s t) l=v at v2 hv100 Hcan
 clear HK HBo oX l2
 go_upto_region 4 with (fail)
 rw [← hX]
 clear hX
 have hop:=Hix.out.op
 have f0:=fun n:Ext X=>n.le _ _ q2
 have f1:=fun n:Ext X=>n.le _ _ v1
 have f2:=fun n:Ext X=>n.le _ _ v2
 have f3:=fun n:Ext X=>n.le _ _ q3
 have f4:=fun n:Ext X=>n.le _ _ l1
 have f5:=fun n:Ext X=>n.le _ _ x1
 clear Hix
 by_cases h4:x.op=4
 ·have Hv:Hid (canV p s t k=decide (k=0)):=by show _=_; rw [Hcan.out]; unfold cn5; rw [if_pos h4]
  rw [h4] at x0
  clear Hcan f0 f1 f2 f3 f4 f5
  go_wp2_with fail
  go_ret
  refine⟨?_,hBX⟩
  show Ending.returned (.bool ((k:Int) == 0))=_
  rw [Hv.out]
  refine ret_bool ?_
  rcases Nat.eq_zero_or_pos k with e | e
  ·rw [e]; rfl
  ·rw [decide_eq_false (by omega),beq_eq_false_iff_ne]; omega
 by_cases h1:x.op=1
 ·have Hv:Hid (canV p s t k=(decide (v≤k) && decide (k<ms.length))):=by show _=_; rw [Hcan.out]; unfold cn5; rw [if_neg h4,if_pos h1]
  rw [h1] at x0
  clear Hcan
  rcases Bool.eq_false_or_eq_true (decide (v≤k)) with hvk | hvk
  all_goals
   go_wp2_with fail
   refine wp_region_ext _ (by kernel_rfl) (by kernel_rfl) (Below.refl _ _) ?_
   repeat (go_big_quiet_step (fail))
   refine wpQuiet_nil ?_
   rintro wm ⟨⟨_,hbm⟩,rfl⟩
   have hBm:=hBX.trans (hbm.mono hBX.size)
   go_wp2_with fail
   go_ret
   exact⟨by rw [Hv.out,hvk]; rfl,hBm⟩
 by_cases h5:x.op=5
 ·have Hv:Hid (canV p s t k=(decide (v≤k) && decide (k<ms.length) && !(gM ms k).lock)):=by show _=_; rw [Hcan.out]; unfold cn5; rw [if_neg h4,if_neg h1,if_pos h5]
  rw [h5] at x0
  clear Hcan h1 h4
  by_cases hb2:v≤k∧k<ms.length
  case' neg=>
   rcases Bool.eq_false_or_eq_true (decide (v≤k)) with hvk | hvk
   case' inl=>
    have hkl:decide (k<ms.length)=false:=by rw [decide_eq_true_iff] at hvk; rw [decide_eq_false_iff_not]; omega
    have Hw:Hid (canV p s t k=false):=by show _=_; rw [Hv.out,hkl,Bool.and_false,Bool.false_and]
   case' inr=>
    have Hw:Hid (canV p s t k=false):=by show _=_; rw [Hv.out,hvk,Bool.false_and,Bool.false_and]
  case' pos=>
   have hvk:decide (v≤k)=true:=decide_eq_true hb2.1
   have hkl:decide (k<ms.length)=true:=decide_eq_true hb2.2
   have hki:(k:Int)<(ms.length:Int):=by omega
   have m1:=Hm.out k hb2.2
   have f6:=fun n:Ext X=>n.le _ _ m1
   have Hw:Hid (canV p s t k=!(gM ms k).lock):=by show _=_; rw [Hv.out,hvk,hkl]; rfl
   generalize (gM ms k).lock=lk at m1 f6 Hw
  all_goals
   clear hb2
   go_wp2_with fail
   refine wp_region_ext _ (by kernel_rfl) (by kernel_rfl) (Below.refl _ _) ?_
   repeat (go_big_quiet_step (fail))
   refine wpQuiet_nil ?_
   rintro wm ⟨⟨_,hbm⟩,rfl⟩
   have hBm:=hBX.trans (hbm.mono hBX.size)
   go_wp2_with fail
   go_ret
   exact⟨by rw [Hw.out]; rfl,hBm⟩
 have Hv:Hid (canV p s t k=(decide (v<k) && decide (k≤ms.length) && !(gM ms (k-1)).lock)):=by show _=_; rw [Hcan.out]; unfold cn5; rw [if_neg h4,if_neg h1,if_neg h5]
 have o4:(x.op == (4:Int))=false:=by rw [beq_eq_false_iff_ne]; exact h4
 have o1:(x.op == (1:Int))=false:=by rw [beq_eq_false_iff_ne]; exact h1
 have o5:(x.op == (5:Int))=false:=by rw [beq_eq_false_iff_ne]; exact h5
 clear Hcan h1 h4 h5
 by_cases hb2:v<k∧k≤ms.length
 case' neg=>
  rcases Bool.eq_false_or_eq_true (decide (v<k)) with hvk | hvk
  case' inl=>
   have hkl:decide (k≤ms.length)=false:=by rw [decide_eq_true_iff] at hvk; rw [decide_eq_false_iff_not]; omega
   have Hw:Hid (canV p s t k=false):=by show _=_; rw [Hv.out,hkl,Bool.and_false,Bool.false_and]
  case' inr=>
   have Hw:Hid (canV p s t k=false):=by show _=_; rw [Hv.out,hvk,Bool.false_and,Bool.false_and]
 case' pos=>
  have hvk:decide (v<k)=true:=decide_eq_true hb2.1
  have hkl:decide (k≤ms.length)=true:=decide_eq_true hb2.2
  obtain⟨j,hj⟩:∃ j,j=k-1:=⟨_,rfl⟩
  rw [← hj] at Hv
  have hki:(j:Int)<(ms.length:Int):=by omega
  have hj0:(0:Int)≤(j:Int):=by omega
  have hj14:j≤13:=by omega
  have hwr:IntKind.i64.wrap ((k:Int)-1)=(j:Int):=by rw [IntKind.wrap_i64] <;> omega
  have m1:=Hm.out j (by omega)
  have f6:=fun n:Ext X=>n.le _ _ m1
  have Hw:Hid (canV p s t k=!(gM ms j).lock):=by show _=_; rw [Hv.out,hvk,hkl]; rfl
  generalize (gM ms j).lock=lk at m1 f6 Hw
  clear hj
 all_goals
  clear hb2
  go_wp2_with fail
  refine wp_region_ext _ (by kernel_rfl) (by kernel_rfl) (Below.refl _ _) ?_
  repeat (go_big_quiet_step (fail))
  refine wpQuiet_nil ?_
  rintro wm ⟨⟨_,hbm⟩,rfl⟩
  have hBm:=hBX.trans (hbm.mono hBX.size)
  go_wp2_with fail
  go_ret
  exact⟨by rw [Hw.out]; rfl,hBm⟩
end Go.Proofs.YtojmofnamppbdaaGreat
namespace Go.Proofs.YtojmofnamppbdaaGreat
open Go.RowKit
set_option linter.unusedVariables false
set_option maxRecDepth 100000
def mvI5 (p:Prg) (s:VSt) (c:Nat):List Int:=((List.range c).filter fun c=>decide (c % 3<p.length) && canV p s (c % 3) (c / 3)).map fun c=>((c:Nat):Int)
theorem mvI5_next (p:Prg) (s:VSt) (c:Nat):mvI5 p s (c+1)=mvI5 p s c++(if canV p s (c % 3) (c / 3)=true then [((c:Nat):Int)] else []):=by
 unfold mvI5
 rw [List.range_succ,List.filter_append,List.map_append]
 congr 1
 by_cases h:canV p s (c % 3) (c / 3)=true
 ·rw [if_pos h]
  have ht:c % 3<p.length:=by
   rcases Nat.lt_or_ge (c % 3) p.length with h' | h'
   ·exact h'
   ·rw [canV_off (by unfold thrP; rw [List.getD_eq_getElem?_getD,List.getElem?_eq_none h']; exact Nat.not_lt_zero _)] at h
    exact absurd h (by decide)
  simp [h,ht]
 ·rw [if_neg h]
  simp [h]
theorem mvI5_le (p:Prg) (s:VSt):∀ c,(mvI5 p s c).length≤c
 | 0=>by simp [mvI5]
 | c+1=>by
  have:=mvI5_le p s c
  rw [mvI5_next,List.length_append]
  split
  ·simp only [List.length_cons,List.length_nil]; omega
  ·simp only [List.length_nil]; omega
theorem most_le {p:Prg} {s:VSt} (hp:PrgOk p) (hs:VOk p s):mostV s≤14:=by
 rw [← most5_all hs]
 have:∀ i,i≤3→most5 s i≤13:=by
  intro i
  induction i with
  | zero=>intro _; simp [most5]
  | succ i ih=>
   intro h
   have h1:=ih (by omega)
   have h2:=lens_le hp hs (l:=i) (by omega)
   rw [most5_next]
   omega
 have:=this 3 (Nat.le_refl _)
 omega
set_option maxHeartbeats 2000000 in
theorem l5Choices_any (p:Prg) (hp:PrgOk p) (s:VSt) (hs:VOk p s) (W:World) (vp:Value) (hpr:PrgS W vp p) (q:L5) (hr:Rep5 W q p s):
  Calls Tryz.prog 83 #[vp,v5 q p.length] W (RetRowI W ((mvV p s).map fun c=>((c:Nat):Int))):=by
 obtain⟨i0,hi0,hz0,hz1,hz2⟩:=info_parts Tryz.infoInt
 have h3:=hp.1.1
 have hC:Hid (∀ U,Le W U→∀ t k:Nat,t<3→k≤100→Calls Tryz.prog 102 #[vp,v5 q p.length,.int .i64 ((t:Nat):Int),.int .i64 ((k:Nat):Int)] U (RetB U (canV p s t k))):=fun U hU t k ht hk=>l5Can_any p hp s hs t k (by omega) ht U vp (PrgS.le hpr hU) q (hr.le hU)
 have hM:Hid (∀ U,Le W U→Calls Tryz.prog 113 #[v5 q p.length] U (RetI U ((mostV s:Nat):Int))):=fun U hU=>l5Most_any p hp s hs U q (hr.le hU)
 have hm14:=most_le hp hs
 have Hend:Hid (mvI5 p s (3*mostV s)=(mvV p s).map fun c=>((c:Nat):Int)):=rfl
 generalize mostV s=M at hM hm14 Hend
 unfold v5 v5C at hC hM ⊢
 obtain⟨m,hm⟩:∃ m,m=p.length*3:=⟨_,rfl⟩
 rw [← hm] at hC hM ⊢
 generalize q.b1=b1 at *
 generalize q.b2=b2 at *
 generalize q.b3=b3 at *
 generalize q.b4=b4 at *
 generalize q.c1=c1 at *
 generalize q.c2=c2 at *
 generalize q.c3=c3 at *
 generalize q.c4=c4 at *
 generalize p.length=n at *
 obtain⟨V,hV⟩:∃ V,V=(W.alloc (.cells #[.slice (some ⟨b1,0,none⟩) n c1,.slice (some ⟨b2,0,none⟩) m c2,.slice (some ⟨b3,0,none⟩) n c3,.slice (some ⟨b4,0,none⟩) 3 c4] 73)).alloc (.cells #[] 3):=⟨_,rfl⟩
 have hB:Below W.heap.size W V:=by rw [hV]; exact ((Below.refl _ _).alloc (Nat.le_refl _) _).alloc (by simp) _
 have oV:Own V W.heap.size 73 #[.slice (some ⟨b1,0,none⟩) n c1,.slice (some ⟨b2,0,none⟩) m c2,.slice (some ⟨b3,0,none⟩) n c3,.slice (some ⟨b4,0,none⟩) 3 c4]:=by rw [hV]; exact (Own.new _ _ _).alloc _
 have hrow0:Hid (RowI V (W.heap.size+1) (.slice (some ⟨W.heap.size+1,0,none⟩) 0 0) []):=by
  show RowI _ _ _ _
  rw [hV]
  have h:=Own.new (W.alloc (.cells #[.slice (some ⟨b1,0,none⟩) n c1,.slice (some ⟨b2,0,none⟩) m c2,.slice (some ⟨b3,0,none⟩) n c3,.slice (some ⟨b4,0,none⟩) 3 c4] 73)) 3 #[]
  rw [show (W.alloc (.cells #[.slice (some ⟨b1,0,none⟩) n c1,.slice (some ⟨b2,0,none⟩) m c2,.slice (some ⟨b3,0,none⟩) n c3,.slice (some ⟨b4,0,none⟩) 3 c4] 73)).heap.size=W.heap.size+1 by simp] at h
  exact RowOf.made _ h (Nat.le_refl _)
 have OV:=Lib.hid oV
 have hVs:V.heap.size=W.heap.size+2:=by rw [hV]; simp
 clear hr hpr hm oV
 go_enter Tryz.func83,Tryz.ntmps83
 go_upto_region 2 with (fail)
 rw [← hV]
 clear hV
 go_wp2_with fail
 go_loopg [5,6] (3*M) (fun g s5 s6 wr=>∃ (c:Nat) (A:Option Addr) (k:Nat) (xs:List Int),c≤3*M∧g=3*M-c∧s5=.slice A xs.length k∧s6=.int .i64 c∧Hid (xs=mvI5 p s c)∧xs.length≤42∧Hid (RowI wr (W.heap.size+1) (.slice A xs.length k) xs)∧Below (W.heap.size+1) V wr)
 case atStart=>exact⟨0,some ⟨W.heap.size+1,0,none⟩,0,[],Nat.zero_le _,rfl,rfl,rfl,rfl,by simp,hrow0.out,Below.refl _ _⟩
 case round=>
  clear hrow0
  obtain⟨wo,rfl⟩:∃ wo:World,wo=wr:=⟨_,rfl⟩
  obtain⟨c,A,k,xs,hi,rfl,rfl,rfl,hxs,hx42,hrow,hb⟩:=hrel
  have hbs:=hb.size
  have hWo:Below W.heap.size W wo:=hB.trans (hb.mono (by omega))
  have ho:=OV.out.below hb (by omega)
  have x0:=ho.cell (i:=0) rfl
  have x1:=ho.cell (i:=1) rfl
  have x2:=ho.cell (i:=2) rfl
  have x3:=ho.cell (i:=3) rfl
  have hcl:=hM.out wo (Le.below hWo)
  go_wp2_with fail
  refine hcl.mono ?_
  rintro e1 w1 ⟨rfl,hb1⟩
  have hW1:=hWo.trans (hb1.mono hWo.size)
  have hV1:=hb.trans (hb1.mono (by omega))
  have x0:=Le.below hb1 _ _ x0
  have x1:=Le.below hb1 _ _ x1
  have x2:=Le.below hb1 _ _ x2
  have x3:=Le.below hb1 _ _ x3
  have hrow1:=Lib.hid (RowOf.below hrow.out hb1)
  clear hcl hrow
  by_cases hlt:c<3*M
  ·have hlti:(c:Int)<3*(M:Int):=by omega
   have hcc:=hC.out w1 (Le.below hW1) (c % 3) (c / 3) (by omega) (by omega)
   have hq1:(c:Int) % 3=((c % 3:Nat):Int):=by omega
   have hq2:(c:Int) / 3=((c / 3:Nat):Int):=by omega
   have hq3:(c:Int).tmod 3=((c % 3:Nat):Int):=by rw [Int.tmod_eq_emod_of_nonneg (by omega)]; omega
   have hq4:(c:Int).tdiv 3=((c / 3:Nat):Int):=by rw [Int.tdiv_eq_ediv_of_nonneg (by omega)]; omega
   have Hn:=Lib.hid (mvI5_next p s c)
   generalize hcn:canV p s (c % 3) (c / 3)=cn at hcc Hn
   have hc42:c≤42:=by omega
   have hr1:c % 3<3:=by omega
   have hr2:c / 3≤14:=by omega
   obtain⟨r1,hr1e⟩:∃ r,r=c % 3:=⟨_,rfl⟩
   obtain⟨r2,hr2e⟩:∃ r,r=c / 3:=⟨_,rfl⟩
   rw [← hr1e] at hcc hq1 hq3 hr1
   rw [← hr2e] at hcc hq2 hq4 hr2
   clear hcn hr1e hr2e
   go_wp2_with fail
   refine hcc.mono ?_
   rintro e2 w2 ⟨rfl,hb2⟩
   have hV2:=hV1.trans (hb2.mono (by have:=hV1.size; omega))
   have hrow2:=Lib.hid (RowOf.below hrow1.out hb2)
   clear hcc hrow1 x0 x1 x2 x3 hq1 hq2 hq3 hq4
   cases cn
   ·go_wp2_with fail
    go_roundg (3*M-(c+1))
    case measure=>omega
    case rel=>exact⟨c+1,A,k,xs,by omega,rfl,rfl,by go_num,by show xs=_; rw [Hn.out,← hxs.out]; simp,hx42,hrow2.out,hV2⟩
   ·have hx42':xs.length≤c:=by rw [hxs.out]; exact mvI5_le p s c
    obtain⟨cs,hown,hqq⟩:=hrow2.out
    have Hown:=Lib.hid hown
    have Hqq:=Lib.hid hqq
    have Hv:=Lib.hid (fun g (hg:(Value.slice A xs.length k).ownBlock=some g)=>(hrow2.out.blk hg).1)
    have hs2:=hV2.size
    clear hown hqq hrow2
    go_wp2_with (at_builtin; refine wpList_append_lies _ (by rfl) _ _ _ (by rfl) (W.heap.size+1) 3 i0 _ 1 8 Tryz.underlying31 hi0 hz0 hz1 hz2 rfl (by omega) (.slice A xs.length k) xs.length cs (by rfl) (owns_alloc Hown.out _) ⟨w2.heap.size,0,none⟩ 1 1 [.int .i64 (c:Int)] (by rfl) (by rfl) (World.news_of_block (cs:=#[.int .i64 (c:Int)]) (t:=3) (fr:=(0,0)) (heap_alloc_new w2 _)) (by simp [Value.oneCell']) (by omega) (by simp [maxLen]; omega) (by omega) (by simp; omega) (w2.heap.size+1) (by simp) ?_; intro gg cap w8 hown8 hgrow8 hat8 hlt8)
    have hB8:Below (W.heap.size+1) V w8:=below_of_grown (hV2.alloc (by omega) _) hgrow8 (by simp; omega) (fun g hg=>Hv.out g hg)
    have hr8:=Lib.hid (RowOf.snoc (news:=[.int .i64 (c:Int)]) (x:=(c:Int)) qint_congr Hown.out Hqq.out rfl rfl hown8)
    clear hown8 hgrow8 hat8
    go_wp2_with fail
    go_roundg (3*M-(c+1))
    case measure=>omega
    case rel=>exact⟨c+1,some ⟨gg,0,none⟩,cap,xs++[(c:Int)],by omega,rfl,by rw [show (xs++[(c:Int)]).length=xs.length+1 by simp],by go_num,by show _=_; rw [Hn.out,← hxs.out]; simp,by simp only [List.length_append,List.length_cons,List.length_nil]; omega,by rw [show (xs++[(c:Int)]).length=xs.length+1 by simp]; exact hr8.out,hB8⟩
  ·obtain rfl:c=3*M:=by omega
   have hx:Hid (xs=(mvV p s).map fun c=>((c:Nat):Int)):=by show xs=_; rw [hxs.out]; exact Hend.out
   clear hxs
   go_wp2_with fail
   go_ret
   refine RetRowI.mk ?_ hW1
   rw [← hx.out]
   exact hrow1.out.rebase fun g hg=>by have:=(hrow1.out.blk hg).1; omega
end Go.Proofs.YtojmofnamppbdaaGreat
namespace Go.Proofs.YtojmofnamppbdaaGreat
open Go.RowKit
set_option linter.unusedVariables false
set_option maxRecDepth 100000
theorem RowOf.ne_ownV {α:Type} {k:Nat} {Q:(Nat→Value)→α→Prop} {w:World} {base T:Nat} {e t:TypeId} {v:Value} {xs:List α} {cs:Array Value} (h:RowOf k Q w base e v xs) (ho:Own w T t cs) (hne:e≠t):¬ v.ownBlock=some T:=fun hv=>by
 obtain⟨cs',h1,_⟩:=h
 rcases h1.2 with ⟨rfl,_⟩ | ⟨g,cap,cur,rfl,_,hg,_⟩
 ·cases hv
 ·simp only [Value.ownBlock,Option.some.injEq] at hv
  subst hv
  unfold Own at ho
  rw [hg] at ho
  injection ho with ho
  injection ho with h1 h2 h3
  exact hne h2
theorem flatMap_congrV {α β:Type} {f g:α→List β}:∀ {l:List α},(∀ x∈l,f x=g x)→l.flatMap f=l.flatMap g
 | [],_=>rfl
 | x::l,h=>by
  rw [List.flatMap_cons,List.flatMap_cons,h x (List.mem_cons_self ..),flatMap_congrV fun y hy=>h y (List.mem_cons_of_mem _ hy)]
def vw3 (v:List Nat):List Int:=(List.range 3).map fun j=>aV v j
def lkI (b:Bool):List Int:=if b=true then [254] else []
def enM (m:Msg):List Int:=[m.val]++lkI m.lock++vw3 m.view
def enMs (ms:List Msg) (k:Nat):List Int:=(List.range k).flatMap fun k=>enM (gM ms k)
def enL (ms:List Msg):List Int:=255::enMs ms ms.length
def k1I (s:VSt) (i:Nat):List Int:=(List.range i).map fun t=>((pcS s.s t:Nat):Int)
def k2I (s:VSt) (i:Nat):List Int:=(List.range i).map fun j=>s.s.regs.getD j 0
def k3I (s:VSt) (i:Nat):List Int:=(List.range i).flatMap fun t=>vw3 (ownV s t)
def k4I (s:VSt) (i:Nat):List Int:=(List.range i).flatMap fun l=>enL (lstV s l)
theorem map_next {β:Type} (f:Nat→β) (i:Nat):(List.range (i+1)).map f=(List.range i).map f++[f i]:=by rw [List.range_succ,List.map_append]; rfl
theorem flat_next {β:Type} (f:Nat→List β) (i:Nat):(List.range (i+1)).flatMap f=(List.range i).flatMap f++f i:=by rw [List.range_succ,List.flatMap_append]; simp
theorem vw3_len (v:List Nat):(vw3 v).length=3:=by simp [vw3]
theorem enMs_len (ms:List Msg):∀ k,(enMs ms k).length≤5*k
 | 0=>by simp [enMs]
 | k+1=>by
  have h:=enMs_len ms k
  have e:enMs ms (k+1)=enMs ms k++enM (gM ms k):=flat_next _ _
  rw [e,List.length_append]
  unfold enM lkI
  simp only [List.length_append,vw3_len]
  split <;> simp only [List.length_cons,List.length_nil] <;> omega
theorem k3_len (s:VSt):∀ i,(k3I s i).length≤3*i
 | 0=>by simp [k3I]
 | i+1=>by
  have h:=k3_len s i
  have e:k3I s (i+1)=k3I s i++vw3 (ownV s i):=flat_next _ _
  rw [e,List.length_append,vw3_len]
  omega
theorem k4_len {s:VSt} (hl:∀ l,l<3→(lstV s l).length≤13):∀ i,i≤3→(k4I s i).length≤66*i
 | 0,_=>by simp [k4I]
 | i+1,hi=>by
  have h:=k4_len hl i (by omega)
  have e:k4I s (i+1)=k4I s i++enL (lstV s i):=flat_next _ _
  have:=enMs_len (lstV s i) (lstV s i).length
  have:=hl i (by omega)
  rw [e,List.length_append]
  unfold enL
  simp only [List.length_cons]
  omega
theorem range_map_get {α β:Type} (l:List α) (d:α) (f:α→β):(List.range l.length).map (fun i=>f (l.getD i d))=l.map f:=by
 apply List.ext_getElem
 ·simp
 ·intro i h1 h2
  simp at h1
  simp [List.getD_eq_getElem?_getD,List.getElem?_eq_getElem h1]
theorem range_flat_get {α β:Type} (l:List α) (d:α) (f:α→List β):(List.range l.length).flatMap (fun i=>f (l.getD i d))=l.flatMap f:=by
 rw [List.flatMap_def,List.flatMap_def,range_map_get]
theorem vw3_nat {v:List Nat} (h:v.length=3):(vw3 v).map Int.toNat=v:=by
 match v,h with
 | [a,b,c],_=>rfl
theorem enMs_nat {ms:List Msg} (h:∀ m∈ms,m.view.length=3):(enMs ms ms.length).map Int.toNat=ms.flatMap encMS:=by
 unfold enMs gM
 rw [range_flat_get ms m0V enM,List.map_flatMap]
 refine flatMap_congrV fun m hm=>?_
 unfold enM encMS
 rw [List.map_append,List.map_append,vw3_nat (h m hm),List.append_assoc]
 show m.val.toNat::((lkI m.lock).map Int.toNat++m.view)=_
 unfold lkI
 cases m.lock <;> rfl
theorem key5_eq {p:Prg} {s:VSt} (hp:PrgOk p) (hs:VOk p s):strOfNums (k1I s p.length++(k2I s (p.length*3)++(k3I s p.length++k4I s 3)))=keyVS s:=by
 have h1:(k1I s p.length).map Int.toNat=s.s.pc:=by
  unfold k1I
  rw [← hs.ok.pcl]
  show ((List.range s.s.pc.length).map fun t=>((s.s.pc.getD t 0:Nat):Int)).map Int.toNat=_
  rw [List.map_map]
  exact (range_map_get s.s.pc 0 fun n=>n).trans (by simp)
 have h2:(k2I s (p.length*3)).map Int.toNat=s.s.regs.map Int.toNat:=by
  unfold k2I
  rw [← hs.ok.regl,range_map_get s.s.regs 0 fun x=>x]
  simp
 have h3:(k3I s p.length).map Int.toNat=s.own.flatMap id:=by
  unfold k3I
  rw [← hs.ownl]
  show ((List.range s.own.length).flatMap fun t=>vw3 (s.own.getD t [0,0,0])).map Int.toNat=_
  rw [range_flat_get s.own [0,0,0] vw3,List.map_flatMap]
  exact flatMap_congrV fun v hv=>vw3_nat (hs.owns v hv).1
 have h4:(k4I s 3).map Int.toNat=s.lists.flatMap fun ms=>255::ms.flatMap encMS:=by
  unfold k4I
  rw [show (3:Nat)=s.lists.length from hs.len.symm]
  show ((List.range s.lists.length).flatMap fun t=>enL (s.lists.getD t [])).map Int.toNat=_
  rw [range_flat_get s.lists [] enL,List.map_flatMap]
  refine flatMap_congrV fun ms hms=>?_
  show 255::(enMs ms ms.length).map Int.toNat=_
  rw [enMs_nat fun m hm=>(hs.vals ms hms m hm).2.1]
 have h:(k1I s p.length++(k2I s (p.length*3)++(k3I s p.length++k4I s 3))).map Int.toNat=kVS s:=by
  rw [List.map_append,List.map_append,List.map_append,h1,h2,h3,h4]
  rfl
 unfold strOfNums keyVS byt
 rw [← h,List.map_map]
 rfl
set_option maxHeartbeats 4000000 in
theorem l5Key_any (p:Prg) (hp:PrgOk p) (s:VSt) (hs:VOk p s) (W:World) (q:L5) (hr:Rep5 W q p s):
  Calls Tryz.prog 81 #[v5 q p.length] W (fun e W'=>e=.returned (.string (keyVS s))∧Below W.heap.size W W'):=by
 obtain⟨i0,hi0,hz0,hz1,hz2⟩:=info_parts Tryz.infoByte
 have h3:=hp.1.1
 have hpp:=hp.2.1
 have Hk:=Lib.hid (key5_eq hp hs)
 have HN:Hid (∀ l,l<3→(lstV s l).length≤13):=fun l hl=>(lens_le hp hs hl).2
 have B1:Hid (∀ t,t<p.length→((pcS s.s t:Nat):Int) % 256=((pcS s.s t:Nat):Int)):=fun t ht=>by
  have h1:=hs.ok.pcb t
  have h2:=(thr_ok hp t).1
  omega
 have B2:Hid (∀ i,(s.s.regs.getD i 0) % 256=s.s.regs.getD i 0):=fun i=>by
  have:=getD_03 hs.ok.regb i
  unfold In03 at this
  omega
 have B3:Hid (∀ t j,j<3→(aV (ownV s t) j) % 256=aV (ownV s t) j):=fun t j hj=>by
  have:=(own_bytes hp hs t).2 j hj
  unfold aV
  omega
 have B4:Hid (∀ l,l<3→∀ k,k<(lstV s l).length→((gM (lstV s l) k).val % 256=(gM (lstV s l) k).val)∧∀ j,j<3→(aV (gM (lstV s l) k).view j) % 256=aV (gM (lstV s l) k).view j):=fun l hl k hk=>by
  have h:=gM_ok hs hl (k:=k) (by rw [← hs.pos _ hl]; exact hk)
  refine⟨?_,fun j hj=>?_⟩
  ·have:=h.1
   unfold In03 at this
   omega
  ·have:=(vw_bytes hp hs h.2).2 j hj
   unfold aV
   omega
 obtain⟨m,hm⟩:∃ m,m=p.length*3:=⟨_,rfl⟩
 have R1:=Lib.hid hr.at_
 have R2:=Lib.hid hr.regs
 have R3:=Lib.hid hr.view
 have R4:=Lib.hid hr.list
 rw [← hm] at R2 Hk
 unfold v5 v5C
 rw [← hm]
 generalize q.b1=b1 at *
 generalize q.b2=b2 at *
 generalize q.b3=b3 at *
 generalize q.b4=b4 at *
 generalize q.c1=c1 at *
 generalize q.c2=c2 at *
 generalize q.c3=c3 at *
 generalize q.c4=c4 at *
 have hm9:m≤9:=by omega
 generalize p.length=n at *
 obtain⟨W1,hW1⟩:∃ W1,W1=W.alloc (.cells #[.slice (some ⟨b1,0,none⟩) n c1,.slice (some ⟨b2,0,none⟩) m c2,.slice (some ⟨b3,0,none⟩) n c3,.slice (some ⟨b4,0,none⟩) 3 c4] 73):=⟨_,rfl⟩
 have hB1:Below W.heap.size W W1:=by rw [hW1]; exact (Below.refl _ _).alloc (Nat.le_refl _) _
 have hz1':W1.heap.size=W.heap.size+1:=by rw [hW1]; simp
 have oB:Own W1 W.heap.size 73 #[.slice (some ⟨b1,0,none⟩) n c1,.slice (some ⟨b2,0,none⟩) m c2,.slice (some ⟨b3,0,none⟩) n c3,.slice (some ⟨b4,0,none⟩) 3 c4]:=by rw [hW1]; exact Own.new _ _ _
 have q0:=oB.cell (i:=0) rfl
 have q1:=oB.cell (i:=1) rfl
 have q2:=oB.cell (i:=2) rfl
 have q3:=oB.cell (i:=3) rfl
 have hLe:=Le.below hB1
 clear hr hm oB
 go_enter Tryz.func81,Tryz.ntmps81
 go_upto_region 1 with (fail)
 rw [← hW1]
 have hBe:Below W1.heap.size W1 (W1.alloc (.cells #[] 5)):=(Below.refl _ _).alloc (Nat.le_refl _) _
 have hrow0:Hid (RowB (W1.alloc (.cells #[] 5)) (W.heap.size+1) (.slice (some ⟨W.heap.size+1,0,none⟩) 0 0) []):=by
  have h:RowB (W1.alloc (.cells #[] 5)) W1.heap.size (.slice (some ⟨W1.heap.size,0,none⟩) 0 0) []:=RowOf.made _ (Own.new W1 _ _) (Nat.le_refl _)
  rw [hz1'] at h
  exact h
 clear hW1
 go_wp2_with fail
 go_loopg [3,4] n (fun g s3 s4 wr=>∃ (i:Nat) (A:Option Addr) (c:Nat) (xs:List Int),i≤n∧g=n-i∧s3=.slice A xs.length c∧s4=.int .i64 i∧Hid (xs=k1I s i)∧xs.length≤i∧Hid (RowB wr (W.heap.size+1) (.slice A xs.length c) xs)∧Below W1.heap.size W1 wr)
 case atStart=>exact⟨0,some ⟨W.heap.size+1,0,none⟩,0,[],Nat.zero_le _,rfl,rfl,rfl,rfl,by simp,hrow0.out,hBe⟩
 case round=>
  obtain⟨wo,rfl⟩:∃ wo:World,wo=wr:=⟨_,rfl⟩
  clear hrow0 hBe
  obtain⟨i,A,c,xs,hi,rfl,rfl,rfl,hxs,hxl,hrow,hb⟩:=hrel
  have hsz:=hb.size
  have p0:=Le.below hb _ _ q0
  by_cases hlt:i<n
  ·have hc:=Le.below hb _ _ (hLe _ _ (R1.out i hlt))
   have hm:=B1.out i hlt
   have Hn:=Lib.hid (map_next (fun t=>((pcS s.s t:Nat):Int)) i)
   have hii:(i:Int)<(n:Int):=by omega
   have Hx:Hid (∀ y,y=((pcS s.s i:Nat):Int)→xs++[y]=k1I s (i+1)):=fun y hy=>by rw [hxs.out,hy]; exact Hn.out.symm
   generalize ((pcS s.s i:Nat):Int)=y at hc hm Hx
   have Hx':=Lib.hid (Hx.out y rfl)
   clear Hx Hn hxs
   obtain⟨cs,hown,hqq⟩:=hrow.out
   have Hown:=Lib.hid hown
   have Hqq:=Lib.hid hqq
   have Hs:Hid (∀ g,(Value.slice A xs.length c).ownBlock=some g→W.heap.size+1≤g):=fun g hg=>(hrow.out.blk hg).1
   clear hrow hown hqq
   go_wp2_with (at_builtin; refine wpList_append_lies _ (by rfl) _ _ _ (by rfl) (W.heap.size+1) 5 i0 _ 1 1 Tryz.underlying22 hi0 hz0 hz1 hz2 rfl (by omega) (Value.slice A xs.length c) xs.length cs (by rfl) (owns_alloc Hown.out _) ⟨wo.heap.size,0,none⟩ 1 1 [.int .u8 y] (by rfl) (by rfl) (World.news_of_block (cs:=#[.int .u8 y]) (t:=5) (fr:=(0,0)) (heap_alloc_new wo _)) (by simp [Value.oneCell']) (by omega) (by simp [maxLen]; omega) (by omega) (by simp; omega) (wo.heap.size+1) (by simp) ?_; intro gg cap w8 hown8 hgrow8 hat8 hlt8)
   have hB8:Below W1.heap.size W1 w8:=below_of_grown (hb.alloc hsz _) hgrow8 (by simp; omega) (fun g hg=>by have:=Hs.out g hg; omega)
   have hr8:Hid (RowB w8 (W.heap.size+1) (.slice (some ⟨gg,0,none⟩) (xs.length+1) cap) (xs++[y])):=RowOf.snoc (news:=[.int .u8 y]) (x:=y) qb_congr Hown.out Hqq.out rfl rfl hown8
   clear hown8 hgrow8 hat8 Hown Hqq Hs
   go_wp2_with fail
   go_roundg (n-(i+1))
   case measure=>omega
   case rel=>exact⟨i+1,some ⟨gg,0,none⟩,cap,xs++[y],by omega,rfl,by rw [show (xs++[y]).length=xs.length+1 by simp],by go_num,Hx'.out,by simp only [List.length_append,List.length_cons,List.length_nil]; omega,by rw [show (xs++[y]).length=xs.length+1 by simp]; exact hr8.out,hB8⟩
  ·obtain rfl:i=n:=by omega
   obtain⟨pp,hpe⟩:∃ pp,pp=xs:=⟨_,rfl⟩
   rw [← hpe] at hrow hxl hxs
   have Hpp:=Lib.hid hxs.out
   go_wp2_with fail
   rw [← hpe]
   clear p0 hpe
   go_loopg [3,5] m (fun g s3 s5 wr=>∃ (i:Nat) (A:Option Addr) (c:Nat) (xs:List Int),i≤m∧g=m-i∧s3=.slice A xs.length c∧s5=.int .i64 i∧Hid (xs=pp++k2I s i)∧xs.length≤3+i∧Hid (RowB wr (W.heap.size+1) (.slice A xs.length c) xs)∧Below W1.heap.size W1 wr)
   case atStart=>exact⟨0,A,c,pp,Nat.zero_le _,rfl,rfl,rfl,by show pp=pp++k2I s 0; rw [show k2I s 0=[] from rfl,List.append_nil],by omega,hrow.out,hb⟩
   case round=>
    obtain⟨wo,rfl⟩:∃ wo:World,wo=wr:=⟨_,rfl⟩
    clear hrow hb hxs
    obtain⟨j,A,c,xs,hj,rfl,rfl,rfl,hxs,hxl2,hrow,hb⟩:=hrel
    have hsz:=hb.size
    have p1:=Le.below hb _ _ q1
    by_cases hlt:j<m
    ·have hc:=Le.below hb _ _ (hLe _ _ (R2.out j hlt))
     have hm:=B2.out j
     have Hn:=Lib.hid (map_next (fun j=>s.s.regs.getD j 0) j)
     have hii:(j:Int)<(m:Int):=by omega
     have Hx:Hid (∀ y,y=s.s.regs.getD j 0→xs++[y]=pp++k2I s (j+1)):=fun y hy=>by rw [hxs.out,hy,List.append_assoc]; exact congrArg (pp++·) Hn.out.symm
     generalize s.s.regs.getD j 0=y at hc hm Hx
     have Hx':=Lib.hid (Hx.out y rfl)
     clear Hx Hn hxs
     obtain⟨cs,hown,hqq⟩:=hrow.out
     have Hown:=Lib.hid hown
     have Hqq:=Lib.hid hqq
     have Hs:Hid (∀ g,(Value.slice A xs.length c).ownBlock=some g→W.heap.size+1≤g):=fun g hg=>(hrow.out.blk hg).1
     clear hrow hown hqq
     go_wp2_with (at_builtin; refine wpList_append_lies _ (by rfl) _ _ _ (by rfl) (W.heap.size+1) 5 i0 _ 1 1 Tryz.underlying22 hi0 hz0 hz1 hz2 rfl (by omega) (Value.slice A xs.length c) xs.length cs (by rfl) (owns_alloc Hown.out _) ⟨wo.heap.size,0,none⟩ 1 1 [.int .u8 y] (by rfl) (by rfl) (World.news_of_block (cs:=#[.int .u8 y]) (t:=5) (fr:=(0,0)) (heap_alloc_new wo _)) (by simp [Value.oneCell']) (by omega) (by simp [maxLen]; omega) (by omega) (by simp; omega) (wo.heap.size+1) (by simp) ?_; intro gg cap w8 hown8 hgrow8 hat8 hlt8)
     have hB8:Below W1.heap.size W1 w8:=below_of_grown (hb.alloc hsz _) hgrow8 (by simp; omega) (fun g hg=>by have:=Hs.out g hg; omega)
     have hr8:Hid (RowB w8 (W.heap.size+1) (.slice (some ⟨gg,0,none⟩) (xs.length+1) cap) (xs++[y])):=RowOf.snoc (news:=[.int .u8 y]) (x:=y) qb_congr Hown.out Hqq.out rfl rfl hown8
     clear hown8 hgrow8 hat8 Hown Hqq Hs
     go_wp2_with fail
     go_roundg (m-(j+1))
     case measure=>omega
     case rel=>exact⟨j+1,some ⟨gg,0,none⟩,cap,xs++[y],by omega,rfl,by rw [show (xs++[y]).length=xs.length+1 by simp],by go_num,Hx'.out,by simp only [List.length_append,List.length_cons,List.length_nil]; omega,by rw [show (xs++[y]).length=xs.length+1 by simp]; exact hr8.out,hB8⟩
    ·obtain rfl:j=m:=by omega
     obtain⟨pq,hpe⟩:∃ pq,pq=xs:=⟨_,rfl⟩
     rw [← hpe] at hrow hxl2 hxs
     have Hpq:=Lib.hid hxs.out
     have hpq12:pq.length≤12:=by omega
     go_wp2_with fail
     rw [← hpe]
     clear p1 hpe
     go_loopg [3,6] i (fun g s3 s6 wr=>∃ (t:Nat) (A:Option Addr) (c:Nat) (xs:List Int),t≤i∧g=i-t∧s3=.slice A xs.length c∧s6=.int .i64 t∧Hid (xs=pq++k3I s t)∧xs.length≤12+3*t∧Hid (RowB wr (W.heap.size+1) (.slice A xs.length c) xs)∧Below W1.heap.size W1 wr)
     case atStart=>exact⟨0,A,c,pq,Nat.zero_le _,rfl,rfl,rfl,by show pq=pq++k3I s 0; rw [show k3I s 0=[] from rfl,List.append_nil],by omega,hrow.out,hb⟩
     case round=>
      obtain⟨wo,rfl⟩:∃ wo:World,wo=wr:=⟨_,rfl⟩
      clear hrow hb hxs
      obtain⟨t,A,c,xs,ht,rfl,rfl,rfl,hxs,hxl3,hrow,hb⟩:=hrel
      have hsz:=hb.size
      have p2:=Le.below hb _ _ q2
      by_cases hlt:t<i
      ·obtain⟨bv,cv,_,kv,kw⟩:=R3.out t hlt
       have hv:=Le.below hb _ _ (hLe _ _ kv)
       have Hkv:=Lib.hid (hLe _ _ kv)
       have Hkw:=Lib.hid (kw.le hLe)
       have Hn:=Lib.hid (flat_next (fun t=>vw3 (ownV s t)) t)
       have hii:(t:Int)<(i:Int):=by omega
       have Bv:=Lib.hid (B3.out t)
       have Hend:Hid (∀ ys,ys=xs++vw3 (ownV s t)→ys=pq++k3I s (t+1)):=fun ys hy=>by rw [hy,hxs.out,List.append_assoc]; exact congrArg (pq++·) Hn.out.symm
       obtain⟨px,hpe⟩:∃ px,px=xs:=⟨_,rfl⟩
       rw [← hpe] at hrow hxl3 Hend
       generalize ownV s t=vv at Hkw Bv Hend
       go_wp2_with fail
       rw [← hpe]
       clear p2 hv kv kw Hn hxs hpe
       go_loopg [3,7] 3 (fun g s3 s7 wr=>∃ (j:Nat) (A:Option Addr) (c:Nat) (xs:List Int),j≤3∧g=3-j∧s3=.slice A xs.length c∧s7=.int .i64 j∧Hid (xs=px++(List.range j).map fun j=>aV vv j)∧xs.length≤12+3*t+j∧Hid (RowB wr (W.heap.size+1) (.slice A xs.length c) xs)∧Below W1.heap.size W1 wr)
       case atStart=>exact⟨0,A,c,px,Nat.zero_le _,rfl,rfl,rfl,by show px=px++[]; rw [List.append_nil],by omega,hrow.out,hb⟩
       case round=>
        obtain⟨wo,rfl⟩:∃ wo:World,wo=wr:=⟨_,rfl⟩
        clear hrow hb
        obtain⟨j2,A,c,xs,hj2,rfl,rfl,rfl,hxs,hxl4,hrow,hb⟩:=hrel
        have hsz:=hb.size
        have p2:=Le.below hb _ _ q2
        have hv:=Le.below hb _ _ Hkv.out
        by_cases hlt2:j2<3
        ·have hc:=Le.below hb _ _ (Hkw.out j2 hlt2)
         have hm:=Bv.out j2 hlt2
         have hii2:(j2:Int)<3:=by omega
         have Hx:Hid (∀ y,y=aV vv j2→xs++[y]=px++(List.range (j2+1)).map fun j=>aV vv j):=fun y hy=>by rw [hxs.out,hy,List.append_assoc,map_next]
         generalize aV vv j2=y at hc hm Hx
         have Hx':=Lib.hid (Hx.out y rfl)
         clear Hx hxs
         obtain⟨cs,hown,hqq⟩:=hrow.out
         have Hown:=Lib.hid hown
         have Hqq:=Lib.hid hqq
         have Hs:Hid (∀ g,(Value.slice A xs.length c).ownBlock=some g→W.heap.size+1≤g):=fun g hg=>(hrow.out.blk hg).1
         clear hrow hown hqq
         go_wp2_with (at_builtin; refine wpList_append_lies _ (by rfl) _ _ _ (by rfl) (W.heap.size+1) 5 i0 _ 1 1 Tryz.underlying22 hi0 hz0 hz1 hz2 rfl (by omega) (Value.slice A xs.length c) xs.length cs (by rfl) (owns_alloc Hown.out _) ⟨wo.heap.size,0,none⟩ 1 1 [.int .u8 y] (by rfl) (by rfl) (World.news_of_block (cs:=#[.int .u8 y]) (t:=5) (fr:=(0,0)) (heap_alloc_new wo _)) (by simp [Value.oneCell']) (by omega) (by simp [maxLen]; omega) (by omega) (by simp; omega) (wo.heap.size+1) (by simp) ?_; intro gg cap w8 hown8 hgrow8 hat8 hlt8)
         have hB8:Below W1.heap.size W1 w8:=below_of_grown (hb.alloc hsz _) hgrow8 (by simp; omega) (fun g hg=>by have:=Hs.out g hg; omega)
         have hr8:Hid (RowB w8 (W.heap.size+1) (.slice (some ⟨gg,0,none⟩) (xs.length+1) cap) (xs++[y])):=RowOf.snoc (news:=[.int .u8 y]) (x:=y) qb_congr Hown.out Hqq.out rfl rfl hown8
         clear hown8 hgrow8 hat8 Hown Hqq Hs
         go_wp2_with fail
         go_roundg (3-(j2+1))
         case measure=>omega
         case rel=>exact⟨j2+1,some ⟨gg,0,none⟩,cap,xs++[y],by omega,rfl,by rw [show (xs++[y]).length=xs.length+1 by simp],by go_num,Hx'.out,by simp only [List.length_append,List.length_cons,List.length_nil]; omega,by rw [show (xs++[y]).length=xs.length+1 by simp]; exact hr8.out,hB8⟩
        ·obtain rfl:j2=3:=by omega
         have Hx:=Lib.hid (Hend.out xs hxs.out)
         clear hxs
         go_wp2_with fail
         go_roundg (i-(t+1))
         case measure=>omega
         case rel=>exact⟨t+1,A,c,xs,by omega,rfl,rfl,by go_num,Hx.out,by omega,hrow.out,hb⟩
      ·obtain rfl:t=i:=by omega
       obtain⟨ps,hpe⟩:∃ ps,ps=xs:=⟨_,rfl⟩
       rw [← hpe] at hrow hxl3 hxs
       have Hps:=Lib.hid hxs.out
       have hps21:ps.length≤21:=by omega
       go_wp2_with fail
       rw [← hpe]
       clear p2 hpe
       go_loopg [3,8] 3 (fun g s3 s8 wr=>∃ (l:Nat) (A:Option Addr) (c:Nat) (xs:List Int),l≤3∧g=3-l∧s3=.slice A xs.length c∧s8=.int .i64 l∧Hid (xs=ps++k4I s l)∧xs.length≤21+66*l∧Hid (RowB wr (W.heap.size+1) (.slice A xs.length c) xs)∧Below W1.heap.size W1 wr)
       case atStart=>exact⟨0,A,c,ps,Nat.zero_le _,rfl,rfl,rfl,by show ps=ps++k4I s 0; rw [show k4I s 0=[] from rfl,List.append_nil],by omega,hrow.out,hb⟩
       case round=>
        obtain⟨wo,rfl⟩:∃ wo:World,wo=wr:=⟨_,rfl⟩
        clear hrow hb hxs
        obtain⟨l,A,c,xs,hl,rfl,rfl,rfl,hxs,hxl5,hrow,hb⟩:=hrel
        have hsz:=hb.size
        have p3:=Le.below hb _ _ q3
        by_cases hlt:l<3
        ·obtain⟨bl,cl,_,kl,kms⟩:=R4.out l hlt
         have Hkl:=Lib.hid (hLe _ _ kl)
         have Hms:Hid (∀ k,k<(lstV s l).length→Msg3 W1 bl k (gM (lstV s l) k)):=fun k hk=>(kms k hk).le hLe
         have hl13:=HN.out l hlt
         have Bm:=Lib.hid (B4.out l hlt)
         have Hn:=Lib.hid (flat_next (fun l=>enL (lstV s l)) l)
         have hil:(l:Int)<3:=by omega
         have Hend:Hid (∀ ys,ys=xs++[255]++enMs (lstV s l) (lstV s l).length→ys=ps++k4I s (l+1)):=fun ys hy=>by
          rw [hy,hxs.out,List.append_assoc,List.append_assoc]
          exact congrArg (ps++·) (Hn.out.symm.trans rfl |>.symm▸rfl)
         generalize lstV s l=ms at Hkl Hms hl13 Bm Hend
         clear kl kms Hn hxs
         obtain⟨cs,hown,hqq⟩:=hrow.out
         have Hown:=Lib.hid hown
         have Hqq:=Lib.hid hqq
         have Hs:Hid (∀ g,(Value.slice A xs.length c).ownBlock=some g→W.heap.size+1≤g):=fun g hg=>(hrow.out.blk hg).1
         clear hrow hown hqq
         go_wp2_with (at_builtin; refine wpList_append_lies _ (by rfl) _ _ _ (by rfl) (W.heap.size+1) 5 i0 _ 1 1 Tryz.underlying22 hi0 hz0 hz1 hz2 rfl (by omega) (Value.slice A xs.length c) xs.length cs (by rfl) (owns_alloc Hown.out _) ⟨wo.heap.size,0,none⟩ 1 1 [.int .u8 255] (by rfl) (by rfl) (World.news_of_block (cs:=#[.int .u8 255]) (t:=5) (fr:=(0,0)) (heap_alloc_new wo _)) (by simp [Value.oneCell']) (by omega) (by simp [maxLen]; omega) (by omega) (by simp; omega) (wo.heap.size+1) (by simp) ?_; intro gg cap w8 hown8 hgrow8 hat8 hlt8)
         have hB8:Below W1.heap.size W1 w8:=below_of_grown (hb.alloc hsz _) hgrow8 (by simp; omega) (fun g hg=>by have:=Hs.out g hg; omega)
         have hr8:Hid (RowB w8 (W.heap.size+1) (.slice (some ⟨gg,0,none⟩) (xs.length+1) cap) (xs++[255])):=RowOf.snoc (news:=[.int .u8 255]) (x:=255) qb_congr Hown.out Hqq.out rfl rfl hown8
         clear hown8 hgrow8 hat8 Hown Hqq Hs
         obtain⟨px,hpx⟩:∃ px,px=xs++[255]:=⟨_,rfl⟩
         have hpxl:px.length=xs.length+1:=by rw [hpx]; simp
         rw [← hpx,← hpxl] at hr8
         rw [← hpx] at Hend
         go_wp2_with fail
         rw [← hpxl]
         have hpx22:px.length≤22+66*l:=by omega
         clear hpx hpxl p3 hb hsz
         go_loopg [3,9] ms.length (fun g s3 s9 wr=>∃ (k:Nat) (A:Option Addr) (c:Nat) (xs:List Int),k≤ms.length∧g=ms.length-k∧s3=.slice A xs.length c∧s9=.int .i64 k∧Hid (xs=px++enMs ms k)∧xs.length≤22+66*l+5*k∧Hid (RowB wr (W.heap.size+1) (.slice A xs.length c) xs)∧Below W1.heap.size W1 wr)
         case atStart=>exact⟨0,some ⟨gg,0,none⟩,cap,px,Nat.zero_le _,rfl,rfl,rfl,by show px=px++enMs ms 0; rw [show enMs ms 0=[] from rfl,List.append_nil],by omega,hr8.out,hB8⟩
         case round=>
          obtain⟨wo,rfl⟩:∃ wo:World,wo=wr:=⟨_,rfl⟩
          clear hr8 hB8
          obtain⟨k,A,c,xs,hk,rfl,rfl,rfl,hxs,hxl6,hrow,hb⟩:=hrel
          have hsz:=hb.size
          have p3:=Le.below hb _ _ q3
          have pl:=Le.below hb _ _ Hkl.out
          by_cases hlt:k<ms.length
          ·obtain⟨m0,m1,bv,cv,_,m2,m3⟩:=Hms.out k hlt
           obtain⟨By0,Byv⟩:=Bm.out k hlt
           have hik:(k:Int)<(ms.length:Int):=by omega
           have Hn:=Lib.hid (flat_next (fun k=>enM (gM ms k)) k)
           have Hen:Hid (∀ ys,ys=xs++[(gM ms k).val]++lkI (gM ms k).lock++vw3 (gM ms k).view→ys=px++enMs ms (k+1)):=fun ys hy=>by
            rw [hy,hxs.out]
            have h:enMs ms (k+1)=enMs ms k++enM (gM ms k):=Hn.out
            rw [h]
            unfold enM
            simp only [List.append_assoc]
           have Hm3:=Lib.hid m3
           have HBv:=Lib.hid Byv
           have m0:=Le.below hb _ _ m0
           have m1:=Le.below hb _ _ m1
           have m2:=Le.below hb _ _ m2
           generalize (gM ms k).view=vv at Hm3 HBv Hen
           generalize (gM ms k).val=y at m0 By0 Hen
           generalize (gM ms k).lock=lk at m1 Hen
           clear Hn hxs m3 Byv
           obtain⟨V,hV⟩:∃ V,V=wo.alloc (.cells #[.int .i64 y,.bool lk,.slice (some ⟨bv,0,none⟩) 3 cv] 137):=⟨_,rfl⟩
           have hbV:Below wo.heap.size wo V:=by rw [hV]; exact (Below.refl _ _).alloc (Nat.le_refl _) _
           have oV:Own V wo.heap.size 137 #[.int .i64 y,.bool lk,.slice (some ⟨bv,0,none⟩) 3 cv]:=by rw [hV]; exact Own.new _ _ _
           have OV:=Lib.hid oV
           have hrow:Hid (RowB V (W.heap.size+1) (.slice A xs.length c) xs):=RowOf.below hrow.out hbV
           have hbv0:=hb
           have hb:Below W1.heap.size W1 V:=hbv0.trans (hbV.mono hsz)
           have hsz0:=hsz
           have hsz:=hb.size
           have HsV:Hid (V.heap.size=wo.heap.size+1):=by show _=_; rw [hV]; simp
           have hoV:=oV.lt
           go_upto_region 25 with (fail)
           rw [← hV]
           have x0:V.cell? ⟨wo.heap.size,0,none⟩=some (.int .i64 y):=oV.cell (i:=0) rfl
           have x1:V.cell? ⟨wo.heap.size,1,none⟩=some (.bool lk):=oV.cell (i:=1) rfl
           have x2:V.cell? ⟨wo.heap.size,2,none⟩=some (.slice (some ⟨bv,0,none⟩) 3 cv):=oV.cell (i:=2) rfl
           obtain⟨nx,hnx⟩:∃ nx,nx=wo.heap.size:=⟨_,rfl⟩
           rw [← hnx] at x0 x1 x2 OV HsV hoV ⊢
           clear hV oV m0 m1 m2 pl p3 hbv0 hbV hsz0 hnx
           have HA:Hid (¬ (Value.slice A xs.length c).ownBlock=some nx):=RowOf.ne_ownV hrow.out OV.out (by decide)
           obtain⟨cs,hown,hqq⟩:=hrow.out
           have Hown:=Lib.hid hown
           have Hqq:=Lib.hid hqq
           have Hs:Hid (∀ g,(Value.slice A xs.length c).ownBlock=some g→W.heap.size+1≤g):=fun g hg=>(hrow.out.blk hg).1
           clear hrow hown hqq
           go_upto_region 26 with (at_builtin; refine wpList_append_lies _ (by rfl) _ _ _ (by rfl) (W.heap.size+1) 5 i0 _ 1 1 Tryz.underlying22 hi0 hz0 hz1 hz2 rfl (by omega) (Value.slice A xs.length c) xs.length cs (by rfl) (owns_alloc Hown.out _) ⟨V.heap.size,0,none⟩ 1 1 [.int .u8 y] (by rfl) (by rfl) (World.news_of_block (cs:=#[.int .u8 y]) (t:=5) (fr:=(0,0)) (heap_alloc_new V _)) (by simp [Value.oneCell']) (by omega) (by simp [maxLen]; omega) (by omega) (by simp; omega) (V.heap.size+1) (by simp) ?_; intro gg cap w8 hown8 hgrow8 hat8 hlt8)
           have hB8:Below W1.heap.size W1 w8:=below_of_grown (hb.alloc hsz _) hgrow8 (by simp; omega) (fun g hg=>by have:=Hs.out g hg; omega)
           have hr8:Hid (RowB w8 (W.heap.size+1) (.slice (some ⟨gg,0,none⟩) (xs.length+1) cap) (xs++[y])):=RowOf.snoc (news:=[.int .u8 y]) (x:=y) qb_congr Hown.out Hqq.out rfl rfl hown8
           have O8:Hid (Own w8 nx 137 #[.int .i64 y,.bool lk,.slice (some ⟨bv,0,none⟩) 3 cv]):=(OV.out.alloc _).of_block (World.grownBy.block hgrow8 _ (OV.out.alloc _).lt fun e=>HA.out e.symm)
           clear hown8 hgrow8 Hown Hqq Hs
           obtain⟨py,hpy⟩:∃ py,py=xs++[y]:=⟨_,rfl⟩
           have hpyl:py.length=xs.length+1:=by rw [hpy]; simp
           rw [← hpy,← hpyl] at hr8
           rw [← hpy] at Hen
           clear x0 x1 x2
           have x0:w8.cell? ⟨nx,0,none⟩=some (.int .i64 y):=O8.out.cell (i:=0) rfl
           have x1:w8.cell? ⟨nx,1,none⟩=some (.bool lk):=O8.out.cell (i:=1) rfl
           have x2:w8.cell? ⟨nx,2,none⟩=some (.slice (some ⟨bv,0,none⟩) 3 cv):=O8.out.cell (i:=2) rfl
           rw [← hpyl]
           have hpy23:py.length≤23+66*l+5*k:=by omega
           have hnx8:=O8.out.lt
           clear hpy hpyl hb hsz HA OV hxl6 HsV
           cases lk
           case' true=>
            have hrow:=hr8
            have hsz:=hB8.size
            have hb:=hB8
            have HA:Hid (¬ (Value.slice (some ⟨gg,0,none⟩) py.length cap).ownBlock=some nx):=RowOf.ne_ownV hrow.out O8.out (by decide)
            clear hr8 hB8
            obtain⟨cs2,hown,hqq⟩:=hrow.out
            have Hown:=Lib.hid hown
            have Hqq:=Lib.hid hqq
            have Hs2:Hid (∀ g,(Value.slice (some ⟨gg,0,none⟩) py.length cap).ownBlock=some g→W.heap.size+1≤g):=fun g hg=>(hrow.out.blk hg).1
            clear hrow hown hqq
            go_upto_region 28 with (at_builtin; refine wpList_append_lies _ (by rfl) _ _ _ (by rfl) (W.heap.size+1) 5 i0 _ 1 1 Tryz.underlying22 hi0 hz0 hz1 hz2 rfl (by omega) (Value.slice (some ⟨gg,0,none⟩) py.length cap) py.length cs2 (by rfl) (owns_alloc Hown.out _) ⟨w8.heap.size,0,none⟩ 1 1 [.int .u8 254] (by rfl) (by rfl) (World.news_of_block (cs:=#[.int .u8 254]) (t:=5) (fr:=(0,0)) (heap_alloc_new w8 _)) (by simp [Value.oneCell']) (by omega) (by simp [maxLen]; omega) (by omega) (by simp; omega) (w8.heap.size+1) (by simp) ?_; intro gg2 cap2 w9 hown8 hgrow8 hat8 hlt8)
            have hB8:Below W1.heap.size W1 w9:=below_of_grown (hb.alloc hsz _) hgrow8 (by simp; omega) (fun g hg=>by have:=Hs2.out g hg; omega)
            have hr8:Hid (RowB w9 (W.heap.size+1) (.slice (some ⟨gg2,0,none⟩) (py.length+1) cap2) (py++[254])):=RowOf.snoc (news:=[.int .u8 254]) (x:=254) qb_congr Hown.out Hqq.out rfl rfl hown8
            have O9:Hid (Own w9 nx 137 #[.int .i64 y,.bool true,.slice (some ⟨bv,0,none⟩) 3 cv]):=(O8.out.alloc _).of_block (World.grownBy.block hgrow8 _ (O8.out.alloc _).lt fun e=>HA.out e.symm)
            clear hown8 hgrow8 hat8 Hown Hqq Hs2
            obtain⟨pz,hpz⟩:∃ pz,pz=py++[254]:=⟨_,rfl⟩
            have hpzl:pz.length=py.length+1:=by rw [hpz]; simp
            rw [← hpz,← hpzl] at hr8
            have Hez:Hid (∀ ys,ys=pz++vw3 vv→ys=px++enMs ms (k+1)):=fun ys hy=>Hen.out ys (by rw [hy,hpz]; rfl)
            rw [← hpzl]
            have hpz24:pz.length≤24+66*l+5*k:=by omega
            clear hpz hpzl hb hsz HA O8 x0 x1 x2
           case' false=>
            have Hez:Hid (∀ ys,ys=py++vw3 vv→ys=px++enMs ms (k+1)):=fun ys hy=>Hen.out ys (by rw [hy]; show _=py++[]++vw3 vv; rw [List.append_nil])
            have O9:=O8
            go_upto_region 28 with (fail)
            clear O8 x0 x1 x2
            have hpz24:py.length≤24+66*l+5*k:=by omega
            obtain⟨w9,rfl⟩:∃ w9,w9=w8:=⟨_,rfl⟩
            obtain⟨gg2,rfl⟩:∃ g,g=gg:=⟨_,rfl⟩
            obtain⟨cap2,rfl⟩:∃ c,c=cap:=⟨_,rfl⟩
            obtain⟨pz,rfl⟩:∃ z,z=py:=⟨_,rfl⟩
           all_goals
            have Q2:Hid (∃ cs,Own w9 nx 137 cs∧cs[2]?=some (.slice (some ⟨bv,0,none⟩) 3 cv)):=⟨_,O9.out,rfl⟩
            have HO9:=Lib.hid (O9.out.lt)
            clear Hen O9
            go_wp2_with fail
            go_loopg [3,11] 3 (fun g s3 s11 wr=>∃ (j:Nat) (A:Option Addr) (c:Nat) (xs:List Int),j≤3∧g=3-j∧s3=.slice A xs.length c∧s11=.int .i64 j∧Hid (xs=pz++(List.range j).map fun j=>aV vv j)∧xs.length≤24+66*l+5*k+j∧Hid (RowB wr (W.heap.size+1) (.slice A xs.length c) xs)∧Below W1.heap.size W1 wr∧Hid (∃ cs,Own wr nx 137 cs∧cs[2]?=some (.slice (some ⟨bv,0,none⟩) 3 cv)))
            case atStart=>exact⟨0,some ⟨gg2,0,none⟩,cap2,pz,Nat.zero_le _,rfl,rfl,rfl,by show pz=pz++[]; rw [List.append_nil],by omega,hr8.out,hB8,Q2.out⟩
            case round=>
             obtain⟨wo,rfl⟩:∃ wo:World,wo=wr:=⟨_,rfl⟩
             clear hr8 hB8 Q2
             obtain⟨j2,A,c,xs,hj2,rfl,rfl,rfl,hxs,hxl7,hrow,hb,hx2⟩:=hrel
             have hsz:=hb.size
             obtain⟨csx,ox,hcx⟩:=hx2.out
             have x2:wo.cell? ⟨nx,2,none⟩=some (.slice (some ⟨bv,0,none⟩) 3 cv):=ox.cell hcx
             have HA:Hid (¬ (Value.slice A xs.length c).ownBlock=some nx):=RowOf.ne_ownV hrow.out ox (by decide)
             have Hox:=Lib.hid ox
             have hcx:=Lib.hid hcx
             have hnx9:=ox.lt
             clear ox hx2
             by_cases hlt2:j2<3
             ·have hc:=Le.below hb _ _ (Hm3.out j2 hlt2)
              have hm:=HBv.out j2 hlt2
              have hii2:(j2:Int)<3:=by omega
              have Hx:Hid (∀ y,y=aV vv j2→xs++[y]=pz++(List.range (j2+1)).map fun j=>aV vv j):=fun y hy=>by rw [hxs.out,hy,List.append_assoc,map_next]
              generalize aV vv j2=z at hc hm Hx
              have Hx':=Lib.hid (Hx.out z rfl)
              clear Hx hxs
              obtain⟨cs3,hown,hqq⟩:=hrow.out
              have Hown:=Lib.hid hown
              have Hqq:=Lib.hid hqq
              have Hs3:Hid (∀ g,(Value.slice A xs.length c).ownBlock=some g→W.heap.size+1≤g):=fun g hg=>(hrow.out.blk hg).1
              clear hrow hown hqq
              go_wp2_with (at_builtin; refine wpList_append_lies _ (by rfl) _ _ _ (by rfl) (W.heap.size+1) 5 i0 _ 1 1 Tryz.underlying22 hi0 hz0 hz1 hz2 rfl (by omega) (Value.slice A xs.length c) xs.length cs3 (by rfl) (owns_alloc Hown.out _) ⟨wo.heap.size,0,none⟩ 1 1 [.int .u8 z] (by rfl) (by rfl) (World.news_of_block (cs:=#[.int .u8 z]) (t:=5) (fr:=(0,0)) (heap_alloc_new wo _)) (by simp [Value.oneCell']) (by omega) (by simp [maxLen]; omega) (by omega) (by simp; omega) (wo.heap.size+1) (by simp) ?_; intro gg3 cap3 w10 hown8 hgrow8 hat8 hlt8)
              have hB8:Below W1.heap.size W1 w10:=below_of_grown (hb.alloc hsz _) hgrow8 (by simp; omega) (fun g hg=>by have:=Hs3.out g hg; omega)
              have hr8:Hid (RowB w10 (W.heap.size+1) (.slice (some ⟨gg3,0,none⟩) (xs.length+1) cap3) (xs++[z])):=RowOf.snoc (news:=[.int .u8 z]) (x:=z) qb_congr Hown.out Hqq.out rfl rfl hown8
              have Q3:Hid (∃ cs,Own w10 nx 137 cs∧cs[2]?=some (.slice (some ⟨bv,0,none⟩) 3 cv)):=⟨_,(Hox.out.alloc _).of_block (World.grownBy.block hgrow8 _ (Hox.out.alloc _).lt fun e=>HA.out e.symm),hcx.out⟩
              clear hown8 hgrow8 hat8 Hown Hqq Hs3
              go_wp2_with fail
              go_roundg (3-(j2+1))
              case measure=>omega
              case rel=>exact⟨j2+1,some ⟨gg3,0,none⟩,cap3,xs++[z],by omega,rfl,by rw [show (xs++[z]).length=xs.length+1 by simp],by go_num,Hx'.out,by simp only [List.length_append,List.length_cons,List.length_nil]; omega,by rw [show (xs++[z]).length=xs.length+1 by simp]; exact hr8.out,hB8,Q3.out⟩
             ·obtain rfl:j2=3:=by omega
              have Hx:=Lib.hid (Hez.out xs hxs.out)
              clear hxs
              go_wp2_with fail
              go_roundg (ms.length-(k+1))
              case measure=>omega
              case rel=>exact⟨k+1,A,c,xs,by omega,rfl,rfl,by go_num,Hx.out,by omega,hrow.out,hb⟩
          ·obtain rfl:k=ms.length:=by omega
           have Hx:=Lib.hid (Hend.out xs hxs.out)
           clear hxs
           go_wp2_with fail
           go_roundg (3-(l+1))
           case measure=>omega
           case rel=>exact⟨l+1,A,c,xs,by omega,rfl,rfl,by go_num,Hx.out,by omega,hrow.out,hb⟩
        ·obtain rfl:l=3:=by omega
         have hx:xs=k1I s t++(k2I s j++(k3I s t++k4I s 3)):=by rw [hxs.out,Hps.out,Hpq.out,Hpp.out,List.append_assoc,List.append_assoc]
         have hpos:0<xs.length:=by
          rw [hx]
          simp only [List.length_append,k1I,List.length_map,List.length_range]
          omega
         have hcv:=row_conv hrow.out hpos wo rfl
         have Hgk:Hid (strOfNums xs=keyVS s):=by show _=_; rw [hx]; exact Hk.out
         clear hx hxs hpos
         generalize strOfNums xs=kk at hcv Hgk
         go_wp2_with fail
         go_ret
         exact⟨by rw [← Hgk.out]; rfl,hB1.trans (hb.mono hB1.size)⟩
end Go.Proofs.YtojmofnamppbdaaGreat
