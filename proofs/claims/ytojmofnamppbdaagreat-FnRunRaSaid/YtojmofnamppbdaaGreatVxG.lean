/-
  A state with views in the program's memory; the walks of view.moved and view.joined. A state with views in the program's memory: how it is read; the walks of done and outcome. The walks of the machine with views: places, moves.
-/
import Derived.Test.YtojmofnamppbdaaGreatSeqC
import Derived.Test.YtojmofnamppbdaaGreatVwA
import Derived.Test.YtojmofnamppbdaaGreatLib
import Derived.Deep.MidRow
import Derived.Deep.WholeRow
namespace Go.Proofs.YtojmofnamppbdaaGreat
open Go.RowKit
set_option linter.unusedVariables false
set_option maxRecDepth 100000
def aV (v:List Nat) (l:Nat):Int:=((atV v l:Nat):Int)
def vwV (v:List Nat):Value:=.agg #[.int .u8 (aV v 0),.int .u8 (aV v 1),.int .u8 (aV v 2)]
def VwB (v:List Nat):Prop:=v.length=3∧∀ l,l<3→atV v l≤100
set_option maxHeartbeats 1000000 in
theorem moved_any (v:List Nat) (hv:VwB v) (l k:Nat) (hl:l<3) (hk:k≤100) (W:World):
  Calls Tryz.prog 190 #[vwV v,.int .i64 l,.int .u8 k] W (fun e W'=>e=.returned (vwV (bumpV l k v))∧Below W.heap.size W W'):=by
 have hb:=fun j=>bump_at (l:=l) (k:=k) (j:=j) (v:=v) (by rw [hv.1]; exact hl)
 have h0:=hv.2 0 (by omega)
 have h1:=hv.2 1 (by omega)
 have h2:=hv.2 2 (by omega)
 have HR:Hid (vwV (bumpV l k v)=.agg #[.int .u8 (if 0=l∧k≤atV v 0 then aV v 0+1 else aV v 0),.int .u8 (if 1=l∧k≤atV v 1 then aV v 1+1 else aV v 1),.int .u8 (if 2=l∧k≤atV v 2 then aV v 2+1 else aV v 2)]):=by
  have key:∀ j,j<3→aV (bumpV l k v) j=if j=l∧k≤atV v j then aV v j+1 else aV v j:=fun j hj=>by
   unfold aV
   rw [hb]
   by_cases e:j=l
   ·subst e
    by_cases e2:k≤atV v j
    ·simp [e2]
    ·simp [e2]
   ·simp [e]
  unfold vwV Hid
  rw [key 0 (by omega),key 1 (by omega),key 2 (by omega)]
 obtain⟨R,hR⟩:∃ R,R=vwV (bumpV l k v):=⟨_,rfl⟩
 have HR:Hid (R=_):=hR.trans HR.out
 rw [← hR]
 clear hR
 have ha:∀ j,aV v j=((atV v j:Nat):Int):=fun _=>rfl
 unfold vwV
 simp only [ha] at HR ⊢
 generalize atV v 0=y0 at h0 HR
 generalize atV v 1=y1 at h1 HR
 generalize atV v 2=y2 at h2 HR
 clear hb ha hv
 have hB:∀ a b t u,Below W.heap.size W ((W.alloc (.cells a t)).alloc (.cells b u)):=fun a b t u=>((Below.refl _ _).alloc (Nat.le_refl _) _).alloc (by simp) _
 obtain rfl | rfl | rfl:l=0∨l=1∨l=2:=by omega
 ·by_cases hy:k≤y0
  all_goals
   go_enter Tryz.func190,Tryz.ntmps190
   go_wp2_with fail
   refine bodyPost_ret (v:=R) (by rw [HR.out]; simp [results,Tryz.results190,go_sem,hy]) rfl ?_
   exact⟨rfl,hB _ _ _ _⟩
 ·by_cases hy:k≤y1
  all_goals
   go_enter Tryz.func190,Tryz.ntmps190
   go_wp2_with fail
   refine bodyPost_ret (v:=R) (by rw [HR.out]; simp [results,Tryz.results190,go_sem,hy]) rfl ?_
   exact⟨rfl,hB _ _ _ _⟩
 ·by_cases hy:k≤y2
  all_goals
   go_enter Tryz.func190,Tryz.ntmps190
   go_wp2_with fail
   refine bodyPost_ret (v:=R) (by rw [HR.out]; simp [results,Tryz.results190,go_sem,hy]) rfl ?_
   exact⟨rfl,hB _ _ _ _⟩
def mxV (u v:List Nat) (i:Nat):Array Value:=#[.int .u8 (if 0<i then ((max (atV u 0) (atV v 0):Nat):Int) else aV u 0),.int .u8 (if 1<i then ((max (atV u 1) (atV v 1):Nat):Int) else aV u 1),.int .u8 (if 2<i then ((max (atV u 2) (atV v 2):Nat):Int) else aV u 2)]
def vwC (v:List Nat):Array Value:=#[.int .u8 (aV v 0),.int .u8 (aV v 1),.int .u8 (aV v 2)]
theorem mx_end {u v:List Nat} (hu:VwB u) (hv:VwB v):mxV u v 3=vwC (joinV u v):=by
 unfold mxV vwC aV
 rw [join_at hu.1 hv.1 0 (by omega),join_at hu.1 hv.1 1 (by omega),join_at hu.1 hv.1 2 (by omega)]
 rfl
set_option maxHeartbeats 1000000 in
theorem joined_any (u v:List Nat) (hu:VwB u) (hv:VwB v) (W:World):
  Calls Tryz.prog 184 #[vwV u,vwV v] W (fun e W'=>e=.returned (vwV (joinV u v))∧Below W.heap.size W W'):=by
 have HE:=Lib.hid (mx_end hu hv)
 obtain⟨V,hV⟩:∃ V,V=((W.alloc (.cells (mxV u v 0) 107)).alloc (.cells (vwC v) 107)).alloc (.cells #[.int .u8 0,.int .u8 0,.int .u8 0] 107):=⟨_,rfl⟩
 have hB:Below W.heap.size W V:=by rw [hV]; exact (((Below.refl _ _).alloc (Nat.le_refl _) _).alloc (by simp) _).alloc (by simp; omega) _
 have o0:Hid (Own V W.heap.size 107 (mxV u v 0)):=by show Own _ _ _ _; rw [hV]; exact ((Own.new W _ _).alloc _).alloc _
 have o1:Hid (Own V (W.heap.size+1) 107 (vwC v)):=by
  show Own _ _ _ _
  rw [hV]
  have h:=Own.new (W.alloc (.cells (mxV u v 0) 107)) 107 (vwC v)
  simp only [World.size_alloc] at h
  exact h.alloc _
 have o2:Hid (Own V (W.heap.size+1+1) 107 #[.int .u8 0,.int .u8 0,.int .u8 0]):=by
  show Own _ _ _ _
  rw [hV]
  have h:=Own.new ((W.alloc (.cells (mxV u v 0) 107)).alloc (.cells (vwC v) 107)) 107 #[.int .u8 0,.int .u8 0,.int .u8 0]
  simpa using h
 have hu0:=hu.2
 have hv0:=hv.2
 obtain⟨R,hR⟩:∃ R,R=vwV (joinV u v):=⟨_,rfl⟩
 have HR:=Lib.hid hR
 rw [← hR]
 unfold vwV
 go_enter Tryz.func184,Tryz.ntmps184
 go_wp2_with fail
 have hV':(((W.alloc (.cells #[.int .u8 (aV u 0),.int .u8 (aV u 1),.int .u8 (aV u 2)] 107)).alloc (.cells #[.int .u8 (aV v 0),.int .u8 (aV v 1),.int .u8 (aV v 2)] 107)).alloc (.cells #[.int .u8 0,.int .u8 0,.int .u8 0] 107))=V:=hV.symm
 rw [hV']
 clear hV hV'
 go_loopg [6] 3 (fun g s6 wr=>∃ i:Nat,i≤3∧g=3-i∧s6=.int .i64 i∧Hid (Own wr W.heap.size 107 (mxV u v i))∧Hid (Own wr (W.heap.size+1) 107 (vwC v))∧Hid (Own wr (W.heap.size+1+1) 107 #[.int .u8 0,.int .u8 0,.int .u8 0])∧Below W.heap.size W wr)
 case atStart=>exact⟨0,Nat.zero_le _,rfl,rfl,o0,o1,o2,hB⟩
 case round=>
  obtain⟨wo,rfl⟩:∃ wo:World,wo=wr:=⟨_,rfl⟩
  obtain⟨i,hi,rfl,rfl,p0,p1,p2,hb⟩:=hrel
  have ha:∀ v j,aV v j=((atV v j:Nat):Int):=fun _ _=>rfl
  by_cases hlt:i<3
  ·have k0:wo.cell? ⟨W.heap.size,i,none⟩=some (.int .u8 ((atV u i:Nat):Int)):=by
    obtain rfl | rfl | rfl:i=0∨i=1∨i=2:=by omega
    ·exact p0.out.cell rfl
    ·exact p0.out.cell rfl
    ·exact p0.out.cell rfl
   have k1:wo.cell? ⟨W.heap.size+1,i,none⟩=some (.int .u8 ((atV v i:Nat):Int)):=by
    obtain rfl | rfl | rfl:i=0∨i=1∨i=2:=by omega
    ·exact p1.out.cell rfl
    ·exact p1.out.cell rfl
    ·exact p1.out.cell rfl
   have k2:=p0.out.frozen i
   have k3:=p0.out.lt
   have HN:Hid (mxV u v (i+1)=(mxV u v i).setIfInBounds i (.int .u8 ((max (atV u i) (atV v i):Nat):Int))):=by
    show _=_
    obtain rfl | rfl | rfl:i=0∨i=1∨i=2:=by omega
    ·rfl
    ·rfl
    ·rfl
   have hui:=hu0 i hlt
   have hvi:=hv0 i hlt
   generalize atV u i=a at k0 HN hui
   generalize atV v i=c at k1 HN hvi
   have hii:(i:Int)<3:=by omega
   have HMa:Hid (a<c→∀ X:World,Own X W.heap.size 107 (mxV u v i)→Own ((X.setCell ⟨W.heap.size,i,none⟩ (.int .u8 (c:Int))).drew) W.heap.size 107 (mxV u v (i+1))):=fun hac X h=>by
    rw [HN.out,show max a c=c by omega]
    exact (h.set i _).drew
   have HMb:Hid (¬ a<c→∀ X:World,Own X W.heap.size 107 (mxV u v i)→Own ((X.setCell ⟨W.heap.size,i,none⟩ (.int .u8 (a:Int))).drew) W.heap.size 107 (mxV u v (i+1))):=fun hac X h=>by
    rw [HN.out,show max a c=a by omega]
    exact (h.set i _).drew
   clear ha HN
   go_wp2_with fail
   go_region_with (fail)
   all_goals (go_wp2_with fail)
   all_goals
    go_roundg (3-(i+1))
    case measure=>omega
    case rel=>exact⟨i+1,by omega,rfl,by go_num,(by first | exact HMa.out (by assumption) _ p0.out | exact HMb.out (by assumption) _ p0.out),(Own.far p1.out (fun e=>by simp only at e; omega) _).drew,(Own.far p2.out (fun e=>by simp only at e; omega) _).drew,(hb.setCell (Nat.le_refl _) _).drew⟩
  ·obtain rfl:i=3:=by omega
   have p0:Hid (Own wo W.heap.size 107 (vwC (joinV u v))):=by
    show Own _ _ _ _
    rw [← HE.out]
    exact p0.out
   have k0:wo.cell? ⟨W.heap.size,0,none⟩=some (.int .u8 (aV (joinV u v) 0)):=p0.out.cell rfl
   have k1:wo.cell? ⟨W.heap.size,1,none⟩=some (.int .u8 (aV (joinV u v) 1)):=p0.out.cell rfl
   have k2:wo.cell? ⟨W.heap.size,2,none⟩=some (.int .u8 (aV (joinV u v) 2)):=p0.out.cell rfl
   have k3:=p0.out.lt
   have j0:wo.cell? ⟨W.heap.size+1+1,0,none⟩=some (.int .u8 0):=p2.out.cell rfl
   have j1:wo.cell? ⟨W.heap.size+1+1,1,none⟩=some (.int .u8 0):=p2.out.cell rfl
   have j2:wo.cell? ⟨W.heap.size+1+1,2,none⟩=some (.int .u8 0):=p2.out.cell rfl
   have j3:=p2.out.frozen 0
   have j4:=p2.out.frozen 1
   have j5:=p2.out.frozen 2
   have j6:=p2.out.lt
   clear ha
   go_wp2_with fail
   refine bodyPost_ret (v:=R) (by rw [HR.out]; simp [results,Tryz.results184,go_sem,vwV,j0,j1,j2]) rfl ?_
   refine⟨rfl,?_⟩
   repeat (first | exact hb | exact hb.drew | (refine Below.setCell ?_ (by simp; omega) _) | (refine Below.drew ?_))
end Go.Proofs.YtojmofnamppbdaaGreat
namespace Go.Proofs.YtojmofnamppbdaaGreat
open Go.RowKit
set_option linter.unusedVariables false
set_option maxRecDepth 100000
def QM (cs:Nat→Value) (m:Msg):Prop:=cs 0=.int .u8 m.val∧cs 1=.bool m.lock∧cs 2=.int .u8 (aV m.view 0)∧cs 3=.int .u8 (aV m.view 1)∧cs 4=.int .u8 (aV m.view 2)
theorem qm_congr:∀ (f g:Nat→Value) (x:Msg),(∀ j,j<5→f j=g j)→QM f x→QM g x:=fun f g x h ⟨h0,h1,h2,h3,h4⟩=>
 ⟨(h 0 (by omega)).symm.trans h0,(h 1 (by omega)).symm.trans h1,(h 2 (by omega)).symm.trans h2,(h 3 (by omega)).symm.trans h3,(h 4 (by omega)).symm.trans h4⟩
theorem qm_one:∀ (cs:Nat→Value) (y:Msg),QM cs y→∀ j,j<5→(cs j).oneCell'=true:=fun cs y ⟨h0,h1,h2,h3,h4⟩ j hj=>by
 match j,hj with
 | 0,_=>rw [h0]; rfl
 | 1,_=>rw [h1]; rfl
 | 2,_=>rw [h2]; rfl
 | 3,_=>rw [h3]; rfl
 | 4,_=>rw [h4]; rfl
structure VwL (W:World) (b:Nat) (Ap:Option Addr) (cp:Nat) (p:Prg) (s:VSt):Prop where
 vals:SeqL W b Ap cp p s.s
 lst:∀ l,l<3→∃ A c,W.cell? ⟨b,16+l,none⟩=some (.slice A (lstV s l).length c)∧SlR 5 (fun _=>QM) W (.slice A (lstV s l).length c) (lstV s l)
 own:∀ t l,t<3→l<3→W.cell? ⟨b,19+t*3+l,none⟩=some (.int .u8 (aV (ownV s t) l))
theorem gM_get {ms:List Msg} {k:Nat} (h:k<ms.length):gM ms k=ms[k]:=by
 unfold gM
 rw [List.getD_eq_getElem?_getD,List.getElem?_eq_getElem h]
 rfl
section
variable {W W':World} {b:Nat} {Ap:Option Addr} {cp:Nat} {p:Prg} {s:VSt}
theorem VwL.le (h:VwL W b Ap cp p s) (hl:Le W W'):VwL W' b Ap cp p s:=
 ⟨h.vals.le hl,fun l h3=>(h.lst l h3).elim fun A ⟨c,h1,h2⟩=>⟨A,c,hl _ _ h1,SlR.le (R:=fun _=>QM) (fun _ _ _ h=>h) h2 hl⟩,fun t l ht hl3=>hl _ _ (h.own t l ht hl3)⟩
theorem VwL.under (h:VwL W b Ap cp p s) (hb:Below W.heap.size W W'):VwL W' b Ap cp p s:=h.le (Le.below hb)
theorem VwL.lt (h:VwL W b Ap cp p s):b<W.heap.size:=h.vals.lt
theorem VwL.msgs (h:VwL W b Ap cp p s) {l:Nat} (hl:l<3) (hpos:0<(lstV s l).length):∃ bp op c,W.cell? ⟨b,16+l,none⟩=some (.slice (some ⟨bp,op,none⟩) (lstV s l).length c)∧bp<W.heap.size∧SlR 5 (fun _=>QM) W (.slice (some ⟨bp,op,none⟩) (lstV s l).length c) (lstV s l) ∧
  ∀ k,k<(lstV s l).length→W.cell? ⟨bp,op+k*5,none⟩=some (.int .u8 (gM (lstV s l) k).val)∧W.cell? ⟨bp,op+k*5+1,none⟩=some (.bool (gM (lstV s l) k).lock) ∧
   W.cell? ⟨bp,op+k*5+2,none⟩=some (.int .u8 (aV (gM (lstV s l) k).view 0))∧W.cell? ⟨bp,op+k*5+3,none⟩=some (.int .u8 (aV (gM (lstV s l) k).view 1))∧W.cell? ⟨bp,op+k*5+4,none⟩=some (.int .u8 (aV (gM (lstV s l) k).view 2)):=by
 obtain⟨A,c,h1,h2⟩:=h.lst l hl
 obtain⟨A',c',e,hle,hi⟩:=h2
 injection e with e1 _ e3
 subst e1 e3
 obtain⟨bp,op,rfl,cs0,hc0,_⟩:=hi 0 hpos
 refine⟨bp,op,c,h1,World.block_lt_of_cell? _ _ (hc0 0 (by omega)),⟨_,_,rfl,hle,hi⟩,fun k hk=>?_⟩
 obtain⟨b',o',e,cs,hc,q0,q1,q2,q3,q4⟩:=hi k hk
 injection e with e
 injection e with e1 e2
 subst e1 e2
 rw [gM_get hk]
 have c0:=hc 0 (by omega)
 have c1:=hc 1 (by omega)
 have c2:=hc 2 (by omega)
 have c3:=hc 3 (by omega)
 have c4:=hc 4 (by omega)
 rw [q0] at c0
 rw [q1] at c1
 rw [q2] at c2
 rw [q3] at c3
 rw [q4] at c4
 exact⟨c0,c1,c2,c3,c4⟩
end
theorem vw_pos {p:Prg} {s:VSt} (h:VOk p s) {l:Nat} (hl:l<3):0<(lstV s l).length:=by rw [h.pos l hl]; omega
theorem vw_bytes {p:Prg} {s:VSt} (hp:PrgOk p) (h:VOk p s) {v:List Nat} (hv:ViewOk s.lists v):VwB v:=⟨hv.1,fun l hl=>by
 have h1:=hv.2 l hl
 have h2:=lens_le hp h hl
 unfold lstV at h2
 omega⟩
theorem own_bytes {p:Prg} {s:VSt} (hp:PrgOk p) (h:VOk p s) (t:Nat):VwB (ownV s t):=by
 rcases Nat.lt_or_ge t p.length with ht | ht
 ·exact vw_bytes hp h (own_ok h ht)
 ·have:ownV s t=[0,0,0]:=by
   unfold ownV
   rw [List.getD_eq_getElem?_getD,List.getElem?_eq_none (by rw [h.ownl]; exact ht)]
   rfl
  rw [this]
  exact⟨rfl,fun l hl=>by
   match l,hl with
   | 0,_=>exact Nat.zero_le _
   | 1,_=>exact Nat.zero_le _
   | 2,_=>exact Nat.zero_le _⟩
set_option maxHeartbeats 400000 in
theorem doneV_any (p:Prg) (hp:PrgOk p) (s:VSt) (hs:VOk p s) (W:World) (b:Nat) (Ap:Option Addr) (cp:Nat) (ho:VwL W b Ap cp p s) (hpr:PrgS W (.slice Ap p.length cp) p):
  Calls Tryz.prog 178 #[.pointer (some ⟨b,0,none⟩)] W (RetB W (doneV p s)):=by
 have hc:=allDone_any p hp s.s hs.ok W b Ap cp ho.vals hpr
 go_enter Tryz.func178,Tryz.ntmps178
 go_wp2_with fail
 refine hc.mono ?_
 rintro e5 w5 ⟨rfl,hb5⟩
 go_wp2_with fail
 go_ret
 exact⟨rfl,hb5⟩
def outM (s:VSt) (i:Nat):List Int:=(s.lists.map lastV).take i++s.s.mem.drop i
theorem outM_set {p:Prg} {s:VSt} (h:VOk p s) {i:Nat} (hi:i<3):(outM s i).set i (lastV (lstV s i))=outM s (i+1):=by
 have h1:i<(s.lists.map lastV).length:=by rw [List.length_map,h.len]; exact hi
 have h2:i<s.s.mem.length:=by rw [h.ok.meml]; exact hi
 unfold outM
 rw [List.take_succ_eq_append_getElem h1,List.drop_eq_getElem_cons h2,List.set_append_right _ _ (by rw [List.length_take]; omega),List.length_take,show i-min i (s.lists.map lastV).length=0 by omega,List.set_cons_zero,map_last (by rw [h.len]; exact hi),List.append_assoc]
 rfl
theorem outM_len {p:Prg} {s:VSt} (h:VOk p s) {i:Nat} (hi:i≤3):(outM s i).length=3:=by
 unfold outM
 rw [List.length_append,List.length_take,List.length_drop,List.length_map,h.len,h.ok.meml]
 omega
theorem seqC_mgetX {Ap:Option Addr} {cp:Nat} {p:Prg} {s:St} {l:Nat} (hl:l<3):(seqC Ap cp p s)[13+l]?=some (.int .u8 (meF s l)):=by
 match l,hl with
 | 0,_=>rfl
 | 1,_=>rfl
 | 2,_=>rfl
theorem seqC_mset {Ap:Option Addr} {cp:Nat} {p:Prg} {s:St} {l:Nat} {v:Int} (hi:l<3) (hl:l<s.mem.length):
  (seqC Ap cp p s).setIfInBounds (13+l) (.int .u8 v)=seqC Ap cp p ⟨s.pc,s.regs,s.mem.set l v⟩:=by
 match l,hi with
 | 0,_=>simp [seqC,pcV,pcS,rgV,meV,rgF,meF,hl]
 | 1,_=>simp [seqC,pcV,pcS,rgV,meV,rgF,meF,hl]
 | 2,_=>simp [seqC,pcV,pcS,rgV,meV,rgF,meF,hl]
theorem rangeL {W:World} {b o n:Nat} {cs:List Value} (hn:cs.length=n) (h:∀ j v,j<n→cs[j]?=some v→W.cell? ⟨b,o+j,none⟩=some v):W.rangeAt b o cs:=fun j v hj=>h j v (by rw [← hn]; exact (List.getElem?_eq_some_iff.1 hj).1) hj
theorem wpList_store_new {P:Program} {ops:Array Oper} {rest:List Oper} {op:Oper} {a:Act} {w:World} {Q:Exit→Act→World→Prop} (hgd:op.guard=none) (ty:TypeId) (x y:Operand) (ho:op.op=.store ty x y) (c c':Array Value) (hx:a.eval x=.pointer (some ⟨w.heap.size,0,none⟩)) (hy:a.eval y=.agg c')
  (hi:(P.info? ty).map (·.size)=some c'.size) (hs:c.size=c'.size) (h1:c'.all (·.oneCell')=true) (h:wpList P ops Q rest (a.put op.dst undef) (w.alloc (.cells c' ty))):wpList P ops Q (op::rest) a (w.alloc (.cells c ty)):=
 wpList_plain hgd fun _ hK=>by
  unfold Oper.wp execOp
  simp only [ho,hx,hy,run_storeAt_new w ty c c' hi hs h1,Sem.run_bind,Sem.run_pure,Result.andThen_ok]
  exact hK _ _ h
theorem idxS3 (A0 A1 A2:Option Addr) (n0 n1 n2 c0 c1 c2:Nat):
  (∀ w,(Instr.index 106 (.agg #[.slice A0 n0 c0,.slice A1 n1 c1,.slice A2 n2 c2]) (.int .i64 0)).run Tryz.prog w=.ok (.slice A0 n0 c0) w)
  ∧ (∀ w,(Instr.index 106 (.agg #[.slice A0 n0 c0,.slice A1 n1 c1,.slice A2 n2 c2]) (.int .i64 1)).run Tryz.prog w=.ok (.slice A1 n1 c1) w)
  ∧ (∀ w,(Instr.index 106 (.agg #[.slice A0 n0 c0,.slice A1 n1 c1,.slice A2 n2 c2]) (.int .i64 2)).run Tryz.prog w=.ok (.slice A2 n2 c2) w):=⟨fun w=>by kernel_rfl,fun w=>by kernel_rfl,fun w=>by kernel_rfl⟩
set_option maxHeartbeats 2000000 in
theorem outV_any (p:Prg) (hp:PrgOk p) (s:VSt) (hs:VOk p s) (W:World) (b:Nat) (Ap:Option Addr) (cp:Nat) (ho:VwL W b Ap cp p s):
  Calls Tryz.prog 181 #[.pointer (some ⟨b,0,none⟩)] W (RetRowI W (outV s)):=by
 obtain⟨V,hV⟩:∃ V,V=W.alloc (.cells (seqC Ap cp p s.s) 104):=⟨_,rfl⟩
 have hB:Below W.heap.size W V:=by rw [hV]; exact (Below.refl _ _).alloc (Nat.le_refl _) _
 have oC:Own V W.heap.size 104 (seqC Ap cp p s.s):=by rw [hV]; exact Own.new _ _ _
 have Hrg:Hid (W.rangeAt b 0 (seqC Ap cp p s.s).toList):=fun j v hj=>by
  rw [Nat.zero_add]
  exact ho.vals j v (by simpa using hj)
 have hoV:=ho.under hB
 obtain⟨b0,o0,c0,q0,_,_,hm0⟩:=ho.msgs (l:=0) (by omega) (vw_pos hs (by omega))
 obtain⟨b1,o1,c1,q1,_,_,hm1⟩:=ho.msgs (l:=1) (by omega) (vw_pos hs (by omega))
 obtain⟨b2,o2,c2,q2,_,_,hm2⟩:=ho.msgs (l:=2) (by omega) (vw_pos hs (by omega))
 obtain⟨k0,hk0⟩:∃ k,(lstV s 0).length=k+1:=⟨(lstV s 0).length-1,by have:=vw_pos hs (l:=0) (by omega); omega⟩
 obtain⟨k1,hk1⟩:∃ k,(lstV s 1).length=k+1:=⟨(lstV s 1).length-1,by have:=vw_pos hs (l:=1) (by omega); omega⟩
 obtain⟨k2,hk2⟩:∃ k,(lstV s 2).length=k+1:=⟨(lstV s 2).length-1,by have:=vw_pos hs (l:=2) (by omega); omega⟩
 have m0:=(hm0 k0 (by omega)).1
 have m1:=(hm1 k1 (by omega)).1
 have m2:=(hm2 k2 (by omega)).1
 have g0:k0≤13:=by have:=lens_le hp hs (l:=0) (by omega); omega
 have e0:(gM (lstV s 0) k0).val=lastV (lstV s 0):=by unfold lastV; rw [hk0]; rfl
 have g1:k1≤13:=by have:=lens_le hp hs (l:=1) (by omega); omega
 have e1:(gM (lstV s 1) k1).val=lastV (lstV s 1):=by unfold lastV; rw [hk1]; rfl
 have g2:k2≤13:=by have:=lens_le hp hs (l:=2) (by omega); omega
 have e2:(gM (lstV s 2) k2).val=lastV (lstV s 2):=by unfold lastV; rw [hk2]; rfl
 rw [e0] at m0
 rw [e1] at m1
 rw [e2] at m2
 have hbV:=hoV.lt
 have HS:Hid (∀ i,i<3→(outM s i).set i (lastV (lstV s i))=outM s (i+1)):=fun i hi=>outM_set hs hi
 have HL:Hid (∀ i,i≤3→(outM s i).length=3):=fun i hi=>outM_len hs hi
 rw [hk0] at q0
 rw [hk1] at q1
 rw [hk2] at q2
 clear hm0 hm1 hm2 e0 e1 e2 hk0 hk1 hk2
 go_enter Tryz.func181,Tryz.ntmps181
 go_upto_region 2 with (first | (refine wpList_load_mid (op:=⟨some 9,_,_,_,_,_⟩) (by rfl) _ _ (by rfl) b 0 (by rfl) (seqC Ap cp p s.s).toList _ Hrg.out Tryz.underlying104 (by rfl) (by kernel_rfl) ?_) | (refine wpList_store_new (op:=⟨none,Op.store 104 _ _,_,_,_,_⟩) (by rfl) _ _ _ (by rfl) #[.slice none 0 0,.int .u8 0,.int .u8 0,.int .u8 0,.int .u8 0,.int .u8 0,.int .u8 0,.int .u8 0,.int .u8 0,.int .u8 0,.int .u8 0,.int .u8 0,.int .u8 0,.int .u8 0,.int .u8 0,.int .u8 0] (seqC Ap cp p s.s) (by rfl) (by rfl) (by kernel_rfl) (by rfl) (by simp [seqC,pcV,rgV,meV,Value.oneCell']) ?_))
 rw [← hV]
 have q0:V.cell? ⟨b,16,none⟩=some (.slice (some ⟨b0,o0,none⟩) (k0+1) c0):=Le.below hB _ _ q0
 have q1:V.cell? ⟨b,17,none⟩=some (.slice (some ⟨b1,o1,none⟩) (k1+1) c1):=Le.below hB _ _ q1
 have q2:V.cell? ⟨b,18,none⟩=some (.slice (some ⟨b2,o2,none⟩) (k2+1) c2):=Le.below hB _ _ q2
 have Hld:Hid (V.rangeAt b 16 [.slice (some ⟨b0,o0,none⟩) (k0+1) c0,.slice (some ⟨b1,o1,none⟩) (k1+1) c1,.slice (some ⟨b2,o2,none⟩) (k2+1) c2]):=rangeL (n:=3) rfl fun j v hj hv=>by
  match j,hj,hv with
  | 0,_,hv=>injection hv with hv; rw [← hv]; exact q0
  | 1,_,hv=>injection hv with hv; rw [← hv]; exact q1
  | 2,_,hv=>injection hv with hv; rw [← hv]; exact q2
 have Hres:Hid (∀ (X:World) (e:Ending) (Y:World),Below W.heap.size W X→RetRowI X (outS ⟨s.s.pc,s.s.regs,outM s 3⟩) e Y→RetRowI W (outV s) e Y):=fun X e Y hX ⟨A,c,h1,h2,h3⟩=>by
  have he:outS ⟨s.s.pc,s.s.regs,outM s 3⟩=outV s:=by
   show s.s.regs++outM s 3=s.s.regs++s.lists.map lastV
   unfold outM
   rw [List.take_of_length_le (by rw [List.length_map,hs.len]; omega),List.drop_of_length_le (by rw [hs.ok.meml]; omega),List.append_nil]
  rw [he] at h1 h2
  exact⟨A,c,h1,h2.rebase fun g hg=>Nat.le_trans hX.size (h2.blk hg).1,hX.trans (h3.mono hX.size)⟩
 have HO:Hid (∀ (X:World),SeqL X W.heap.size Ap cp p ⟨s.s.pc,s.s.regs,outM s 3⟩→Calls Tryz.prog 189 #[.pointer (some ⟨W.heap.size,0,none⟩)] X (RetRowI X (outS ⟨s.s.pc,s.s.regs,outM s 3⟩))):=fun X hX=>by
  refine outcome_any p hp ⟨s.s.pc,s.s.regs,outM s 3⟩ ⟨hs.ok.pcl,hs.ok.pcb,hs.ok.regl,hs.ok.regb,HL.out 3 (Nat.le_refl _),fun v hv=>?_⟩ X W.heap.size Ap cp hX
  have hv:v∈outM s 3:=hv
  unfold outM at hv
  rcases List.mem_append.1 hv with hv | hv
  ·obtain⟨ms,hms,rfl⟩:=List.mem_map.1 (List.mem_of_mem_take hv)
   obtain⟨l,hl,rfl⟩:=List.getElem_of_mem hms
   have hl3:l<3:=by rw [hs.len] at hl; exact hl
   have hlp:=vw_pos hs hl3
   have h1:s.lists[l]=lstV s l:=by unfold lstV; rw [List.getD_eq_getElem?_getD,List.getElem?_eq_getElem hl]; rfl
   rw [h1]
   exact (gM_ok hs hl3 (by rw [← hs.pos _ hl3]; omega)).1
  ·exact hs.ok.memb v (List.mem_of_mem_drop hv)
 have Hm0:=Lib.hid m0
 have Hm1:=Lib.hid m1
 have Hm2:=Lib.hid m2
 clear q0 q1 q2 m0 m1 m2 hV
 go_wp2_with (first | (refine wpList_load_mid (op:=⟨some 13,_,_,_,_,_⟩) (by rfl) _ _ (by rfl) b 16 (by rfl) [.slice (some ⟨b0,o0,none⟩) (k0+1) c0,.slice (some ⟨b1,o1,none⟩) (k1+1) c1,.slice (some ⟨b2,o2,none⟩) (k2+1) c2] _ Hld.out Tryz.underlying106 (by rfl) (by kernel_rfl) ?_))
 go_loopg [14] 3 (fun g s14 wr=>∃ i:Nat,i≤3∧g=3-i∧s14=.int .i64 i∧Hid (Own wr W.heap.size 104 (seqC Ap cp p ⟨s.s.pc,s.s.regs,outM s i⟩))∧Below W.heap.size W wr)
 case atStart=>exact⟨0,Nat.zero_le _,rfl,rfl,oC,hB⟩
 case round=>
  obtain⟨wo,rfl⟩:∃ wo:World,wo=wr:=⟨_,rfl⟩
  obtain⟨i,hi,rfl,rfl,hO,hb⟩:=hrel
  by_cases hlt:i<3
  ·have m0:=Le.below hb _ _ Hm0.out
   have m1:=Le.below hb _ _ Hm1.out
   have m2:=Le.below hb _ _ Hm2.out
   have n0:((k0+1:Nat):Int)-1=(k0:Int):=by omega
   have n1:((k1+1:Nat):Int)-1=(k1:Int):=by omega
   have n2:((k2+1:Nat):Int)-1=(k2:Int):=by omega
   have v0:=hO.out.cell (seqC_mgetX hlt)
   have v1:=hO.out.frozen (13+i)
   have v2:=hO.out.lt
   have HN:Hid (Own (wo.setCell ⟨W.heap.size,13+i,none⟩ (.int .u8 (lastV (lstV s i)))) W.heap.size 104 (seqC Ap cp p ⟨s.s.pc,s.s.regs,outM s (i+1)⟩)):=by
    show Own _ _ _ _
    have h:=hO.out.set (13+i) (.int .u8 (lastV (lstV s i)))
    rw [seqC_mset hlt (by show i<(outM s i).length; rw [HL.out i (by omega)]; exact hlt)] at h
    rw [← HS.out i hlt]
    exact h
   have hb2:=hb.setCell (p:=⟨W.heap.size,13+i,none⟩) (Nat.le_refl _) (.int .u8 (lastV (lstV s i)))
   obtain⟨wN,hwN⟩:∃ wN,wN=wo.setCell ⟨W.heap.size,13+i,none⟩ (.int .u8 (lastV (lstV s i))):=⟨_,rfl⟩
   rw [← hwN] at HN hb2
   obtain⟨x0,x1,x2⟩:=idxS3 (some ⟨b0,o0,none⟩) (some ⟨b1,o1,none⟩) (some ⟨b2,o2,none⟩) (k0+1) (k1+1) (k2+1) c0 c1 c2
   obtain⟨iN,hiN⟩:∃ iN,iN=i+1:=⟨_,rfl⟩
   have HiN:=Lib.hid hiN
   rw [← hiN] at HN
   clear hiN
   obtain rfl | rfl | rfl:i=0∨i=1∨i=2:=by omega
   all_goals
    go_wp2_with fail
    try rw [← hwN]
    have hiN:=HiN.out
    go_roundg (3-iN)
    case measure=>omega
    case rel=>exact⟨iN,by omega,rfl,by rw [hiN]; go_num,HN.out,hb2⟩
  ·obtain rfl:i=3:=by omega
   have hO3:=HO.out wo fun j v hv=>hO.out.cell hv
   go_wp2_with fail
   refine hO3.mono ?_
   intro e9 w9 h9
   have H9:=Lib.hid (Hres.out _ _ _ hb h9)
   obtain⟨A9,c9,rfl,_,_⟩:=h9
   clear hO3
   go_wp2_with fail
   go_ret
   exact H9.out
end Go.Proofs.YtojmofnamppbdaaGreat
namespace Go.Proofs.YtojmofnamppbdaaGreat
open Go.RowKit
set_option linter.unusedVariables false
set_option maxRecDepth 100000
def plN (p:Prg) (s:VSt) (t k:Nat):List Int:=((List.range k).filter (canV p s t)).map fun k=>((k:Nat):Int)
theorem plN_off {p:Prg} {s:VSt} {t k:Nat} (h:canV p s t k=false):plN p s t (k+1)=plN p s t k:=by
 unfold plN
 rw [List.range_succ,List.filter_append]
 simp [h]
theorem plN_on {p:Prg} {s:VSt} {t k:Nat} (h:canV p s t k=true):plN p s t (k+1)=plN p s t k++[(k:Int)]:=by
 unfold plN
 rw [List.range_succ,List.filter_append]
 simp [h]
theorem plN_le (p:Prg) (s:VSt) (t k:Nat):(plN p s t k).length≤k:=by
 unfold plN
 rw [List.length_map]
 exact Nat.le_trans (List.length_filter_le _ _) (by simp)
theorem plN_none {p:Prg} {s:VSt} {t:Nat}:∀ {k:Nat},(∀ j,j<k→canV p s t j=false)→plN p s t k=[]
 | 0,_=>rfl
 | k+1,h=>by rw [plN_off (h k (by omega)),plN_none fun j hj=>h j (by omega)]
theorem plN_stop {p:Prg} {s:VSt} {t k:Nat} (h:∀ j,k≤j→canV p s t j=false):∀ {m:Nat},k≤m→plN p s t m=plN p s t k:=fun {m} hm=>by
 obtain⟨d,rfl⟩:∃ d,m=k+d:=⟨m-k,by omega⟩
 induction d with
 | zero=>rfl
 | succ d ih=>rw [← Nat.add_assoc,plN_off (h _ (by omega)),ih (by omega)]
theorem can_when {p:Prg} {s:VSt} {t k:Nat} (h:onS p s.s t=true):canV p s t k=(if (insS p s.s t).op=4 then decide (k=0) else if (insS p s.s t).op=1 then decide (atV (ownV s t) (insS p s.s t).loc.toNat≤k) && decide (k<(lstV s (insS p s.s t).loc.toNat).length) else if (insS p s.s t).op=5 then decide (atV (ownV s t) (insS p s.s t).loc.toNat≤k) && decide (k<(lstV s (insS p s.s t).loc.toNat).length) && !(gM (lstV s (insS p s.s t).loc.toNat) k).lock
  else decide (atV (ownV s t) (insS p s.s t).loc.toNat<k) && decide (k≤(lstV s (insS p s.s t).loc.toNat).length) && !(gM (lstV s (insS p s.s t).loc.toNat) (k-1)).lock):=by
 unfold canV
 rw [h,Bool.true_and]
theorem can_idle {p:Prg} {s:VSt} {t k:Nat} (h:onS p s.s t=false):canV p s t k=false:=by
 unfold canV
 rw [h,Bool.false_and]
set_option maxHeartbeats 4000000 in
theorem places_any (p:Prg) (hp:PrgOk p) (s:VSt) (hs:VOk p s) (t:Nat) (ht:t<p.length) (W:World) (b:Nat) (Ap:Option Addr) (cp:Nat) (ho:VwL W b Ap cp p s) (hpr:PrgS W (.slice Ap p.length cp) p):
  Calls Tryz.prog 188 #[.pointer (some ⟨b,0,none⟩),.int .i64 t] W (RetRowI W (plN p s t 14)):=by
 obtain⟨i0,hi0,hz0,hz1,hz2⟩:=info_parts Tryz.infoInt
 have h3:=hp.1.1
 have ht3:t<3:=by omega
 have hbW:=ho.lt
 cases hon:onS p s.s t
 ·have hc:=next_off hp hs.ok ht ho.vals hpr hon
  have hpl:Hid (plN p s t 14=[]):=plN_none fun j _=>can_idle hon
  clear hon
  go_enter Tryz.func188,Tryz.ntmps188
  go_wp2_with fail
  refine hc.mono ?_
  rintro e5 w5 ⟨rfl,hb5⟩
  clear hc
  go_wp2_with fail
  go_ret
  rw [hpl.out]
  exact RetRowI.mk (RowOf.nil _ _ _ _ _) (hb5.alloc hb5.size _)
 ·have hc:=next_on hp hs.ok ht ho.vals hpr hon
  have hlt:pcS s.s t<(thrP p t).length:=by unfold onS at hon; exact of_decide_eq_true hon
  have hix:=ins_ok hp hlt
  have Hcan:Hid (∀ k,_=_):=fun k=>can_when (k:=k) hon
  clear hon hlt
  generalize insS p s.s t=x at hc hix Hcan
  have hop:=hix.op
  have hl3:x.loc.toNat<3:=by have:=hix.loc; omega
  obtain⟨l,hl⟩:∃ l:Nat,x.loc=(l:Int):=⟨x.loc.toNat,by have:=hix.loc; omega⟩
  rw [hl,Int.toNat_natCast] at hl3 
  simp only [hl,Int.toNat_natCast] at Hcan
  obtain⟨bp,op,c,q16,hbp,_,hm⟩:=ho.msgs hl3 (vw_pos hs hl3)
  have hn13:=(lens_le hp hs hl3).2
  have hn0:=vw_pos hs hl3
  have q19:=ho.own t l ht3 hl3
  have hown:=(own_bytes hp hs t).2 l hl3
  have hsnn:atV (ownV s t) l≤(lstV s l).length:=Nat.le_of_lt ((own_ok hs ht).2 l hl3)
  have Hm:=Lib.hid hm
  have hHi:Hid (∀ j,(lstV s l).length+1≤j→x.op≠4→canV p s t j=false):=fun j hj h4=>by
   rw [Hcan.out j,if_neg h4]
   split
   ·rw [show decide (j<(lstV s l).length)=false from decide_eq_false (by omega),Bool.and_false]
   ·split
    ·rw [show decide (j<(lstV s l).length)=false from decide_eq_false (by omega),Bool.and_false,Bool.false_and]
    ·rw [show decide (j≤(lstV s l).length)=false from decide_eq_false (by omega),Bool.and_false,Bool.false_and]
  have hLo:Hid (∀ j,j<atV (ownV s t) l→x.op≠4→canV p s t j=false):=fun j hj h4=>by
   rw [Hcan.out j,if_neg h4]
   split
   ·rw [show decide (atV (ownV s t) l≤j)=false from decide_eq_false (by omega),Bool.false_and]
   ·split
    ·rw [show decide (atV (ownV s t) l≤j)=false from decide_eq_false (by omega),Bool.false_and,Bool.false_and]
    ·rw [show decide (atV (ownV s t) l<j)=false from decide_eq_false (by omega),Bool.false_and,Bool.false_and]
  have Hfe:Hid (x.op=4→plN p s t 14=[0]):=fun h4=>by
   have h1:∀ j,1≤j→canV p s t j=false:=fun j hj=>by rw [Hcan.out j,if_pos h4]; exact decide_eq_false (by omega)
   rw [plN_stop h1 (by omega),plN_on (by rw [Hcan.out 0,if_pos h4]; rfl)]
   rfl
  obtain⟨n,hn⟩:∃ n,n=(lstV s l).length:=⟨_,rfl⟩
  obtain⟨sn,hsn⟩:∃ sn,sn=atV (ownV s t) l:=⟨_,rfl⟩
  unfold aV at q19
  rw [← hn] at q16 hn13 hn0 hHi hsnn
  rw [← hsn] at q19 hown hLo hsnn
  simp only [← hn,← hsn] at Hcan Hm
  clear hm hn hsn hix
  rw [hl] at hc
  have hli:(l:Int)<3:=by omega
  have hti:(t:Int)<3:=by omega
  go_enter Tryz.func188,Tryz.ntmps188
  go_wp2_with fail
  refine hc.mono ?_
  rintro e5 w5 ⟨rfl,hb5⟩
  obtain⟨V6,hV6⟩:∃ V6,V6=w5.alloc (.cells #[.int .i64 x.op,.int .i64 l,.int .i64 x.reg,.int .i64 x.val] 50):=⟨_,rfl⟩
  have hB6:Below W.heap.size W V6:=by rw [hV6]; exact hb5.alloc hb5.size _
  have oI:Own V6 w5.heap.size 50 #[.int .i64 x.op,.int .i64 l,.int .i64 x.reg,.int .i64 x.val]:=by rw [hV6]; exact Own.new _ _ _
  have hs6:=hB6.size
  clear hc
  go_upto_region 2 with (fail)
  try rw [← hV6]
  clear hV6
  by_cases h4:x.op=4
  ·have j0:V6.cell? ⟨w5.heap.size,0,none⟩=some (.int .i64 4):=by rw [← h4]; exact oI.cell (i:=0) rfl
   have Hpl:=Lib.hid (Hfe.out h4)
   clear h4 hop
   go_wp2_with fail
   go_ret
   rw [Hpl.out]
   exact RetRowI.mk (RowI.single (Own.new _ _ _) hs6) (hB6.alloc hs6 _)
  ·have j0:V6.cell? ⟨w5.heap.size,0,none⟩=some (.int .i64 x.op):=oI.cell (i:=0) rfl
   have j1:V6.cell? ⟨w5.heap.size,1,none⟩=some (.int .i64 (l:Int)):=oI.cell (i:=1) rfl
   have q16V:=Le.below hB6 _ _ q16
   have q19V:=Le.below hB6 _ _ q19
   have hbV:b<V6.heap.size:=by omega
   have e4:((x.op:Int) == 4)=false:=by simpa using h4
   go_upto_region 6 with (fail)
   clear e4
   have f0:=fun n:Ext V6=>n.le _ _ j1
   have f1:=fun n:Ext V6=>n.le _ _ q16V
   have f2:=fun n:Ext V6=>n.le _ _ q19V
   refine wp_region_ext _ (by kernel_rfl) (by kernel_rfl) (Below.refl _ _) ?_
   repeat (go_big_quiet_step (fail))
   refine wpQuiet_nil ?_
   rintro wn ⟨⟨_,hbn⟩,rfl⟩
   have hBn:=hB6.trans (hbn.mono hB6.size)
   have oN:=oI.under hbn
   clear f0 f1 f2 j0 j1 q16V q19V q16 q19
   go_wp2_with fail
   go_loopg [9,10] (n+1-sn) (fun g s9 s10 wr=>∃ (k:Nat) (v:Value),sn≤k∧k≤n+1∧g=n+1-k∧v=s9∧s10=.int .i64 k∧Hid (RowI wr W.heap.size v (plN p s t k))∧Below W.heap.size W wr∧Hid (Own wr w5.heap.size 50 #[.int .i64 x.op,.int .i64 l,.int .i64 x.reg,.int .i64 x.val]))
   case atStart=>exact⟨sn,_,Nat.le_refl _,by omega,rfl,rfl,rfl,(by rw [plN_none fun j hj=>hLo.out j hj h4]; exact RowOf.nil _ _ _ _ _),hBn,oN⟩
   case round=>
    obtain⟨wo,rfl⟩:∃ wo:World,wo=wr:=⟨_,rfl⟩
    obtain⟨k,v,hk1,hk2,rfl,rfl,rfl,hrow,hb,hI⟩:=hrel
    have hsr:=hb.size
    by_cases hkn:k≤n
    ·have Hm1:=Lib.hid (plN_on (p:=p) (s:=s) (t:=t) (k:=k))
     have Hm0:=Lib.hid (plN_off (p:=p) (s:=s) (t:=t) (k:=k))
     have hml:=plN_le p s t k
     have hck:=Hcan.out k
     rw [if_neg h4] at hck
     have j0:wo.cell? ⟨w5.heap.size,0,none⟩=some (.int .i64 x.op):=hI.out.cell rfl
     have hj:w5.heap.size<wo.heap.size:=hI.out.lt
     have Hlk:Hid (∀ i,i<n→wo.cell? ⟨bp,op+i*5+1,none⟩=some (.bool (gM (lstV s l) i).lock)):=fun i hi=>Le.below hb _ _ (Hm.out i hi).2.1
     have hkI:(k:Int)≤(n:Int):=by omega
     have hc5:x.op=1∨x.op=5∨(x.op≠1∧x.op≠5):=by omega
     generalize plN p s t k=ms at hrow Hm1 Hm0 hml
     generalize canV p s t k=cb at hck Hm1 Hm0
     have HOw:Hid (∀ (gg:Nat) (cs:List Value),wo.ownsRow W.heap.size 3 1 v ms.length cs→v.ownBlock=some w5.heap.size→False):=fun gg cs h1 h2=>by
      rcases h1.2 with ⟨e,_⟩ | ⟨g,cap,cur,e,_,hg,_⟩
      ·rw [e] at h2; cases h2
      ·rw [e] at h2
       have h2:some g=some w5.heap.size:=h2
       injection h2 with h2
       rw [h2] at hg
       have h3:wo.heap[w5.heap.size]?=some (.cells #[.int .i64 x.op,.int .i64 l,.int .i64 x.reg,.int .i64 x.val] 50 (0,0)):=hI.out
       rw [h3] at hg
       injection hg with hg
       injection hg with _ hg
       cases hg
     rcases hc5 with h1 | h5 | ⟨h1,h5⟩
     ·rw [h1] at j0
      rw [if_pos h1] at hck
      by_cases hkl:k<n
      ·have hkI1:(k:Int)<(n:Int):=by omega
       have Hcb:Hid (cb=true):=by show _=_; rw [hck,decide_eq_true hk1,decide_eq_true hkl]; rfl
       clear hck h1
       have Hm:=Lib.hid (Hm1.out Hcb.out)
       obtain⟨cs,hown',hqq⟩:=hrow.out
       have Hown:=Lib.hid hown'
       have Hqq:=Lib.hid hqq
       clear Hcb Hm1 Hm0 hown' hqq hrow
       go_wp2_with (at_builtin; refine wpList_append_lies (o:=⟨some 88,_,_,_,_,_⟩) _ (by rfl) _ _ _ (by rfl) W.heap.size 3 i0 _ 1 8 Tryz.underlying31 hi0 hz0 hz1 hz2 rfl (by omega) v ms.length cs (by rfl) (owns_alloc Hown.out _) ⟨wo.heap.size,0,none⟩ 1 1 [.int .i64 k] (by rfl) (by rfl) (World.news_of_block (cs:=#[.int .i64 k]) (t:=3) (fr:=(0,0)) (heap_alloc_new wo _)) (by simp [Value.oneCell']) (by omega) (by simp [maxLen]; omega) (by omega) (by simp; omega) (wo.heap.size+1) (by simp) ?_; intro gg cap w8 hown8 hgrow8 hat8 hlt8)
       have hB8:Below W.heap.size W w8:=below_of_grown (hb.alloc hsr _) hgrow8 (by simp; omega) (fun g hg=>owns_base' Hown.out hg)
       have hr8:=Lib.hid (RowOf.snoc (news:=[.int .i64 (k:Int)]) (x:=(k:Int)) qint_congr Hown.out Hqq.out rfl rfl hown8)
       have HI8:Hid (Own w8 w5.heap.size 50 #[.int .i64 x.op,.int .i64 l,.int .i64 x.reg,.int .i64 x.val]):=(hI.out.alloc _).of_block (World.grownBy.block hgrow8 _ (by simp; omega) (fun hg=>HOw.out 0 _ Hown.out hg.symm))
       clear hown8 hgrow8 hat8
       go_wp2_with fail
       go_roundg (n+1-(k+1))
       case measure=>omega
       case rel=>exact⟨k+1,_,by omega,by omega,rfl,rfl,by go_num,by rw [Hm.out]; exact hr8.out,hB8,HI8.out⟩
      ·have hkI1:¬ (k:Int)<(n:Int):=by omega
       have Hcb:Hid (cb=false):=by show _=_; rw [hck,decide_eq_false hkl,Bool.and_false]
       clear hck h1
       have Hm:=Lib.hid (Hm0.out Hcb.out)
       clear Hcb Hm1 Hm0
       go_wp2_with fail
       go_roundg (n+1-(k+1))
       case measure=>omega
       case rel=>exact⟨k+1,_,by omega,by omega,rfl,rfl,by go_num,by rw [Hm.out]; exact hrow.out,hb,hI.out⟩
     ·rw [h5] at j0
      rw [if_neg (by omega),if_pos h5] at hck
      by_cases hkl:k<n
      ·have hkI1:(k:Int)<(n:Int):=by omega
       have j2:=Hlk.out k hkl
       cases hlk:(gM (lstV s l) k).lock
       ·rw [hlk] at j2
        have Hcb:Hid (cb=true):=by show _=_; rw [hck,hlk,decide_eq_true hk1,decide_eq_true hkl]; rfl
        clear hck hlk h5
        have Hm:=Lib.hid (Hm1.out Hcb.out)
        obtain⟨cs,hown',hqq⟩:=hrow.out
        have Hown:=Lib.hid hown'
        have Hqq:=Lib.hid hqq
        clear Hcb Hm1 Hm0 hown' hqq hrow
        go_wp2_with (at_builtin; refine wpList_append_lies (o:=⟨some 88,_,_,_,_,_⟩) _ (by rfl) _ _ _ (by rfl) W.heap.size 3 i0 _ 1 8 Tryz.underlying31 hi0 hz0 hz1 hz2 rfl (by omega) v ms.length cs (by rfl) (owns_alloc Hown.out _) ⟨wo.heap.size,0,none⟩ 1 1 [.int .i64 k] (by rfl) (by rfl) (World.news_of_block (cs:=#[.int .i64 k]) (t:=3) (fr:=(0,0)) (heap_alloc_new wo _)) (by simp [Value.oneCell']) (by omega) (by simp [maxLen]; omega) (by omega) (by simp; omega) (wo.heap.size+1) (by simp) ?_; intro gg cap w8 hown8 hgrow8 hat8 hlt8)
        have hB8:Below W.heap.size W w8:=below_of_grown (hb.alloc hsr _) hgrow8 (by simp; omega) (fun g hg=>owns_base' Hown.out hg)
        have hr8:=Lib.hid (RowOf.snoc (news:=[.int .i64 (k:Int)]) (x:=(k:Int)) qint_congr Hown.out Hqq.out rfl rfl hown8)
        have HI8:Hid (Own w8 w5.heap.size 50 #[.int .i64 x.op,.int .i64 l,.int .i64 x.reg,.int .i64 x.val]):=(hI.out.alloc _).of_block (World.grownBy.block hgrow8 _ (by simp; omega) (fun hg=>HOw.out 0 _ Hown.out hg.symm))
        clear hown8 hgrow8 hat8
        go_wp2_with fail
        go_roundg (n+1-(k+1))
        case measure=>omega
        case rel=>exact⟨k+1,_,by omega,by omega,rfl,rfl,by go_num,by rw [Hm.out]; exact hr8.out,hB8,HI8.out⟩
       ·rw [hlk] at j2
        have Hcb:Hid (cb=false):=by show _=_; rw [hck,hlk]; simp
        clear hck hlk h5
        have Hm:=Lib.hid (Hm0.out Hcb.out)
        clear Hcb Hm1 Hm0
        go_wp2_with fail
        go_roundg (n+1-(k+1))
        case measure=>omega
        case rel=>exact⟨k+1,_,by omega,by omega,rfl,rfl,by go_num,by rw [Hm.out]; exact hrow.out,hb,hI.out⟩
      ·have hkI1:¬ (k:Int)<(n:Int):=by omega
       have Hcb:Hid (cb=false):=by show _=_; rw [hck,decide_eq_false hkl,Bool.and_false,Bool.false_and]
       clear hck h5
       have Hm:=Lib.hid (Hm0.out Hcb.out)
       clear Hcb Hm1 Hm0
       go_wp2_with fail
       go_roundg (n+1-(k+1))
       case measure=>omega
       case rel=>exact⟨k+1,_,by omega,by omega,rfl,rfl,by go_num,by rw [Hm.out]; exact hrow.out,hb,hI.out⟩
     ·rw [if_neg h1,if_neg h5] at hck
      have e1:((x.op:Int) == 1)=false:=by simpa using h1
      have e5:((x.op:Int) == 5)=false:=by simpa using h5
      by_cases hsk:sn<k
      ·have hkI1:(sn:Int)<(k:Int):=by omega
       obtain⟨i,rfl⟩:∃ i,k=i+1:=⟨k-1,by omega⟩
       have j2:=Hlk.out i (by omega)
       have hkI2:((i+1:Nat):Int)-1=(i:Int):=by omega
       have hkI3:(i:Int)<(n:Int):=by omega
       rw [Nat.add_sub_cancel] at hck
       cases hlk:(gM (lstV s l) i).lock
       ·rw [hlk] at j2
        have Hcb:Hid (cb=true):=by show _=_; rw [hck,hlk,decide_eq_true hsk,decide_eq_true hkn]; rfl
        clear hck hlk
        have Hm:=Lib.hid (Hm1.out Hcb.out)
        obtain⟨cs,hown',hqq⟩:=hrow.out
        have Hown:=Lib.hid hown'
        have Hqq:=Lib.hid hqq
        clear Hcb Hm1 Hm0 hown' hqq hrow
        go_wp2_with (at_builtin; refine wpList_append_lies (o:=⟨some 88,_,_,_,_,_⟩) _ (by rfl) _ _ _ (by rfl) W.heap.size 3 i0 _ 1 8 Tryz.underlying31 hi0 hz0 hz1 hz2 rfl (by omega) v ms.length cs (by rfl) (owns_alloc Hown.out _) ⟨wo.heap.size,0,none⟩ 1 1 [.int .i64 ((i+1:Nat):Int)] (by rfl) (by rfl) (World.news_of_block (cs:=#[.int .i64 ((i+1:Nat):Int)]) (t:=3) (fr:=(0,0)) (heap_alloc_new wo _)) (by simp [Value.oneCell']) (by omega) (by simp [maxLen]; omega) (by omega) (by simp; omega) (wo.heap.size+1) (by simp) ?_; intro gg cap w8 hown8 hgrow8 hat8 hlt8)
        have hB8:Below W.heap.size W w8:=below_of_grown (hb.alloc hsr _) hgrow8 (by simp; omega) (fun g hg=>owns_base' Hown.out hg)
        have hr8:=Lib.hid (RowOf.snoc (news:=[.int .i64 ((i+1:Nat):Int)]) (x:=((i+1:Nat):Int)) qint_congr Hown.out Hqq.out rfl rfl hown8)
        have HI8:Hid (Own w8 w5.heap.size 50 #[.int .i64 x.op,.int .i64 l,.int .i64 x.reg,.int .i64 x.val]):=(hI.out.alloc _).of_block (World.grownBy.block hgrow8 _ (by simp; omega) (fun hg=>HOw.out 0 _ Hown.out hg.symm))
        clear hown8 hgrow8 hat8
        go_wp2_with fail
        go_roundg (n+1-(i+1+1))
        case measure=>omega
        case rel=>exact⟨i+1+1,_,by omega,by omega,rfl,rfl,by go_num,by rw [Hm.out]; exact hr8.out,hB8,HI8.out⟩
       ·rw [hlk] at j2
        have Hcb:Hid (cb=false):=by show _=_; rw [hck,hlk]; simp
        clear hck hlk
        have Hm:=Lib.hid (Hm0.out Hcb.out)
        clear Hcb Hm1 Hm0
        go_wp2_with fail
        go_roundg (n+1-(i+1+1))
        case measure=>omega
        case rel=>exact⟨i+1+1,_,by omega,by omega,rfl,rfl,by go_num,by rw [Hm.out]; exact hrow.out,hb,hI.out⟩
      ·have hkI1:¬ (sn:Int)<(k:Int):=by omega
       have Hcb:Hid (cb=false):=by show _=_; rw [hck,decide_eq_false hsk,Bool.false_and,Bool.false_and]
       clear hck
       have Hm:=Lib.hid (Hm0.out Hcb.out)
       clear Hcb Hm1 Hm0
       go_wp2_with fail
       go_roundg (n+1-(k+1))
       case measure=>omega
       case rel=>exact⟨k+1,_,by omega,by omega,rfl,rfl,by go_num,by rw [Hm.out]; exact hrow.out,hb,hI.out⟩
    ·obtain rfl:k=n+1:=by omega
     have Hpl:Hid (plN p s t 14=plN p s t (n+1)):=plN_stop (fun j hj=>hHi.out j hj h4) (by omega)
     have hkI:¬ ((n+1:Nat):Int)≤(n:Int):=by omega
     go_wp2_with fail
     go_ret
     rw [Hpl.out]
     exact RetRowI.mk hrow.out hb
def mvF (t:Nat) (k:Int):Int:=3*k+(t:Int)
def mvA (p:Prg) (s:VSt) (i:Nat):List Int:=(List.range i).flatMap fun t=>(plN p s t 14).map (mvF t)
theorem mvA_next (p:Prg) (s:VSt) (i:Nat):mvA p s (i+1)=mvA p s i++(plN p s i 14).map (mvF i):=by
 unfold mvA
 rw [List.range_succ,List.flatMap_append]
 simp
theorem mvA_len (p:Prg) (s:VSt):∀ i,(mvA p s i).length≤14*i
 | 0=>by simp [mvA]
 | i+1=>by
  have h1:=mvA_len p s i
  have h2:=plN_le p s i 14
  rw [mvA_next,List.length_append,List.length_map]
  omega
theorem can_14 {p:Prg} {s:VSt} (hp:PrgOk p) (hs:VOk p s) {t k:Nat} (h:canV p s t k=true):k<14:=by
 obtain⟨hlt,hx,hcs⟩:=can_cases hp h
 have hl:(insS p s.s t).loc.toNat<3:=by have:=hx.loc; omega
 have hm:=(lens_le hp hs hl).2
 rcases hcs with ⟨_,e⟩ | ⟨_,_,e⟩ | ⟨_,_,e,_⟩ | ⟨_,_,e,_⟩ <;> omega
theorem mem_mvA {p:Prg} {s:VSt} {i:Nat} {y:Int}:y∈mvA p s i↔∃ t k,t<i∧k<14∧canV p s t k=true∧y=3*(k:Int)+(t:Int):=by
 unfold mvA plN mvF
 simp only [List.mem_flatMap,List.mem_range,List.mem_map,List.mem_filter]
 constructor
 ·rintro ⟨t,ht,_,⟨k,⟨hk,hc⟩,rfl⟩,rfl⟩
  exact⟨t,k,ht,hk,hc,rfl⟩
 ·rintro ⟨t,k,ht,hk,hc,rfl⟩
  exact⟨t,ht,_,⟨k,⟨hk,hc⟩,rfl⟩,rfl⟩
theorem srt_mvA {p:Prg} {s:VSt} (hp:PrgOk p) (hs:VOk p s):srt (mvA p s p.length)=(mvV p s).map fun c=>((c:Nat):Int):=by
 have h3:=hp.1.1
 have hnd:(mvA p s p.length).Nodup:=by
  unfold mvA
  show List.Pairwise _ _
  rw [List.pairwise_flatMap]
  refine⟨fun t _=>?_,?_⟩
  ·unfold plN
   rw [List.pairwise_map,List.pairwise_map]
   refine (List.Pairwise.filter _ List.pairwise_lt_range).imp fun {a b} h e=>?_
   unfold mvF at e
   omega
  ·refine (List.Pairwise.and_mem.1 List.pairwise_lt_range).imp fun {a b} h x hx y hy e=>?_
   obtain⟨ha,hb,hab⟩:=h
   rw [List.mem_range] at ha hb
   obtain⟨_,hx,rfl⟩:=List.mem_map.1 hx
   obtain⟨_,hy,rfl⟩:=List.mem_map.1 hy
   unfold mvF at e
   omega
 have hlt:List.Pairwise (fun a b:Int=>a<b) ((mvV p s).map fun c=>((c:Nat):Int)):=by
  unfold mvV
  rw [List.pairwise_map]
  exact (List.Pairwise.filter _ List.pairwise_lt_range).imp fun h=>by omega
 have hperm:(mvA p s p.length).Perm ((mvV p s).map fun c=>((c:Nat):Int)):=by
  rw [List.perm_ext_iff_of_nodup hnd (hlt.imp fun h=>by omega)]
  intro y
  rw [mem_mvA,List.mem_map]
  constructor
  ·rintro ⟨t,k,ht,hk,hc,rfl⟩
   exact⟨3*k+t,(can_mem hp hs ht hc).1,by push_cast; rfl⟩
  ·rintro ⟨c,hc,rfl⟩
   obtain⟨h1,h2⟩:=mem_mvV hc
   exact⟨c % 3,c / 3,h1,can_14 hp hs h2,h2,by omega⟩
 refine List.Perm.eq_of_pairwise (le:=(·≤·)) (fun a b _ _ h1 h2=>by omega) ?_ (hlt.imp fun h=>by omega) ((List.mergeSort_perm _ _).trans hperm)
 have:=List.pairwise_mergeSort (le:=fun x y:Int=>decide (x≤y)) (fun a b c h1 h2=>by simp at *; omega) (fun a b=>by simp; omega) (mvA p s p.length)
 exact this.imp fun h=>by simpa using h
end Go.Proofs.YtojmofnamppbdaaGreat
