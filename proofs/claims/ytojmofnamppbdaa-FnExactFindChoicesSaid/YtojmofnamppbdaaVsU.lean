/-
  The reference's search for choices: l5Find, FindChoices.
-/
import Derived.Test.YtojmofnamppbdaaVsS
import Derived.Test.YtojmofnamppbdaaOutV
namespace Go.Proofs.Ytojmofnamppbdaa
open Go.RowKit
set_option linter.unusedVariables false
set_option maxRecDepth 100000
theorem row_readSV {w':World} {xs:List Int} {A:Option Addr} {n c B:Nat} (h:RowI w' B (.slice A n c) xs):Ints w' A c xs:=by
 obtain⟨A',c',e,hi⟩:=RowI.ints h
 injection e with e1 e2 e3
 subst e1 e3
 exact hi.le (Le.above _ _)
noncomputable def goalV (p:Prg) (o:List Int) (s:VSt):Bool:=doneV p s && eqB (outV s) o
theorem mvZ_lenV (p:Prg) (s:VSt):(mvZ p s).length=(sucV p s).length:=by unfold mvZ sucV; rw [List.length_map,List.length_map]
theorem potV_le (s:VSt):potV s≤200:=by unfold potV; omega
theorem done_sucV {p:Prg} {s:VSt} (h:doneV p s=true):sucV p s=[]:=by
 unfold sucV
 rw [done_mvV h]
 rfl
def TF5 (f:Nat→Value) (B:Nat) (p:Prg) (nx:VSt) (d:Nat) (w:World) (v:Value):Prop:=if d=46 then NxO B p nx w v else if d=12 then HasB B 48 #[.slice none 0 0,.slice none 0 0,.slice none 0 0,.slice none 0 0] w v else v=f d
theorem tf5_nx {f:Nat→Value} {B:Nat} {p:Prg} {nx:VSt}:∀ d w w' v,Nx w w'→TF5 f B p nx d w v→TF5 f B p nx d w' v:=fun d w w' v hb h=>by
 unfold TF5 at h ⊢
 split at h
 ·rename_i e
  rw [if_pos e]
  exact h.nx hb
 ·rename_i e
  rw [if_neg e]
  split at h
  ·rename_i e
   rw [if_pos e]
   exact h.nx hb
  ·rename_i e
   rw [if_neg e]
   exact h
structure GOkV (p:Prg) (o:List Int) (G:List VSt) (n:Nat):Prop where
 nd:G.Nodup
 re:∀ x∈G,Reach (sucV p) (vt0 p) x
 bad:∀ x∈G,¬ Good (sucV p) (goalV p o) x∨n≤potV x
def RetFdV (p:Prg) (o:List Int) (g:Nat) (bs:Nat→Option Nat) (G:List VSt) (s:VSt) (W:World) (e:Ending) (W':World):Prop:=
 ∃ (A:Option Addr) (c:Nat) (l:List Int) (ok:Bool) (bs':Nat→Option Nat) (G':List VSt),e=.returned (.tuple #[.slice A l.length c,.bool ok])∧Ints (hidP (OwT g bs') W') A c l∧TabK W' g bs' (G'.map keyVS)∧MvP (OwT g bs) W W'∧(∀ b,OwT g bs' b→OwT g bs b∨W.heap.size≤b)
  ∧ l.length≤200∧G'.Nodup∧(∀ x∈G',Reach (sucV p) (vt0 p) x)∧((ok=true∧FstP (sucV p) (mvZ p) (goalV p o) s l)∨(ok=false∧l=[]∧¬ Good (sucV p) (goalV p o) s∧∀ x∈G',x∈G∨¬ Good (sucV p) (goalV p o) x))
def FindPV (p:Prg) (o:List Int) (g:Nat) (Ao:Option Addr) (co:Nat) (Ap:Option Addr) (cp:Nat) (s:VSt):Prop:=
 ∀ (W:World) (bs:Nat→Option Nat) (G:List VSt) (q:L5),TabK W g bs (G.map keyVS)→PrgS (hidP (OwT g bs) W) (.slice Ap p.length cp) p→Ints (hidP (OwT g bs) W) Ao co o→Rep5 (hidP (OwT g bs) W) q p s→GOkV p o G (potV s) →
  Calls Try.prog 23 #[.slice Ap p.length cp,.agg #[.slice (some ⟨q.b1,0,none⟩) p.length q.c1,.slice (some ⟨q.b2,0,none⟩) (p.length*3) q.c2,.slice (some ⟨q.b3,0,none⟩) p.length q.c3,.slice (some ⟨q.b4,0,none⟩) 3 q.c4],.slice Ao o.length co,.slice (some ⟨g,0,none⟩) 4096 4096] W (RetFdV p o g bs G s W)
theorem fst_lenV {p:Prg} {o:List Int} (hp:PrgOk p) {s:VSt} {l:List Int} (h:FstP (sucV p) (mvZ p) (goalV p o) s l) (hr:Reach (sucV p) (vt0 p) s):l.length≤potV s:=by
 induction h with
 | here _=>exact Nat.zero_le _
 | step _ hi _ _ _ ih=>
  have h1:=potV_lt hp hr (List.getElem_mem hi)
  have h2:=ih (.next hr (List.getElem_mem hi))
  rw [List.length_cons]
  omega
set_option maxHeartbeats 6000000 in
theorem findV_step (p:Prg) (hp:PrgOk p) (o:List Int) (ho:o.length=p.length*3+3) (g:Nat) (Ao:Option Addr) (co:Nat) (Ap:Option Addr) (cp:Nat) (s:VSt) (hr:Reach (sucV p) (vt0 p) s)
  (ih:∀ t,Reach (sucV p) (vt0 p) t→potV t<potV s→FindPV p o g Ao co Ap cp t):FindPV p o g Ao co Ap cp s:=by
 intro W bs G q hT hpr hO hrep hG
 obtain⟨i0,hi0,hz0,hz1,hz2⟩:=info_parts Try.infoInt
 have hok:=reachV_ok hp hr
 have hp3:=hp.1.1
 have HT:=Lib.hid hT
 have HG:=Lib.hid hG
 have Hp:=Lib.hid hp
 have Hr:=Lib.hid hr
 have HIH:=Lib.hid ih
 have Hok:=Lib.hid hok
 have Hol:=Lib.hid ho
 obtain⟨w1,hw1⟩:∃ w1,w1=W.alloc (.cells #[.slice (some ⟨q.b1,0,none⟩) p.length q.c1,.slice (some ⟨q.b2,0,none⟩) (p.length*3) q.c2,.slice (some ⟨q.b3,0,none⟩) p.length q.c3,.slice (some ⟨q.b4,0,none⟩) 3 q.c4] 48):=⟨_,rfl⟩
 have hb1:Below W.heap.size W w1:=by rw [hw1]; exact (Below.refl _ _).alloc (Nat.le_refl _) _
 have hleP:Le (hidP (OwT g bs) W) (hidP (OwT g bs) w1):=Le.hidP_below hb1 (fun _ _=>.inr trivial)
 have HPr:=Lib.hid (hpr.le hleP)
 have HO:=Lib.hid (hO.le hleP)
 have hcur:Hid (QCur5 (hidP (OwT g bs) w1) W.heap.size q p s):=by
  show QCur5 _ _ _ _ _
  rw [hw1]
  exact QCur5.new (fun b hb=>hT.lt hb) hrep
 have HT1:Hid (TabK w1 g bs (G.map keyVS)):=hT.move fun b hb=>hb1.block b (hT.lt hb)
 obtain⟨S,hS⟩:∃ S,S=W.heap.size:=⟨_,rfl⟩
 rw [← hS] at hcur
 have q0:=Le.hidP _ _ _ _ hcur.out.q0
 have q1:=Le.hidP _ _ _ _ hcur.out.q1
 have q2:=Le.hidP _ _ _ _ hcur.out.q2
 have q3:=Le.hidP _ _ _ _ hcur.out.q3
 have hSl:=hcur.out.size
 have hdn:=l5Done_any p hp s w1 (.slice Ap p.length cp) (HPr.out.le (Le.hidP _ _)) q (hcur.out.rep.le (Le.hidP _ _))
 unfold v5 v5C at hdn
 have HbW:=Lib.hid hb1
 clear hT hpr hO hrep hG hp hr ih hok ho hleP
 go_enter Try.func23,Try.ntmps23
 go_upto_region 1 with (fail)
 rw [← hw1,← hS]
 clear hw1 hb1 hS
 go_wp2_with fail
 refine hdn.mono ?_
 rintro e2 w2 ⟨rfl,hb2⟩
 have HLe2:Hid (Le (hidP (OwT g bs) w1) (hidP (OwT g bs) w2)):=Le.hidP_below hb2 (fun _ _=>.inr trivial)
 have hcur2:=Lib.hid (hcur.out.le HLe2.out)
 have HPr2:=Lib.hid (HPr.out.le HLe2.out)
 have HO2:=Lib.hid (HO.out.le HLe2.out)
 have HT2:Hid (TabK w2 g bs (G.map keyVS)):=HT1.out.move fun b hb=>hb2.block b (HT1.out.lt hb)
 have HbW2:Hid (Below W.heap.size W w2):=HbW.out.trans (hb2.mono HbW.out.size)
 clear hdn hcur HPr HO HT1 HLe2 q0 q1 q2 q3 hSl
 have q0:=Le.hidP _ _ _ _ hcur2.out.q0
 have q1:=Le.hidP _ _ _ _ hcur2.out.q1
 have q2:=Le.hidP _ _ _ _ hcur2.out.q2
 have q3:=Le.hidP _ _ _ _ hcur2.out.q3
 have hSl:=hcur2.out.size
 cases hdo:doneV p s
 ·have Hgs:Hid (goalV p o s=false):=by show _=_; unfold goalV; rw [hdo]; rfl
  clear hdo
  have hch:=l5Choices_any p Hp.out s Hok.out w2 (.slice Ap p.length cp) (HPr2.out.le (Le.hidP _ _)) q (hcur2.out.rep.le (Le.hidP _ _))
  unfold v5 v5C at hch
  go_wp2_with fail
  refine hch.mono ?_
  rintro ec wc ⟨Al,cl,rfl,hrl,hbc⟩
  obtain⟨ls,hls⟩:∃ ls,ls=(mvV p s).map fun c=>((c:Nat):Int):=⟨_,rfl⟩
  rw [← hls] at hrl ⊢
  have hIl:Ints (above w2.heap.size wc) Al cl ls:=by
   obtain⟨A',c',e,hI⟩:=hrl.ints
   injection e with e1 e2 e3
   subst e1 e3
   exact hI
  have HIC:Hid (Ints (hidP (OwT g bs) wc) Al cl ls):=hIl.le (Le.above_hidP fun b hb=>HT2.out.lt hb)
  have HLec:Hid (Le (hidP (OwT g bs) w2) (hidP (OwT g bs) wc)):=Le.hidP_below hbc (fun _ _=>.inr trivial)
  have hcurc:=Lib.hid (hcur2.out.le HLec.out)
  have HPrc:=Lib.hid (HPr2.out.le HLec.out)
  have HOc:=Lib.hid (HO2.out.le HLec.out)
  have HTc:Hid (TabK wc g bs (G.map keyVS)):=HT2.out.move fun b hb=>hbc.block b (HT2.out.lt hb)
  have HbWc:Hid (Below W.heap.size W wc):=HbW2.out.trans (hbc.mono HbW2.out.size)
  have Hls:=Lib.hid hls
  have Hll:Hid (ls.length=(sucV p s).length):=by show _=_; rw [hls]; unfold sucV; rw [List.length_map,List.length_map]
  have hl42:ls.length≤42:=by
   have:=most_le Hp.out Hok.out
   have h:ls.length≤3*mostV s:=by
    rw [hls,List.length_map]
    unfold mvV
    exact Nat.le_trans (List.length_filter_le _ _) (by rw [List.length_range]; exact Nat.le_refl _)
   omega
  clear hch hrl hbc hls hIl q0 q1 q2 q3 hSl HLec hcur2 HPr2 HO2 HT2 HbW2
  obtain⟨w2,hw2⟩:∃ w2,w2=wc:=⟨_,rfl⟩
  rw [← hw2] at HIC hcurc HPrc HOc HTc HbWc ⊢
  have hcur2:=hcurc
  have HPr2:=HPrc
  have HO2:=HOc
  have HT2:=HTc
  have HbW2:=HbWc
  clear hw2 hcurc HPrc HOc HTc HbWc
  go_wp2_with fail
  go_loopg [11] ls.length (fun gg s12 wr=>∃ (t:Nat) (bs1:Nat→Option Nat) (G1:List VSt),t≤ls.length∧gg=ls.length-t∧s12=.int .i64 t∧Hid (TabK wr g bs1 (G1.map keyVS))∧Hid (MvP (OwT g bs) w2 wr)∧Hid (∀ b,OwT g bs1 b→OwT g bs b∨w2.heap.size≤b)
   ∧ Hid (∀ j (h:j<(sucV p s).length),j<t→¬ Good (sucV p) (goalV p o) (sucV p s)[j])∧Hid (G1.Nodup∧(∀ x∈G1,Reach (sucV p) (vt0 p) x)∧∀ x∈G1,x∈G∨¬ Good (sucV p) (goalV p o) x))
  case atStart=>exact⟨0,bs,G,Nat.zero_le _,rfl,rfl,HT2.out,.refl _ _,fun b hb=>.inl hb,fun j _ hj=>absurd hj (Nat.not_lt_zero _),HG.out.nd,HG.out.re,fun x hx=>.inl hx⟩
  case round=>
   clear HT2
   obtain⟨wi,rfl⟩:∃ wi:World,wi=wr:=⟨_,rfl⟩
   obtain⟨t,bs1,G1,ht,rfl,rfl,hT1,hmv,hbs1,hnog,hG1⟩:=hrel
   have hLe:Hid (Le (hidP (OwT g bs) w2) (hidP (OwT g bs1) wi)):=Le.hidP_mv hmv.out (fun i _ h=>h) hbs1.out
   have cur:=Lib.hid (hcur2.out.le hLe.out)
   have HPr3:=Lib.hid (HPr2.out.le hLe.out)
   have HO3:=Lib.hid (HO2.out.le hLe.out)
   have HI3:=Lib.hid (HIC.out.le hLe.out)
   have hs2i:=hmv.out.size
   by_cases hlt:t<ls.length
   ·have hltI:(t:Int)<(ls.length:Int):=by omega
    have hcl:t<(mvV p s).length:=by have h:=Hll.out; unfold sucV at h; rw [List.length_map] at h; omega
    obtain⟨c,hce⟩:∃ c,c=(mvV p s)[t]:=⟨_,rfl⟩
    have hlc:ls[t]=(c:Int):=by simp only [Hls.out,List.getElem_map,hce]
    have Hlc:=Lib.hid hlc
    have hcm:c∈mvV p s:=by rw [hce]; exact List.getElem_mem _
    obtain⟨bl,ol,el,hbl,hl0⟩:=Ints.get HI3.out hlt
    rw [hlc] at hl0
    subst el
    obtain⟨hc1,hc2,hc3⟩:=mem_mvV_iff.1 hcm
    have hc42:c≤42:=by have:=most_le Hp.out Hok.out; omega
    obtain⟨nx,hnx⟩:∃ nx,nx=nxV p s c:=⟨_,rfl⟩
    have hsuc:nx∈sucV p s:=by rw [hnx]; exact List.mem_map.2 ⟨c,hcm,rfl⟩
    have Hil:Hid (t<(sucV p s).length):=by show _<_; rw [← Hll.out]; exact hlt
    have Hig:Hid ((sucV p s)[t]'Hil.out=nx):=by
     show _=_
     rw [hnx,hce]
     unfold sucV
     rw [List.getElem_map]
    have Him:Hid (∃ hm:t<(mvZ p s).length,(mvZ p s)[t]=(c:Int)):=⟨by rw [mvZ_lenV]; exact Hil.out,by simp only [mvZ,List.getElem_map,hce]⟩
    have Hre2:Hid (Reach (sucV p) (vt0 p) nx):=.next Hr.out hsuc
    have Hpot:Hid (potV nx<potV s):=potV_lt Hp.out Hr.out hsuc
    have Hfst:Hid (∀ l,FstP (sucV p) (mvZ p) (goalV p o) nx l→FstP (sucV p) (mvZ p) (goalV p o) s ((c:Int)::l)):=fun l h=>by
     obtain⟨hm,e⟩:=Him.out
     rw [← e]
     exact FstP.step Hgs.out Hil.out hm hnog.out (by rw [Hig.out]; exact h)
    have Hng2:Hid (¬ Good (sucV p) (goalV p o) nx→∀ j (h:j<(sucV p s).length),j<t+1→¬ Good (sucV p) (goalV p o) (sucV p s)[j]):=fun hn j hj hjt=>by
     rcases Nat.lt_succ_iff_lt_or_eq.1 hjt with h | h
     ·exact hnog.out j hj h
     ·subst h
      rw [Hig.out]
      exact hn
    have Hokn:Hid (VOk p nx):=reachV_ok Hp.out Hre2.out
    have hq1:(c:Int) % 3=((c % 3:Nat):Int):=by omega
    have hq2:(c:Int) / 3=((c / 3:Nat):Int):=by omega
    have hq3:(c:Int).tmod 3=((c % 3:Nat):Int):=by rw [Int.tmod_eq_emod_of_nonneg (by omega)]; omega
    have hq4:(c:Int).tdiv 3=((c / 3:Nat):Int):=by rw [Int.tdiv_eq_ediv_of_nonneg (by omega)]; omega
    have HBL:Hid (∀ U,Below wi.heap.size wi U→Le (hidP (OwT g bs1) wi) (hidP (OwT g bs1) U)):=fun U hU=>Le.hidP_below hU (fun _ _=>.inr trivial)
    have Hdo:Hid (∀ U,Below wi.heap.size wi U→Calls Try.prog 46 #[.slice Ap p.length cp,.agg #[.slice (some ⟨q.b1,0,none⟩) p.length q.c1,.slice (some ⟨q.b2,0,none⟩) (p.length*3) q.c2,.slice (some ⟨q.b3,0,none⟩) p.length q.c3,.slice (some ⟨q.b4,0,none⟩) 3 q.c4],.int .i64 ((c % 3:Nat):Int),.int .i64 ((c / 3:Nat):Int)] U (RetO5 U p nx)):=fun U hU=>by
     have h:=l5Do_any p Hp.out s Hok.out (c % 3) (c / 3) hc2 hc3 U (.slice Ap p.length cp) ((HPr3.out.le (HBL.out U hU)).le (Le.hidP _ _)) q ((cur.out.rep.le (HBL.out U hU)).le (Le.hidP _ _))
     unfold v5 v5C at h
     rw [hnx]
     exact h
    have HLo:Hid (∀ U,Below wi.heap.size wi U→U.cell? ⟨bl,ol+t,none⟩=some (.int .i64 (c:Int))∧QCur5 U S q p s):=fun U hU=>⟨Le.below hU _ _ (Le.hidP _ _ _ _ hl0),(cur.out.le (HBL.out U hU)).le (Le.hidP _ _)⟩
    have hr2:c / 3≤14:=by omega
    obtain⟨r1,hr1e⟩:∃ r,r=c % 3:=⟨_,rfl⟩
    obtain⟨r2,hr2e⟩:∃ r,r=c / 3:=⟨_,rfl⟩
    rw [← hr1e] at hq1 hq3 Hdo
    rw [← hr2e] at hq2 hq4 Hdo hr2
    clear hcl hlc hcm hnx hsuc hl0 hbl hce hc1 hc2 hc3 hr1e hr2e hnog
    go_upto_region 7 with (fail)
    obtain⟨fn,hfn⟩:∃ f:Nat→Value,f=(fun d=>match d with | 34=>.slice Ap p.length cp | 35=>.agg #[.slice (some ⟨q.b1,0,none⟩) p.length q.c1,.slice (some ⟨q.b2,0,none⟩) (p.length*3) q.c2,.slice (some ⟨q.b3,0,none⟩) p.length q.c3,.slice (some ⟨q.b4,0,none⟩) 3 q.c4] | 36=>.slice (some ⟨bl,ol,none⟩) ls.length cl | 37=>.int .i64 (t:Int) | 38=>.pointer (some ⟨bl,ol+t,none⟩) | 39=>.int .i64 (c:Int) | 40=>.int .i64 ((r1:Nat):Int) | 41=>.slice (some ⟨bl,ol,none⟩) ls.length cl | 42=>.int .i64 (t:Int) | 43=>.pointer (some ⟨bl,ol+t,none⟩) | 44=>.int .i64 (c:Int) | 45=>.int .i64 ((r2:Nat):Int) | _=>undef):=⟨_,rfl⟩
    have hf34:fn 34=.slice Ap p.length cp:=congrFun hfn 34
    have hf35:fn 35=.agg #[.slice (some ⟨q.b1,0,none⟩) p.length q.c1,.slice (some ⟨q.b2,0,none⟩) (p.length*3) q.c2,.slice (some ⟨q.b3,0,none⟩) p.length q.c3,.slice (some ⟨q.b4,0,none⟩) 3 q.c4]:=congrFun hfn 35
    have hf36:fn 36=.slice (some ⟨bl,ol,none⟩) ls.length cl:=congrFun hfn 36
    have hf37:fn 37=.int .i64 (t:Int):=congrFun hfn 37
    have hf38:fn 38=.pointer (some ⟨bl,ol+t,none⟩):=congrFun hfn 38
    have hf39:fn 39=.int .i64 (c:Int):=congrFun hfn 39
    have hf40:fn 40=.int .i64 ((r1:Nat):Int):=congrFun hfn 40
    have hf41:fn 41=.slice (some ⟨bl,ol,none⟩) ls.length cl:=congrFun hfn 41
    have hf42:fn 42=.int .i64 (t:Int):=congrFun hfn 42
    have hf43:fn 43=.pointer (some ⟨bl,ol+t,none⟩):=congrFun hfn 43
    have hf44:fn 44=.int .i64 (c:Int):=congrFun hfn 44
    have hf45:fn 45=.int .i64 ((r2:Nat):Int):=congrFun hfn 45
    clear hfn
    refine wp_region_rel [0,1,2,3,4,5,6,7,8,9,10,11,12,13] [14] (TF5 fn wi.heap.size p nx) (fun _=>0) [34,35,36,37,38,39,40,41,42,43,44,45,46,12] (by kernel_rfl) (by kernel_rfl) rfl (by simp) tf5_nx (fun _ _ _ _ _ h=>absurd rfl h) ?_ ?_
    ·refine⟨?_,?_,?_,?_,?_,?_,?_,?_,?_,?_,?_,?_,?_,?_,trivial⟩
     all_goals (intro xs w hw hdep hsep; have hbw:=nx_below hw; simp only [shpA,fillL,List.contains_cons,List.contains_nil,Nat.reduceAdd,Nat.reduceBEq,Bool.or_false,Bool.or_true,Bool.false_eq_true,↓reduceIte])
     ·go_wp2_with fail
      exact RelPost.mk (Nx.refl _) _ rfl hf34.symm rfl
     ·have q0:=(HLo.out w hbw).2.q0
      have q1:=(HLo.out w hbw).2.q1
      have q2:=(HLo.out w hbw).2.q2
      have q3:=(HLo.out w hbw).2.q3
      go_wp2_with fail
      exact RelPost.mk (Nx.refl _) _ rfl hf35.symm rfl
     ·go_wp2_with fail
      exact RelPost.mk (Nx.refl _) _ rfl hf36.symm rfl
     ·go_wp2_with fail
      exact RelPost.mk (Nx.refl _) _ rfl hf37.symm rfl
     ·have e36:xs 36=.slice (some ⟨bl,ol,none⟩) ls.length cl:=(show xs 36=fn 36 from hdep 36 (List.mem_of_elem_eq_true (by kernel_rfl))).trans hf36
      have e37:xs 37=.int .i64 (t:Int):=(show xs 37=fn 37 from hdep 37 (List.mem_of_elem_eq_true (by kernel_rfl))).trans hf37
      rw [e36,e37]
      go_wp2_with fail
      exact RelPost.mk (Nx.refl _) _ rfl hf38.symm rfl
     ·have e38:xs 38=.pointer (some ⟨bl,ol+t,none⟩):=(show xs 38=fn 38 from hdep 38 (List.mem_of_elem_eq_true (by kernel_rfl))).trans hf38
      have q0:=(HLo.out w hbw).1
      rw [e38]
      go_wp2_with fail
      exact RelPost.mk (Nx.refl _) _ rfl hf39.symm rfl
     ·have e39:xs 39=.int .i64 (c:Int):=(show xs 39=fn 39 from hdep 39 (List.mem_of_elem_eq_true (by kernel_rfl))).trans hf39
      rw [e39]
      go_wp2_with fail
      exact RelPost.mk (Nx.refl _) _ rfl hf40.symm rfl
     ·go_wp2_with fail
      exact RelPost.mk (Nx.refl _) _ rfl hf41.symm rfl
     ·go_wp2_with fail
      exact RelPost.mk (Nx.refl _) _ rfl hf42.symm rfl
     ·have e41:xs 41=.slice (some ⟨bl,ol,none⟩) ls.length cl:=(show xs 41=fn 41 from hdep 41 (List.mem_of_elem_eq_true (by kernel_rfl))).trans hf41
      have e42:xs 42=.int .i64 (t:Int):=(show xs 42=fn 42 from hdep 42 (List.mem_of_elem_eq_true (by kernel_rfl))).trans hf42
      rw [e41,e42]
      go_wp2_with fail
      exact RelPost.mk (Nx.refl _) _ rfl hf43.symm rfl
     ·have e43:xs 43=.pointer (some ⟨bl,ol+t,none⟩):=(show xs 43=fn 43 from hdep 43 (List.mem_of_elem_eq_true (by kernel_rfl))).trans hf43
      have q0:=(HLo.out w hbw).1
      rw [e43]
      go_wp2_with fail
      exact RelPost.mk (Nx.refl _) _ rfl hf44.symm rfl
     ·have e44:xs 44=.int .i64 (c:Int):=(show xs 44=fn 44 from hdep 44 (List.mem_of_elem_eq_true (by kernel_rfl))).trans hf44
      rw [e44]
      go_wp2_with fail
      exact RelPost.mk (Nx.refl _) _ rfl hf45.symm rfl
     ·have e34:xs 34=.slice Ap p.length cp:=(show xs 34=fn 34 from hdep 34 (List.mem_of_elem_eq_true (by kernel_rfl))).trans hf34
      have e35:xs 35=.agg #[.slice (some ⟨q.b1,0,none⟩) p.length q.c1,.slice (some ⟨q.b2,0,none⟩) (p.length*3) q.c2,.slice (some ⟨q.b3,0,none⟩) p.length q.c3,.slice (some ⟨q.b4,0,none⟩) 3 q.c4]:=(show xs 35=fn 35 from hdep 35 (List.mem_of_elem_eq_true (by kernel_rfl))).trans hf35
      have e40:xs 40=.int .i64 ((r1:Nat):Int):=(show xs 40=fn 40 from hdep 40 (List.mem_of_elem_eq_true (by kernel_rfl))).trans hf40
      have e45:xs 45=.int .i64 ((r2:Nat):Int):=(show xs 45=fn 45 from hdep 45 (List.mem_of_elem_eq_true (by kernel_rfl))).trans hf45
      have hcc:=Hdo.out w hbw
      rw [e34,e35,e40,e45]
      go_wp2_with fail
      refine hcc.mono ?_
      rintro ec wc' ⟨qn,Pn,Gn,Vn,Nn,Lbn,Lcn,Mn,κn,rfl,hn1,hn2,hbc⟩
      unfold v5 v5C
      go_wp2_with fail
      exact RelPost.mk hbc _ rfl ⟨qn,Pn,Gn,Vn,Nn,Lbn,Lcn,Mn,κn,rfl,hn1.rebase (Below.size hbw),hn2⟩ rfl
     ·go_wp2_with fail
      exact RelPost.mk ((Below.refl _ _).alloc (Nat.le_refl _) _) _ rfl ⟨w.heap.size,rfl,Own.new w _ _,Below.size hbw⟩ rfl
    intro xs wj hw hT hsep
    have hbw:=nx_below hw
    obtain⟨g9,e9,oN9,hN9⟩:HasB wi.heap.size 48 #[.slice none 0 0,.slice none 0 0,.slice none 0 0,.slice none 0 0] wj (xs 12):=hT 12 (List.mem_of_elem_eq_true (by kernel_rfl))
    obtain⟨qn,Pn,Gn,Vn,Nn,Lbn,Lcn,Mn,κn,e71,hn1,hn2⟩:NxO wi.heap.size p nx wj (xs 46):=hT 46 (List.mem_of_elem_eq_true (by kernel_rfl))
    show wpList _ _ _ [_] _ _
    simp only [shpA,fillL,List.contains_cons,List.contains_nil,Nat.reduceAdd,Nat.reduceBEq,Bool.or_false,Bool.or_true,Bool.false_eq_true,↓reduceIte]
    rw [e9,e71]
    clear hT hsep hw  hf34 hf35 hf36 hf37 hf38 hf39 hf40 hf41 hf42 hf43 hf44 hf45
    generalize xs 34=u34x
    generalize xs 35=u35x
    generalize xs 36=u36x
    generalize xs 37=u37x
    generalize xs 38=u38x
    generalize xs 39=u39x
    generalize xs 40=u40x
    generalize xs 41=u41x
    generalize xs 42=u42x
    generalize xs 43=u43x
    generalize xs 44=u44x
    generalize xs 45=u45x
    clear e9 e71
    have z0:=oN9.cell (i:=0) rfl
    have z1:=oN9.cell (i:=1) rfl
    have z2:=oN9.cell (i:=2) rfl
    have z3:=oN9.cell (i:=3) rfl
    have y0:=oN9.frozen 0
    have y1:=oN9.frozen 1
    have y2:=oN9.frozen 2
    have y3:=oN9.frozen 3
    obtain⟨wk,hwk⟩:∃ wk,wk=(((wj.setCell ⟨g9,0,none⟩ (.slice (some ⟨qn.b1,0,none⟩) p.length qn.c1)).setCell ⟨g9,1,none⟩ (.slice (some ⟨qn.b2,0,none⟩) (p.length*3) qn.c2)).setCell ⟨g9,2,none⟩ (.slice (some ⟨qn.b3,0,none⟩) p.length qn.c3)).setCell ⟨g9,3,none⟩ (.slice (some ⟨qn.b4,0,none⟩) 3 qn.c4):=⟨_,rfl⟩
    have hbk:Below wi.heap.size wi wk:=by rw [hwk]; exact (((hbw.setCell hN9 _).setCell hN9 _).setCell hN9 _).setCell hN9 _
    have oN1:=oN9.set 0 (.slice (some ⟨qn.b1,0,none⟩) p.length qn.c1)
    have oN2:=oN1.set 1 (.slice (some ⟨qn.b2,0,none⟩) (p.length*3) qn.c2)
    have oN3:=oN2.set 2 (.slice (some ⟨qn.b3,0,none⟩) p.length qn.c3)
    have oNk:Own wk g9 48 #[.slice (some ⟨qn.b1,0,none⟩) p.length qn.c1,.slice (some ⟨qn.b2,0,none⟩) (p.length*3) qn.c2,.slice (some ⟨qn.b3,0,none⟩) p.length qn.c3,.slice (some ⟨qn.b4,0,none⟩) 3 qn.c4]:=by rw [hwk]; exact oN3.set 3 _
    have hnk:=((((hn1.farS oN9 0 (.slice (some ⟨qn.b1,0,none⟩) p.length qn.c1)).farS oN1 1 (.slice (some ⟨qn.b2,0,none⟩) (p.length*3) qn.c2)).farS oN2 2 (.slice (some ⟨qn.b3,0,none⟩) p.length qn.c3)).farS oN3 3 (.slice (some ⟨qn.b4,0,none⟩) 3 qn.c4))
    rw [← hwk] at hnk
    have hHQ:∀ b,OwT g bs1 b→b<wi.heap.size:=fun b hb=>hT1.out.lt hb
    have hrepk:Rep5 (hidP (OwT g bs1) wk) qn p nx:=hnk.obs rfl hn2 (Le.above_hidP hHQ)
    have hn9:¬ OwT g bs1 g9:=fun h=>by have:=hHQ _ h; omega
    have hcurNx:QCur5 (hidP (OwT g bs1) wk) g9 qn p nx:=⟨cell_hidP.2 ⟨hn9,oNk.cell (i:=0) rfl⟩,cell_hidP.2 ⟨hn9,oNk.cell (i:=1) rfl⟩,cell_hidP.2 ⟨hn9,oNk.cell (i:=2) rfl⟩,cell_hidP.2 ⟨hn9,oNk.cell (i:=3) rfl⟩,hrepk⟩
    have hcurN:=Lib.hid hcurNx
    have hTk:Hid (TabK wk g bs1 (G1.map keyVS)):=hT1.out.move fun b hb=>hbk.block b (hT1.out.lt hb)
    have HLk:=Lib.hid (HBL.out wk hbk)
    have HPrk:=Lib.hid (HPr3.out.le HLk.out)
    have HOk:=Lib.hid (HO3.out.le HLk.out)
    have HIk:=Lib.hid (HI3.out.le HLk.out)
    have hmvk:Hid (MvP (OwT g bs) w2 wk):=hmv.out.trans (MvP.of_below (p:=fun _=>False) hbk) (fun _ _ h=>absurd h (by simp))
    have hsk:w2.heap.size≤wk.heap.size:=hmvk.out.size
    have hkey:=l5Key_any p Hp.out nx Hokn.out wk qn (hcurN.out.rep.le (Le.hidP _ _))
    unfold v5 v5C at hkey
    have hkz:=keyVS_len Hp.out Hokn.out
    obtain⟨kn,hkn⟩:∃ kn,kn=keyVS nx:=⟨_,rfl⟩
    rw [← hkn] at hkey hkz
    have Hkn:Hid (kn=keyVS nx):=hkn
    clear hkn hrepk hcurNx hn9 hHQ hnk oN1 oN2 oN3 oNk hn1 hn2 hq1 hq2 hq3 hq4 hr2 Hil Hig Him hT1 hmv HPr3 HO3 HI3 cur HLk
    go_upto_region 8 with (fail)
    rw [← hwk]
    clear hwk z0 z1 z2 z3 y0 y1 y2 y3 oN9 hbw hbk
    have x0:=Le.hidP _ _ _ _ hcurN.out.q0
    have x1:=Le.hidP _ _ _ _ hcurN.out.q1
    have x2:=Le.hidP _ _ _ _ hcurN.out.q2
    have x3:=Le.hidP _ _ _ _ hcurN.out.q3
    have hNk:=hcurN.out.size
    go_wp2_with fail
    refine hkey.mono ?_
    rintro el wl ⟨rfl,hbl⟩
    obtain⟨xss,htab,hks1,hks2⟩:TabK wl g bs1 (G1.map keyVS):=hTk.out.move fun b hb=>hbl.block b (hTk.out.lt hb)
    have hfd:=l3Found_any kn hkz wl g xss bs1 htab
    have Htab:=Lib.hid (And.intro htab (And.intro hks1 hks2))
    have Hmem:Hid (inB (xss (hashS kn)) kn=true↔nx∈G1):=by
     show _↔_
     rw [inB_iff,hks1,List.mem_map]
     constructor
     ·rintro ⟨u,hu,he⟩
      have:u=nx:=keyVS_inj Hp.out (hG1.out.2.1 u hu) Hre2.out (by rw [he,Hkn.out])
      rw [← this]; exact hu
     ·intro hu
      exact⟨nx,hu,Hkn.out.symm⟩
    have HBl:=Lib.hid hbl
    clear hkey x0 x1 x2 x3 hbl htab hks1 hks2 hNk
    generalize hfb:inB (xss (hashS kn)) kn=fb at hfd Hmem
    clear hfb
    go_wp2_with fail
    refine hfd.mono ?_
    rintro em wm ⟨rfl,hbm⟩
    have HBm:Hid (Below wk.heap.size wk wm):=HBl.out.trans (hbm.mono HBl.out.size)
    have HLm:Hid (Le (hidP (OwT g bs1) wk) (hidP (OwT g bs1) wm)):=Le.hidP_below HBm.out (fun _ _=>.inr trivial)
    have hmvm:Hid (MvP (OwT g bs) w2 wm):=hmvk.out.trans (MvP.of_below (p:=fun _=>False) HBm.out) (fun _ _ h=>absurd h (by simp))
    have htabm:=Htab.out.1.below hbm
    have hskm:=HBm.out.size
    clear hfd hbm HBl
    cases fb
    ·have Hnin:Hid (nx∉G1):=fun h=>by have:=Hmem.out.2 h; cases this
     have hl5:(xss (hashS kn)).length≤5000000000000:=by
      have h1:=Htab.out.2.2 (hashS kn)
      rw [List.length_map] at h1
      have h2:=view_few Hp.out hG1.out.1 hG1.out.2.1
      omega
     have hmk:=l3Mark_any kn hkz wm g xss bs1 htabm hl5
     clear htabm
     go_wp2_with fail
     refine hmk.mono ?_
     rintro eo wo ⟨rfl,bs2,ht2,hm2,hbs2⟩
     have HLo:Hid (Le (hidP (OwT g bs1) wk) (hidP (OwT g bs2) wo)):=HLm.out.trans (Le.hidP_mv hm2 (fun i _ h=>h) hbs2)
     have curNo:=Lib.hid (hcurN.out.le HLo.out)
     have HPro:=Lib.hid (HPrk.out.le HLo.out)
     have HOo:=Lib.hid (HOk.out.le HLo.out)
     have HIo:=Lib.hid (HIk.out.le HLo.out)
     have hmvo:Hid (MvP (OwT g bs) w2 wo):=hmvm.out.trans hm2 (fun i hi h=>by
      rcases hbs1.out i h with h | h
      ·exact h
      ·omega)
     have hbso:Hid (∀ b,OwT g bs2 b→OwT g bs b∨w2.heap.size≤b):=fun b hb=>by
      rcases hbs2 b hb with h | h
      ·exact hbs1.out b h
      ·right; omega
     have hTo:Hid (TabK wo g bs2 ((G1++[nx]).map keyVS)):=by
      show TabK _ _ _ _
      rw [List.map_append,show [nx].map keyVS=[kn] by rw [Hkn.out]; rfl]
      exact TabK.mark Htab.out.2.1 Htab.out.2.2 ht2
     have HG2:Hid (GOkV p o (G1++[nx]) (potV nx)):=⟨List.nodup_append.2 ⟨hG1.out.1,by simp,fun a ha b hb e=>Hnin.out (by rw [← List.mem_singleton.1 hb,← e]; exact ha)⟩,fun x hx=>by
      rcases List.mem_append.1 hx with hx | hx
      ·exact hG1.out.2.1 x hx
      ·rw [List.mem_singleton.1 hx]; exact Hre2.out,fun x hx=>by
      rcases List.mem_append.1 hx with hx | hx
      ·rcases hG1.out.2.2 x hx with h | h
       ·rcases HG.out.bad x h with h | h
        ·exact .inl h
        ·right; have:=Hpot.out; omega
       ·exact .inl h
      ·rw [List.mem_singleton.1 hx]; exact .inr (Nat.le_refl _)⟩
     have x0:=Le.hidP _ _ _ _ curNo.out.q0
     have x1:=Le.hidP _ _ _ _ curNo.out.q1
     have x2:=Le.hidP _ _ _ _ curNo.out.q2
     have x3:=Le.hidP _ _ _ _ curNo.out.q3
     have hNo:=curNo.out.size
     have hrec:=HIH.out nx Hre2.out Hpot.out wo bs2 (G1++[nx]) qn hTo.out HPro.out HOo.out curNo.out.rep HG2.out
     have hso:=hmvo.out.size
     clear hmk ht2 hm2 hbs2 HLm hmvm hl5
     go_wp2_with fail
     refine hrec.mono ?_
     rintro ez wz ⟨Az,cz,lz,okz,bs3,G3,rfl,hIz,hTz,hmz,hbsz,hlz,hndz,hrez,hresz⟩
     have hmvz:Hid (MvP (OwT g bs) w2 wz):=hmvo.out.trans hmz (fun i hi h=>by
      rcases hbso.out i h with h | h
      ·exact h
      ·omega)
     have hbs3:Hid (∀ b,OwT g bs3 b→OwT g bs b∨w2.heap.size≤b):=fun b hb=>by
      rcases hbsz b hb with h | h
      ·exact hbso.out b h
      ·right; omega
     have HIz2:=Lib.hid (HIo.out.le (Le.hidP_mv hmz (fun i _ h=>h) hbsz))
     have hTz:=Lib.hid hTz
     have hIz:=Lib.hid hIz
     have hlenz:okz=true→lz.length≤199:=fun h=>by
      rcases hresz with ⟨_,h⟩ | ⟨h',_⟩
      ·have h1:=fst_lenV Hp.out h Hre2.out
       have h2:=potV_le s
       have h3:=Hpot.out
       omega
      ·rw [h'] at h; cases h
     have Hres:=Lib.hid (And.intro hndz (And.intro hrez hresz))
     clear hrec x0 x1 x2 x3 hmz hbsz hndz hrez hresz hNo
     cases okz
     ·have Hbad:Hid (¬ Good (sucV p) (goalV p o) nx∧∀ x∈G3,x∈G1++[nx]∨¬ Good (sucV p) (goalV p o) x):=by
       rcases Hres.out.2.2 with ⟨h,_⟩ | ⟨_,_,h1,h2⟩
       ·cases h
       ·exact⟨h1,h2⟩
      go_wp2_with fail
      go_roundg (ls.length-(t+1))
      case measure=>omega
      case rel=>exact⟨t+1,bs3,G3,by omega,rfl,by go_num,hTz.out,hmvz.out,hbs3.out,Hng2.out Hbad.out.1,Hres.out.1,Hres.out.2.1,fun x hx=>by
       rcases Hbad.out.2 x hx with h | h
       ·rcases List.mem_append.1 h with h | h
        ·exact hG1.out.2.2 x h
        ·rw [List.mem_singleton.1 h]; exact .inr Hbad.out.1
       ·exact .inr h⟩
     ·have Hgd:Hid (FstP (sucV p) (mvZ p) (goalV p o) s ((c:Int)::lz)):=by
       rcases Hres.out.2.2 with ⟨_,h⟩ | ⟨h,_⟩
       ·exact Hfst.out lz h
       ·cases h
      have hl199:=hlenz rfl
      obtain⟨blz,olz,elz,_,hlz0⟩:=Ints.get HIz2.out hlt
      injection elz with elz
      injection elz with elz1 elz2
      subst elz1 elz2
      have hlz0:=Le.hidP _ _ _ _ hlz0
      rw [Hlc.out] at hlz0
      have hltI:(t:Int)<(ls.length:Int):=by omega
      have oN:=Own.new wz 3 #[.int .i64 (c:Int)]
      have HRow:Hid (RowI (wz.alloc (.cells #[.int .i64 (c:Int)] 3)) wz.heap.size (.slice (some ⟨wz.heap.size,0,none⟩) 1 1) [(c:Int)]):=RowOf.single1 oN (Nat.le_refl _) (fun cs h=>h)
      have HIr:Hid (Ints (wz.alloc (.cells #[.int .i64 (c:Int)] 3)) Az cz lz):=hIz.out.le ((Le.hidP _ _).trans (Le.alloc _ _))
      clear oN
      go_wp2_with (at_builtin; refine wpList_append_list (o:=⟨some _,_,_,_,_,_⟩) (by rfl) _ _ _ (by rfl) qint_congr (R:=RInt) wz.heap.size 3 i0 _ 8 Try.underlying23 hi0 hz0 hz1 hz2 rfl (by omega) (.slice (some ⟨wz.heap.size,0,none⟩) 1 1) [(c:Int)] (by rfl) HRow.out Az cz lz (by rfl) HIr.out (fun cs y h=>h) qint_one (by simp [maxLen]; omega) (by simp; omega) (by simp) (wz.heap.size+1) (by simp) ?_; intro A9 c9 w9 hrow9 hgrow9 hat9)
      have hB9:Below wz.heap.size wz w9:=below_of_grown ((Below.refl _ _).alloc (Nat.le_refl _) _) hgrow9 (by simp) (fun g' hg=>by simp only [Value.ownBlock,Option.some.injEq] at hg; omega)
      have HB9:=Lib.hid hB9
      have HI9:Hid (Ints (above wz.heap.size w9) A9 c9 ((c:Int)::lz)):=by
       obtain⟨A',c',e',hi'⟩:=RowI.ints hrow9
       injection e' with e1 e2 e3
       subst e1 e3
       exact hi'
      clear hrow9 hgrow9 hat9 hB9 hlz0
      go_wp2_with fail
      refine bodyPost_ret (v:=.tuple #[.slice A9 ([(c:Int)]++lz).length c9,.bool true]) (by simp [results,Try.results23,go_sem]) rfl ?_
      exact⟨A9,c9,(c:Int)::lz,true,bs3,G3,rfl,HI9.out.le (Le.above_hidP (fun b hb=>hTz.out.lt hb)),hTz.out.move fun b hb=>HB9.out.block b (hTz.out.lt hb),
       ((MvP.of_below (p:=OwT g bs) HbW2.out).trans hmvz.out (fun i _ h=>h)).trans (MvP.of_below (p:=fun _=>False) HB9.out) (fun _ _ h=>absurd h (by simp)),fun b hb=>by
        rcases hbs3.out b hb with h | h
        ·exact .inl h
        ·right; have:=HbW2.out.size; omega,by simp; omega,Hres.out.1,Hres.out.2.1,.inl ⟨rfl,Hgd.out⟩⟩
    ·have Hin:Hid (nx∈G1):=Hmem.out.1 rfl
     have Hbad:Hid (¬ Good (sucV p) (goalV p o) nx):=by
      rcases hG1.out.2.2 nx Hin.out with h | h
      ·rcases HG.out.bad nx h with h | h
       ·exact h
       ·have:=Hpot.out; omega
      ·exact h
     have hTm:Hid (TabK wm g bs1 (G1.map keyVS)):=⟨xss,htabm,Htab.out.2.1,Htab.out.2.2⟩
     clear htabm
     go_wp2_with fail
     go_roundg (ls.length-(t+1))
     case measure=>omega
     case rel=>exact⟨t+1,bs1,G1,by omega,rfl,by go_num,hTm.out,hmvm.out,hbs1.out,Hng2.out Hbad.out,hG1.out⟩
   ·have hte:t=ls.length:=by omega
    have hltI:¬ (t:Int)<(ls.length:Int):=by omega
    have Hng3:Hid (¬ Good (sucV p) (goalV p o) s):=not_good Hgs.out fun j hj=>hnog.out j hj (by rw [hte,Hll.out]; exact hj)
    clear hte
    have hTe:=Lib.hid (hT1.out.move (w':=wi.alloc (.cells #[] 3)) fun b hb=>Go.Deep.blk_alloc_lt _ _ _ (hT1.out.lt hb))
    clear hnog
    go_wp2_with fail
    refine bodyPost_ret (v:=.tuple #[.slice (some ⟨wi.heap.size,0,none⟩) 0 0,.bool false]) (by simp [results,Try.results23,go_sem]) rfl ?_
    exact⟨_,_,[],false,bs1,G1,rfl,⟨_,_,rfl,by simp,fun i hi=>absurd hi (Nat.not_lt_zero _)⟩,hTe.out,((MvP.of_below (p:=OwT g bs) HbW2.out).trans hmv.out (fun i _ h=>h)).trans (MvP.of_below (p:=fun _=>False) ((Below.refl _ _).alloc (Nat.le_refl _) _)) (fun _ _ h=>absurd h (by simp)),fun b hb=>by
     rcases hbs1.out b hb with h | h
     ·exact .inl h
     ·right; have:=HbW2.out.size; omega,by simp,hG1.out.1,hG1.out.2.1,.inr ⟨rfl,rfl,Hng3.out,hG1.out.2.2⟩⟩
 ·have hgo:goalV p o s=eqB (outV s) o:=by unfold goalV; rw [hdo]; rfl
  have hng:¬ (goalV p o s=true)→¬ Good (sucV p) (goalV p o) s:=fun h=>not_good (by simpa using h) fun j hj=>by rw [done_sucV hdo] at hj; exact absurd hj (Nat.not_lt_zero _)
  have Hgo:=Lib.hid hgo
  have Hng:=Lib.hid hng
  have hou:=fun W' (hW:Below w2.heap.size w2 W')=>l5Outcome_any p Hp.out s Hok.out W' q ((hcur2.out.below hW).rep.le (Le.hidP _ _))
  unfold v5 v5C at hou
  have hos:(outV s).length=o.length:=by rw [outV_len Hok.out,Hol.out]
  have Hos:=Lib.hid hos
  clear hdo hgo hng hos
  have HB3:Hid (Below w2.heap.size w2 (w2.alloc (.cells #[] 3))):=(Below.refl _ _).alloc (Nat.le_refl _) _
  have hou3:=hou _ HB3.out
  obtain⟨xs,hxs⟩:∃ xs,xs=outV s:=⟨_,rfl⟩
  rw [← hxs] at hou3
  have Hxs:Hid (xs=outV s):=hxs
  have Hxl:Hid (xs.length=o.length):=by show _=_; rw [hxs]; exact Hos.out
  clear hou hxs
  go_wp2_with fail
  refine hou3.mono ?_
  rintro e4 w4 ⟨A4',c4',rfl,hrow4,hb4⟩
  have HB4:=Lib.hid (HB3.out.trans (hb4.mono HB3.out.size))
  have hI4:=row_readSV hrow4
  have hle:=l3Less_any xs o Hxl.out w4 A4' Ao c4' co hI4 ((HO2.out.le (Le.hidP_below HB4.out (fun _ _=>.inr trivial))).le (Le.hidP _ _))
  have Hlex:Hid (lexC xs o=0↔goalV p o s=true):=by
   show _↔_
   rw [Hgo.out,eqB_iff,← Hxs.out]
   exact⟨lexC_eq _ _,fun h=>by rw [h]; exact lexC_self _⟩
  generalize lexC xs o=lx at hle Hlex
  clear hou3 hrow4 hI4 hb4
  go_wp2_with fail
  refine hle.mono ?_
  rintro e5 w5 ⟨rfl,hb5⟩
  have HB5:=Lib.hid (HB4.out.trans (hb5.mono HB4.out.size))
  have HT5:Hid (TabK w5 g bs (G.map keyVS)):=HT2.out.move fun b hb=>HB5.out.block b (HT2.out.lt hb)
  have HbW5:=HbW2.out.trans (HB5.out.mono HbW2.out.size)
  clear hle hb5
  by_cases hlx:lx=0
  ·have hd:(lx == 0)=true:=by simp [hlx]
   have Hgt:=Lib.hid (Hlex.out.1 hlx)
   clear hlx
   go_wp2_with fail
   refine bodyPost_ret (v:=.tuple #[.slice (some ⟨w2.heap.size,0,none⟩) 0 0,.bool true]) (by simp [results,Try.results23,go_sem]) rfl ?_
   exact⟨_,_,[],true,bs,G,rfl,⟨_,_,rfl,by simp,fun i hi=>absurd hi (Nat.not_lt_zero _)⟩,HT5.out,.of_below HbW5,fun b hb=>.inl hb,by simp,HG.out.nd,HG.out.re,.inl ⟨rfl,.here Hgt.out⟩⟩
  ·have hd:(lx == 0)=false:=beq_eq_false_iff_ne.2 hlx
   have Hgf:=Lib.hid (Hng.out fun h=>hlx (Hlex.out.2 h))
   clear hlx
   go_wp2_with fail
   refine bodyPost_ret (v:=.tuple #[.slice (some ⟨w2.heap.size,0,none⟩) 0 0,.bool false]) (by simp [results,Try.results23,go_sem]) rfl ?_
   exact⟨_,_,[],false,bs,G,rfl,⟨_,_,rfl,by simp,fun i hi=>absurd hi (Nat.not_lt_zero _)⟩,HT5.out,.of_below HbW5,fun b hb=>.inl hb,by simp,HG.out.nd,HG.out.re,.inr ⟨rfl,rfl,Hgf.out,fun x hx=>.inl hx⟩⟩
theorem findV_all (p:Prg) (hp:PrgOk p) (o:List Int) (ho:o.length=p.length*3+3) (g:Nat) (Ao:Option Addr) (co:Nat) (Ap:Option Addr) (cp:Nat):∀ (n:Nat) (s:VSt),potV s≤n→Reach (sucV p) (vt0 p) s→FindPV p o g Ao co Ap cp s
 | 0,s,h,hr=>findV_step p hp o ho g Ao co Ap cp s hr fun t _ ht=>by omega
 | n+1,s,h,hr=>findV_step p hp o ho g Ao co Ap cp s hr fun t hrt ht=>findV_all p hp o ho g Ao co Ap cp n t (by omega) hrt
def FndSV (p:Prg) (o:List Int) (r:Option (List Int)):Prop:=(OutOk p o∧((∃ l,r=some l∧FstP (sucV p) (mvZ p) (goalV p o) (vt0 p) l)∨(r=none∧¬ Good (sucV p) (goalV p o) (vt0 p))))∨(¬ OutOk p o∧r=none)
theorem FndSV.uniq {p:Prg} {o:List Int} {r r':Option (List Int)} (h:FndSV p o r) (k:FndSV p o r'):r=r':=by
 rcases h with ⟨h1,h⟩ | ⟨h1,rfl⟩
 ·rcases k with ⟨_,k⟩ | ⟨k1,_⟩
  ·rcases h with ⟨l,rfl,h⟩ | ⟨rfl,h⟩
   ·rcases k with ⟨l',rfl,k⟩ | ⟨_,k⟩
    ·rw [h.uniq k]
    ·exact absurd h.good k
   ·rcases k with ⟨l',_,k⟩ | ⟨rfl,_⟩
    ·exact absurd k.good h
    ·rfl
  ·exact absurd h1 k1
 ·rcases k with ⟨k1,_⟩ | ⟨_,rfl⟩
  ·exact absurd k1 h1
  ·rfl
def RetFSV (p:Prg) (o:List Int) (W:World) (e:Ending) (W':World):Prop:=
 ∃ A c r,e=.returned (.tuple #[.slice A (r.getD []).length c,.bool r.isSome])∧Ints W' A c (r.getD [])∧Below W.heap.size W W'∧FndSV p o r
theorem owT_none {g b:Nat} (h:OwT g (fun _=>none) b):b=g:=by
 rcases h with h | ⟨_,_,h⟩
 ·exact h
 ·cases h
set_option maxHeartbeats 3000000 in
theorem specFC_any (p:Prg) (hl:p.length≤1048576) (o:List Int) (W:World) (v:Value) (hr:PrgS W v p) (A:Option Addr) (c:Nat) (hI:Ints W A c o):Calls Try.prog 6 #[v,.slice A o.length c] W (RetFSV p o W):=by
 have hov:=specOV_any p hl o W v hr A c hI
 have HR:=Lib.hid hr
 have HI:=Lib.hid hI
 obtain⟨Ap,cp,rfl,_⟩:=hr.slice
 have HF:Hid (ovB p o=false→¬ OutOk p o):=fun h=>ovB_false.1 h
 have HT:Hid (ovB p o=true→OutOk p o):=fun h=>ovB_iff.1 h
 have hmk:=run_make_any (P:=Try.prog) 50 111 _ 1 24 Try.underlying50 Try.infoSs 4096 (by omega) (by omega)
 have hmkT:∀ w,(Instr.makeSlice 50 (.int .i64 4096) (.int .i64 4096)).run Try.prog w=.ok (.slice (some ⟨w.heap.size,0,none⟩) 4096 4096) (w.alloc (.cells (madeCells #[.slice none 0 0] 4096) 111)):=fun w=>hmk w
 obtain⟨cur,hcur⟩:∃ cur,cur=madeCells #[Value.slice none 0 0] 4096:=⟨_,rfl⟩
 have Hcur:Hid (cur.size=4096∧∀ i,i<4096→cur[i]?=some (.slice none 0 0)):=by
  rw [hcur]
  exact⟨size_madeCells _ _,fun i hi=>by rw [← Array.getElem?_toList,made_rep,List.getElem?_replicate,if_pos hi]⟩
 rw [← hcur] at hmkT
 clear hmk hcur hI hr
 go_enter Try.func6,Try.ntmps6
 go_wp2_with fail
 refine hov.mono ?_
 rintro e1 w1 ⟨rfl,hb1⟩
 clear hov
 cases hb:ovB p o
 ·have Hn:=Lib.hid (HF.out hb)
  clear hb HT HF hmkT
  go_wp2_with fail
  refine bodyPost_ret (v:=.tuple #[.slice (some ⟨w1.heap.size,0,none⟩) 0 0,.bool false]) (by simp [results,Try.results6,go_sem]) rfl ?_
  exact⟨_,_,none,rfl,⟨_,_,rfl,by simp,fun i hi=>absurd hi (Nat.not_lt_zero _)⟩,hb1.alloc hb1.size _,.inr ⟨Hn.out,rfl⟩⟩
 ·have Hok:Hid (OutOk p o):=HT.out hb
  have h3:=Hok.out.1.1.1
  have HPr1:=Lib.hid (HR.out.le (Le.below hb1))
  have HI1:=Lib.hid (HI.out.le (Le.below hb1))
  have HSt:Hid (∀ X,Below w1.heap.size w1 X→Calls Try.prog 24 #[.slice Ap p.length cp] X (fun e X'=>∃ q:L5,e=.returned (.agg #[.slice (some ⟨q.b1,0,none⟩) p.length q.c1,.slice (some ⟨q.b2,0,none⟩) (p.length*3) q.c2,.slice (some ⟨q.b3,0,none⟩) p.length q.c3,.slice (some ⟨q.b4,0,none⟩) 3 q.c4])∧Rep5 (above X.heap.size X') q p (vt0 p)∧Below X.heap.size X X')):=fun X hX=>l5Start_any p Hok.out.1 X _ (HPr1.out.le (Le.below hX))
  have HFd:Hid (∀ X g (q:L5),Below w1.heap.size w1 X→w1.heap.size≤g→Own X g 111 cur→Rep5 (hidP (fun b=>b=g) X) q p (vt0 p) →
    Calls Try.prog 23 #[.slice Ap p.length cp,.agg #[.slice (some ⟨q.b1,0,none⟩) p.length q.c1,.slice (some ⟨q.b2,0,none⟩) (p.length*3) q.c2,.slice (some ⟨q.b3,0,none⟩) p.length q.c3,.slice (some ⟨q.b4,0,none⟩) 3 q.c4],.slice A o.length c,.slice (some ⟨g,0,none⟩) 4096 4096] X (RetFSV p o W)):=fun X g q hX hg hT hrep=>by
   have hle:Le (hidP (fun b=>b=g) X) (hidP (OwT g (fun _=>none)) X):=fun x u hc=>by
    obtain⟨h1,h2⟩:=cell_hidP.1 hc
    exact cell_hidP.2 ⟨fun h=>h1 (owT_none h),h2⟩
   have hle2:Le w1 (hidP (OwT g (fun _=>none)) X):=Le.to_hidP hX fun i hi=>by rw [owT_none hi]; exact hg
   have hTab:TabK X g (fun _=>none) (([]:List VSt).map keyVS):=⟨fun _=>[],TabM.made hT Hcur.out.1 Hcur.out.2,fun k=>by simp,fun i=>by simp⟩
   refine (findV_all p Hok.out.1 o Hok.out.2.1 g A c Ap cp (potV (vt0 p)) (vt0 p) (Nat.le_refl _) .start X (fun _=>none) [] q hTab (HPr1.out.le hle2) (HI1.out.le hle2) (hrep.le hle) ⟨by simp,fun x hx=>(by cases hx),fun x hx=>(by cases hx)⟩).mono ?_
   rintro e W' ⟨Az,cz,l,ok,bs',G',rfl,hIz,_,hm,_,_,_,_,hres⟩
   have hBz:Below W.heap.size W W':=(hb1.trans (hX.mono hb1.size)).trans (hm.below (fun i hi=>by rw [owT_none hi]; have:=hb1.size; omega) (Nat.le_trans hb1.size hX.size))
   rcases hres with ⟨rfl,hf⟩ | ⟨rfl,rfl,hng,_⟩
   ·exact⟨Az,cz,some l,rfl,hIz.le (Le.hidP _ _),hBz,.inl ⟨Hok.out,.inl ⟨l,rfl,hf⟩⟩⟩
   ·exact⟨Az,cz,none,rfl,hIz.le (Le.hidP _ _),hBz,.inl ⟨Hok.out,.inr ⟨rfl,hng⟩⟩⟩
  have HB0:=Lib.hid (Below.refl w1.heap.size w1)
  clear hb HT HF
  go_wp2_with fail
  go_region_with (first
   | ((go_at_call 24; first
     | ((refine (HSt.out _ HB0.out.drew).mono ?_; rintro e5 w5 ⟨q,rfl,hr5,hb5⟩; have HB5:Below w1.heap.size w1 w5:=HB0.out.drew.trans hb5; have HR5:Rep5 w5 q p (vt0 p):=hr5.le (Le.above _ _); clear hr5))
     | ((refine (HSt.out _ (HB0.out.drew.alloc (Nat.le_refl _) _)).mono ?_; rintro e5 w5 ⟨q,rfl,hr5,hb5⟩; have HB5:Below w1.heap.size w1 w5:=(HB0.out.drew.alloc (Nat.le_refl _) (.cells cur 111)).trans (hb5.mono (by simp)); have HR5:Rep5 (above (w1.heap.size+1) w5) q p (vt0 p):=hr5.le (Le.above_mono (by simp) _); have HT5:Own w5 w1.heap.size 111 cur:=(Own.new w1.drew 111 cur).under hb5; clear hr5))))
   | ((go_at_call 23; first
     | ((refine (HFd.out w5 w1.heap.size q HB5 (Nat.le_refl _) HT5 (HR5.le (Le.above_hidP (fun i hi=>by omega)))).mono ?_; rintro e9 w9 ⟨A9,c9,r,rfl,hI9,hB9,hF9⟩))
     | ((refine (HFd.out (w5.alloc (.cells cur 111)) w5.heap.size q (HB5.alloc HB5.size _) HB5.size (Own.new w5 111 cur) (HR5.le (fun x u hc=>cell_hidP.2 ⟨by have:=World.block_lt_of_cell? _ _ hc; omega,Le.alloc _ _ _ _ hc⟩))).mono ?_; rintro e9 w9 ⟨A9,c9,r,rfl,hI9,hB9,hF9⟩)))))
  all_goals
   have HX:=Lib.hid (And.intro hI9 (And.intro hB9 hF9))
   clear hI9 hB9 hF9
   go_wp2_with fail
   refine bodyPost_ret (v:=.tuple #[.slice A9 (r.getD []).length c9,.bool r.isSome]) (by simp [results,Try.results6,go_sem]) rfl ?_
   exact⟨A9,c9,r,rfl,HX.out⟩
end Go.Proofs.Ytojmofnamppbdaa
