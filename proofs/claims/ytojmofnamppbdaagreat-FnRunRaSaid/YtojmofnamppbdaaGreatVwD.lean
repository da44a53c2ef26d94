/-
  Views: outcomes with buffers lie within them (the lag of views behind buffers). No program in sight. UNDER WAY. Views: outcomes with buffers lie within them: buffers and views side by side, step by step. No program in sight.
-/
import Derived.Test.YtojmofnamppbdaaGreatVwA
import Derived.Test.YtojmofnamppbdaaGreatBufA
namespace Go.Proofs.YtojmofnamppbdaaGreat
set_option linter.unusedVariables false
theorem bump_id {l k:Nat} {v:List Nat} (h:atV v l<k):bumpV l k v=v:=by
 unfold bumpV
 rw [if_neg (by omega)]
 apply List.ext_getElem
 ·rw [List.length_set]
 ·intro i h1 h2
  rw [List.getElem_set]
  split
  ·rename_i e
   subst e
   unfold atV
   rw [List.getD_eq_getElem?_getD,List.getElem?_eq_getElem h2]
   rfl
  ·rfl
theorem put_end {p:Prg} {s:VSt} {N:Nat→Nat} (hs:VO1 p s N) {t l:Nat} {v:Int} (ht:t<p.length) (hl:l<3):
  (∀ j,lstV (putV s t l (lstV s l).length v) j=if j=l then lstV s l++[⟨v,false,(ownV s t).set l (lstV s l).length⟩] else lstV s j) ∧
  ∀ u,ownV (putV s t l (lstV s l).length v) u=if u=t then (ownV s t).set l (lstV s l).length else ownV s u:=by
 have hvw:∀ w,ViewOk s.lists w→bumpV l (lstV s l).length w=w:=fun w hw=>bump_id (hw.2 l hl)
 have hot:=own_ok hs ht
 have hms:∀ j,(s.lists.getD j []).map (bumpM l (lstV s l).length)=s.lists.getD j []:=fun j=>by
  refine (List.map_congr_left fun m hm=>?_).trans (List.map_id _)
  rcases Nat.lt_or_ge j s.lists.length with hj | hj
  ·have hin:s.lists.getD j []∈s.lists:=by rw [List.getD_eq_getElem?_getD,List.getElem?_eq_getElem hj]; exact List.getElem_mem hj
   unfold bumpM
   rw [hvw _ (hs.vals _ hin m hm).2]
   rfl
  ·rw [List.getD_eq_getElem?_getD,List.getElem?_eq_none hj] at hm
   cases hm
 refine⟨fun j=>?_,fun u=>?_⟩
 ·show (putV s t l (lstV s l).length v).lists.getD j []=_
  have hll:l<s.lists.length:=by rw [hs.len]; exact hl
  rw [ins_lists,show (lstV s l).length=(s.lists.getD l []).length from rfl,insL_end hll]
  have hml:=hms l
  have hmj:=hms j
  have hbo:=hvw _ hot
  unfold lstV at hml hmj hbo ⊢
  rw [hml,hmj,hbo]
 ·show ((s.own.map (bumpV l (lstV s l).length)).set t _).getD u [0,0,0]=_
  rw [hvw _ hot]
  by_cases e:u=t
  ·subst e
   rw [if_pos rfl,own_set (by rw [List.length_map,hs.ownl]; exact ht)]
  ·rw [if_neg e]
   unfold ownV
   rw [List.getD_eq_getElem?_getD,List.getElem?_set_ne (fun k=>e k.symm),List.getElem?_map,List.getD_eq_getElem?_getD]
   cases hg:s.own[u]? with
   | none=>rfl
   | some w=>
    simp only [Option.map_some,Option.getD_some]
    exact hvw w (hs.owns w (List.mem_of_getElem? hg))
inductive Lag where
 | st (x:Ins) (v:Int)
 | lm (x:Ins) (idx:Nat)
 | lo (x:Ins) (v:Int)
def Lag.ins:Lag→Ins
 | .st x _=>x
 | .lm x _=>x
 | .lo x _=>x
def upF {α:Type} (f:Nat→α) (i:Nat) (v:α):Nat→α:=fun j=>if j=i then v else f j
def msgL (ls:List (List Msg)) (l k:Nat):Msg:=gM (ls.getD l []) k
def joinF (vt:Nat→Nat) (v:List Nat):Nat→Nat:=fun l=>max (vt l) (atV v l)
def LagOk (ls:List (List Msg)):(Nat→Nat)→(Nat→Option Int)→(Nat→Int)→List Lag→Prop
 | _,_,_,[]=>True
 | vt,src,f,.st x v::I=>(x.op=2∨x.op=3)∧x.loc.toNat<3∧v=(if x.op=3 then f x.reg.toNat else x.val)∧LagOk ls vt (upF src x.loc.toNat (some v)) f I
 | vt,src,f,.lm x idx::I=>x.op=1∧x.loc.toNat<3∧src x.loc.toNat=none∧vt x.loc.toNat≤idx∧idx<(ls.getD x.loc.toNat []).length∧LagOk ls (joinF vt (msgL ls x.loc.toNat idx).view) src (upF f x.reg.toNat (msgL ls x.loc.toNat idx).val) I
 | vt,src,f,.lo x v::I=>x.op=1∧x.loc.toNat<3∧(src x.loc.toNat=some v∨(src x.loc.toNat=none∧vt x.loc.toNat<(ls.getD x.loc.toNat []).length∧(msgL ls x.loc.toNat (vt x.loc.toNat)).val=v∧∀ j,j<3→atV (msgL ls x.loc.toNat (vt x.loc.toNat)).view j≤vt j))∧LagOk ls vt src (upF f x.reg.toNat v) I
def GrowL (ls ls':List (List Msg)):Prop:=∀ l k,k<(ls.getD l []).length→k<(ls'.getD l []).length∧(msgL ls' l k).val=(msgL ls l k).val∧(msgL ls' l k).view=(msgL ls l k).view
theorem lag_grow {ls ls':List (List Msg)} (h:GrowL ls ls'):∀ {I:List Lag} {vt:Nat→Nat} {src:Nat→Option Int} {f:Nat→Int},LagOk ls vt src f I→LagOk ls' vt src f I
 | [],_,_,_,_=>trivial
 | .st x v::I,_,_,_,hk=>⟨hk.1,hk.2.1,hk.2.2.1,lag_grow h hk.2.2.2⟩
 | .lm x idx::I,_,_,_,⟨h1,h2,h3,h4,h5,h6⟩=>by
  obtain⟨k1,k2,k3⟩:=h _ _ h5
  exact⟨h1,h2,h3,h4,k1,by rw [k2,k3]; exact lag_grow h h6⟩
 | .lo x v::I,_,_,_,⟨h1,h2,h3,h4⟩=>by
  refine⟨h1,h2,?_,lag_grow h h4⟩
  rcases h3 with h3 | ⟨h3,h5,h6,h7⟩
  ·exact .inl h3
  ·obtain⟨k1,k2,k3⟩:=h _ _ h5
   exact .inr ⟨h3,k1,by rw [k2]; exact h6,by rw [k3]; exact h7⟩
theorem upF_self {α:Type} (f:Nat→α) (i:Nat) (v:α):upF f i v i=v:=if_pos rfl
theorem upF_ne {α:Type} (f:Nat→α) {i j:Nat} (v:α) (h:j≠i):upF f i v j=f j:=if_neg h
theorem lag_flush {ls:List (List Msg)} {l n:Nat} {v:Int} (hn:n<(ls.getD l []).length) (hval:(msgL ls l n).val=v) (hb:∀ l' k,l'≠l→k<(ls.getD l' []).length→atV (msgL ls l' k).view l≤n):
  ∀ {I:List Lag} {vt vt':Nat→Nat} {src src':Nat→Option Int} {f:Nat→Int},(∀ j,j≠l→vt' j=vt j∧src' j=src j)→vt l≤vt' l→((src l=some v∧src' l=none∧vt' l=n∧∀ j,j<3→atV (msgL ls l n).view j≤vt' j)∨∃ w,src l=some w∧src' l=some w)→LagOk ls vt src f I→LagOk ls vt' src' f I
 | [],_,_,_,_,_,_,_,_,_=>trivial
 | .st x w::I,vt,vt',src,src',f,hne,hle,hl,⟨h1,h2,h3,h4⟩=>by
  refine⟨h1,h2,h3,lag_flush hn hval hb (fun j hj=>⟨(hne j hj).1,?_⟩) hle ?_ h4⟩
  ·unfold upF
   split
   ·rfl
   ·exact (hne j hj).2
  ·by_cases e:l=x.loc.toNat
   ·right
    exact⟨w,by rw [e]; exact upF_self _ _ _,by rw [e]; exact upF_self _ _ _⟩
   ·rw [upF_ne _ _ e,upF_ne _ _ e]
    exact hl
 | .lm x idx::I,vt,vt',src,src',f,hne,hle,hl,⟨h1,h2,h3,h4,h5,h6⟩=>by
  have hx:x.loc.toNat≠l:=fun e=>by
   rw [e] at h3
   rcases hl with ⟨k,_⟩ | ⟨w,k,_⟩ <;> (rw [h3] at k; cases k)
  obtain⟨e1,e2⟩:=hne _ hx
  refine⟨h1,h2,by rw [e2]; exact h3,by rw [e1]; exact h4,h5,lag_flush hn hval hb (fun j hj=>⟨?_,(hne j hj).2⟩) ?_ ?_ h6⟩
  ·unfold joinF
   rw [(hne j hj).1]
  ·unfold joinF
   omega
  ·rcases hl with ⟨k1,k2,k3,k4⟩ | k
   ·left
    have hb':=hb _ idx hx h5
    refine⟨k1,k2,?_,fun j hj=>?_⟩
    ·unfold joinF
     rw [k3]
     omega
    ·have:=k4 j hj
     unfold joinF
     omega
   ·exact .inr k
 | .lo x w::I,vt,vt',src,src',f,hne,hle,hl,⟨h1,h2,h3,h4⟩=>by
  refine⟨h1,h2,?_,lag_flush hn hval hb hne hle hl h4⟩
  by_cases e:x.loc.toNat=l
  ·rw [e] at h3 ⊢
   rcases hl with ⟨k1,k2,k3,k4⟩ | ⟨u,k1,k2⟩
   ·rcases h3 with h3 | ⟨h3,_⟩
    ·rw [k1] at h3
     injection h3 with h3
     subst h3
     exact .inr ⟨k2,by rw [k3]; exact hn,by rw [k3]; exact hval,by rw [k3]; exact k4⟩
    ·rw [k1] at h3; cases h3
   ·rcases h3 with h3 | ⟨h3,_⟩
    ·rw [k1] at h3
     exact .inl (by rw [k2]; exact h3)
    ·rw [k1] at h3; cases h3
  ·obtain⟨e1,e2⟩:=hne _ e
   rcases h3 with h3 | ⟨h3,h5,h6,h7⟩
   ·exact .inl (by rw [e2]; exact h3)
   ·refine .inr ⟨by rw [e2]; exact h3,by rw [e1]; exact h5,by rw [e1]; exact h6,fun j hj=>?_⟩
    rw [e1]
    by_cases ej:j=l
    ·rw [ej]
     have:=h7 j hj
     rw [ej] at this
     omega
    ·rw [(hne j ej).1]
     exact h7 j hj
def vtE (ls:List (List Msg)):(Nat→Nat)→List Lag→Nat→Nat
 | vt,[]=>vt
 | vt,.lm x idx::I=>vtE ls (joinF vt (msgL ls x.loc.toNat idx).view) I
 | vt,.st _ _::I=>vtE ls vt I
 | vt,.lo _ _::I=>vtE ls vt I
def srcE:(Nat→Option Int)→List Lag→Nat→Option Int
 | src,[]=>src
 | src,.st x v::I=>srcE (upF src x.loc.toNat (some v)) I
 | src,.lm _ _::I=>srcE src I
 | src,.lo _ _::I=>srcE src I
def fE (ls:List (List Msg)):(Nat→Int)→List Lag→Nat→Int
 | f,[]=>f
 | f,.st _ _::I=>fE ls f I
 | f,.lm x idx::I=>fE ls (upF f x.reg.toNat (msgL ls x.loc.toNat idx).val) I
 | f,.lo x v::I=>fE ls (upF f x.reg.toNat v) I
theorem lag_app {ls:List (List Msg)} {J:List Lag}:∀ {I:List Lag} {vt:Nat→Nat} {src:Nat→Option Int} {f:Nat→Int},LagOk ls vt src f (I++J)↔LagOk ls vt src f I∧LagOk ls (vtE ls vt I) (srcE src I) (fE ls f I) J
 | [],_,_,_=>by simp [LagOk,vtE,srcE,fE]
 | .st x v::I,vt,src,f=>by
  have ih:=lag_app (ls:=ls) (J:=J) (I:=I) (vt:=vt) (src:=upF src x.loc.toNat (some v)) (f:=f)
  simp only [List.cons_append,LagOk,vtE,srcE,fE,ih,and_assoc]
 | .lm x idx::I,vt,src,f=>by
  have ih:=lag_app (ls:=ls) (J:=J) (I:=I) (vt:=joinF vt (msgL ls x.loc.toNat idx).view) (src:=src) (f:=upF f x.reg.toNat (msgL ls x.loc.toNat idx).val)
  simp only [List.cons_append,LagOk,vtE,srcE,fE,ih,and_assoc]
 | .lo x v::I,vt,src,f=>by
  have ih:=lag_app (ls:=ls) (J:=J) (I:=I) (vt:=vt) (src:=src) (f:=upF f x.reg.toNat v)
  simp only [List.cons_append,LagOk,vtE,srcE,fE,ih,and_assoc]
theorem vtE_lt {ls:List (List Msg)} (hb:∀ l k,l<3→k<(ls.getD l []).length→∀ j,j<3→atV (msgL ls l k).view j<(ls.getD j []).length):∀ {I:List Lag} {vt:Nat→Nat} {src:Nat→Option Int} {f:Nat→Int},LagOk ls vt src f I→(∀ j,j<3→vt j<(ls.getD j []).length)→∀ j,j<3→vtE ls vt I j<(ls.getD j []).length
 | [],_,_,_,_,hv=>hv
 | .st x v::I,_,_,_,h,hv=>vtE_lt hb (I:=I) h.2.2.2 hv
 | .lo x v::I,_,_,_,h,hv=>vtE_lt hb (I:=I) h.2.2.2 hv
 | .lm x idx::I,vt,src,f,⟨_,h2,_,_,h5,h6⟩,hv=>vtE_lt hb (I:=I) h6 fun j hj=>by
  have h1:=hv j hj
  have h3:=hb _ idx h2 h5 j hj
  unfold joinF
  omega
def waitL:List Lag→List (Int×Int)
 | []=>[]
 | .st x v::I=>(x.loc,v)::waitL I
 | .lm _ _::I=>waitL I
 | .lo _ _::I=>waitL I
theorem waitL_app:∀ I J:List Lag,waitL (I++J)=waitL I++waitL J
 | [],J=>rfl
 | .st x v::I,J=>by simp only [List.cons_append,waitL,waitL_app I J]
 | .lm x v::I,J=>by simp only [List.cons_append,waitL,waitL_app I J]
 | .lo x v::I,J=>by simp only [List.cons_append,waitL,waitL_app I J]
theorem srcE_app:∀ (I J:List Lag) (src:Nat→Option Int),srcE src (I++J)=srcE (srcE src I) J
 | [],J,src=>rfl
 | .st x v::I,J,src=>by simp only [List.cons_append,srcE,srcE_app I J]
 | .lm x v::I,J,src=>by simp only [List.cons_append,srcE,srcE_app I J]
 | .lo x v::I,J,src=>by simp only [List.cons_append,srcE,srcE_app I J]
theorem seen_src {l:Nat} {m:Int}:∀ (n:Nat) (I:List Lag),I.length=n→(∀ a∈I,0≤a.ins.loc)→seenB (waitL I) (l:Int) m=(srcE (fun _=>none) I l).getD m:=fun n=>by
 induction n with
 | zero=>
  intro I h _
  obtain rfl:=List.length_eq_zero_iff.1 h
  rfl
 | succ n ih=>
  intro I h hl
  obtain⟨J,a,rfl⟩:∃ J a,I=J++[a]:=⟨I.dropLast,I.getLast (by intro e; rw [e] at h; simp at h),(List.dropLast_concat_getLast _).symm⟩
  have hJ:=ih J (by simpa using h) fun b hb=>hl b (by simp [hb])
  have ha:=hl a (by simp)
  rw [waitL_app,srcE_app]
  cases a with
  | st x v=>
   rw [show waitL [Lag.st x v]=[(x.loc,v)] from rfl,seen_snoc,hJ]
   have ha:0≤x.loc:=ha
   show (if x.loc=(l:Int) then v else _)=(upF (srcE (fun _=>none) J) x.loc.toNat (some v) l).getD m
   by_cases e:x.loc=(l:Int)
   ·rw [if_pos e,show l=x.loc.toNat by omega,upF_self]
    rfl
   ·rw [if_neg e,upF_ne _ _ (by omega)]
  | lm x idx=>
   rw [show waitL [Lag.lm x idx]=[] from rfl,List.append_nil,hJ]
   rfl
  | lo x v=>
   rw [show waitL [Lag.lo x v]=[] from rfl,List.append_nil,hJ]
   rfl
end Go.Proofs.YtojmofnamppbdaaGreat
namespace Go.Proofs.YtojmofnamppbdaaGreat
set_option linter.unusedVariables false
def regF (rs:List Int) (t:Nat):Nat→Int:=fun r=>if r<3 then rs.getD (t*3+r) 0 else 0
theorem regF_set {rs:List Int} {t r:Nat} {v:Int} (hr:r<3) (h:t*3+r<rs.length) (u:Nat):regF (rs.set (t*3+r) v) u=if u=t then upF (regF rs t) r v else regF rs u:=by
 funext j
 unfold regF upF
 by_cases e:u=t
 ·subst e
  rw [if_pos rfl]
  by_cases hj:j<3
  ·simp only [if_pos hj,getD_setP 0 rs _ _ v h]
   by_cases ej:j=r
   ·rw [if_pos ej,if_pos (by omega)]
   ·rw [if_neg ej,if_neg (by omega)]
  ·simp only [if_neg hj]
   rw [if_neg (by omega)]
 ·rw [if_neg e]
  by_cases hj:j<3
  ·simp only [if_pos hj,getD_setP 0 rs _ _ v h]
   rw [if_neg (by omega)]
  ·simp only [if_neg hj]
theorem drop_cons {α:Type} {l r:List α} {i:Nat} {x d:α} (h:l.drop i=x::r):i<l.length∧l.getD i d=x∧l.drop (i+1)=r:=by
 have hi:i<l.length:=by
  rcases Nat.lt_or_ge i l.length with h1 | h1
  ·exact h1
  ·rw [List.drop_of_length_le h1] at h; cases h
 rw [List.drop_eq_getElem_cons hi] at h
 injection h with h1 h2
 exact⟨hi,by rw [List.getD_eq_getElem?_getD,List.getElem?_eq_getElem hi,Option.getD_some]; exact h1,h2⟩
theorem join_fun {u v:List Nat} (hu:u.length=3) (hv:v.length=3):atV (joinV u v)=joinF (atV u) v:=by
 funext l
 rcases Nat.lt_or_ge l 3 with h | h
 ·exact join_at hu hv l h
 ·unfold joinF atV
  simp only [List.getD_eq_getElem?_getD]
  rw [List.getElem?_eq_none (by rw [join_len hu hv]; exact h),List.getElem?_eq_none (by omega),List.getElem?_eq_none (by omega)]
  rfl
theorem fE_app (ls:List (List Msg)):∀ (I J:List Lag) (f:Nat→Int),fE ls f (I++J)=fE ls (fE ls f I) J
 | [],J,f=>rfl
 | .st x v::I,J,f=>by simp only [List.cons_append,fE,fE_app ls I J]
 | .lm x v::I,J,f=>by simp only [List.cons_append,fE,fE_app ls I J]
 | .lo x v::I,J,f=>by simp only [List.cons_append,fE,fE_app ls I J]
theorem fE_grow {ls ls':List (List Msg)} (h:GrowL ls ls'):∀ {I:List Lag} {vt:Nat→Nat} {src:Nat→Option Int} {f:Nat→Int},LagOk ls vt src f I→fE ls' f I=fE ls f I
 | [],_,_,_,_=>rfl
 | .st x v::I,_,_,_,hk=>by
  simp only [fE]
  exact fE_grow h hk.2.2.2
 | .lm x idx::I,_,_,_,⟨h1,h2,h3,h4,h5,h6⟩=>by
  obtain⟨k1,k2,k3⟩:=h _ _ h5
  simp only [fE]
  rw [k2]
  exact fE_grow h h6
 | .lo x v::I,_,_,_,⟨h1,h2,h3,h4⟩=>by
  simp only [fE]
  exact fE_grow h h4
structure SimV (p:Prg) (b:BSt) (s:VSt) (lag:Nat→List Lag):Prop where
 rb:Reach (sucB p false) (bt0 p false) b
 rs:Reach (sucV p) (vt0 p) s
 pc:∀ t,t<p.length→pcS b.s t=pcS s.s t+(lag t).length
 ins:∀ t,t<p.length→(thrP p t).drop (pcS s.s t)=(lag t).map Lag.ins++(thrP p t).drop (pcS b.s t)
 buf:∀ t,t<p.length→bufB b t=waitL (lag t)
 reg:∀ t,t<p.length→regF b.s.regs t=fE s.lists (regF s.s.regs t) (lag t)
 mem:∀ l,l<3→b.s.mem.getD l 0=lastV (lstV s l)
 ok:∀ t,t<p.length→LagOk s.lists (atV (ownV s t)) (fun _=>none) (regF s.s.regs t) (lag t)
theorem own_setO {L:List (List Nat)} {t u:Nat} {v:List Nat} (h:u≠t):(L.set t v).getD u [0,0,0]=L.getD u [0,0,0]:=by
 simp only [List.getD_eq_getElem?_getD]
 rw [List.getElem?_set_ne (fun k=>h k.symm)]
theorem InsOk.reg3 {x:Ins} (hx:InsOk x):x.reg.toNat<3:=by rcases hx with h | h | h | h <;> omega
theorem SimV.load {p:Prg} {b:BSt} {s:VSt} {lag:Nat→List Lag} (hp:PrgOk p) (h:SimV p b s lag) {t k:Nat} (ht:t<p.length) {a:Lag} {I:List Lag} (hl:lag t=a::I) (h1:a.ins.op=1)
  (hk:atV (ownV s t) a.ins.loc.toNat≤k) (hk':k<(lstV s a.ins.loc.toNat).length)
  (hok:LagOk s.lists (joinF (atV (ownV s t)) (msgL s.lists a.ins.loc.toNat k).view) (fun _=>none) (upF (regF s.s.regs t) a.ins.reg.toNat (msgL s.lists a.ins.loc.toNat k).val) I)
  (hf:fE s.lists (regF s.s.regs t) (a::I)=fE s.lists (upF (regF s.s.regs t) a.ins.reg.toNat (msgL s.lists a.ins.loc.toNat k).val) I) (hw:waitL (a::I)=waitL I):∃ s',SimV p b s' (upF lag t I):=by
 have hv:=reachV_ok hp h.rs
 have hin:=h.ins t ht
 rw [hl,List.map_cons,List.cons_append] at hin
 obtain⟨hlt,hix,hdr⟩:=drop_cons (d:=⟨0,0,0,0⟩) hin
 have hix:insS p s.s t=a.ins:=hix
 have hx:=ins_ok hp hlt
 rw [hix] at hx
 have hl3:a.ins.loc.toNat<3:=by have:=hx.loc; omega
 have hr3:=hx.reg3
 have hcan:canV p s t k=true:=by
  unfold canV
  simp only [hix]
  rw [if_neg (by omega),if_pos h1]
  unfold onS
  simp [hlt,hk,hk']
 have hr':=reach_do hp h.rs ht hcan
 have hrd:rdB a.ins=true:=by simp [rdB,h1]
 have hwr:wrB a.ins=false:=by simp [wrB,h1]
 have he:doV s t (insS p s.s t) k=rdV s t a.ins k:=by rw [hix]; unfold doV; rw [if_neg (by omega),if_neg (by rw [hwr]; decide)]
 rw [he] at hr'
 have hpc:∀ u,pcS (rdV s t a.ins k).s u=if u=t then pcS s.s t+1 else pcS s.s u:=pcV_set hv.ok ht _ _
 have hrg:(rdV s t a.ins k).s.regs=s.s.regs.set (t*3+a.ins.reg.toNat) (msgL s.lists a.ins.loc.toNat k).val:=if_pos hrd
 have hre:∀ u,regF (rdV s t a.ins k).s.regs u=if u=t then upF (regF s.s.regs t) a.ins.reg.toNat (msgL s.lists a.ins.loc.toNat k).val else regF s.s.regs u:=fun u=>by
  rw [hrg]
  exact regF_set hr3 (by rw [hv.ok.regl]; omega) u
 have hos:(rdV s t a.ins k).own=s.own.set t (joinV (ownV s t) (msgL s.lists a.ins.loc.toNat k).view):=if_pos hrd
 have hmv:=(gM_ok hv hl3 (k:=k) (by rw [← hv.pos _ hl3]; exact hk')).2
 have how:∀ u,atV (ownV (rdV s t a.ins k) u)=if u=t then joinF (atV (ownV s t)) (msgL s.lists a.ins.loc.toNat k).view else atV (ownV s u):=fun u=>by
  unfold ownV
  rw [hos]
  by_cases e:u=t
  ·subst e
   rw [if_pos rfl,own_set (by rw [hv.ownl]; exact ht)]
   exact join_fun (own_ok hv ht).1 hmv.1
  ·rw [if_neg e,own_setO e]
 refine⟨rdV s t a.ins k,h.rb,hr',fun u hu=>?_,fun u hu=>?_,fun u hu=>?_,fun u hu=>?_,h.mem,fun u hu=>?_⟩
 ·have h2:=h.pc u hu
  rw [hpc]
  by_cases e:u=t
  ·subst e
   rw [if_pos rfl,upF_self,h2,hl,List.length_cons]
   omega
  ·rw [if_neg e,upF_ne _ _ e]
   exact h2
 ·rw [hpc]
  by_cases e:u=t
  ·subst e
   rw [if_pos rfl,upF_self]
   exact hdr
  ·rw [if_neg e,upF_ne _ _ e]
   exact h.ins u hu
 ·have h2:=h.buf u hu
  by_cases e:u=t
  ·subst e
   rw [upF_self,h2,hl,hw]
  ·rw [upF_ne _ _ e]
   exact h2
 ·have h2:=h.reg u hu
  rw [hre]
  by_cases e:u=t
  ·subst e
   rw [if_pos rfl,upF_self,h2,hl]
   exact hf
  ·rw [if_neg e,upF_ne _ _ e]
   exact h2
 ·rw [hre,how]
  by_cases e:u=t
  ·subst e
   rw [if_pos rfl,if_pos rfl,upF_self]
   exact hok
  ·rw [if_neg e,if_neg e,upF_ne _ _ e]
   exact h.ok u hu
theorem SimV.drain {p:Prg} {b:BSt} (hp:PrgOk p) {t:Nat} (ht:t<p.length):∀ (n:Nat) {s:VSt} {lag:Nat→List Lag},(lag t).length=n→SimV p b s lag→∃ s' lag',SimV p b s' lag'∧(∀ u,u≠t→lag' u=lag u)∧(lag' t=[]∨∃ x v I,lag' t=.st x v::I):=fun n=>by
 induction n with
 | zero=>
  intro s lag hn h
  exact⟨s,lag,h,fun _ _=>rfl,.inl (List.length_eq_zero_iff.1 hn)⟩
 | succ n ih=>
  intro s lag hn h
  have hok:=h.ok t ht
  cases hl:lag t with
  | nil=>rw [hl] at hn; cases hn
  | cons a I=>
   have hI:I.length=n:=by rw [hl] at hn; simpa using hn
   rw [hl] at hok
   have go:(∃ s',SimV p b s' (upF lag t I))→∃ s' lag',SimV p b s' lag'∧(∀ u,u≠t→lag' u=lag u)∧(lag' t=[]∨∃ x v I,lag' t=.st x v::I):=fun⟨s',h'⟩=>by
    obtain⟨s2,lag2,k1,k2,k3⟩:=ih (lag:=upF lag t I) (by rw [upF_self]; exact hI) h'
    exact⟨s2,lag2,k1,fun u hu=>(k2 u hu).trans (upF_ne _ _ hu),k3⟩
   cases a with
   | st x v=>exact⟨s,lag,h,fun _ _=>rfl,.inr ⟨x,v,I,hl⟩⟩
   | lm x idx=>
    obtain⟨h1,h2,h3,h4,h5,h6⟩:=hok
    exact go (h.load hp ht hl h1 h4 h5 h6 rfl rfl)
   | lo x v=>
    obtain⟨h1,h2,h3,h4⟩:=hok
    rcases h3 with h3 | ⟨_,h5,h6,h7⟩
    ·cases h3
    ·have hv:=reachV_ok hp h.rs
     have hmv:=(gM_ok hv h2 (k:=atV (ownV s t) x.loc.toNat) (by rw [← hv.pos _ h2]; exact h5)).2
     have hj:joinF (atV (ownV s t)) (msgL s.lists x.loc.toNat (atV (ownV s t) x.loc.toNat)).view=atV (ownV s t):=by
      funext j
      unfold joinF
      rcases Nat.lt_or_ge j 3 with hj | hj
      ·have:=h7 j hj
       omega
      ·have h8:atV (msgL s.lists x.loc.toNat (atV (ownV s t) x.loc.toNat)).view j=0:=by
        show (gM (lstV s x.loc.toNat) (atV (ownV s t) x.loc.toNat)).view.getD j 0=0
        rw [List.getD_eq_getElem?_getD,List.getElem?_eq_none (by rw [hmv.1]; exact hj)]
        rfl
       omega
     refine go (h.load (k:=atV (ownV s t) x.loc.toNat) hp ht hl h1 (Nat.le_refl _) h5 ?_ ?_ rfl)
     ·show LagOk s.lists (joinF (atV (ownV s t)) (msgL s.lists x.loc.toNat (atV (ownV s t) x.loc.toNat)).view) _ (upF _ x.reg.toNat (msgL s.lists x.loc.toNat (atV (ownV s t) x.loc.toNat)).val) I
      rw [hj,h6]
      exact h4
     ·show fE s.lists (upF _ x.reg.toNat v) I=fE s.lists (upF _ x.reg.toNat (msgL s.lists x.loc.toNat (atV (ownV s t) x.loc.toNat)).val) I
      rw [h6]
theorem gM_left {ms ns:List Msg} {k:Nat} (h:k<ms.length):gM (ms++ns) k=gM ms k:=by
 unfold gM
 simp only [List.getD_eq_getElem?_getD]
 rw [List.getElem?_append_left h]
theorem lst_out {s:VSt} {p:Prg} {N:Nat→Nat} (h:VO1 p s N) {l:Nat} (hl:3≤l):s.lists.getD l []=[]:=by
 rw [List.getD_eq_getElem?_getD,List.getElem?_eq_none (by rw [h.len]; exact hl)]
 rfl
theorem SimV.flush {p:Prg} {b:BSt} {s:VSt} {lag:Nat→List Lag} (hp:PrgOk p) (h:SimV p b s lag) {t:Nat} (ht:t<p.length) {x:Ins} {v:Int} {I:List Lag} (hl:lag t=.st x v::I):∃ s',SimV p (fluB b t) s' (upF lag t I):=by
 have hv:=reachV_ok hp h.rs
 have hbo:=reachB_ok hp h.rb
 have hu:=reachV_unl hp h.rs
 have hin:=h.ins t ht
 rw [hl,List.map_cons,List.cons_append] at hin
 obtain⟨hlt,hix,hdr⟩:=drop_cons (d:=⟨0,0,0,0⟩) hin
 have hix:insS p s.s t=x:=hix
 have hx:=ins_ok hp hlt
 rw [hix] at hx
 have hok:=h.ok t ht
 rw [hl] at hok
 obtain⟨h23,hl3,hval,hI⟩:=hok
 have hr3:=hx.reg3
 obtain⟨l,hle⟩:∃ l,l=x.loc.toNat:=⟨_,rfl⟩
 rw [← hle] at hl3 hI
 obtain⟨n,hn⟩:∃ n,n=(lstV s l).length:=⟨_,rfl⟩
 have hpos:0<n:=by rw [hn,hv.pos l hl3]; omega
 have hown:=own_ok hv ht
 have hcan:canV p s t n=true:=by
  unfold canV
  simp only [hix]
  rw [if_neg (by omega),if_neg (by omega),if_neg (by omega)]
  have h1:atV (ownV s t) l<n:=by rw [hn]; exact hown.2 l hl3
  have h2:=hu l hl3
  rw [← hn] at h2
  unfold onS
  rw [← hle,h2,← hn]
  simp [hlt,h1]
 have hr':=reach_do hp h.rs ht hcan
 have hrd:rdB x=false:=by rcases h23 with e | e <;> simp [rdB,e]
 have hwr:wrB x=true:=by rcases h23 with e | e <;> simp [wrB,e]
 have hvs:valS s.s t x=v:=by
  rw [hval]
  unfold valS regF
  rw [if_pos hr3]
  rfl
 have he:doV s t (insS p s.s t) n=putV (rdV s t x n) t l n v:=by
  rw [hix]
  unfold doV
  rw [if_neg (by omega),if_pos hwr,hvs,← hle]
 rw [he] at hr'
 have hv2:=hv.read ht hlt hx (k:=n) (fun hr=>by rw [hrd] at hr; cases hr)
 have hpe:=put_end hv2 (v:=v) ht hl3
 have hl2:∀ j,lstV (rdV s t x n) j=lstV s j:=fun _=>rfl
 have ho2:∀ u,ownV (rdV s t x n) u=ownV s u:=fun u=>by
  unfold ownV
  rw [show (rdV s t x n).own=s.own from if_neg (by rw [hrd]; decide)]
 rw [hl2,ho2,← hn] at hpe
 obtain⟨hL,hO⟩:=hpe
 simp only [hl2] at hL
 simp only [ho2] at hO
 have hpc:∀ u,pcS (putV (rdV s t x n) t l n v).s u=if u=t then pcS s.s t+1 else pcS s.s u:=pcV_set hv.ok ht _ _
 have hrg:(putV (rdV s t x n) t l n v).s.regs=s.s.regs:=if_neg (by rw [hrd]; decide)
 have hlen:∀ j,(lstV (putV (rdV s t x n) t l n v) j).length=(lstV s j).length+if j=l then 1 else 0:=fun j=>by
  rw [hL]
  by_cases e:j=l
  ·subst e; rw [if_pos rfl,if_pos rfl]; simp
  ·rw [if_neg e,if_neg e]; rfl
 have hms:∀ j k,k<(lstV s j).length→gM (lstV (putV (rdV s t x n) t l n v) j) k=gM (lstV s j) k:=fun j k hk=>by
  rw [hL]
  by_cases e:j=l
  ·subst e; rw [if_pos rfl,gM_left hk]
  ·rw [if_neg e]
 have hg:GrowL s.lists (putV (rdV s t x n) t l n v).lists:=fun j k hk=>by
  have h1:=hlen j
  have h2:=hms j k hk
  unfold lstV at h1
  unfold msgL
  unfold lstV at h2
  rw [h2]
  exact⟨by omega,rfl,rfl⟩
 have hnew:msgL (putV (rdV s t x n) t l n v).lists l n=⟨v,false,(ownV s t).set l n⟩:=by
  show gM (lstV _ l) n=_
  rw [hL,if_pos rfl,hn,gM_snoc]
 have hbuf:bufB b t=(x.loc,v)::waitL I:=by rw [h.buf t ht,hl]; rfl
 have hbl:t<b.bufs.length:=buf_lt hbuf
 generalize putV (rdV s t x n) t l n v=s' at hr' hL hO hpc hrg hlen hms hg hnew
 have hfl:=flu_eq hbuf
 have hrb:=Reach.flu hp h.rb hbuf
 rw [hfl] at hrb ⊢
 refine⟨s',hrb,hr',fun u hu=>?_,fun u hu=>?_,fun u hu=>?_,fun u hu=>?_,fun j hj=>?_,fun u hu=>?_⟩
 ·have h2:=h.pc u hu
  rw [hpc]
  show pcS b.s u=_
  by_cases e:u=t
  ·subst e
   rw [if_pos rfl,upF_self,h2,hl,List.length_cons]
   omega
  ·rw [if_neg e,upF_ne _ _ e]
   exact h2
 ·rw [hpc]
  show _=_++(thrP p u).drop (pcS b.s u)
  by_cases e:u=t
  ·subst e
   rw [if_pos rfl,upF_self]
   exact hdr
  ·rw [if_neg e,upF_ne _ _ e]
   exact h.ins u hu
 ·rw [buf_set hbl]
  by_cases e:u=t
  ·subst e
   rw [if_pos rfl,upF_self]
  ·rw [if_neg e,upF_ne _ _ e]
   exact h.buf u hu
 ·show regF b.s.regs u=_
  rw [hrg,h.reg u hu]
  have h2:=h.ok u hu
  by_cases e:u=t
  ·subst e
   rw [upF_self,hl]
   show fE s.lists _ I=_
   exact (fE_grow hg hI).symm
  ·rw [upF_ne _ _ e,fE_grow hg h2]
 ·show (b.s.mem.set x.loc.toNat v).getD j 0=_
  rw [getD_setP _ _ _ _ _ (by rw [hbo.ok.meml]; omega),hL,← hle]
  by_cases e:j=l
  ·rw [if_pos e,if_pos e,last_snoc]
  ·rw [if_neg e,if_neg e]
   exact h.mem j hj
 ·rw [hrg]
  by_cases e:u=t
  ·subst e
   rw [upF_self]
   have hat:∀ j,atV (ownV s' u) j=if j=l then n else atV (ownV s u) j:=fun j=>by
    rw [hO,if_pos rfl]
    exact at_set (by rw [hown.1]; exact hl3)
   refine lag_flush (l:=l) (n:=n) (v:=v) ?_ ?_ ?_ (src:=upF (fun _=>none) l (some v)) ?_ ?_ (.inl ⟨upF_self _ _ _,rfl,?_,?_⟩) (lag_grow hg hI)
   ·have:=hlen l
    rw [if_pos rfl] at this
    show n<(lstV s' l).length
    omega
   ·rw [hnew]
   ·intro j k hj hk
    have hk':k<(lstV s j).length:=by
     have:=hlen j
     rw [if_neg hj] at this
     have hk:k<(lstV s' j).length:=hk
     omega
    rcases Nat.lt_or_ge j 3 with h3 | h3
    ·have h4:=(gM_ok hv h3 (k:=k) (by rw [← hv.pos _ h3]; exact hk')).2.2 l hl3
     show atV (gM (lstV s' j) k).view l≤n
     rw [hms j k hk',hn]
     exact Nat.le_of_lt h4
    ·unfold lstV at hk'
     rw [lst_out hv h3] at hk'
     exact absurd hk' (Nat.not_lt_zero _)
   ·intro j hj
    rw [hat,if_neg hj,upF_ne _ _ hj]
    exact⟨rfl,rfl⟩
   ·rw [hat,if_pos rfl,hn]
    exact Nat.le_of_lt (hown.2 l hl3)
   ·rw [hat,if_pos rfl]
   ·intro j hj
    rw [hnew,hat]
    show atV ((ownV s u).set l n) j≤_
    rw [at_set (by rw [hown.1]; exact hl3)]
    exact Nat.le_refl _
  ·rw [upF_ne _ _ e,hO,if_neg e]
   exact lag_grow hg (h.ok u hu)
theorem SimV.ahead {p:Prg} {b:BSt} {s:VSt} {lag:Nat→List Lag} (hp:PrgOk p) (h:SimV p b s lag) {t:Nat} (ht:t<p.length) (hlt:pcS b.s t<(thrP p t).length) (hbk:blkI (insS p b.s t)=false):∃ a,SimV p (thrB false b t (insS p b.s t)) s (upF lag t (lag t++[a])):=by
 have hv:=reachV_ok hp h.rs
 have hbo:=reachB_ok hp h.rb
 have hx:=ins_ok hp hlt
 have hrb:=Reach.thr hp h.rb (mem_mvS.2 ⟨ht,hlt⟩) (.inl hbk)
 have hin:=ins_get hlt
 obtain⟨x,hxe⟩:∃ x,x=insS p b.s t:=⟨_,rfl⟩
 rw [← hxe] at hx hbk hrb hin ⊢
 have hl3:x.loc.toNat<3:=by have:=hx.loc; omega
 have hl0:0≤x.loc:=hx.loc.1
 have hr3:=hx.reg3
 have hpcs:∀ (regs mem:List Int) u,pcS ⟨b.s.pc.set t (pcS b.s t+1),regs,mem⟩ u=if u=t then pcS b.s t+1 else pcS b.s u:=fun regs mem u=>pcS_set hbo.ok ht u regs mem
 have hdr:(thrP p t).drop (pcS b.s t)=x::(thrP p t).drop (pcS b.s t+1):=by rw [List.drop_eq_getElem_cons hlt,hin]
 have hok:=h.ok t ht
 have hlag0:∀ a∈lag t,0≤a.ins.loc:=fun a ha=>by
  have h1:a.ins∈thrP p t:=by
   have h2:a.ins∈(thrP p t).drop (pcS s.s t):=by
    rw [h.ins t ht]
    exact List.mem_append_left _ (List.mem_map.2 ⟨a,ha,rfl⟩)
   exact List.mem_of_mem_drop h2
  exact ((thr_ok hp t).2 _ h1).loc.1
 -- what all three share
 have key:∀ (a:Lag) (b':BSt),a.ins=x→Reach (sucB p false) (bt0 p false) b'→(∀ u,pcS b'.s u=if u=t then pcS b.s t+1 else pcS b.s u)→(∀ u,u<p.length→bufB b' u=if u=t then waitL (lag t++[a]) else bufB b u) →
   (∀ u,u<p.length→regF b'.s.regs u=if u=t then fE s.lists (regF b.s.regs t) [a] else regF b.s.regs u)→b'.s.mem=b.s.mem→LagOk s.lists (vtE s.lists (atV (ownV s t)) (lag t)) (srcE (fun _=>none) (lag t)) (regF b.s.regs t) [a]→SimV p b' s (upF lag t (lag t++[a])):=fun a b' ha hr hpc hbf hrg hme hla=>by
  refine⟨hr,h.rs,fun u hu=>?_,fun u hu=>?_,fun u hu=>?_,fun u hu=>?_,by rw [hme]; exact h.mem,fun u hu=>?_⟩
  ·rw [hpc]
   by_cases e:u=t
   ·subst e
    rw [if_pos rfl,upF_self,h.pc u hu,List.length_append,List.length_singleton]
    omega
   ·rw [if_neg e,upF_ne _ _ e]
    exact h.pc u hu
  ·rw [hpc]
   by_cases e:u=t
   ·subst e
    rw [if_pos rfl,upF_self,h.ins u hu,hdr,List.map_append,List.append_assoc,← ha]
    rfl
   ·rw [if_neg e,upF_ne _ _ e]
    exact h.ins u hu
  ·rw [hbf u hu]
   by_cases e:u=t
   ·subst e
    rw [if_pos rfl,upF_self]
   ·rw [if_neg e,upF_ne _ _ e]
    exact h.buf u hu
  ·rw [hrg u hu]
   by_cases e:u=t
   ·subst e
    rw [if_pos rfl,upF_self,fE_app,h.reg u hu]
   ·rw [if_neg e,upF_ne _ _ e]
    exact h.reg u hu
  ·by_cases e:u=t
   ·subst e
    rw [upF_self,lag_app,← h.reg u hu]
    exact⟨hok,hla⟩
   ·rw [upF_ne _ _ e]
    exact h.ok u hu
 have hplF:∀ l,plB false t l=t:=fun l=>plF t l
 rcases thr_cases hx with h1 | h23 | hb1
 ·rw [thr_ld h1,hplF,h.buf t ht] at hrb ⊢
  have hss:=seen_src (l:=x.loc.toNat) (m:=b.s.mem.getD x.loc.toNat 0) _ (lag t) rfl hlag0
  rw [show ((x.loc.toNat:Nat):Int)=x.loc by omega] at hss
  rw [hss] at hrb ⊢
  have hregl:t*3+x.reg.toNat<b.s.regs.length:=by rw [hbo.ok.regl]; omega
  cases hsr:srcE (fun _=>none) (lag t) x.loc.toNat with
  | some w=>
   rw [hsr] at hrb
   refine⟨.lo x w,key _ _ rfl hrb (hpcs _ _) (fun u hu=>?_) (fun u hu=>regF_set hr3 hregl u) rfl ⟨h1,hl3,.inl hsr,trivial⟩⟩
   show bufB b u=_
   by_cases e:u=t
   ·subst e
    rw [if_pos rfl,waitL_app,h.buf u hu]
    exact (List.append_nil _).symm
   ·rw [if_neg e]
  | none=>
   rw [hsr] at hrb
   have hvt:=vtE_lt (ls:=s.lists) (fun l k hl hk j hj=>(gM_ok hv hl (k:=k) (by rw [← hv.pos _ hl]; exact hk)).2.2 j hj) hok (fun j hj=>(own_ok hv ht).2 j hj) x.loc.toNat hl3
   have hval:b.s.mem.getD x.loc.toNat 0=(msgL s.lists x.loc.toNat ((lstV s x.loc.toNat).length-1)).val:=h.mem _ hl3
   have hpos:0<(lstV s x.loc.toNat).length:=by rw [hv.pos _ hl3]; omega
   have hvt:vtE s.lists (atV (ownV s t)) (lag t) x.loc.toNat<(lstV s x.loc.toNat).length:=hvt
   refine⟨.lm x ((lstV s x.loc.toNat).length-1),key _ _ rfl hrb (hpcs _ _) (fun u hu=>?_) (fun u hu=>?_) rfl ⟨h1,hl3,hsr,by omega,?_,trivial⟩⟩
   ·show bufB b u=_
    by_cases e:u=t
    ·subst e
     rw [if_pos rfl,waitL_app,h.buf u hu]
     exact (List.append_nil _).symm
    ·rw [if_neg e]
   ·show regF (b.s.regs.set (rgI t x) (b.s.mem.getD x.loc.toNat 0)) u=_
    rw [hval]
    exact regF_set hr3 hregl u
   ·show _<(lstV s x.loc.toNat).length
    omega
 ·rw [thr_st h23,hplF] at hrb ⊢
  have hbl:t<b.bufs.length:=by rw [hbo.len,nbF]; exact ht
  refine⟨.st x (valS b.s t x),key _ _ rfl hrb (hpcs _ _) (fun u hu=>?_) (fun u hu=>?_) rfl ⟨h23,hl3,?_,trivial⟩⟩
  ·rw [buf_set hbl]
   by_cases e:u=t
   ·subst e
    rw [if_pos rfl,if_pos rfl,waitL_app,h.buf u hu]
    rfl
   ·rw [if_neg e,if_neg e]
  ·show regF b.s.regs u=_
   by_cases e:u=t
   ·subst e
    rw [if_pos rfl]
    rfl
   ·rw [if_neg e]
  ·unfold valS regF
   rw [if_pos hr3]
   rfl
 ·rw [hbk] at hb1; cases hb1
theorem lock_len (ms:List Msg) (k:Nat):(lockM ms k).length=ms.length:=by unfold lockM; rw [List.length_set]
theorem lock_gM {ms:List Msg} {k j:Nat} (hk:k<ms.length):gM (lockM ms k) j=if j=k then ⟨(gM ms k).val,true,(gM ms k).view⟩ else gM ms j:=by
 unfold lockM
 unfold gM
 exact getD_setP m0V ms k j _ hk
theorem SimV.block {p:Prg} {b:BSt} {s:VSt} {lag:Nat→List Lag} (hp:PrgOk p) (h:SimV p b s lag) {t:Nat} (ht:t<p.length) (hlt:pcS b.s t<(thrP p t).length) (hbk:blkI (insS p b.s t)=true) (he:empB false b t=true) (hl:lag t=[]):∃ s',SimV p (thrB false b t (insS p b.s t)) s' lag:=by
 have hv:=reachV_ok hp h.rs
 have hbo:=reachB_ok hp h.rb
 have hu:=reachV_unl hp h.rs
 have hrb:=Reach.thr hp h.rb (mem_mvS.2 ⟨ht,hlt⟩) (.inr he)
 have hpe:pcS s.s t=pcS b.s t:=by have:=h.pc t ht; rw [hl] at this; simpa using this.symm
 have hie:insS p s.s t=insS p b.s t:=by unfold insS; rw [hpe]
 have hlt':pcS s.s t<(thrP p t).length:=by rw [hpe]; exact hlt
 have hx:=ins_ok hp hlt
 have hin:=ins_get hlt
 have hcan:=end_can hp hv hu ht hlt'
 have hr':=reach_do hp h.rs ht hcan
 rw [hie] at hcan hr'
 obtain⟨x,hxe⟩:∃ x,x=insS p b.s t:=⟨_,rfl⟩
 rw [← hxe] at hx hbk hrb hin hcan hr' hie ⊢
 have hl3:x.loc.toNat<3:=by have:=hx.loc; omega
 have hr3:=hx.reg3
 have hdr:(thrP p t).drop (pcS b.s t)=x::(thrP p t).drop (pcS b.s t+1):=by rw [List.drop_eq_getElem_cons hlt,hin]
 rw [thr_bl hbk] at hrb ⊢
 have hpcb:=pc_doS hbo.ok ht x
 have hpcs:=fun u=>do_pc (k:=endK s x) (x:=x) hv ht u
 have hpos:0<(lstV s x.loc.toNat).length:=by rw [hv.pos _ hl3]; omega
 -- what both share
 have key:∀ s',Reach (sucV p) (vt0 p) s'→(∀ u,pcS s'.s u=if u=t then pcS s.s t+1 else pcS s.s u)→GrowL s.lists s'.lists→(∀ u,u≠t→ownV s' u=ownV s u)→(∀ u,u<p.length→u≠t→regF s'.s.regs u=regF s.s.regs u)→(∀ u,u<p.length→u≠t→regF (doS b.s t x).regs u=regF b.s.regs u) →
   regF (doS b.s t x).regs t=regF s'.s.regs t→(∀ j,j<3→(doS b.s t x).mem.getD j 0=lastV (lstV s' j))→SimV p ⟨doS b.s t x,b.bufs⟩ s' lag:=fun s' hr hpc hg hown hreg hregb hrt hme=>by
  refine⟨hrb,hr,fun u hu'=>?_,fun u hu'=>?_,h.buf,fun u hu'=>?_,hme,fun u hu'=>?_⟩
  ·show pcS (doS b.s t x) u=_
   rw [hpcb,hpc]
   by_cases e:u=t
   ·subst e
    rw [if_pos rfl,if_pos rfl,hl,hpe]
    rfl
   ·rw [if_neg e,if_neg e]
    exact h.pc u hu'
  ·show _=_++(thrP p u).drop (pcS (doS b.s t x) u)
   rw [hpcb,hpc]
   by_cases e:u=t
   ·subst e
    rw [if_pos rfl,if_pos rfl,hl,hpe]
    rfl
   ·rw [if_neg e,if_neg e]
    exact h.ins u hu'
  ·by_cases e:u=t
   ·subst e
    rw [hl]
    exact hrt
   ·show regF (doS b.s t x).regs u=_
    rw [hregb u hu' e,hreg u hu' e,fE_grow hg (h.ok u hu')]
    exact h.reg u hu'
  ·by_cases e:u=t
   ·subst e
    rw [hl]
    trivial
   ·rw [hown u e,hreg u hu' e]
    exact lag_grow hg (h.ok u hu')
 have hrt0:regF b.s.regs t=regF s.s.regs t:=by have:=h.reg t ht; rw [hl] at this; exact this
 by_cases h4:x.op=4
 ·have hrd:rdB x=false:=by simp [rdB,h4]
  have hwr:wrB x=false:=by simp [wrB,h4]
  have e1:doV s t x (endK s x)=rdV s t x (endK s x):=by unfold doV; rw [if_neg (by omega),if_neg (by rw [hwr]; decide)]
  have e2:(doS b.s t x).regs=b.s.regs:=if_neg (by rw [hrd]; decide)
  have e3:(doS b.s t x).mem=b.s.mem:=if_neg (by rw [hwr]; decide)
  rw [e1] at hr'
  simp only [e1] at hpcs
  have e4:(rdV s t x (endK s x)).s.regs=s.s.regs:=if_neg (by rw [hrd]; decide)
  have e5:(rdV s t x (endK s x)).own=s.own:=if_neg (by rw [hrd]; decide)
  refine⟨_,key _ hr' hpcs (fun j k hk=>⟨hk,rfl,rfl⟩) (fun u _=>by unfold ownV; rw [e5]) (fun u _ _=>by rw [e4]) (fun u _ _=>by rw [e2]) (by rw [e2,e4]; exact hrt0) (fun j hj=>by rw [e3]; exact h.mem j hj)⟩
 ·have h5:x.op=5:=by
   unfold blkI at hbk
   rw [Bool.or_eq_true,decide_eq_true_iff,decide_eq_true_iff] at hbk
   omega
  have hrd:rdB x=true:=by simp [rdB,h5]
  have hwr:wrB x=true:=by simp [wrB,h5]
  obtain⟨l,hle⟩:∃ l,l=x.loc.toNat:=⟨_,rfl⟩
  rw [← hle] at hl3 hpos
  obtain⟨n,hn⟩:∃ n,n+1=(lstV s l).length:=⟨(lstV s l).length-1,by omega⟩
  have hek:endK s x=n:=by rw [end_k h4,if_pos hrd,← hle,← hn]; rfl
  have hv2:=hv.read ht hlt' (k:=n) (x:=x) hx (fun _=>by
   rw [← hle]
   have:=hv.pos l hl3
   omega)
  have hput:=put_end hv2 (v:=x.val) ht hl3
  have hl2:∀ j,lstV (rdV s t x n) j=lstV s j:=fun _=>rfl
  rw [hl2,← hn] at hput
  obtain⟨hL,hO⟩:=hput
  simp only [hl2] at hL
  have hval:(gM (lstV s l) n).val=b.s.mem.getD l 0:=by
   rw [h.mem l hl3]
   unfold lastV
   rw [← hn]
   rfl
  have hregl:t*3+x.reg.toNat<s.s.regs.length:=by rw [hv.ok.regl]; omega
  have hregb:t*3+x.reg.toNat<b.s.regs.length:=by rw [hbo.ok.regl]; omega
  have e2:(doS b.s t x).regs=b.s.regs.set (t*3+x.reg.toNat) (b.s.mem.getD l 0):=by rw [hle]; exact if_pos hrd
  have e3:(doS b.s t x).mem=b.s.mem.set l x.val:=by
   rw [hle]
   show (if wrB x=true then b.s.mem.set x.loc.toNat (valS b.s t x) else b.s.mem)=_
   rw [if_pos hwr]
   unfold valS
   rw [if_neg (by omega)]
  have e4:(rdV s t x n).s.regs=s.s.regs.set (t*3+x.reg.toNat) (b.s.mem.getD l 0):=by
   rw [← hval,hle]
   exact if_pos hrd
  have e5:(rdV s t x n).own=s.own.set t (joinV (ownV s t) (gM (lstV s x.loc.toNat) n).view):=if_pos hrd
  have e1:doV s t x n=⟨(putV (rdV s t x n) t l (n+1) x.val).s,(putV (rdV s t x n) t l (n+1) x.val).lists.set l (lockM (lstV (putV (rdV s t x n) t l (n+1) x.val) l) n),(putV (rdV s t x n) t l (n+1) x.val).own⟩:=by
   rw [hle]
   unfold doV
   rw [if_pos h5]
  rw [hek,e1] at hr'
  simp only [hek,e1] at hpcs
  have hS:(putV (rdV s t x n) t l (n+1) x.val).s.regs=(rdV s t x n).s.regs:=rfl
  have hlen:(putV (rdV s t x n) t l (n+1) x.val).lists.length=3:=by rw [ins_lists,insL_len]; exact hv.len
  generalize putV (rdV s t x n) t l (n+1) x.val=u at hr' hpcs hL hO hS hlen
  have hLu:∀ j,lstV ⟨u.s,u.lists.set l (lockM (lstV u l) n),u.own⟩ j=if j=l then lockM (lstV u l) n else lstV u j:=fun j=>by
   unfold lstV
   exact getD_setP [] u.lists l j _ (by rw [hlen]; exact hl3)
  have hnu:n<(lstV u l).length:=by
   rw [hL,if_pos rfl,List.length_append,← hn]
   simp only [List.length_singleton]
   omega
  refine⟨_,key _ hr' hpcs (fun j k hk=>?_) (fun w hw=>?_) (fun w hw hwt=>?_) (fun w hw hwt=>?_) ?_ (fun j hj=>?_)⟩
  ·have hk:k<(lstV s j).length:=hk
   show k<(lstV ⟨u.s,u.lists.set l (lockM (lstV u l) n),u.own⟩ j).length∧(gM (lstV ⟨u.s,u.lists.set l (lockM (lstV u l) n),u.own⟩ j) k).val=(gM (lstV s j) k).val∧(gM (lstV ⟨u.s,u.lists.set l (lockM (lstV u l) n),u.own⟩ j) k).view=(gM (lstV s j) k).view
   rw [hLu]
   by_cases e:j=l
   ·subst e
    rw [if_pos rfl,lock_len,lock_gM hnu,hL,if_pos rfl,List.length_append,gM_left hk]
    refine⟨by omega,?_⟩
    by_cases ek:k=n
    ·subst ek
     rw [if_pos rfl,gM_left hk]
     exact⟨rfl,rfl⟩
    ·rw [if_neg ek]
     exact⟨rfl,rfl⟩
   ·rw [if_neg e,hL,if_neg e]
    exact⟨hk,rfl,rfl⟩
  ·show ownV u w=_
   rw [hO,if_neg hw]
   unfold ownV
   rw [e5,own_setO hw]
  ·show regF u.s.regs w=_
   rw [hS,e4,regF_set hr3 hregl,if_neg hwt]
  ·rw [e2,regF_set hr3 hregb,if_neg hwt]
  ·show _=regF u.s.regs t
   rw [hS,e2,e4,regF_set hr3 hregb,regF_set hr3 hregl,if_pos rfl,if_pos rfl,hrt0]
  ·show _=lastV (lstV ⟨u.s,u.lists.set l (lockM (lstV u l) n),u.own⟩ j)
   rw [e3,hLu,getD_setP _ _ _ _ _ (by rw [hbo.ok.meml]; exact hl3)]
   by_cases e:j=l
   ·subst e
    rw [if_pos rfl,if_pos rfl]
    unfold lastV
    rw [lock_len,lock_gM hnu,hL,if_pos rfl,List.length_append,List.length_singleton,Nat.add_sub_cancel,← hn,if_neg (by omega),hn,gM_snoc]
   ·rw [if_neg e,if_neg e,hL,if_neg e]
    exact h.mem j hj
theorem SimV.start (p:Prg):SimV p (bt0 p false) (vt0 p) fun _=>[]:=
 ⟨.start,.start,fun _ _=>rfl,fun _ _=>rfl,fun t _=>bt0_buf p false (st0 p) t,fun _ _=>rfl,fun l hl=>by
  match l,hl with
  | 0,_=>rfl
  | 1,_=>rfl
  | 2,_=>rfl,fun _ _=>trivial⟩
theorem wait_nil_or {p:Prg} {b:BSt} {s:VSt} {lag:Nat→List Lag} (h:SimV p b s lag) {t:Nat} (ht:t<p.length) (hb:bufB b t=[]) (hd:lag t=[]∨∃ x v I,lag t=.st x v::I):lag t=[]:=by
 rcases hd with hd | ⟨x,v,I,hd⟩
 ·exact hd
 ·have:=h.buf t ht
  rw [hb,hd] at this
  cases this
theorem sim_all {p:Prg} (hp:PrgOk p) {b:BSt} (h:Reach (sucB p false) (bt0 p false) b):∃ s lag,SimV p b s lag:=by
 induction h with
 | start=>exact⟨_,_,SimV.start p⟩
 | @next b0 c0 hr ht ih=>
  obtain⟨m,hm,rfl⟩:=List.mem_map.1 ht
  obtain⟨s,lag,hs⟩:=ih
  have hbo:=reachB_ok hp hr
  have hc:=(mem_mvB hbo).1 hm
  unfold nxB
  split
  ·rename_i hmp
   obtain⟨h1,h2⟩:=(can_thr hmp).1 hc
   obtain⟨_,hlt⟩:=mem_mvS.1 h1
   cases hbk:blkI (insS p b0.s m) with
   | false=>
    obtain⟨a,ha⟩:=hs.ahead hp hmp hlt hbk
    exact⟨_,_,ha⟩
   | true=>
    have he:empB false b0 m=true:=by
     rcases h2 with h2 | h2
     ·rw [hbk] at h2; cases h2
     ·exact h2
    obtain⟨s',lag',k1,_,k3⟩:=SimV.drain hp hmp _ rfl hs
    have hb0:bufB b0 m=[]:=by
     have:=emp_buf (l:=0) he (by omega)
     rwa [plF] at this
    obtain⟨s2,k4⟩:=k1.block hp hmp hlt hbk he (wait_nil_or k1 hmp hb0 k3)
    exact⟨_,_,k4⟩
  ·rename_i hmp
   obtain⟨k,rfl⟩:∃ k,m=p.length+k:=⟨m-p.length,by omega⟩
   obtain⟨w,r,hwr⟩:=can_flu.1 hc
   rw [Nat.add_sub_cancel_left]
   have hk:k<p.length:=by
    have:=buf_lt hwr
    rw [hbo.len,nbF] at this
    exact this
   obtain⟨s',lag',k1,_,k3⟩:=SimV.drain hp hk _ rfl hs
   rcases k3 with k3 | ⟨x,v,I,k3⟩
   ·have:=k1.buf k hk
    rw [hwr,k3] at this
    cases this
   ·obtain⟨s2,k4⟩:=k1.flush hp hk k3
    exact⟨_,_,k4⟩
theorem out_ra {p:Prg} (hp:PrgOk p) {y:List Int} (h:OutB p false y):OutV p y:=by
 obtain⟨b,hr,hd,rfl⟩:=h
 obtain⟨s,lag,hs⟩:=sim_all hp hr
 have hbo:=reachB_ok hp hr
 have key:∀ n,n≤p.length→∃ s' lag',SimV p b s' lag'∧∀ t,t<n→lag' t=[]:=fun n=>by
  induction n with
  | zero=>intro _; exact⟨s,lag,hs,fun t ht=>absurd ht (Nat.not_lt_zero _)⟩
  | succ n ih=>
   intro hn
   obtain⟨s',lag',h1,h2⟩:=ih (by omega)
   obtain⟨s2,lag2,k1,k2,k3⟩:=SimV.drain hp (t:=n) (by omega) _ rfl h1
   refine⟨s2,lag2,k1,fun t ht=>?_⟩
   rcases Nat.lt_succ_iff_lt_or_eq.1 ht with ht | rfl
   ·rw [k2 t (by omega)]; exact h2 t ht
   ·exact wait_nil_or k1 (by omega) (done_bufs hd t) k3
 obtain⟨s',lag',h1,h2⟩:=key p.length (Nat.le_refl _)
 have hv:=reachV_ok hp h1.rs
 refine⟨s',h1.rs,doneV_iff.2 fun t ht=>?_,?_⟩
 ·have h3:=h1.pc t ht
  rw [h2 t ht] at h3
  have h4:=done_iff.1 (done_s hd) t ht
  simp only [List.length_nil,Nat.add_zero] at h3
  omega
 ·have hreg:b.s.regs=s'.s.regs:=by
   apply List.ext_getElem
   ·rw [hbo.ok.regl,hv.ok.regl]
   ·intro i i1 i2
    have hi:i<p.length*3:=by rw [hbo.ok.regl] at i1; exact i1
    have h3:=congrFun (h1.reg (i / 3) (by omega)) (i % 3)
    rw [h2 _ (by omega)] at h3
    have h3:regF b.s.regs (i / 3) (i % 3)=regF s'.s.regs (i / 3) (i % 3):=h3
    unfold regF at h3
    rw [if_pos (by omega),if_pos (by omega),show i / 3*3+i % 3=i by omega,List.getD_eq_getElem?_getD,List.getD_eq_getElem?_getD,List.getElem?_eq_getElem i1,List.getElem?_eq_getElem i2] at h3
    exact h3
  have hmem:b.s.mem=s'.lists.map lastV:=by
   apply List.ext_getElem
   ·rw [hbo.ok.meml,List.length_map,hv.len]
   ·intro i i1 i2
    have hi:i<3:=by rw [hbo.ok.meml] at i1; exact i1
    have h3:=h1.mem i hi
    rw [List.getD_eq_getElem?_getD,List.getElem?_eq_getElem i1] at h3
    rw [map_last (by rw [hv.len]; exact hi)]
    exact h3
  show s'.s.regs++s'.lists.map lastV=b.s.regs++b.s.mem
  rw [hreg,hmem]
end Go.Proofs.YtojmofnamppbdaaGreat
