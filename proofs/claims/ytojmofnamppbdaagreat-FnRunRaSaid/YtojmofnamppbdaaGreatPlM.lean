/-
  A search through the states of a machine, in plain words: what has been seen is, at the end, what can be reached. No program in sight. The first way to a goal in a search without cycles: no program in sight. The machine with one memory, in plain words: states, moves, outcomes; there are few states. No program in sight. Lists of numbers in their order; sorted lists of them. No program in sight. The texts that tell states apart. No program in sight. Counting the states of a program on one memory, plainly: there is one of each rank; a fence at the end of a thread adds one and changes no outcome. No program in sight.
-/
import Derived.Test.YtojmofnamppbdaaGreatLib
import Derived.Test.YtojmofnamppbdaaGreatPrg
namespace Go.Proofs.YtojmofnamppbdaaGreat
set_option linter.unusedVariables false
inductive Reach {σ:Type} (succ:σ→List σ) (s0:σ):σ→Prop
 | start:Reach succ s0 s0
 | next {s t:σ}:Reach succ s0 s→t∈succ s→Reach succ s0 t
structure Dfs {σ:Type} (succ:σ→List σ) (s0:σ) (V K:List σ):Prop where
 nd:V.Nodup
 ndk:K.Nodup
 sub:∀ s∈K,s∈V
 here:s0∈V
 done:∀ s∈V,s∉K→∀ t∈succ s,t∈V
 reach:∀ s∈V,Reach succ s0 s
structure DfsAt {σ:Type} (succ:σ→List σ) (s0:σ) (V K:List σ) (s:σ) (i:Nat):Prop where
 nd:V.Nodup
 ndk:K.Nodup
 sub:∀ s∈K,s∈V
 here:s0∈V
 cur:s∈V
 notk:s∉K
 done:∀ t∈V,t∉K→t≠s→∀ u∈succ t,u∈V
 part:∀ u∈(succ s).take i,u∈V
 reach:∀ s∈V,Reach succ s0 s
section
variable {σ:Type} {succ:σ→List σ} {s0 s:σ} {V K:List σ} {i:Nat}
theorem Dfs.start (succ:σ→List σ) (s0:σ):Dfs succ s0 [s0] [s0]:=
 ⟨by simp,by simp,fun s h=>h,by simp,fun s h hn=>absurd h hn,fun s h=>by rw [List.mem_singleton.1 h]; exact .start⟩
theorem Dfs.pop (h:Dfs succ s0 V (K++[s])):DfsAt succ s0 V K s 0:=by
 have hn:=List.nodup_append.1 h.ndk
 have hs:s∉K:=fun hk=>(hn.2.2 s hk s (by simp)) rfl
 refine⟨h.nd,hn.1,fun t ht=>h.sub t (List.mem_append_left _ ht),h.here,h.sub s (by simp),hs,fun t ht hk hne=>h.done t ht fun hm=>?_,fun u hu=>by simp at hu,h.reach⟩
 rcases List.mem_append.1 hm with hm | hm
 ·exact hk hm
 ·exact hne (List.mem_singleton.1 hm)
theorem take_mem_succ {l:List σ} {i:Nat} (hi:i<l.length) {u:σ}:u∈l.take (i+1)↔u∈l.take i∨u=l[i]:=by
 rw [List.take_succ_eq_append_getElem hi,List.mem_append,List.mem_singleton]
theorem DfsAt.seen (h:DfsAt succ s0 V K s i) (hi:i<(succ s).length) (hm:(succ s)[i]∈V):DfsAt succ s0 V K s (i+1):=
 ⟨h.nd,h.ndk,h.sub,h.here,h.cur,h.notk,h.done,fun u hu=>by
  rcases (take_mem_succ hi).1 hu with hu | rfl
  ·exact h.part u hu
  ·exact hm,h.reach⟩
theorem DfsAt.new (h:DfsAt succ s0 V K s i) (hi:i<(succ s).length) (hm:(succ s)[i]∉V):DfsAt succ s0 (V++[(succ s)[i]]) (K++[(succ s)[i]]) s (i+1):=by
 have hl:∀ {u:σ},u∈V→u∈V++[(succ s)[i]]:=fun hu=>List.mem_append_left _ hu
 refine⟨?_,?_,fun t ht=>?_,hl h.here,hl h.cur,fun hk=>?_,fun t ht hk hne u hu=>?_,fun u hu=>?_,fun t ht=>?_⟩
 ·rw [List.nodup_append]
  exact⟨h.nd,by simp,fun a ha b hb e=>hm (by rw [← List.mem_singleton.1 hb,← e]; exact ha)⟩
 ·rw [List.nodup_append]
  exact⟨h.ndk,by simp,fun a ha b hb e=>hm (by rw [← List.mem_singleton.1 hb,← e]; exact h.sub a ha)⟩
 ·rcases List.mem_append.1 ht with ht | ht
  ·exact hl (h.sub t ht)
  ·exact List.mem_append_right _ ht
 ·rcases List.mem_append.1 hk with hk | hk
  ·exact h.notk hk
  ·exact hm (by rw [← List.mem_singleton.1 hk]; exact h.cur)
 ·rcases List.mem_append.1 ht with ht | ht
  ·exact hl (h.done t ht (fun e=>hk (List.mem_append_left _ e)) hne u hu)
  ·exact absurd (List.mem_append_right _ ht) hk
 ·rcases (take_mem_succ hi).1 hu with hu | rfl
  ·exact hl (h.part u hu)
  ·simp
 ·rcases List.mem_append.1 ht with ht | ht
  ·exact h.reach t ht
  ·rw [List.mem_singleton.1 ht]
   exact .next (h.reach s h.cur) (List.getElem_mem hi)
theorem DfsAt.fin (h:DfsAt succ s0 V K s i) (hi:(succ s).length≤i):Dfs succ s0 V K:=
 ⟨h.nd,h.ndk,h.sub,h.here,fun t ht hk u hu=>by
  by_cases e:t=s
  ·subst e
   exact h.part u (by rw [List.take_of_length_le hi]; exact hu)
  ·exact h.done t ht hk e u hu,h.reach⟩
theorem Dfs.all (h:Dfs succ s0 V []):s∈V↔Reach succ s0 s:=by
 refine⟨h.reach s,fun hr=>?_⟩
 induction hr with
 | start=>exact h.here
 | next _ ht ih=>exact h.done _ ih (by simp) _ ht
theorem nodup_le [DecidableEq σ]:∀ (l m:List σ),l.Nodup→(∀ x∈l,x∈m)→l.length≤m.length
 | [],m,_,_=>Nat.zero_le _
 | x::l,m,hn,hs=>by
  have hx:=hs x (by simp)
  have hn':=List.nodup_cons.1 hn
  have h:=nodup_le l (m.erase x) hn'.2 fun y hy=>by
   have hne:y≠x:=fun e=>hn'.1 (by rw [← e]; exact hy)
   exact (List.mem_erase_of_ne hne).2 (hs y (List.mem_cons_of_mem _ hy))
  have hp:0<m.length:=List.length_pos_of_mem hx
  rw [List.length_erase_of_mem hx] at h
  rw [List.length_cons]
  omega
end
def lvl {σ:Type} (succ:σ→List σ) (s0:σ):Nat→List σ
 | 0=>[s0]
 | i+1=>(lvl succ s0 i).flatMap succ
theorem lvl_length {σ:Type} {succ:σ→List σ} {s0:σ} {b:Nat} (hb:∀ s,(succ s).length≤b):∀ i,(lvl succ s0 i).length≤b ^ i
 | 0=>by simp [lvl]
 | i+1=>by
  have h:=lvl_length (s0:=s0) hb i
  have key:∀ l:List σ,(l.flatMap succ).length≤l.length*b:=fun l=>by
   induction l with
   | nil=>simp
   | cons x l ih=>
    rw [List.flatMap_cons,List.length_append,List.length_cons,Nat.add_mul,Nat.one_mul]
    have:=hb x
    omega
  rw [lvl,Nat.pow_succ]
  exact Nat.le_trans (key _) (Nat.mul_le_mul_right _ h)
def univ {σ:Type} (succ:σ→List σ) (s0:σ) (D:Nat):List σ:=(List.range (D+1)).flatMap (lvl succ s0)
theorem reach_univ {σ:Type} {succ:σ→List σ} {s0:σ} {D:Nat} (rk:σ→Nat) (h0:rk s0=0) (hs:∀ s t,Reach succ s0 s→t∈succ s→rk t=rk s+1) (hD:∀ s,Reach succ s0 s→rk s≤D) {s:σ} (h:Reach succ s0 s):s∈univ succ s0 D:=by
 have hl:s∈lvl succ s0 (rk s):=by
  induction h with
  | start=>rw [h0]; simp [lvl]
  | next h ht ih=>
   rw [hs _ _ h ht,lvl]
   exact List.mem_flatMap.2 ⟨_,ih,ht⟩
 exact List.mem_flatMap.2 ⟨rk s,List.mem_range.2 (by have:=hD s h; omega),hl⟩
theorem univ_length {σ:Type} {succ:σ→List σ} {s0:σ} {b:Nat} (hb:∀ s,(succ s).length≤b) (hb1:1≤b) (D:Nat):(univ succ s0 D).length≤(D+1)*b ^ D:=by
 have key:∀ m,m≤D+1→((List.range m).flatMap (lvl succ s0)).length≤m*b ^ D:=fun m=>by
  induction m with
  | zero=>intro _; simp
  | succ m ih=>
   intro hm
   have h1:=ih (by omega)
   have h2:=lvl_length (s0:=s0) hb m
   have h3:b ^ m≤b ^ D:=Nat.pow_le_pow_right hb1 (by omega)
   rw [List.range_succ,List.flatMap_append,List.length_append,Nat.add_mul,Nat.one_mul]
   simp only [List.flatMap_cons,List.flatMap_nil,List.append_nil]
   omega
 exact key _ (Nat.le_refl _)
end Go.Proofs.YtojmofnamppbdaaGreat
namespace Go.Proofs.YtojmofnamppbdaaGreat
set_option linter.unusedVariables false
end Go.Proofs.YtojmofnamppbdaaGreat
namespace Go.Proofs.YtojmofnamppbdaaGreat
set_option linter.unusedVariables false
structure St where
 pc:List Nat
 regs:List Int
 mem:List Int
deriving DecidableEq
def thrP (p:Prg) (t:Nat):List Ins:=p.getD t []
def pcS (s:St) (t:Nat):Nat:=s.pc.getD t 0
def onS (p:Prg) (s:St) (t:Nat):Bool:=decide (pcS s t<(thrP p t).length)
def mvS (p:Prg) (s:St):List Nat:=(List.range p.length).filter (onS p s)
def rgI (t:Nat) (x:Ins):Nat:=t*3+x.reg.toNat
def valS (s:St) (t:Nat) (x:Ins):Int:=if x.op=3 then s.regs.getD (rgI t x) 0 else x.val
def doS (s:St) (t:Nat) (x:Ins):St where
 pc:=s.pc.set t (pcS s t+1)
 regs:=if rdB x=true then s.regs.set (rgI t x) (s.mem.getD x.loc.toNat 0) else s.regs
 mem:=if wrB x=true then s.mem.set x.loc.toNat (valS s t x) else s.mem
def insS (p:Prg) (s:St) (t:Nat):Ins:=(thrP p t).getD (pcS s t) ⟨0,0,0,0⟩
def nxS (p:Prg) (s:St) (t:Nat):St:=doS s t (insS p s t)
def sucS (p:Prg) (s:St):List St:=(mvS p s).map (nxS p s)
def st0 (p:Prg):St:=⟨List.replicate p.length 0,List.replicate (p.length*3) 0,[0,0,0]⟩
def doneS (p:Prg) (s:St):Bool:=(List.range p.length).all fun t=>!onS p s t
def outS (s:St):List Int:=s.regs++s.mem
def In03 (v:Int):Prop:=0≤v∧v≤3
structure StOk (p:Prg) (s:St):Prop where
 pcl:s.pc.length=p.length
 pcb:∀ t,pcS s t≤(thrP p t).length
 regl:s.regs.length=p.length*3
 regb:∀ v∈s.regs,In03 v
 meml:s.mem.length=3
 memb:∀ v∈s.mem,In03 v
theorem mem_mvS {p:Prg} {s:St} {t:Nat}:t∈mvS p s↔t<p.length∧pcS s t<(thrP p t).length:=by
 unfold mvS onS
 rw [List.mem_filter,List.mem_range,decide_eq_true_iff]
theorem thr_ok {p:Prg} (h:PrgOk p) (t:Nat):(thrP p t).length≤7∧∀ x∈thrP p t,InsOk x:=by
 unfold thrP
 rcases Nat.lt_or_ge t p.length with ht | ht
 ·rw [List.getD_eq_getElem?_getD,List.getElem?_eq_getElem ht]
  exact h.1.2.1 _ (List.getElem_mem ht)
 ·rw [List.getD_eq_getElem?_getD,List.getElem?_eq_none ht]
  exact⟨by simp,fun x hx=>by simp at hx⟩
theorem ins_get {p:Prg} {s:St} {t:Nat} (h:pcS s t<(thrP p t).length):insS p s t=(thrP p t)[pcS s t]:=by
 unfold insS
 rw [List.getD_eq_getElem?_getD,List.getElem?_eq_getElem h]
 rfl
theorem ins_ok {p:Prg} {s:St} {t:Nat} (hp:PrgOk p) (h:pcS s t<(thrP p t).length):InsOk (insS p s t):=by
 rw [ins_get h]
 exact (thr_ok hp t).2 _ (List.getElem_mem h)
theorem getD_03 {xs:List Int} (h:∀ v∈xs,In03 v) (i:Nat):In03 (xs.getD i 0):=by
 rcases Nat.lt_or_ge i xs.length with hi | hi
 ·rw [List.getD_eq_getElem?_getD,List.getElem?_eq_getElem hi]
  exact h _ (List.getElem_mem hi)
 ·rw [List.getD_eq_getElem?_getD,List.getElem?_eq_none hi]
  exact⟨by decide,by decide⟩
theorem set_03 {xs:List Int} {i:Nat} {v:Int} (h:∀ v∈xs,In03 v) (hv:In03 v):∀ u∈xs.set i v,In03 u:=fun u hu=>by
 rcases List.mem_or_eq_of_mem_set hu with hu | rfl
 ·exact h u hu
 ·exact hv
theorem StOk.start (p:Prg):StOk p (st0 p):=
 ⟨by simp [st0],fun t=>by
  have:pcS (st0 p) t=0:=by
   unfold pcS st0
   rw [List.getD_eq_getElem?_getD]
   rcases Nat.lt_or_ge t p.length with ht | ht
   ·simp [ht]
   ·rw [List.getElem?_eq_none (by simpa using ht)]; rfl
  omega,by simp [st0],fun v hv=>by
  have:=List.eq_of_mem_replicate hv
  subst this
  exact⟨by decide,by decide⟩,rfl,fun v hv=>by
  simp only [st0,List.mem_cons,List.not_mem_nil,or_false,or_self] at hv
  subst hv
  exact⟨by decide,by decide⟩⟩
theorem val_03 {p:Prg} {s:St} {t:Nat} (hs:StOk p s) {x:Ins} (hx:InsOk x):In03 (valS s t x):=by
 unfold valS
 split
 ·exact getD_03 hs.regb _
 ·rcases hx with h | h | h | h
  ·rw [h.2.2.2]; exact⟨by decide,by decide⟩
  ·exact h.2.2.2
  ·rw [h.2.2.2]; exact⟨by decide,by decide⟩
  ·exact h.2.2.2
theorem pc_set {p:Prg} {s:St} (hs:StOk p s) {t:Nat} (ht:t<p.length) (x:Ins) (u:Nat):pcS (doS s t x) u=if u=t then pcS s t+1 else pcS s u:=by
 unfold pcS doS
 simp only [List.getD_eq_getElem?_getD]
 by_cases e:u=t
 ·subst e
  rw [if_pos rfl,List.getElem?_set_self (by rw [hs.pcl]; exact ht)]
  rfl
 ·rw [if_neg e,List.getElem?_set_ne (fun h=>e h.symm)]
theorem StOk.next {p:Prg} {s:St} (hp:PrgOk p) (hs:StOk p s) {t:Nat} (ht:t∈mvS p s):StOk p (nxS p s t):=by
 obtain⟨h1,h2⟩:=mem_mvS.1 ht
 have hx:=ins_ok hp h2
 refine⟨by simp [nxS,doS,hs.pcl],fun u=>?_,?_,?_,?_,?_⟩
 ·unfold nxS
  rw [pc_set hs h1]
  split
  ·rename_i e
   subst e
   exact h2
  ·exact hs.pcb u
 ·unfold nxS doS
  simp only
  split
  ·rw [List.length_set]; exact hs.regl
  ·exact hs.regl
 ·unfold nxS doS
  simp only
  split
  ·exact set_03 hs.regb (getD_03 hs.memb _)
  ·exact hs.regb
 ·unfold nxS doS
  simp only
  split
  ·rw [List.length_set]; exact hs.meml
  ·exact hs.meml
 ·unfold nxS doS
  simp only
  split
  ·exact set_03 hs.memb (val_03 hs hx)
  ·exact hs.memb
theorem reach_ok {p:Prg} (hp:PrgOk p) {s:St} (h:Reach (sucS p) (st0 p) s):StOk p s:=by
 induction h with
 | start=>exact .start p
 | next _ ht ih=>
  obtain⟨t,h1,rfl⟩:=List.mem_map.1 ht
  exact ih.next hp h1
def rkS (s:St):Nat:=s.pc.foldr (·+·) 0
theorem sum_set:∀ (l:List Nat) (t v:Nat),t<l.length→(l.set t v).foldr (·+·) 0+l.getD t 0=l.foldr (·+·) 0+v
 | [],_,_,h=>absurd h (Nat.not_lt_zero _)
 | a::l,0,v,_=>by simp; omega
 | a::l,t+1,v,h=>by
  have:=sum_set l t v (by simpa using h)
  simp only [List.set_cons_succ,List.foldr_cons,List.getD_cons_succ]
  omega
theorem rk_next {p:Prg} {s:St} (hs:StOk p s) {t:Nat} (ht:t∈mvS p s):rkS (nxS p s t)=rkS s+1:=by
 obtain⟨h1,h2⟩:=mem_mvS.1 ht
 have:=sum_set s.pc t (pcS s t+1) (by rw [hs.pcl]; exact h1)
 unfold rkS nxS doS
 unfold pcS at this ⊢
 simp only at this ⊢
 omega
theorem rk_le {p:Prg} {s:St} (hp:PrgOk p) (hs:StOk p s):rkS s≤21:=by
 have h3:s.pc.length≤3:=by rw [hs.pcl]; exact hp.1.1
 have hb:∀ t,s.pc.getD t 0≤7:=fun t=>Nat.le_trans (hs.pcb t) (thr_ok hp t).1
 have key:∀ (l:List Nat),(∀ t,l.getD t 0≤7)→l.foldr (·+·) 0≤l.length*7:=fun l=>by
  induction l with
  | nil=>intro _; simp
  | cons a l ih=>
   intro h
   have h0:=h 0
   have:=ih fun t=>by have:=h (t+1); simpa using this
   simp only [List.foldr_cons,List.length_cons,List.getD_cons_zero] at h0 ⊢
   omega
 have:=key s.pc hb
 unfold rkS
 have:s.pc.length*7≤3*7:=Nat.mul_le_mul_right _ h3
 omega
theorem rk0 (p:Prg):rkS (st0 p)=0:=by
 have key:∀ n,(List.replicate n 0).foldr (·+·) 0=0:=fun n=>by
  induction n with
  | zero=>rfl
  | succ n ih=>rw [List.replicate_succ,List.foldr_cons,ih]
 exact key _
theorem suc_le {p:Prg} (hp:PrgOk p) (s:St):(sucS p s).length≤3:=by
 unfold sucS mvS
 rw [List.length_map]
 have h:=List.length_filter_le (onS p s) (List.range p.length)
 rw [List.length_range] at h
 have:=hp.1.1
 omega
theorem reach_few {p:Prg} (hp:PrgOk p) {s:St} (h:Reach (sucS p) (st0 p) s):s∈univ (sucS p) (st0 p) 21:=
 reach_univ rkS (rk0 p) (fun s t hs ht=>by
  obtain⟨u,h1,rfl⟩:=List.mem_map.1 ht
  exact rk_next (reach_ok hp hs) h1) (fun s hs=>rk_le hp (reach_ok hp hs)) h
theorem seq_few {p:Prg} (hp:PrgOk p) {V:List St} (hn:V.Nodup) (h:∀ s∈V,Reach (sucS p) (st0 p) s):V.length≤230127770466:=
 Nat.le_trans (nodup_le V _ hn fun s hs=>reach_few hp (h s hs)) (Nat.le_trans (univ_length (suc_le hp) (by omega) 21) (by decide))
end Go.Proofs.YtojmofnamppbdaaGreat
namespace Go.Proofs.YtojmofnamppbdaaGreat
set_option linter.unusedVariables false
def lexC:List Int→List Int→Int
 | [],[]=>0
 | [],_::_ => -1
 | _::_,[]=>1
 | a::al,b::bl=>if a<b then -1 else if b<a then 1 else lexC al bl
theorem lexC_anti:∀ a b:List Int,lexC b a =-lexC a b
 | [],[]=>rfl
 | [],_::_=>rfl
 | _::_,[]=>rfl
 | a::al,b::bl=>by
  have ih:=lexC_anti al bl
  simp only [lexC]
  by_cases h1:a<b
  ·rw [if_neg (by omega),if_pos h1,if_pos h1]; rfl
  ·by_cases h2:b<a
   ·rw [if_pos h2,if_neg h1,if_pos h2]
   ·rw [if_neg h2,if_neg h1,if_neg h1,if_neg h2,ih]
theorem lexC_self (a:List Int):lexC a a=0:=by
 have:=lexC_anti a a
 omega
theorem lexC_eq:∀ a b:List Int,lexC a b=0→a=b
 | [],[],_=>rfl
 | [],_::_,h=>by simp [lexC] at h
 | _::_,[],h=>by simp [lexC] at h
 | a::al,b::bl,h=>by
  simp only [lexC] at h
  by_cases h1:a<b
  ·rw [if_pos h1] at h; omega
  ·rw [if_neg h1] at h
   by_cases h2:b<a
   ·rw [if_pos h2] at h; omega
   ·rw [if_neg h2] at h
    rw [lexC_eq al bl h,show a=b by omega]
theorem lexC_trans:∀ a b c:List Int,lexC a b<0→lexC b c<0→lexC a c<0
 | [],_,[],h,k=>by
  rename_i b
  cases b with
  | nil=>simp [lexC] at h
  | cons x b=>simp [lexC] at k
 | [],_,_::_,_,_=>by simp [lexC]
 | _::_,[],_,h,_=>by simp [lexC] at h
 | _::_,_::_,[],_,k=>by simp [lexC] at k
 | a::al,b::bl,c::cl,h,k=>by
  have ih:=lexC_trans al bl cl
  simp only [lexC] at h k ⊢
  by_cases h1:a<b
  ·by_cases k1:b<c
   ·rw [if_pos (by omega)]; omega
   ·rw [if_neg k1] at k
    by_cases k2:c<b
    ·rw [if_pos k2] at k; omega
    ·rw [if_pos (by omega)]; omega
  ·rw [if_neg h1] at h
   by_cases h2:b<a
   ·rw [if_pos h2] at h; omega
   ·rw [if_neg h2] at h
    by_cases k1:b<c
    ·rw [if_pos (by omega)]; omega
    ·rw [if_neg k1] at k
     by_cases k2:c<b
     ·rw [if_pos k2] at k; omega
     ·rw [if_neg k2] at k
      rw [if_neg (by omega),if_neg (by omega)]
      exact ih h k
theorem lexC_ntrans (a b c:List Int) (h:¬ lexC a b<0) (k:¬ lexC b c<0):¬ lexC a c<0:=fun hac=>by
 have h':=lexC_anti a b
 have k':=lexC_anti b c
 by_cases e1:lexC a b=0
 ·rw [lexC_eq _ _ e1] at hac; exact k hac
 ·by_cases e2:lexC b c=0
  ·rw [← lexC_eq _ _ e2] at hac; exact h hac
  ·have:=lexC_trans c b a (by omega) (by omega)
   have:=lexC_anti a c
   omega
def Asc (L:List (List Int)):Prop:=L.Pairwise fun a b=>lexC a b<0
theorem asc_uniq:∀ L M:List (List Int),Asc L→Asc M→(∀ x,x∈L↔x∈M)→L=M
 | [],[],_,_,_=>rfl
 | [],b::M,_,_,h=>by have:=(h b).2 (by simp); simp at this
 | a::L,[],_,_,h=>by have:=(h a).1 (by simp); simp at this
 | a::L,b::M,hL,hM,h=>by
  obtain⟨a1,a2⟩:=List.pairwise_cons.1 hL
  obtain⟨b1,b2⟩:=List.pairwise_cons.1 hM
  have e:a=b:=by
   rcases List.mem_cons.1 ((h a).1 (by simp)) with e | ha
   ·exact e
   ·rcases List.mem_cons.1 ((h b).2 (by simp)) with e | hb
    ·exact e.symm
    ·have h1:=b1 a ha
     have h2:=a1 b hb
     have:=lexC_anti a b
     omega
  subst e
  rw [asc_uniq L M a2 b2 fun x=>⟨fun hx=>by
   rcases List.mem_cons.1 ((h x).1 (List.mem_cons_of_mem _ hx)) with e | hm
   ·subst e
    have:=a1 x hx
    rw [lexC_self] at this
    omega
   ·exact hm,fun hx=>by
   rcases List.mem_cons.1 ((h x).2 (List.mem_cons_of_mem _ hx)) with e | hm
   ·subst e
    have:=b1 x hx
    rw [lexC_self] at this
    omega
   ·exact hm⟩]
def putL:List (List Int)→List Int→List (List Int)
 | [],o=>[o]
 | a::L,o=>if lexC a o<0 then a::putL L o else if lexC a o=0 then a::L else o::a::L
theorem putL_mem:∀ (L:List (List Int)) (o x:List Int),x∈putL L o↔x=o∨x∈L
 | [],o,x=>by simp [putL]
 | a::L,o,x=>by
  have ih:=putL_mem L o x
  rw [putL]
  split
  ·rw [List.mem_cons,ih,List.mem_cons]
   constructor
   ·rintro (h | h | h)
    ·exact .inr (.inl h)
    ·exact .inl h
    ·exact .inr (.inr h)
   ·rintro (h | h | h)
    ·exact .inr (.inl h)
    ·exact .inl h
    ·exact .inr (.inr h)
  ·split
   ·rename_i e
    rw [lexC_eq _ _ e]
    constructor
    ·exact .inr
    ·rintro (rfl | h)
     ·exact List.mem_cons_self
     ·exact h
   ·rw [List.mem_cons]
theorem putL_asc:∀ (L:List (List Int)) (o:List Int),Asc L→Asc (putL L o)
 | [],o,_=>by simp [putL,Asc]
 | a::L,o,h=>by
  obtain⟨h1,h2⟩:=List.pairwise_cons.1 h
  rw [putL]
  split
  ·rename_i hlt
   refine List.pairwise_cons.2 ⟨fun x hx=>?_,putL_asc L o h2⟩
   rcases (putL_mem L o x).1 hx with rfl | hx
   ·exact hlt
   ·exact h1 x hx
  ·split
   ·exact h
   ·rename_i hn hz
    have ho:lexC o a<0:=by have:=lexC_anti a o; omega
    refine List.pairwise_cons.2 ⟨fun x hx=>?_,h⟩
    rcases List.mem_cons.1 hx with rfl | hx
    ·exact ho
    ·exact lexC_trans o a x ho (h1 x hx)
theorem putL_at:∀ (L:List (List Int)) (o:List Int) (k:Nat),k≤L.length→(∀ j (h:j<L.length),j<k→lexC L[j] o<0)→(∀ h:k<L.length,¬ lexC L[k] o<0) →
  putL L o=if ∃ h:k<L.length,lexC L[k] o=0 then L else L.take k++o::L.drop k
 | [],o,k,hk,_,_=>by
  obtain rfl:k=0:=by simpa using hk
  rw [if_neg (by rintro ⟨h,_⟩; simp at h)]
  rfl
 | a::L,o,0,_,_,h0=>by
  have hn:=h0 (by simp)
  simp only [List.getElem_cons_zero] at hn
  rw [putL,if_neg hn]
  by_cases e:lexC a o=0
  ·rw [if_pos e,if_pos ⟨by simp,e⟩]
  ·rw [if_neg e,if_neg (by rintro ⟨_,h⟩; exact e h)]
   rfl
 | a::L,o,k+1,hk,hj,h0=>by
  have hlt:=hj 0 (by simp) (by omega)
  simp only [List.getElem_cons_zero] at hlt
  have ih:=putL_at L o k (by simpa using hk) (fun j h hjk=>by have:=hj (j+1) (by simpa using h) (by omega); simpa using this) (fun h=>by have:=h0 (by simpa using h); simpa using this)
  rw [putL,if_pos hlt,ih]
  by_cases e:∃ h:k<L.length,lexC L[k] o=0
  ·rw [if_pos e,if_pos (by obtain⟨h,h'⟩:=e; exact⟨by simpa using h,by simpa using h'⟩)]
  ·rw [if_neg e,if_neg (fun⟨h,h'⟩=>e ⟨by simpa using h,by simpa using h'⟩)]
   rfl
theorem lexC_drop {xs ys:List Int} {k:Nat} (h:k<xs.length) (h':k<ys.length):lexC (xs.drop k) (ys.drop k)=if xs[k]<ys[k] then -1 else if ys[k]<xs[k] then 1 else lexC (xs.drop (k+1)) (ys.drop (k+1)):=by
 rw [List.drop_eq_getElem_cons h,List.drop_eq_getElem_cons h',lexC]
theorem lexC_more {xs ys:List Int} {k:Nat} (h:k<xs.length) (h':¬ k<ys.length):lexC (xs.drop k) (ys.drop k)=1:=by
 rw [List.drop_eq_getElem_cons h,List.drop_eq_nil_of_le (show ys.length≤k by omega),lexC]
theorem lexC_less {xs ys:List Int} {k:Nat} (h:¬ k<xs.length) (h':k<ys.length):lexC (xs.drop k) (ys.drop k) = -1:=by
 rw [List.drop_eq_getElem_cons h',List.drop_eq_nil_of_le (show xs.length≤k by omega),lexC]
theorem lexC_both {xs ys:List Int} {k:Nat} (h:¬ k<xs.length) (h':¬ k<ys.length):lexC (xs.drop k) (ys.drop k)=0:=by
 rw [List.drop_eq_nil_of_le (show ys.length≤k by omega),List.drop_eq_nil_of_le (show xs.length≤k by omega),lexC]
end Go.Proofs.YtojmofnamppbdaaGreat
namespace Go.Proofs.YtojmofnamppbdaaGreat
set_option linter.unusedVariables false
def byt (xs:List Nat):ByteArray:=⟨(xs.map UInt8.ofNat).toArray⟩
theorem byt_inj {xs ys:List Nat} (hx:∀ n∈xs,n<256) (hy:∀ n∈ys,n<256) (h:byt xs=byt ys):xs=ys:=by
 have h1:xs.map UInt8.ofNat=ys.map UInt8.ofNat:=by
  have h2:=congrArg (fun b:ByteArray=>b.data.toList) h
  simpa [byt] using h2
 have h3:=congrArg (List.map UInt8.toNat) h1
 have key:∀ l:List Nat,(∀ n∈l,n<256)→(l.map UInt8.ofNat).map UInt8.toNat=l:=fun l hl=>by
  rw [List.map_map]
  refine (List.map_congr_left (g:=id) fun n hn=>?_).trans (List.map_id _)
  have:=hl n hn
  simp only [Function.comp,UInt8.toNat_ofNat',id]
  omega
 rwa [key xs hx,key ys hy] at h3
def kI (s:St):List Nat:=(List.range 3).map (pcS s)++((List.range 9).map (fun i=>(s.regs.getD i 0).toNat)++(List.range 3).map (fun i=>(s.mem.getD i 0).toNat))
def kS (s:St):List Nat:=s.pc++(s.regs.map Int.toNat++s.mem.map Int.toNat)
theorem map_range_inj {α:Type} {n:Nat} {f g:Nat→α} (h:(List.range n).map f=(List.range n).map g):∀ i,i<n→f i=g i:=fun i hi=>by
 have:=congrArg (fun l=>l[i]?) h
 simpa [hi] using this
theorem list_getD {α:Type} {d:α} {xs ys:List α} (hl:xs.length=ys.length) (h:∀ i,i<xs.length→xs.getD i d=ys.getD i d):xs=ys:=by
 refine List.ext_getElem hl fun i h1 h2=>?_
 have:=h i h1
 simpa [List.getD_eq_getElem?_getD,h1,h2] using this
theorem toNat_03 {a b:Int} (ha:In03 a) (hb:In03 b) (h:a.toNat=b.toNat):a=b:=by
 obtain⟨a1,_⟩:=ha
 obtain⟨b1,_⟩:=hb
 omega
theorem kI_inj {p:Prg} (hp:PrgOk p) {s t:St} (hs:StOk p s) (ht:StOk p t) (h:kI s=kI t):s=t:=by
 have h3:=hp.1.1
 unfold kI at h
 obtain⟨e1,h⟩:=List.append_inj h (by simp)
 obtain⟨e2,e3⟩:=List.append_inj h (by simp)
 have p1:=map_range_inj e1
 have p2:=map_range_inj e2
 have p3:=map_range_inj e3
 have l1:s.pc=t.pc:=list_getD (d:=0) (by rw [hs.pcl,ht.pcl]) fun i hi=>p1 i (by rw [hs.pcl] at hi; omega)
 have l2:s.regs=t.regs:=list_getD (d:=0) (by rw [hs.regl,ht.regl]) fun i hi=>toNat_03 (getD_03 hs.regb i) (getD_03 ht.regb i) (p2 i (by rw [hs.regl] at hi; omega))
 have l3:s.mem=t.mem:=list_getD (d:=0) (by rw [hs.meml,ht.meml]) fun i hi=>toNat_03 (getD_03 hs.memb i) (getD_03 ht.memb i) (p3 i (by rw [hs.meml] at hi; omega))
 cases s
 cases t
 simp only at l1 l2 l3
 subst l1 l2 l3
 rfl
theorem map_toNat_inj:∀ {xs ys:List Int},(∀ v∈xs,In03 v)→(∀ v∈ys,In03 v)→xs.map Int.toNat=ys.map Int.toNat→xs=ys
 | [],[],_,_,_=>rfl
 | [],_::_,_,_,h=>by simp at h
 | _::_,[],_,_,h=>by simp at h
 | a::xs,b::ys,hx,hy,h=>by
  simp only [List.map_cons,List.cons.injEq] at h
  rw [toNat_03 (hx a (by simp)) (hy b (by simp)) h.1,map_toNat_inj (fun v hv=>hx v (List.mem_cons_of_mem _ hv)) (fun v hv=>hy v (List.mem_cons_of_mem _ hv)) h.2]
theorem kI_lt {p:Prg} (hp:PrgOk p) {s:St} (hs:StOk p s):∀ n∈kI s,n<256:=fun n hn=>by
 unfold kI at hn
 rcases List.mem_append.1 hn with hn | hn
 ·obtain⟨t,_,rfl⟩:=List.mem_map.1 hn
  have:=hs.pcb t
  have:=(thr_ok hp t).1
  omega
 ·rcases List.mem_append.1 hn with hn | hn
  ·obtain⟨t,_,rfl⟩:=List.mem_map.1 hn
   have:=(getD_03 hs.regb t).2
   omega
  ·obtain⟨t,_,rfl⟩:=List.mem_map.1 hn
   have:=(getD_03 hs.memb t).2
   omega
theorem kS_lt {p:Prg} (hp:PrgOk p) {s:St} (hs:StOk p s):∀ n∈kS s,n<256:=fun n hn=>by
 unfold kS at hn
 rcases List.mem_append.1 hn with hn | hn
 ·obtain⟨i,hi,rfl⟩:=List.getElem_of_mem hn
  have h1:=hs.pcb i
  have h2:=(thr_ok hp i).1
  unfold pcS at h1
  rw [List.getD_eq_getElem?_getD,List.getElem?_eq_getElem hi] at h1
  simp only [Option.getD_some] at h1
  omega
 ·rcases List.mem_append.1 hn with hn | hn
  ·obtain⟨v,hv,rfl⟩:=List.mem_map.1 hn
   have:=(hs.regb v hv).2
   omega
  ·obtain⟨v,hv,rfl⟩:=List.mem_map.1 hn
   have:=(hs.memb v hv).2
   omega
def keyI (s:St):ByteArray:=byt (kI s)
theorem keyI_inj {p:Prg} (hp:PrgOk p) {s t:St} (hs:StOk p s) (ht:StOk p t) (h:keyI s=keyI t):s=t:=kI_inj hp hs ht (byt_inj (kI_lt hp hs) (kI_lt hp ht) h)
end Go.Proofs.YtojmofnamppbdaaGreat
namespace Go.Proofs.YtojmofnamppbdaaGreat
set_option linter.unusedVariables false
theorem done_iff {p:Prg} {s:St}:doneS p s=true↔∀ t,t<p.length→(thrP p t).length≤pcS s t:=by
 unfold doneS onS
 rw [List.all_eq_true]
 refine⟨fun h t ht=>?_,fun h t ht=>?_⟩
 ·have:=h t (List.mem_range.2 ht)
  simpa using this
 ·have:=h t (List.mem_range.1 ht)
  simpa using this
end Go.Proofs.YtojmofnamppbdaaGreat
