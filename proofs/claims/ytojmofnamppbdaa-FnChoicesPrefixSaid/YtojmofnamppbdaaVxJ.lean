/-
  The search through the states of a machine: impl.reach walked, at the machines with views (a copy of XRch). The walks of the machine with views: moves, newViews. The machine with views: it is one; RunRa, RaStates in the program.
-/
import Derived.Test.YtojmofnamppbdaaMcA
import Derived.Test.YtojmofnamppbdaaSeqC
import Derived.Test.YtojmofnamppbdaaSoC
import Derived.Test.YtojmofnamppbdaaRchH
import Derived.Test.YtojmofnamppbdaaVxG
import Derived.Test.YtojmofnamppbdaaSl
import Derived.Test.YtojmofnamppbdaaVxM
import Derived.Test.YtojmofnamppbdaaOwE
import Derived.Handy
namespace Go.Proofs.Ytojmofnamppbdaa
open Go.RowKit
set_option linter.unusedVariables false
set_option maxRecDepth 100000
structure MachCV {σ:Type} (M:Mach σ):Prop where
 key:∀ s,Reach M.succ M.s0 s→∀ W b,M.R W b s→Calls Try.prog 110 #[.pointer (some ⟨b,0,none⟩)] W fun e W'=>e=.returned (.string (M.key s))∧Below W.heap.size W W'
 done:∀ s,Reach M.succ M.s0 s→∀ W b,M.R W b s→Calls Try.prog 109 #[.pointer (some ⟨b,0,none⟩)] W (RetB W (M.done s))
 out:∀ s,Reach M.succ M.s0 s→∀ W b,M.R W b s→Calls Try.prog 112 #[.pointer (some ⟨b,0,none⟩)] W (RetRowI W (M.out s))
 mv:∀ s,Reach M.succ M.s0 s→∀ W b,M.R W b s→Calls Try.prog 111 #[.pointer (some ⟨b,0,none⟩)] W (RetRowI W (M.mv s))
 after:∀ s,Reach M.succ M.s0 s→∀ (i:Nat) (hi:i<(M.succ s).length) (hm:i<(M.mv s).length) W b a,Le a W→M.R a b s →
  Calls Try.prog 107 #[.pointer (some ⟨b,0,none⟩),.int .i64 (M.mv s)[i]] W fun e W'=>
   ∃ b',e=.returned (.iface 95 (.pointer (some ⟨b',0,none⟩)))∧(∀ a',Le a a'→Le (above W.heap.size W') a'→M.R a' b' (M.succ s)[i])∧Below W.heap.size W W'
end Go.Proofs.Ytojmofnamppbdaa
namespace Go.Proofs.Ytojmofnamppbdaa
open Go.RowKit
set_option linter.unusedVariables false
set_option maxRecDepth 100000
def PlA (w:World) (v:Value) (A:Option Addr) (pl:List Int):Prop:=∀ j (h:j<pl.length),∃ bA oA,A=some ⟨bA,oA,none⟩∧bA<w.heap.size∧¬ v.ownBlock=some bA∧w.cell? ⟨bA,oA+j,none⟩=some (.int .i64 pl[j])
theorem plN_in {p:Prg} {s:VSt} {t n:Nat} {x:Int} (h:x∈plN p s t n):0≤x∧x<n:=by
 unfold plN at h
 obtain⟨k,hk,rfl⟩:=List.mem_map.1 h
 have:=List.mem_range.1 (List.mem_filter.1 hk).1
 omega
set_option maxHeartbeats 4000000 in
theorem movesV_any (p:Prg) (hp:PrgOk p) (s:VSt) (hs:VOk p s) (W:World) (b:Nat) (Ap:Option Addr) (cp:Nat) (ho:VwL W b Ap cp p s) (hpr:PrgS W (.slice Ap p.length cp) p):
  Calls Try.prog 111 #[.pointer (some ⟨b,0,none⟩)] W (RetRowI W ((mvV p s).map fun c=>((c:Nat):Int))):=by
 obtain⟨i0,hi0,hz0,hz1,hz2⟩:=info_parts Try.infoInt
 have q0:=ho.vals.prg
 have h3:=hp.1.1
 have hbl:=ho.lt
 have HS:=Lib.hid (srt_mvA hp hs)
 have HP:Hid (∀ t,t<p.length→∀ U,Below W.heap.size W U→Calls Try.prog 119 #[.pointer (some ⟨b,0,none⟩),.int .i64 t] U (RetRowI U (plN p s t 14))):=fun t ht U hU=>places_any p hp s hs t ht U b Ap cp (ho.under hU) (PrgS.le hpr (Le.below hU))
 clear ho hpr
 go_enter Try.func111,Try.ntmps111
 go_wp2_with fail
 go_loopg [3,13] p.length (fun g s3 s13 wr=>∃ (i:Nat) (v:Value),i≤p.length∧g=p.length-i∧v=s3∧s13=.int .i64 i∧Hid (RowI wr W.heap.size v (mvA p s i))∧Below W.heap.size W wr)
 case atStart=>exact⟨0,_,Nat.zero_le _,rfl,rfl,rfl,RowOf.nil _ _ _ _ _,Below.refl _ _⟩
 case round=>
  obtain⟨i,v,hi,rfl,rfl,rfl,hrow,hb⟩:=hrel
  have hsr:=hb.size
  by_cases hlt:i<p.length
  ·have hc:=HP.out i hlt wr hb
   have hml:=mvA_len p s i
   have hpl:=plN_le p s i 14
   have HK14:Hid (∀ j (h:j<(plN p s i 14).length),0≤(plN p s i 14)[j]∧(plN p s i 14)[j]<14):=fun j hj=>plN_in (List.getElem_mem hj)
   have Hnx:=Lib.hid (mvA_next p s i)
   generalize plN p s i 14=pl at hc hpl Hnx HK14
   generalize mvA p s i=L at hrow hml Hnx
   have hili:(i:Int)<(p.length:Int):=by omega
   go_wp2_with fail
   refine hc.mono ?_
   rintro e5 w5 ⟨A5,c5,rfl,hr5,hb5⟩
   have hB5:=hb.trans (hb5.mono hsr)
   have hs5:=hb5.size
   have HA:Hid (PlA w5 v A5 pl):=fun j hj=>by
    obtain⟨A',c',e,hI⟩:=RowI.ints hr5
    injection e with e1 _ e3
    subst e1 e3
    obtain⟨bA,oA,e,hlt,hcell⟩:=hI.get hj
    obtain⟨hge,hcell⟩:=cell_above_lt hcell
    refine⟨bA,oA,e,World.block_lt_of_cell? _ _ hcell,fun e'=>?_,hcell⟩
    have h5:=(RowOf.own_lt hrow.out e').2
    have hge:wr.heap.size≤bA:=hge
    omega
   have HR5:Hid (RowI w5 W.heap.size v (L++(pl.take 0).map (mvF i))):=by
    show RowI _ _ _ _
    simp only [List.take_zero,List.map_nil,List.append_nil]
    exact RowOf.below hrow.out hb5
   clear hc hr5 hrow
   go_wp2_with fail
   go_loopg [3,20] pl.length (fun g s3 s20 wr=>∃ (j:Nat) (v:Value),j≤pl.length∧g=pl.length-j∧v=s3∧s20=.int .i64 j∧Hid (RowI wr W.heap.size v (L++(pl.take j).map (mvF i)))∧Below W.heap.size W wr∧Hid (PlA wr v A5 pl))
   case atStart=>exact⟨0,_,Nat.zero_le _,rfl,rfl,rfl,HR5.out,hB5,HA.out⟩
   case round=>
    obtain⟨j,v,hj,rfl,rfl,rfl,hrow,hb,hA⟩:=hrel
    have hsr:=hb.size
    by_cases hjl:j<pl.length
    ·obtain⟨bA,oA,rfl,hblt,hbne,k0⟩:=hA.out j hjl
     have hjI:(j:Int)<(pl.length:Int):=by omega
     have Hn:Hid ((pl.take (j+1)).map (mvF i)=(pl.take j).map (mvF i)++[3*pl[j]+(i:Int)]):=by
      show _=_
      rw [List.take_succ_eq_append_getElem hjl,List.map_append]
      rfl
     have hml2:(L++(pl.take j).map (mvF i)).length≤14*i+14:=by
      rw [List.length_append,List.length_map,List.length_take]
      omega
     obtain⟨ms,hms⟩:∃ ms,ms=L++(pl.take j).map (mvF i):=⟨_,rfl⟩
     have Hms:=Lib.hid hms
     rw [← hms] at hrow hml2
     have hk14:=HK14.out j hjl
     generalize hkk:pl[j]=kk at k0 Hn hk14
     clear hkk hms
     obtain⟨cs,hown,hqq⟩:=hrow.out
     have Hown:=Lib.hid hown
     have Hqq:=Lib.hid hqq
     have hvlt:Hid (∀ g,v.ownBlock=some g→g<wr.heap.size):=fun g hg=>(RowOf.own_lt hrow.out hg).2
     clear hown hqq hrow
     go_wp2_with (at_builtin; refine wpList_append_lies (o:=⟨some 30,_,_,_,_,_⟩) _ (by rfl) _ _ _ (by rfl) W.heap.size 3 i0 _ 1 8 Try.underlying23 hi0 hz0 hz1 hz2 rfl (by omega) v ms.length cs (by rfl) (owns_alloc Hown.out _) ⟨wr.heap.size,0,none⟩ 1 1 [.int .i64 (3*kk+(i:Int))] (by rfl) (by rfl) (World.news_of_block (cs:=#[.int .i64 (3*kk+(i:Int))]) (t:=3) (fr:=(0,0)) (heap_alloc_new wr _)) (by simp [Value.oneCell']) (by omega) (by simp [maxLen]; omega) (by omega) (by simp; omega) (wr.heap.size+1) (by simp) ?_; intro gg cap w8 hown8 hgrow8 hat8 hlt8)
     have hB8:Below W.heap.size W w8:=below_of_grown (hb.alloc hsr _) hgrow8 (by simp; omega) (fun g hg=>owns_base' Hown.out hg)
     have hr8:=Lib.hid (RowOf.snoc (news:=[.int .i64 (3*kk+(i:Int))]) (x:=(3*kk+(i:Int))) qint_congr Hown.out Hqq.out rfl rfl hown8)
     have hA8:Hid (PlA w8 (.slice (some ⟨gg,0,none⟩) (ms.length+1) cap) (some ⟨bA,oA,none⟩) pl):=fun q hq=>by
      obtain⟨bA',oA',e,h1,h2,h3⟩:=hA.out q hq
      injection e with e
      injection e with e1 e2
      subst e1 e2
      refine⟨bA,oA,rfl,Nat.lt_of_lt_of_le h1 (Nat.le_trans (by simp) (World.grownBy.size hgrow8)),fun e=>?_,?_⟩
      ·have e:some gg=some bA:=e
       injection e with e
       subst e
       rcases hat8 with h | h
       ·exact h2 h
       ·omega
      ·rw [World.cell?_of_block (w:=wr) ((World.grownBy.block hgrow8 bA (by simp; omega) (fun e=>h2 e.symm)).trans (Go.Deep.blk_alloc_lt _ _ _ h1))]
       exact h3
     clear hown8 hgrow8 hat8
     go_wp2_with fail
     go_roundg (pl.length-(j+1))
     case measure=>omega
     case rel=>exact⟨j+1,_,by omega,rfl,rfl,by go_num,by rw [Hn.out,← List.append_assoc,← Hms.out]; exact hr8.out,hB8,hA8.out⟩
    ·obtain rfl:j=pl.length:=by omega
     have hN:Hid (L++(pl.take pl.length).map (mvF i)=mvA p s (i+1)):=by show _=_; rw [List.take_length]; exact Hnx.out.symm
     go_wp2_with fail
     go_roundg (p.length-(i+1))
     case measure=>omega
     case rel=>exact⟨i+1,_,by omega,rfl,rfl,by go_num,by rw [← hN.out]; exact hrow.out,hb⟩
  ·obtain rfl:i=p.length:=by omega
   have hsr':=hrow.out
   have hcs:=sortI_any (mvA p s p.length) wr W.heap.size v hrow.out (by have:=mvA_len p s p.length; omega)
   obtain⟨A6,c6,rfl,_⟩:=RowOf.slice hrow.out
   have HO:Hid (∀ g,(Value.slice A6 (mvA p s p.length).length c6).ownBlock=some g→W.heap.size≤g):=fun g hg=>(RowOf.own_lt hsr' hg).1
   clear hsr'
   go_wp2_with fail
   refine hcs.mono ?_
   rintro e7 w7 ⟨rfl,hr7,hg7⟩
   have hB7:Below W.heap.size W w7:=below_of_grown hb hg7 hb.size HO.out
   rw [HS.out] at hr7
   have HR7:=Lib.hid hr7
   clear hcs hr7 hg7
   go_wp2_with fail
   go_ret
   exact RetRowI.mk HR7.out hB7
end Go.Proofs.Ytojmofnamppbdaa
namespace Go.Proofs.Ytojmofnamppbdaa
open Go.RowKit
set_option linter.unusedVariables false
set_option maxRecDepth 100000
theorem kVI_len {p:Prg} {s:VSt} (hp:PrgOk p) (hs:VOk p s):(kVI s).length≤1000:=by
 have h1:=vkO_len hp hs 3
 have h2:=vk_key hp hs
 have h3:(strOfNums (vkO s 3)).size=(keyVI s).size:=by rw [h2]
 rw [strOfNums_size] at h3
 have h4:(keyVI s).size=(kVI s).length:=by
  unfold keyVI byt ByteArray.size
  simp only [List.size_toArray,List.length_map]
 omega
def keyVM (s:VSt):ByteArray:=if (keyVI s).size≤1000000 then keyVI s else ⟨#[]⟩
theorem keyVM_eq {p:Prg} (hp:PrgOk p) {s:VSt} (hs:VOk p s):keyVM s=keyVI s:=if_pos (by
 have:=kVI_len hp hs
 unfold keyVI byt ByteArray.size
 simp only [List.size_toArray,List.length_map]
 omega)
def viewM (p:Prg) (Ap:Option Addr) (cp:Nat):Mach VSt where
 succ:=sucV p
 s0:=vt0 p
 key:=keyVM
 done:=doneV p
 out:=outV
 mv:=fun s=>(mvV p s).map fun c=>((c:Nat):Int)
 R:=fun W b s=>VwL W b Ap cp p s∧PrgS W (.slice Ap p.length cp) p
theorem viewM_P {p:Prg} (hp:PrgOk p) (Ap:Option Addr) (cp:Nat):MachP (viewM p Ap cp) where
 le:=fun a a' b s hl h=>⟨h.1.le hl,h.2.le hl⟩
 len:=fun s _=>by
  show ((mvV p s).map fun c=>((c:Nat):Int)).length=(sucV p s).length
  unfold sucV
  rw [List.length_map,List.length_map]
 inj:=fun s t hs ht h=>by
  have h:keyVM s=keyVM t:=h
  rw [keyVM_eq hp (reachV_ok hp hs),keyVM_eq hp (reachV_ok hp ht)] at h
  exact keyVI_inj hp (reachV_ok hp hs) (reachV_ok hp ht) h
 klen:=fun s=>by
  show (keyVM s).size≤_
  unfold keyVM
  split
  ·assumption
  ·exact Nat.zero_le _
 few:=fun V hn h=>Nat.le_trans (view_few hp hn h) (by decide)
 opos:=fun s h=>by
  show 0<(outV s).length
  rw [outV_len (reachV_ok hp h)]
  omega
theorem viewM_C {p:Prg} (hp:PrgOk p) (Ap:Option Addr) (cp:Nat):MachCV (viewM p Ap cp) where
 key:=fun s hs W b h=>by
  have hk:=keyV_any p hp s (reachV_ok hp hs) W b Ap cp h.1
  rw [← keyVM_eq hp (reachV_ok hp hs)] at hk
  exact hk
 done:=fun s hs W b h=>doneV_any p hp s (reachV_ok hp hs) W b Ap cp h.1 h.2
 out:=fun s hs W b h=>outV_any p hp s (reachV_ok hp hs) W b Ap cp h.1
 mv:=fun s hs W b h=>movesV_any p hp s (reachV_ok hp hs) W b Ap cp h.1 h.2
 after:=fun s hs i hi hm W b a hl h=>by
  have hm':i<(mvV p s).length:=by
   have h1:i<((mvV p s).map fun c=>((c:Nat):Int)).length:=hm
   rw [List.length_map] at h1
   exact h1
  have e1:((mvV p s).map fun c=>((c:Nat):Int))[i]'hm=(((mvV p s)[i]:Nat):Int):=List.getElem_map _
  have e2:(sucV p s)[i]'hi=nxV p s (mvV p s)[i]:=List.getElem_map _
  obtain⟨h1,h2⟩:=mem_mvV (List.getElem_mem hm')
  have hc:=afterV_any p hp s (reachV_ok hp hs) _ _ h1 h2 W b Ap cp (h.1.le hl) (h.2.le hl)
  rw [show 3*((mvV p s)[i] / 3)+(mvV p s)[i] % 3=(mvV p s)[i] by omega] at hc
  show Calls _ _ #[_,.int .i64 (((mvV p s).map fun c=>((c:Nat):Int))[i]'hm)] _ _
  rw [e1]
  refine hc.mono ?_
  rintro e W' ⟨b',rfl,hB,hb⟩
  refine⟨b',rfl,fun a' h1 h2=>?_,hb⟩
  show VwL a' b' Ap cp p ((sucV p s)[i]'hi)∧_
  rw [e2]
  exact⟨hB a' h2,h.2.le h1⟩
def IsOutV (p:Prg) (L:List (List Int)):Prop:=(PrgOk p∧∃ V,Dfs (sucV p) (vt0 p) V []∧Asc L∧∀ y,y∈L↔∃ s∈V,doneV p s=true∧outV s=y)∨(¬ PrgOk p∧L=[])
def IsCntV (p:Prg) (n:Nat):Prop:=(PrgOk p∧∃ V,Dfs (sucV p) (vt0 p) V []∧n=V.length)∨(¬ PrgOk p∧n=0)
theorem IsCntV.le {p:Prg} {n:Nat} (h:IsCntV p n):n≤2000000000000:=by
 rcases h with ⟨h1,V,h2,rfl⟩ | ⟨_,rfl⟩
 ·exact Nat.le_trans (view_few h1 h2.nd h2.reach) (by decide)
 ·exact Nat.zero_le _
theorem IsOutV.iff {p:Prg} {L:List (List Int)} (hp:PrgOk p) (h:IsOutV p L) (y:List Int):y∈L↔OutV p y:=by
 rcases h with ⟨_,V,h1,_,h3⟩ | ⟨h1,_⟩
 ·rw [h3]
  exact⟨fun ⟨s,k1,k2⟩=>⟨s,h1.all.1 k1,k2⟩,fun⟨s,k1,k2⟩=>⟨s,h1.all.2 k1,k2⟩⟩
 ·exact absurd hp h1
theorem IsOutV.none {p:Prg} {L:List (List Int)} (hp:¬ PrgOk p) (h:IsOutV p L):L=[]:=by
 rcases h with ⟨h,_⟩ | ⟨_,h⟩
 ·exact absurd h hp
 ·exact h
theorem IsOutV.size {p:Prg} {L:List (List Int)} (h:IsOutV p L):∀ x∈L,x.length=p.length*3+3:=fun x hx=>by
 by_cases hp:PrgOk p
 ·obtain⟨s,h1,_,rfl⟩:=(h.iff hp x).1 hx
  exact outV_len (reachV_ok hp h1)
 ·rw [h.none hp] at hx
  cases hx
theorem IsOutV.few {p:Prg} {L:List (List Int)} (h:IsOutV p L):L.length≤2000000000000:=by
 rcases h with ⟨hp,V,h1,h2,h3⟩ | ⟨_,rfl⟩
 ·have hV:=view_few hp h1.nd h1.reach
  have hn:L.Nodup:=h2.imp fun h e=>by rw [e,lexC_self] at h; omega
  have h4:=nodup_le L (V.map outV) hn fun y hy=>by
   obtain⟨s,k1,_,k3⟩:=(h3 y).1 hy
   exact List.mem_map.2 ⟨s,k1,k3⟩
  rw [List.length_map] at h4
  omega
 ·exact Nat.zero_le _
end Go.Proofs.Ytojmofnamppbdaa
