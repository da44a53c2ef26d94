/-
  The walk of impl.LocsOf, as far as it tells whether a program has one location.
-/
import Derived.Test.YtojmofnamppbdaaGreatImPa
import Derived.Test.YtojmofnamppbdaaGreatSl
import Derived.Test.YtojmofnamppbdaaGreatWInsP
import Derived.Test.YtojmofnamppbdaaGreatBufA
import Derived.Test.YtojmofnamppbdaaGreatRwS
namespace Go.Proofs.YtojmofnamppbdaaGreat
open Go.RowKit
set_option linter.unusedVariables false
set_option maxRecDepth 100000
def locT (t:List Ins):List Int:=(t.filter nf).map Ins.loc
def locL (p:Prg):List Int:=p.flatMap locT
theorem locT_snoc {l:List Ins} {x:Ins}:locT (l++[x])=locT l++if x.op=4 then [] else [x.loc]:=by
 unfold locT nf
 rw [List.filter_append,List.map_append]
 by_cases h:x.op=4 <;> simp [h]
theorem locL_next {p:Prg} {i:Nat} (h:i<p.length):locL (p.take (i+1))=locL (p.take i)++locT p[i]:=by
 unfold locL
 rw [List.take_succ_eq_append_getElem h,List.flatMap_append]
 simp
theorem compact_one {ys:List Int} (h:(Lib.compact ys).length≤1):∀ a∈ys,∀ b∈ys,a=b:=by
 have hz:∀ j,0<j→j<ys.length→Lib.keeps ys.toArray j=false:=fun j h0 hj=>by
  cases hk:Lib.keeps ys.toArray j with
  | false=>rfl
  | true=>
   exfalso
   unfold Lib.compact Lib.compactUpTo at h
   rw [List.length_map] at h
   have h2:=nodup_le [0,j] ((List.range ys.length).filter (Lib.keeps ys.toArray)) (by simp; omega) (fun x hx=>by
    rw [List.mem_filter,List.mem_range]
    simp only [List.mem_cons,List.not_mem_nil,or_false] at hx
    rcases hx with rfl | rfl
    ·exact⟨by omega,by simp [Lib.keeps]⟩
    ·exact⟨hj,hk⟩)
   simp only [List.length_cons,List.length_nil] at h2
   omega
 have key:∀ j (hj:j<ys.length),ys[j]=ys[0]'(by omega):=fun j=>by
  induction j with
  | zero=>intro _; rfl
  | succ j ih=>
   intro hj
   have h1:=hz (j+1) (by omega) hj
   have h2:=ih (by omega)
   unfold Lib.keeps at h1
   simp [hj,show j<ys.length by omega] at h1
   rw [← h2]
   exact h1
 intro a ha b hb
 obtain⟨i,hi,rfl⟩:=List.getElem_of_mem ha
 obtain⟨j,hj,rfl⟩:=List.getElem_of_mem hb
 rw [key i hi,key j hj]
theorem loc_one {p:Prg} (hp:PrgOk p) (h:(Lib.compact (srt (locL p))).length≤1):∃ l0:Nat,l0<3∧LocP p l0:=by
 have hall:=compact_one h
 have hmem:∀ t,∀ x∈thrP p t,x.op=4∨x.loc∈srt (locL p):=fun t x hx=>by
  by_cases h4:x.op=4
  ·exact .inl h4
  ·right
   unfold srt
   rw [List.mem_mergeSort]
   unfold locL
   rcases Nat.lt_or_ge t p.length with ht | ht
   ·rw [thrP_getB ht] at hx
    exact List.mem_flatMap.2 ⟨p[t],List.getElem_mem ht,List.mem_map.2 ⟨x,List.mem_filter.2 ⟨hx,by simp [nf,h4]⟩,rfl⟩⟩
   ·unfold thrP at hx
    rw [List.getD_eq_getElem?_getD,List.getElem?_eq_none ht] at hx
    cases hx
 by_cases hex:∃ t,∃ x∈thrP p t,x.op≠4
 ·obtain⟨t0,x0,hx0,h0⟩:=hex
  have hl:=((thr_ok hp t0).2 x0 hx0).loc
  refine⟨x0.loc.toNat,by omega,fun t x hx=>?_⟩
  rcases hmem t x hx with h | h
  ·exact .inl h
  ·right
   rw [hall _ h _ ((hmem t0 x0 hx0).resolve_left h0)]
   omega
 ·refine⟨0,by omega,fun t x hx=>.inl ?_⟩
  false_or_by_contra
  exact hex ⟨t,x,hx,by assumption⟩
def RetLo (p:Prg) (W:World) (e:Ending) (W':World):Prop:=∃ (A:Option Addr) (n c:Nat),e=.returned (.slice A n c)∧(n≤1→PrgOk p→∃ l0:Nat,l0<3∧LocP p l0)∧n≤1000∧Below W.heap.size W W'
theorem compact_lenL (ys:List Int):(Lib.compact ys).length≤ys.length:=by
 unfold Lib.compact Lib.compactUpTo
 rw [List.length_map]
 have:=List.length_filter_le (Lib.keeps ys.toArray) (List.range ys.length)
 simpa using this
theorem below_setCellsL (B g:Nat) (hg:B≤g):∀ (vs:List Value) (o:Nat) (w:World),Below B w (w.setCells g o vs)
 | [],_,w=>Below.refl _ _
 | v::r,o,w=>((Below.refl B w).setCell (p:=⟨g,o,none⟩) hg v).trans (below_setCellsL B g hg r (o+1) _)
theorem compactS_any (zs:List Int) (w:World) (B:Nat) (v:Value) (h:RowI w B v zs) (hz:zs.length≤1000):
  Calls Tryz.prog 76 #[v] w (fun e w'=>∃ (A':Option Addr) (n' c':Nat),e=.returned (.slice A' n' c')∧n'=(Lib.compact zs).length∧Below B w w'):=by
 obtain⟨A3,c3,rfl,hle,_⟩:=RowOf.slice h
 rcases Nat.eq_zero_or_pos zs.length with h0 | h0
 ·obtain rfl:zs=[]:=List.length_eq_zero_iff.1 h0
  exact (Tryz.slices_Compact_int_empty A3 c3 w).mono fun e w' ⟨h1,h2⟩=>⟨A3,0,c3,h1,by simp [Lib.compact,Lib.compactUpTo],by rw [h2]; exact Below.refl _ _⟩
 ·obtain⟨g,rfl,hg1,hg2,hg3,hg4⟩:=RowI.at (i:=0) h h0
  refine (Tryz.slices_Compact_int_cells g 0 zs.length c3 zs w (Nat.le_refl _) (by omega) hle (fun j hj=>by rw [Nat.zero_add]; exact hg4 j hj) (fun j _=>hg3 _)).mono fun e w' ⟨h1,q,h2⟩=>⟨_,_,c3,h1,by rw [List.take_length],?_⟩
  rw [h2]
  have hd:Below B w (w.drewN q):=⟨rfl,rfl,rfl,Nat.le_refl _,fun _ _=>rfl⟩
  exact hd.trans (below_setCellsL B g hg1 _ _ _)
set_option maxHeartbeats 2000000 in
theorem locsOf_any (p:Prg) (hl:p.length≤1048576) (hls:∀ t∈p,t.length≤1048576) (W:World) (v:Value) (hr:PrgS W v p):Calls Tryz.prog 40 #[v] W (RetLo p W):=by
 obtain⟨i0,hi0,hz0,hz1,hz2⟩:=info_parts Tryz.infoInt
 have hv:=implPrg_any p hl hls W v hr
 have HR:=Lib.hid hr
 obtain⟨A,c,rfl,_⟩:=hr.slice
 have HF:Hid (prgB p=false→¬ PrgOk p):=fun h=>prgB_false.1 h
 have HT:Hid (prgB p=true→PrgOk p):=fun h=>prgB_iff.1 h
 go_enter Tryz.func40,Tryz.ntmps40
 go_wp2_with fail
 refine hv.mono ?_
 rintro e1 w1 ⟨rfl,hb1⟩
 clear hv hr
 cases hpb:prgB p
 ·have Hn:Hid (¬ PrgOk p):=HF.out hpb
  clear hpb HT HF
  go_wp2_with fail
  go_ret
  exact⟨none,0,0,rfl,fun _ h=>absurd h Hn.out,by omega,hb1⟩
 have Hp:Hid (PrgOk p):=HT.out hpb
 have HP1:=Lib.hid (HR.out.le (Le.below hb1))
 have hp3:=Hp.out.1.1
 have hW1:=hb1.size
 clear hpb HT HF HR
 go_wp2_with fail
 go_loopg [3,13] p.length (fun g s3 s13 wr=>∃ (i:Nat) (v3:Value) (ms:List Int),i≤p.length∧g=p.length-i∧v3=s3∧s13=.int .i64 i∧Hid (RowI wr w1.heap.size v3 ms∧ms=locL (p.take i))∧ms.length≤7*i∧Below w1.heap.size w1 wr)
 case atStart=>exact⟨0,_,[],Nat.zero_le _,rfl,rfl,rfl,⟨RowOf.nil _ _ _ _ _,rfl⟩,Nat.zero_le _,Below.refl _ _⟩
 case round=>
  obtain⟨wo,rfl⟩:∃ wo:World,wo=wr:=⟨_,rfl⟩
  obtain⟨i,v3,ms,hi,rfl,rfl,rfl,hrow,hml,hb⟩:=hrel
  have hbs:=hb.size
  by_cases hlt:i<p.length
  ·obtain⟨bp,op,A2,c2,e,hbl,k0,hlm,hx⟩:=SlR.getSub HP1.out hlt
   have htl:p[i].length≤7:=(Hp.out.1.2.1 _ (List.getElem_mem hlt)).1
   have Hnext:Hid (locL (p.take (i+1))=locL (p.take i)++locT p[i]):=locL_next hlt
   have K0:Hid (∀ U,Below w1.heap.size w1 U→U.cell? ⟨bp,op+i,none⟩=some (.slice A2 p[i].length c2)):=fun U hU=>Le.below hU _ _ k0
   have k0':=K0.out wo hb
   subst e
   have Hx:=Lib.hid hx
   generalize p[i]=t at htl Hnext K0 k0' Hx hlm
   clear hx k0
   have HrowO:=hrow
   go_wp2_with fail
   clear k0'
   go_loopg [3,19] t.length (fun g s3 s19 wr=>∃ (k:Nat) (v6:Value) (ns:List Int),k≤t.length∧g=t.length-k∧v6=s3∧s19=.int .i64 k∧Hid (RowI wr w1.heap.size v6 ns∧ns=ms++locT (t.take k))∧ns.length≤7*i+k∧Below w1.heap.size w1 wr)
   case atStart=>exact⟨0,_,ms,Nat.zero_le _,rfl,rfl,rfl,⟨HrowO.out.1,by simp [locT]⟩,hml,hb⟩
   case round=>
    obtain⟨wi,rfl⟩:∃ wi:World,wi=wr:=⟨_,rfl⟩
    clear hrow
    obtain⟨k,v6,ns,hk,rfl,rfl,rfl,hin,hnl,hbi⟩:=hrel
    have hbis:=hbi.size
    by_cases hkl:k<t.length
    ·obtain⟨b2,o2,e2,hb2,ii0,ii1,ii2,ii3⟩:=InsS.get (InsS.le Hx.out (Le.below hbi)) hkl
     subst e2
     have Hnk:Hid (locT (t.take (k+1))=locT (t.take k)++if t[k].op=4 then [] else [t[k].loc]):=by
      show _=_
      rw [List.take_succ_eq_append_getElem hkl,locT_snoc]
     generalize t[k]=x at ii0 ii1 ii2 ii3 Hnk
     obtain⟨w9,hw9⟩:∃ w9,w9=wi.alloc (.cells #[.int .i64 x.op,.int .i64 x.loc,.int .i64 x.reg,.int .i64 x.val] 50):=⟨_,rfl⟩
     have oI:Own w9 wi.heap.size 50 #[.int .i64 x.op,.int .i64 x.loc,.int .i64 x.reg,.int .i64 x.val]:=by rw [hw9]; exact Own.new _ _ _
     have hb9:Below wi.heap.size wi w9:=by rw [hw9]; exact (Below.refl _ _).alloc (Nat.le_refl _) _
     have hB9:=hbi.trans (hb9.mono hbis)
     have hl9:=oI.lt
     have hrow9:RowI w9 w1.heap.size v6 ns:=RowOf.below hin.out.1 hb9
     have Hns:=Lib.hid hin.out.2
     have hbs9:=hB9.size
     clear hin
     go_upto_region 10 with (fail)
     rw [← hw9]
     clear hw9 ii0 ii1 ii2 ii3 hb9
     have j0:=oI.cell (i:=0) rfl
     have j1:=oI.cell (i:=1) rfl
     by_cases h4:x.op=4
     ·have o4:(x.op != (4:Int))=false:=by rw [h4]; rfl
      have o4':(x.op == (4:Int))=true:=by rw [h4]; rfl
      have Hn2:Hid (RowI w9 w1.heap.size v6 ns∧ns=ms++locT (t.take (k+1))):=⟨hrow9,by rw [Hnk.out,if_pos h4,List.append_nil]; exact Hns.out⟩
      clear h4 hrow9
      go_wp2_with fail
      go_roundg (t.length-(k+1))
      case measure=>omega
      case rel=>exact⟨k+1,_,ns,by omega,rfl,rfl,by go_num,Hn2.out,by omega,hB9⟩
     ·have o4:(x.op != (4:Int))=true:=by rw [bne_iff_ne]; exact h4
      have o4':(x.op == (4:Int))=false:=by rw [beq_eq_false_iff_ne]; exact h4
      have Hn2:Hid (ns++[x.loc]=ms++locT (t.take (k+1))):=by
       show _=_
       rw [Hnk.out,if_neg h4,Hns.out,List.append_assoc]
      have Hv6:Hid (∀ g,v6.ownBlock=some g→w1.heap.size≤g):=fun g hg=>(hrow9.blk hg).1
      obtain⟨cs6,hown,hqq⟩:=hrow9
      have Hown:=Lib.hid hown
      have Hqq:=Lib.hid hqq
      clear h4 hown hqq
      go_wp2_with (at_builtin; refine wpList_append_lies _ (by rfl) _ _ _ (by rfl) w1.heap.size 3 i0 _ 1 8 Tryz.underlying31 hi0 hz0 hz1 hz2 rfl (by omega) v6 ns.length cs6 (by rfl) (owns_alloc Hown.out _) ⟨w9.heap.size,0,none⟩ 1 1 [.int .i64 x.loc] (by rfl) (by rfl) (World.news_of_block (cs:=#[.int .i64 x.loc]) (t:=3) (fr:=(0,0)) (heap_alloc_new w9 _)) (by simp [Value.oneCell']) (by omega) (by simp [maxLen]; omega) (by omega) (by simp; omega) (w9.heap.size+1) (by simp) ?_; intro gg cap w8 hown8 hgrow8 hat8 hlt8)
      have hB8:Below w1.heap.size w1 w8:=below_of_grown (hB9.alloc hbs9 _) hgrow8 (by simp; omega) (fun g hg=>Hv6.out g hg)
      have hr8:Hid (RowI w8 w1.heap.size (.slice (some ⟨gg,0,none⟩) (ns.length+1) cap) (ns++[x.loc])):=RowOf.snoc (news:=[.int .i64 x.loc]) (x:=x.loc) qint_congr Hown.out Hqq.out rfl rfl hown8
      clear hown8 hgrow8 hat8
      go_wp2_with fail
      go_roundg (t.length-(k+1))
      case measure=>omega
      case rel=>exact⟨k+1,_,ns++[x.loc],by omega,rfl,rfl,by go_num,⟨hr8.out,Hn2.out⟩,by simp; omega,hB8⟩
    ·obtain rfl:k=t.length:=by omega
     rw [List.take_length] at hin
     have Hn2:Hid (RowI wi w1.heap.size v6 ns∧ns=locL (p.take (i+1))):=⟨hin.out.1,by rw [hin.out.2,HrowO.out.2,Hnext.out]⟩
     clear hin
     go_wp2_with fail
     go_roundg (p.length-(i+1))
     case measure=>omega
     case rel=>exact⟨i+1,_,ns,by omega,rfl,rfl,by go_num,Hn2.out,by omega,hbi⟩
  ·obtain rfl:i=p.length:=by omega
   rw [List.take_length] at hrow
   have hso:=sortI_any ms wo w1.heap.size v3 hrow.out.1 (by omega)
   have Hms:=Lib.hid hrow.out.2
   have Hv3:Hid (∀ g,v3.ownBlock=some g→w1.heap.size≤g):=fun g hg=>(hrow.out.1.blk hg).1
   clear hrow
   go_wp2_with fail
   refine hso.mono ?_
   rintro e5 w5 ⟨rfl,hr5,hg5⟩
   have hB5:Below w1.heap.size w1 w5:=below_of_grown hb hg5 hbs (fun g hg=>Hv3.out g hg)
   have Hone:Hid ((Lib.compact (srt ms)).length≤1→PrgOk p→∃ l0:Nat,l0<3∧LocP p l0):=fun h hp=>loc_one hp (by rw [← Hms.out]; exact h)
   have hsl:(srt ms).length=ms.length:=srt_length ms
   have hcl:(Lib.compact (srt ms)).length≤1000:=by
    have:=compact_lenL (srt ms)
    omega
   have hcp:=compactS_any (srt ms) w5 w1.heap.size _ hr5 (by omega)
   generalize (Lib.compact (srt ms)).length=nn at hcp Hone hcl
   have Hr5:=Lib.hid hr5
   clear hso hr5 hg5 hbs hsl
   go_wp2_with fail
   refine hcp.mono ?_
   rintro e6 w6 ⟨A6,n6,c6,rfl,hn6,hB6⟩
   clear hcp
   subst hn6
   go_wp2_with fail
   go_ret
   exact⟨A6,_,c6,rfl,Hone.out,hcl,hb1.trans ((hB5.trans hB6).mono hW1)⟩
end Go.Proofs.YtojmofnamppbdaaGreat
