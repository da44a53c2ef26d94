/-
  Sorting outcomes: slices.Compare, slices.SortFunc at rows of ints of one's own; slices.CompactFunc. slices.CompactFunc at outcomes; impl.sortedOutcomes.
-/
import Derived.Test.YtojmofnamppbdaaGreatMcA
import Derived.Test.YtojmofnamppbdaaGreatSl
import Derived.Test.YtojmofnamppbdaaGreatPlM
import Derived.Test.YtojmofnamppbdaaGreatInts
import Derived.Lib.SliceRun
import Derived.Deep.RegionWith
import Derived.Shelf.SlSortCmp.NoneTotal
namespace Go.Proofs.YtojmofnamppbdaaGreat
open Go.RowKit
set_option linter.unusedVariables false
set_option maxRecDepth 100000
set_option maxHeartbeats 1000000 in
theorem cmpC_any (xs ys:List Int) (w:World) (A A':Option Addr) (c c':Nat) (hr:Ints w A c xs) (hr':Ints w A' c' ys):
  Calls Tryz.prog 107 #[.slice A xs.length c,.slice A' ys.length c'] w (fun e w'=>e=.returned (.int .i64 (lexC xs ys))∧w=w'):=by
 have hm:=hr.len
 have hm':=hr'.len
 go_enter Tryz.func107,Tryz.ntmps107
 go_wp2_with fail
 go_loopg [11] xs.length (fun g s11 wr=>∃ k:Nat,k≤xs.length∧k≤ys.length∧g=xs.length-k∧s11=.int .i64 k∧Hid (lexC xs ys=lexC (xs.drop k) (ys.drop k))∧w=wr)
 case atStart=>exact⟨0,Nat.zero_le _,Nat.zero_le _,rfl,rfl,rfl,rfl⟩
 case round=>
  obtain⟨k,hk,hk',rfl,rfl,hpre,rfl⟩:=hrel
  by_cases hlt:k<xs.length
  ·obtain⟨b,o,rfl,hbl,k0⟩:=hr.get hlt
   by_cases hlt':k<ys.length
   ·obtain⟨b',o',rfl,hbl',d0⟩:=hr'.get hlt'
    have Hd:=Lib.hid (lexC_drop hlt hlt')
    have hc:=Tryz.cmp_Compare_int xs[k] ys[k] w
    unfold Lib.compareInt at hc
    generalize xs[k]=x at k0 Hd hc
    generalize ys[k]=y at d0 Hd hc
    clear hr hr'
    by_cases h1:x<y
    ·rw [if_pos h1] at hc
     have Hp:Hid (lexC xs ys = -1):=by show _=_; rw [hpre.out,Hd.out,if_pos h1]
     clear hpre Hd h1
     go_wp2_with fail
     refine hc.mono ?_
     rintro e5 w5 ⟨rfl,rfl⟩
     clear hc
     go_wp2_with fail
     go_ret
     exact⟨by rw [Hp.out]; rfl,rfl⟩
    ·by_cases h2:x>y
     ·rw [if_neg h1,if_pos h2] at hc
      have Hp:Hid (lexC xs ys=1):=by show _=_; rw [hpre.out,Hd.out,if_neg h1,if_pos h2]
      clear hpre Hd h1 h2
      go_wp2_with fail
      refine hc.mono ?_
      rintro e5 w5 ⟨rfl,rfl⟩
      clear hc
      go_wp2_with fail
      go_ret
      exact⟨by rw [Hp.out]; rfl,rfl⟩
     ·rw [if_neg h1,if_neg h2] at hc
      have Hp:Hid (lexC xs ys=lexC (xs.drop (k+1)) (ys.drop (k+1))):=by show _=_; rw [hpre.out,Hd.out,if_neg h1,if_neg h2]
      clear hpre Hd h1 h2
      go_wp2_with fail
      refine hc.mono ?_
      rintro e5 w5 ⟨rfl,rfl⟩
      clear hc
      go_wp2_with fail
      go_roundg (xs.length-(k+1))
      case measure=>omega
      case rel=>exact⟨k+1,by omega,by omega,rfl,by go_num,Hp.out,rfl⟩
   ·have Hp:Hid (lexC xs ys=1):=by show _=_; rw [hpre.out,lexC_more hlt hlt']
    obtain rfl:k=ys.length:=by omega
    clear hpre
    go_wp2_with fail
    go_ret
    exact⟨by rw [Hp.out]; rfl,rfl⟩
  ·obtain rfl:k=xs.length:=by omega
   by_cases hlt':xs.length<ys.length
   ·have Hp:Hid (lexC xs ys = -1):=by show _=_; rw [hpre.out,lexC_less hlt hlt']
    clear hpre
    go_wp2_with fail
    go_ret
    exact⟨by rw [Hp.out]; rfl,rfl⟩
   ·have Hp:Hid (lexC xs ys=0):=by show _=_; rw [hpre.out,lexC_both hlt hlt']
    clear hpre
    go_wp2_with fail
    go_ret
    exact⟨by rw [Hp.out]; rfl,rfl⟩
section
variable {α:Type} (enc:α→Value)
theorem rowV_of {w:World} {base:Nat} {e:TypeId} {v:Value} {xs:List α} (h:w.ownsRow base e 1 v xs.length (xs.map enc)):RowOf 1 (fun cs x=>cs 0=enc x) w base e v xs:=
 ⟨_,h,fun i hi=>by show List.getD _ _ _=_; simp [hi]⟩
theorem rowV_to {w:World} {base:Nat} {e:TypeId} {v:Value} {xs:List α} (h:RowOf 1 (fun cs x=>cs 0=enc x) w base e v xs):w.ownsRow base e 1 v xs.length (xs.map enc):=by
 obtain⟨cs,h1,h2⟩:=h
 have hl:=h1.1
 have:cs=xs.map enc:=by
  apply List.ext_getElem
  ·simp [hl]
  ·intro i h3 h4
   have hi:i<xs.length:=by simpa using h4
   have:=h2 i hi
   simp only [Nat.mul_one,Nat.add_zero] at this
   rw [List.getD_eq_getElem?_getD,List.getElem?_eq_getElem h3] at this
   simpa using this
 rw [← this]
 exact h1
theorem take_putV [Inhabited α] (d:Array α) (cur:Array Value) (h:d.size≤cur.size):(Go.Sort.putCells enc 0 d cur).toList.take d.size=d.toList.map enc:=by
 apply List.ext_getElem?
 intro i
 rw [List.getElem?_take]
 by_cases hi:i<d.size
 ·rw [if_pos hi]
  simp only [Go.Sort.putCells,Array.getElem?_toList,Array.getElem?_mapIdx,List.getElem?_map]
  have h1:cur[i]?=some cur[i]:=by simp [show i<cur.size by omega]
  rw [h1]
  simp [hi]
 ·rw [if_neg hi]
  exact (List.getElem?_eq_none (by simp; omega)).symm
theorem sortWorld_grown [Inhabited α] (w:World) (g off n:Nat) (d:Array α) (os:Array Obj):w.grownBy (Go.Proofs.sortWorld enc w g off n d os) (some g):=by
 unfold Go.Proofs.sortWorld
 refine⟨rfl,rfl,rfl,by simp [Go.Sort.grow,Go.Sort.ahead,Go.Sort.putRow,Go.Sort.mapBlock],fun i hi hne=>?_⟩
 rw [Go.Sort.heap_grow_old _ _ (by simpa [Go.Sort.ahead,Go.Sort.putRow,Go.Sort.mapBlock] using hi)]
 simp only [Go.Sort.putRow,Go.Sort.mapBlock,Array.getElem?_modify,Go.Sort.ahead]
 rw [if_neg (fun e=>hne (by rw [e]))]
end
abbrev OA (a:World):Type:={o:OE // Ints a (some ⟨o.g,0,none⟩) o.c o.x}
instance (a:World):Inhabited (OA a):=⟨⟨⟨0,0,[]⟩,⟨_,_,rfl,by simp,fun i hi=>absurd hi (Nat.not_lt_zero _)⟩⟩⟩
def cfO (a:World) (x y:OA a):Int:=lexC x.1.x y.1.x
theorem cfO_swo (a:World):Go.Sort.SWO (Go.Proofs.ltOf (cfO a)) where
 irrefl x:=by unfold Go.Proofs.ltOf cfO; rw [lexC_self]; decide
 trans x y z h k:=by
  unfold Go.Proofs.ltOf cfO at *
  rw [decide_eq_true_iff] at *
  exact lexC_trans _ _ _ h k
 ntrans x y z h k:=by
  unfold Go.Proofs.ltOf cfO at *
  rw [decide_eq_false_iff_not] at *
  exact lexC_ntrans _ _ _ h k
theorem sortO_any (os:List OE) (w:World) (base:Nat) (v:Value) (h:RowOf 1 QOE w base 31 v os) (hpos:0<os.length) (hl:os.length≤5000000000000) (a:World) (hin:∀ o∈os,Ints a (some ⟨o.g,0,none⟩) o.c o.x) (ha:∀ w',w.grownBy w' v.ownBlock→Le a w'):
  Calls Tryz.prog 106 #[v,.func (.func 107) #[] #[]] w (fun e w'=>e=.returned (.tuple #[])∧∃ os':List OE,RowOf 1 QOE w' base 31 v os'∧os'.Perm os∧(∀ i j (hj:j<os'.length) (hi:i<j),¬ lexC os'[j].x (os'[i]'(Nat.lt_trans hi hj)).x<0)∧w.grownBy w' v.ownBlock):=by
 have hm:=rowV_to OE.v h
 rcases hm.2 with ⟨_,h0⟩ | ⟨g,cap,cur,rfl,hb,hg,hn,hcm,hc,ht⟩
 ·omega
 ·have hgl:g<w.heap.size:=(Array.getElem?_eq_some_iff.1 hg).elim fun h _=>h
  obtain⟨L,hL⟩:∃ L:List (OA a),L=os.pmap (fun o h=>⟨o,h⟩) hin:=⟨_,rfl⟩
  have hLm:L.map Subtype.val=os:=by rw [hL,List.map_pmap]; simp
  have hLl:L.length=os.length:=by rw [← hLm]; simp
  have hLe:L.map (fun x=>OE.v x.1)=os.map OE.v:=by rw [← hLm,List.map_map]; rfl
  have hH:Go.Sort.Holds (fun x:OA a=>OE.v x.1) w g 0 L.toArray:=fun j hj=>by
   have hj':j<L.length:=by simpa using hj
   refine⟨?_,by simp [World.frozen?,hg]⟩
   have h1:(os.map OE.v)[j]?=cur.toList[j]?:=by rw [← ht,List.getElem?_take,if_pos (by omega)]
   rw [Nat.zero_add,cell_of_row w g j cur 31 (0,0) hg,← Array.getElem?_toList,← h1,← hLe]
   simp [hj']
  have hcmp:Go.Proofs.CmpLays1 Tryz.prog 107 #[] (fun x:OA a=>OE.v x.1) (cfO a) g 0 L.toArray.size w:=fun m os' dk hs x y=>by
   have hle:=ha _ (sortWorld_grown (fun x:OA a=>OE.v x.1) w g 0 m dk os')
   refine (cmpC_any x.1.x y.1.x _ _ _ _ _ (Ints.le x.2 hle) (Ints.le y.2 hle)).mono fun e w' ⟨h1,h2⟩=>⟨h1,0,#[],?_⟩
   rw [← h2,Go.Sort.grow_empty]
   rfl
  have hS:=Tryz.slices_SortFunc (fun x:OA a=>OE.v x.1) (fun x=>rfl) (cfO a) (cfO_swo a) 107 #[] g 0 cap L.toArray w (fun args w=>by kernel_rfl) hcmp hH hgl (by simp; omega)
  rw [show L.toArray.size=os.length by simp [hLl]] at hS
  refine hS.mono fun e w' ⟨h1,d',n,os',hp,hs,hw⟩=>⟨h1,d'.toList.map Subtype.val,?_,?_,?_,?_⟩
  ·have hds:d'.size=os.length:=by rw [hp.1]; simp [hLl]
   have hmap:w'.heap[g]?=some (.cells (Go.Sort.putCells (fun x:OA a=>OE.v x.1) 0 d' cur) 31 (0,0)):=by
    rw [hw]
    unfold Go.Proofs.sortWorld
    rw [Go.Sort.heap_grow_old _ _ (by simpa [Go.Sort.ahead,Go.Sort.putRow,Go.Sort.mapBlock] using hgl)]
    simp [Go.Sort.putRow,Go.Sort.mapBlock,Array.getElem?_modify,Go.Sort.ahead,hg,Go.Sort.onCells]
   have hlen:(d'.toList.map Subtype.val).length=os.length:=by simp [hds]
   exact rowV_of OE.v ⟨by simp,.inr ⟨g,cap,_,by rw [hlen],hb,hmap,by rw [hlen]; exact hn,hcm,by simpa [Go.Sort.putCells] using hc,by
    have:=take_putV (fun x:OA a=>OE.v x.1) d' cur (by omega)
    rw [hlen,Nat.mul_one,← hds,this,List.map_map]
    rfl⟩⟩
  ·have h2:=hp.2.2
   have hds:d'.size=os.length:=by rw [hp.1]; simp [hLl]
   rw [show d'.extract 0 os.length=d' by rw [← hds]; simp,show L.toArray.extract 0 os.length=L.toArray by rw [← hLl]; simp] at h2
   have:=h2.map Subtype.val
   rwa [show L.toArray.toList.map Subtype.val=os by simpa using hLm] at this
  ·intro i j hj hi
   have hj':j<d'.size:=by simpa using hj
   have hds:d'.size=os.length:=by rw [hp.1]; simp [hLl]
   have h2:=hs i j (Nat.zero_le _) hi (by omega)
   unfold Go.Proofs.ltOf cfO at h2
   rw [decide_eq_false_iff_not,getElem!_pos d' j hj',getElem!_pos d' i (by omega)] at h2
   simpa using h2
  ·rw [hw]
   exact sortWorld_grown _ w g 0 n d' os'
end Go.Proofs.YtojmofnamppbdaaGreat
namespace Go.Proofs.YtojmofnamppbdaaGreat
open Go.RowKit
set_option linter.unusedVariables false
set_option maxRecDepth 100000
def kpO (g:Nat→OE) (j:Nat):Prop:=j=0∨(g j).x≠(g (j-1)).x
instance (g:Nat→OE) (j:Nat):Decidable (kpO g j):=by unfold kpO; infer_instance
def cUp (g:Nat→OE):Nat→List OE
 | 0=>[]
 | m+1=>cUp g m++(if kpO g m then [g m] else [])
def gO (os:List OE) (j:Nat):OE:=os.getD j ⟨0,0,[]⟩
theorem gO_get {os:List OE} {j:Nat} (h:j<os.length):gO os j=os[j]:=by
 unfold gO
 rw [List.getD_eq_getElem?_getD,List.getElem?_eq_getElem h]
 rfl
theorem cUp_all {os:List OE}:∀ m,m≤os.length→(∀ j,j<m→kpO (gO os) j)→cUp (gO os) m=os.take m
 | 0,_,_=>by simp [cUp]
 | m+1,hm,h=>by
  rw [cUp,cUp_all m (by omega) (fun j hj=>h j (by omega)),if_pos (h m (by omega)),List.take_succ_eq_append_getElem (by omega),gO_get (by omega)]
theorem cUp_sub (os:List OE):∀ m,m≤os.length→(cUp (gO os) m).Sublist (os.take m)
 | 0,_=>by simp [cUp]
 | m+1,hm=>by
  rw [cUp,List.take_succ_eq_append_getElem (by omega),← gO_get (by omega)]
  refine List.Sublist.append (cUp_sub os m (by omega)) ?_
  split
  ·exact List.Sublist.refl _
  ·exact List.nil_sublist _
theorem asc_snoc {L:List (List Int)} {x:List Int} (h:Asc L) (hx:∀ y∈L,lexC y x<0):Asc (L++[x]):=
 List.pairwise_append.2 ⟨h,by simp,fun y hy z hz=>by rw [List.mem_singleton.1 hz]; exact hx y hy⟩
theorem cUp_asc {os:List OE} (hs:∀ i j (hj:j<os.length) (hi:i<j),¬ lexC os[j].x (os[i]'(Nat.lt_trans hi hj)).x<0):∀ m,m≤os.length→Asc ((cUp (gO os) m).map OE.x)∧∀ y,y∈(cUp (gO os) m).map OE.x↔y∈(os.take m).map OE.x
 | 0,_=>by simp [cUp,Asc]
 | m+1,hm=>by
  obtain⟨h1,h2⟩:=cUp_asc hs m (by omega)
  have hmem:∀ y∈(os.take m).map OE.x,∃ j,∃ h:j<os.length,j<m∧os[j].x=y:=fun y hy=>by
   obtain⟨o,ho,rfl⟩:=List.mem_map.1 hy
   obtain⟨j,hj,rfl⟩:=List.getElem_of_mem ho
   rw [List.length_take] at hj
   exact⟨j,by omega,by omega,by rw [List.getElem_take]⟩
  rw [cUp,List.take_succ_eq_append_getElem (by omega)]
  by_cases hk:kpO (gO os) m
  ·rw [if_pos hk,List.map_append,gO_get (by omega)]
   refine⟨asc_snoc h1 fun y hy=>?_,fun y=>by rw [List.mem_append,h2,List.map_append,List.mem_append]⟩
   obtain⟨j,hj,hjm,rfl⟩:=hmem y ((h2 y).1 hy)
   rcases hk with hk | hk
   ·omega
   ·rw [gO_get (by omega),gO_get (by omega)] at hk
    have a1:=hs (m-1) m (by omega) (by omega)
    have a2:=lexC_anti os[m].x (os[m-1]'(by omega)).x
    have a3:lexC (os[m-1]'(by omega)).x os[m].x<0:=by
     have:lexC os[m].x (os[m-1]'(by omega)).x≠0:=fun e=>hk (lexC_eq _ _ e)
     omega
    by_cases e:j=m-1
    ·subst e
     exact a3
    ·have b1:=hs j (m-1) (by omega) (by omega)
     have b2:=lexC_anti os[j].x (os[m-1]'(by omega)).x
     by_cases e0:lexC (os[m-1]'(by omega)).x os[j].x=0
     ·rw [← lexC_eq _ _ e0]
      exact a3
     ·exact lexC_trans _ _ _ (by omega) a3
  ·rw [if_neg hk,List.append_nil]
   refine⟨h1,fun y=>?_⟩
   rw [h2,List.map_append,List.mem_append]
   refine⟨.inl,fun h=>?_⟩
   rcases h with h | h
   ·exact h
   ·have hm0:m≠0:=fun e=>hk (.inl e)
    have hx:(gO os m).x=(gO os (m-1)).x:=Classical.byContradiction fun e=>hk (.inr e)
    rw [gO_get (by omega),gO_get (by omega)] at hx
    have:y=os[m].x:=by simpa using h
    rw [this,hx]
    refine List.mem_map.2 ⟨os[m-1]'(by omega),?_,rfl⟩
    rw [← List.getElem_take (j:=m) (i:=m-1) (h:=by rw [List.length_take]; omega)]
    exact List.getElem_mem _
structure CInv (g:Nat→OE) (n m k:Nat) (L:List OE):Prop where
 size:L.length=n
 len:(cUp g m).length=k
 lt:k<m
 low:L.take k=cUp g m
 high:∀ j (h:j<L.length),k≤j→L[j]=g j
theorem CInv.start {os:List OE} {k0:Nat} (hk:k0<os.length) (hall:∀ j,j<k0→kpO (gO os) j) (hdup:¬ kpO (gO os) k0):CInv (gO os) os.length (k0+1) k0 os where
 size:=rfl
 len:=by rw [cUp,if_neg hdup,cUp_all k0 (by omega) hall]; simp; omega
 lt:=Nat.lt_succ_self _
 low:=by rw [cUp,if_neg hdup,cUp_all k0 (by omega) hall,List.append_nil]
 high:=fun j h _=>(gO_get h).symm
theorem CInv.keep {g:Nat→OE} {n m k:Nat} {L:List OE} (h:CInv g n m k L) (hm:m<n) (hk:kpO g m):CInv g n (m+1) (k+1) (L.set k (g m)) where
 size:=by rw [List.length_set]; exact h.size
 len:=by rw [cUp,if_pos hk,List.length_append,h.len]; rfl
 lt:=by have:=h.lt; omega
 low:=by
  have hkl:k<L.length:=by have:=h.lt; have:=h.size; omega
  rw [cUp,if_pos hk,← h.low,List.take_succ_eq_append_getElem (by rw [List.length_set]; exact hkl),List.getElem_set_self,List.take_set_of_le (Nat.le_refl k)]
 high:=fun j hj hkj=>by rw [List.getElem_set_ne (by omega)]; exact h.high j (by rwa [List.length_set] at hj) (by omega)
theorem CInv.skip {g:Nat→OE} {n m k:Nat} {L:List OE} (h:CInv g n m k L) (hk:¬ kpO g m):CInv g n (m+1) k L where
 size:=h.size
 len:=by rw [cUp,if_neg hk,List.append_nil]; exact h.len
 lt:=by have:=h.lt; omega
 low:=by rw [cUp,if_neg hk,List.append_nil]; exact h.low
 high:=h.high
section
variable {α:Type} {enc:α→Value} {w:World} {base g n c:Nat} {e:TypeId} {xs:List α}
theorem rowV_set (h:RowOf 1 (fun cs x=>cs 0=enc x) w base e (.slice (some ⟨g,0,none⟩) n c) xs) {i:Nat} (hi:i<xs.length) (y:α):RowOf 1 (fun cs x=>cs 0=enc x) (w.setCell ⟨g,i,none⟩ (enc y)) base e (.slice (some ⟨g,0,none⟩) n c) (xs.set i y):=by
 have hm:=rowV_to enc h
 rcases hm.2 with ⟨hv,_⟩ | ⟨g',cap,cur,hv,hb,hg,hn,hcm,hc,ht⟩
 ·cases hv
 ·injection hv with e1 e2 e3
  injection e1 with e1
  injection e1 with e1
  subst e1 e2 e3
  refine rowV_of enc ⟨by simp,.inr ⟨g,c,cur.setIfInBounds i (enc y),by rw [List.length_set],hb,?_,by rw [List.length_set]; exact hn,hcm,by simpa using hc,?_⟩⟩
  ·exact (show Own w g e cur from hg).set i _
  ·rw [List.length_set,List.map_set,← ht]
   simp [List.take_set]
theorem rowV_at (h:RowOf 1 (fun cs x=>cs 0=enc x) w base e (.slice (some ⟨g,0,none⟩) n c) xs):n=xs.length∧n≤c∧c≤9223372036854775807∧base≤g∧g<w.heap.size∧(∀ j,w.frozen? ⟨g,j,none⟩=false)∧∀ j (hj:j<xs.length),w.cell? ⟨g,j,none⟩=some (enc xs[j]):=by
 have hm:=rowV_to enc h
 rcases hm.2 with ⟨hv,_⟩ | ⟨g',cap,cur,hv,hb,hg,hn,hcm,hc,ht⟩
 ·cases hv
 ·injection hv with e1 e2 e3
  injection e1 with e1
  injection e1 with e1
  subst e1 e2 e3
  have ho:Own w g e cur:=hg
  refine⟨rfl,hn,by simpa [maxLen] using hcm,hb,ho.lt,fun j=>ho.frozen j,fun j hj=>?_⟩
  have h1:(xs.map enc)[j]?=cur.toList[j]?:=by rw [← ht,List.getElem?_take,if_pos (by omega)]
  rw [cell_of_row w g j cur e (0,0) hg,← Array.getElem?_toList,← h1]
  simp [hj]
theorem rowV_take (h:RowOf 1 (fun cs x=>cs 0=enc x) w base e (.slice (some ⟨g,0,none⟩) n c) xs) {k:Nat} (hk:k≤xs.length):RowOf 1 (fun cs x=>cs 0=enc x) w base e (.slice (some ⟨g,0,none⟩) k c) (xs.take k):=by
 have hm:=rowV_to enc h
 rcases hm.2 with ⟨hv,_⟩ | ⟨g',cap,cur,hv,hb,hg,hn,hcm,hc,ht⟩
 ·cases hv
 ·injection hv with e1 e2 e3
  injection e1 with e1
  injection e1 with e1
  subst e1 e2 e3
  have hl:(xs.take k).length=k:=by rw [List.length_take]; omega
  refine rowV_of enc ⟨by simp,.inr ⟨g,c,cur,by rw [hl],hb,hg,by rw [hl]; omega,hcm,hc,?_⟩⟩
  rw [hl,List.map_take,← ht,List.take_take]
  congr 1
  omega
theorem rowV_past (h:RowOf 1 (fun cs x=>cs 0=enc x) w base e (.slice (some ⟨g,0,none⟩) n c) xs) {i:Nat} (hi:xs.length≤i) (u:Value):RowOf 1 (fun cs x=>cs 0=enc x) (w.setCell ⟨g,i,none⟩ u) base e (.slice (some ⟨g,0,none⟩) n c) xs:=by
 have hm:=rowV_to enc h
 rcases hm.2 with ⟨hv,_⟩ | ⟨g',cap,cur,hv,hb,hg,hn,hcm,hc,ht⟩
 ·cases hv
 ·injection hv with e1 e2 e3
  injection e1 with e1
  injection e1 with e1
  subst e1 e2 e3
  refine rowV_of enc ⟨by simp,.inr ⟨g,c,cur.setIfInBounds i u,rfl,hb,(show Own w g e cur from hg).set i _,hn,hcm,by simpa using hc,?_⟩⟩
  rw [← ht]
  simp only [Array.toList_setIfInBounds,Nat.mul_one]
  exact List.take_set_of_le hi
theorem grown_of_below' {a b:World} {r:Option Nat} (h:Below a.heap.size a b):a.grownBy b r:=⟨h.os,h.tape,h.output,h.size,fun i hi _=>h.block i hi⟩
theorem eqB_eq {xs ys:List Int} (h:xs=ys):eqB xs ys=true:=by rw [h]; exact eqB_iff.2 rfl
theorem rowV_pasts:∀ (us:List Value) (i:Nat) (w:World),RowOf 1 (fun cs x=>cs 0=enc x) w base e (.slice (some ⟨g,0,none⟩) n c) xs→xs.length≤i→RowOf 1 (fun cs x=>cs 0=enc x) (w.setCells g i us) base e (.slice (some ⟨g,0,none⟩) n c) xs
 | [],i,w,h,_=>h
 | u::us,i,w,h,hi=>rowV_pasts us (i+1) _ (rowV_past h hi u) (by omega)
theorem grown_setCell {a w:World} {g i:Nat} (h:a.grownBy w (some g)) (u:Value):a.grownBy (w.setCell ⟨g,i,none⟩ u) (some g):=by
 have h1:=World.grownBy.os h
 have h2:=World.grownBy.tape h
 have h3:=World.grownBy.output h
 exact⟨h1,h2,h3,by have:=World.grownBy.size h; simpa using this,fun k hk hne=>by
  rw [Go.Deep.blk_setCell_other _ _ _ _ (fun e=>hne (by rw [e]))]
  exact World.grownBy.block h k hk hne⟩
theorem grown_setCells {a:World} {g:Nat}:∀ (us:List Value) (i:Nat) (w:World),a.grownBy w (some g)→a.grownBy (w.setCells g i us) (some g)
 | [],_,_,h=>h
 | u::us,i,w,h=>grown_setCells us (i+1) _ (grown_setCell h u)
end
set_option maxHeartbeats 400000 in
theorem sameO_any (xs ys:List Int) (w:World) (A A':Option Addr) (c c':Nat) (hr:Ints w A c xs) (hr':Ints w A' c' ys):
  Calls Tryz.prog 109 #[.slice A xs.length c,.slice A' ys.length c'] w (RetB w (eqB xs ys)):=by
 have hc:=equal_any xs ys w A A' c c' hr hr'
 go_enter Tryz.func109,Tryz.ntmps109
 go_wp2_with fail
 refine hc.mono ?_
 rintro e5 w5 ⟨rfl,hb5⟩
 go_wp2_with fail
 go_ret
 exact⟨rfl,hb5⟩
set_option maxHeartbeats 1500000 in
theorem compF_any (os:List OE) (w:World) (base:Nat) (v:Value) (h:RowOf 1 QOE w base 31 v os) (hl:os.length≤5000000000000) (a:World) (hin:∀ o∈os,Ints a (some ⟨o.g,0,none⟩) o.c o.x) (ha:∀ w',w.grownBy w' v.ownBlock→Le a w'):
  Calls Tryz.prog 108 #[v,.func (.func 109) #[] #[]] w (fun e w'=>∃ v',e=.returned v'∧RowOf 1 QOE w' base 31 v' (cUp (gO os) os.length)∧v'.ownBlock=v.ownBlock∧w.grownBy w' v.ownBlock):=by
 by_cases h2:os.length<2
 ·have Hall:Hid (cUp (gO os) os.length=os):=by
   show _=_
   rw [cUp_all _ (Nat.le_refl _) (fun j hj=>by
    rcases Nat.eq_zero_or_pos j with h0 | h0
    ·exact .inl h0
    ·omega),List.take_length]
  obtain⟨A,c,rfl,_,_⟩:=h.slice
  have H:=Lib.hid h
  clear h
  go_enter Tryz.func108,Tryz.ntmps108
  go_wp2_with fail
  go_ret
  exact⟨_,rfl,by rw [Hall.out]; exact H.out,rfl,grown_refl _ _⟩
 ·obtain⟨g,cap,rfl⟩:∃ g cap,v=.slice (some ⟨g,0,none⟩) os.length cap:=by
   have hm:=rowV_to OE.v h
   rcases hm.2 with ⟨_,h0⟩ | ⟨g,cap,cur,rfl,_⟩
   ·omega
   ·exact⟨g,cap,rfl⟩
  have H:=Lib.hid h
  have hcap:=(rowV_at (enc:=OE.v) h).2.1
  clear h
  go_enter Tryz.func108,Tryz.ntmps108
  go_wp2_with fail
  go_loopg [5] (os.length-1) (fun gk s5 wr=>∃ k:Nat,k+1≤os.length∧gk=os.length-(k+1)∧s5=.int .i64 ((k:Int)+1)∧Hid (∀ j,j<k+1→kpO (gO os) j)∧Below w.heap.size w wr)
  case atStart=>exact⟨0,by omega,by omega,rfl,(fun j hj=>.inl (by omega)),Below.refl _ _⟩
  case round=>
   obtain⟨k,hk,rfl,rfl,hall,hb⟩:=hrel
   by_cases hlt:k+1<os.length
   ·have hrow:=H.out.grown (grown_of_below hb) (row:=none) (fun _ _=>by simp)
    obtain⟨_,_,hc9,hbg,hgl,hfz,hcell⟩:=rowV_at (enc:=OE.v) hrow
    have c1:=hcell (k+1) hlt
    have c0:=hcell k (by omega)
    have f1:=fun n:Ext wr=>n.le _ _ c1
    have f0:=fun n:Ext wr=>n.le _ _ c0
    have hle:Le a wr:=ha _ (grown_of_below' hb)
    have R1:Hid (∀ W,Below wr.heap.size wr W→Calls Tryz.prog 109 #[os[k+1].v,os[k].v] W (fun e w''=>e=.returned (.bool (eqB os[k+1].x os[k].x))∧Below W.heap.size W w'')):=fun W hW=>
     sameO_any _ _ W _ _ _ _ (Ints.le (hin _ (List.getElem_mem hlt)) (hle.trans (Le.below hW))) (Ints.le (hin _ (List.getElem_mem _)) (hle.trans (Le.below hW)))
    go_wp2_with fail
    refine wp_region_ext _ (by kernel_rfl) (by kernel_rfl) (Below.refl _ _) ?_
    repeat (go_big_quiet_step ((go_at_call 109; with_reducible exact Ext.call _ R1.out)))
    refine wpQuiet_nil ?_
    rintro wn ⟨⟨_,hbn⟩,rfl⟩
    have hBn:=hb.trans (hbn.mono hb.size)
    by_cases hx:os[k+1].x=os[k].x
    ·have Hdup:Hid (¬ kpO (gO os) (k+1)):=by
      rintro (h | h)
      ·omega
      ·rw [gO_get hlt,gO_get (by omega)] at h
       exact h hx
     rw [show eqB os[k+1].x os[k].x=true from eqB_eq hx]
     clear hx R1 f1 f0 c1 c0 hcell hrow hbn
     go_wp2_with fail
     go_loopg [5,7] (os.length-(k+2)) (fun gk s5 s7 wi=>∃ (kk t:Nat) (L:List OE),s5=.int .i64 kk∧s7=.int .i64 ((t:Int)+1)∧k+1+(t+1)≤os.length∧gk=os.length-(k+1+(t+1))∧Hid (CInv (gO os) os.length (k+1+(t+1)) kk L)∧Hid (RowOf 1 QOE wi base 31 (.slice (some ⟨g,0,none⟩) os.length cap) L)∧w.grownBy wi (some g))
     case atStart=>exact⟨k+1,0,os,rfl,rfl,by omega,by omega,CInv.start hlt hall.out Hdup.out,H.out.grown (grown_of_below hBn) (row:=none) (fun _ _=>by simp),grown_of_below' hBn⟩
     case round=>
      obtain⟨kk,t,L,rfl,rfl,hkt,rfl,hI,hrow,hgr⟩:=hrel
      obtain⟨he1,_,_,_,hgi,hfi,hcell⟩:=rowV_at (enc:=OE.v) hrow.out
      have hLs:=hI.out.size
      have hkm:=hI.out.lt
      have hle2:Le a _:=ha _ hgr
      by_cases hlt2:k+1+(t+1)<os.length
      ·have cm:wr.cell? ⟨g,k+1+(t+1),none⟩=some (.slice (some ⟨(gO os (k+1+(t+1))).g,0,none⟩) (gO os (k+1+(t+1))).x.length (gO os (k+1+(t+1))).c):=by
        have h:=hcell (k+1+(t+1)) (by omega)
        rw [hI.out.high _ (by omega) (by omega)] at h
        exact h
       have cp:wr.cell? ⟨g,k+1+t,none⟩=some (.slice (some ⟨(gO os (k+1+t)).g,0,none⟩) (gO os (k+1+t)).x.length (gO os (k+1+t)).c):=by
        have h:=hcell (k+1+t) (by omega)
        rw [hI.out.high _ (by omega) (by omega)] at h
        exact h
       have hmem:∀ j,j<os.length→Ints a (some ⟨(gO os j).g,0,none⟩) (gO os j).c (gO os j).x:=fun j hj=>by rw [gO_get hj]; exact hin _ (List.getElem_mem hj)
       have R1:Hid (∀ W,Below wr.heap.size wr W→Calls Tryz.prog 109 #[.slice (some ⟨(gO os (k+1+(t+1))).g,0,none⟩) (gO os (k+1+(t+1))).x.length (gO os (k+1+(t+1))).c,.slice (some ⟨(gO os (k+1+t)).g,0,none⟩) (gO os (k+1+t)).x.length (gO os (k+1+t)).c] W (fun e w''=>e=.returned (.bool (eqB (gO os (k+1+(t+1))).x (gO os (k+1+t)).x))∧Below W.heap.size W w'')):=fun W hW=>
        sameO_any _ _ W _ _ _ _ (Ints.le (hmem _ hlt2) (hle2.trans (Le.below hW))) (Ints.le (hmem _ (by omega)) (hle2.trans (Le.below hW)))
       obtain⟨old,ck⟩:∃ u,wr.cell? ⟨g,kk,none⟩=some u:=⟨_,hcell kk (by omega)⟩
       have fk:=hfi kk
       have Hx:Hid (eqB (gO os (k+1+(t+1))).x (gO os (k+1+t)).x=true↔¬ kpO (gO os) (k+1+(t+1))):=by
        rw [show eqB (gO os (k+1+(t+1))).x (gO os (k+1+t)).x=true↔(gO os (k+1+(t+1))).x=(gO os (k+1+t)).x from eqB_iff]
        constructor
        ·rintro h (h' | h')
         ·omega
         ·exact h' h
        ·intro h
         exact Classical.byContradiction fun h'=>h (.inr h')
       have f1:=fun n:Ext wr=>n.le _ _ cm
       have f0:=fun n:Ext wr=>n.le _ _ cp
       generalize eqB (gO os (k+1+(t+1))).x (gO os (k+1+t)).x=ev at R1 Hx
       clear hmem hcell he1 hLs
       go_wp2_with fail
       refine wp_region_ext _ (by kernel_rfl) (by kernel_rfl) (Below.refl _ _) ?_
       repeat (go_big_quiet_step ((go_at_call 109; with_reducible exact Ext.call _ R1.out)))
       refine wpQuiet_nil ?_
       rintro wn2 ⟨⟨_,hbn2⟩,rfl⟩
       have hgr2:w.grownBy wn2 (some g):=grown_below hgr hbn2
       have hrow2:Hid (RowOf 1 QOE wn2 base 31 (.slice (some ⟨g,0,none⟩) os.length cap) L):=hrow.out.grown (grown_of_below hbn2) (row:=none) (fun _ _=>by simp)
       have cm2:=Le.below hbn2 _ _ cm
       have ck2:=Le.below hbn2 _ _ ck
       have fk2:wn2.frozen? ⟨g,kk,none⟩=false:=(rowV_at (enc:=OE.v) hrow2.out).2.2.2.2.2.1 kk
       have hgi2:g<wn2.heap.size:=(rowV_at (enc:=OE.v) hrow2.out).2.2.2.2.1
       clear R1 f1 f0 cm cp ck fk hrow hgr hbn2
       cases ev
       ·have Hk:Hid (kpO (gO os) (k+1+(t+1))):=Classical.byContradiction fun h=>by have:=Hx.out.2 h; cases this
        have Hst:Hid (RowOf 1 QOE (wn2.setCell ⟨g,kk,none⟩ (.slice (some ⟨(gO os (k+1+(t+1))).g,0,none⟩) (gO os (k+1+(t+1))).x.length (gO os (k+1+(t+1))).c)) base 31 (.slice (some ⟨g,0,none⟩) os.length cap) (L.set kk (gO os (k+1+(t+1))))):=rowV_set (enc:=OE.v) hrow2.out (by have:=hI.out.size; omega) (gO os (k+1+(t+1)))
        have HI:=Lib.hid (CInv.keep hI.out hlt2 Hk.out)
        clear Hx hI hrow2 Hk
        go_wp2_with fail
        go_roundg (os.length-(k+1+(t+1)+1))
        case measure=>omega
        case rel=>exact⟨kk+1,t+1,L.set kk (gO os (k+1+(t+1))),by go_num,by go_num,by omega,by omega,HI.out,Hst.out,grown_setCell hgr2 _⟩
       ·have Hk:Hid (¬ kpO (gO os) (k+1+(t+1))):=Hx.out.1 rfl
        have HI:=Lib.hid (CInv.skip hI.out Hk.out)
        clear Hx hI Hk
        go_wp2_with fail
        go_roundg (os.length-(k+1+(t+1)+1))
        case measure=>omega
        case rel=>exact⟨kk,t+1,L,rfl,by go_num,by omega,by omega,HI.out,hrow2.out,hgr2⟩
      ·have hend:k+1+(t+1)=os.length:=by omega
       have hcl:∀ ty,(Builtin.clear_ #[25] ty #[.slice (some ⟨g,kk,none⟩) (os.length-kk) (cap-kk)]).run Tryz.prog wr=.ok (.tuple #[]) (wr.setCells g kk (List.replicate (os.length-kk) (.slice none 0 0))):=fun ty=>Lib.run_clear_slice wr _ _ ty _ Tryz.underlying25 (fun w=>by kernel_rfl) rfl rfl g kk _ _ (by omega) (fun j hj=>by rw [hcell (kk+j) (by omega)]; rfl) (fun j hj=>hfi _)
       have Hres:Hid (RowOf 1 QOE (wr.setCells g kk (List.replicate (os.length-kk) (.slice none 0 0))) base 31 (.slice (some ⟨g,0,none⟩) kk cap) (cUp (gO os) os.length)):=by
        have h:=rowV_take (enc:=OE.v) hrow.out (k:=kk) (by omega)
        rw [hI.out.low,hend] at h
        exact rowV_pasts (enc:=OE.v) _ kk _ h (by have:=hI.out.len; rw [hend] at this; omega)
       clear hcell hrow hI he1 hLs hkt
       go_wp2_with fail
       go_ret
       exact⟨_,rfl,Hres.out,rfl,grown_setCells _ _ _ hgr⟩
    ·have hall':Hid (∀ j,j<k+1+1→kpO (gO os) j):=fun j hj=>by
      by_cases e:j=k+1
      ·subst e
       right
       rw [gO_get hlt,gO_get (by omega)]
       exact hx
      ·exact hall.out j (by omega)
     rw [show eqB os[k+1].x os[k].x=false from eqB_false.2 hx]
     clear hx R1 f1 f0 c1 c0 hcell hrow hbn
     go_wp2_with fail
     go_roundg (os.length-(k+1+1))
     case measure=>omega
     case rel=>exact⟨k+1,by omega,by omega,by go_num,hall'.out,hBn⟩
   ·have hend:k+1=os.length:=by omega
    have Hall:Hid (cUp (gO os) os.length=os):=by
     show _=_
     rw [cUp_all _ (Nat.le_refl _) (fun j hj=>hall.out j (by omega)),List.take_length]
    clear hlt hall
    go_wp2_with fail
    go_ret
    exact⟨_,rfl,by rw [Hall.out]; exact H.out.grown (grown_of_below hb) (row:=none) (fun _ _=>by simp),rfl,grown_of_below' hb⟩
def RetSo (w:World) (base:Nat) (v:Value) (os:List OE) (e:Ending) (w':World):Prop:=
 ∃ (v':Value) (os':List OE),e=.returned v'∧RowOf 1 QOE w' base 31 v' os'∧v'.ownBlock=v.ownBlock∧w.grownBy w' v.ownBlock∧Asc (os'.map OE.x)∧(∀ y,y∈os'.map OE.x↔y∈os.map OE.x)∧(∀ o∈os',o∈os)∧((os.map OE.g).Nodup→(os'.map OE.g).Nodup)
theorem RetSo.mk {w w1 w':World} {base:Nat} {v v':Value} {os os1:List OE} (hp:os1.Perm os) (hs:∀ i j (hj:j<os1.length) (hi:i<j),¬ lexC os1[j].x (os1[i]'(Nat.lt_trans hi hj)).x<0) (hg:w.grownBy w' v.ownBlock)
  (hr:RowOf 1 QOE w' base 31 v' (cUp (gO os1) os1.length)) (hv:v'.ownBlock=v.ownBlock):RetSo w base v os (.returned v') w':=by
 have hsub:=cUp_sub os1 os1.length (Nat.le_refl _)
 rw [List.take_length] at hsub
 obtain⟨h1,h2⟩:=cUp_asc hs os1.length (Nat.le_refl _)
 rw [List.take_length] at h2
 exact⟨v',_,rfl,hr,hv,hg,h1,fun y=>(h2 y).trans (hp.map OE.x).mem_iff,fun o ho=>hp.mem_iff.1 (hsub.subset ho),fun hn=>((hp.map OE.g).nodup_iff.2 hn).sublist (hsub.map OE.g)⟩
theorem sortN_any (A:Option Addr) (c:Nat) (fv:Value) (w:World):Calls Tryz.prog 106 #[.slice A 0 c,fv] w fun e w'=>e=.returned (.tuple #[])∧w'=w:=
 AnyF.slices_SortFunc_none { Tryz.laysSlF6_f106 with } A c fv w
set_option maxHeartbeats 1000000 in
theorem sortOut_any (os:List OE) (w:World) (base:Nat) (v:Value) (h:RowOf 1 QOE w base 31 v os) (hl:os.length≤5000000000000) (a:World) (hin:∀ o∈os,Ints a (some ⟨o.g,0,none⟩) o.c o.x) (ha:∀ w',w.grownBy w' v.ownBlock→Le a w'):
  Calls Tryz.prog 77 #[v] w (RetSo w base v os):=by
 rcases Nat.eq_zero_or_pos os.length with h0 | h0
 ·obtain rfl:os=[]:=List.length_eq_zero_iff.1 h0
  obtain⟨A,c,rfl,_,_⟩:=h.slice
  have hs:=sortN_any A c (.func (.func 107) #[] #[]) w
  have H:=Lib.hid h
  have HC:=Lib.hid (compF_any [] w base _ h hl a hin ha)
  clear h
  go_enter Tryz.func77,Tryz.ntmps77
  go_wp2_with fail
  refine hs.mono ?_
  rintro e5 w5 ⟨rfl,rfl⟩
  clear hs
  go_wp2_with fail
  refine HC.out.mono ?_
  rintro e6 w6 ⟨v6,rfl,hr6,hv6,hg6⟩
  have HR:=Lib.hid (RetSo.mk (w:=w5) (w1:=w5) (os:=[]) (List.Perm.refl _) (fun i j hj _=>by cases hj) hg6 hr6 hv6)
  clear hr6 hv6 hg6
  go_wp2_with fail
  go_ret
  exact HR.out
 ·have hs:=sortO_any os w base v h h0 hl a hin ha
  have Hin:=Lib.hid hin
  have Ha:=Lib.hid ha
  clear h hin ha
  go_enter Tryz.func77,Tryz.ntmps77
  go_wp2_with fail
  refine hs.mono ?_
  rintro e5 w5 ⟨rfl,os1,hr1,hp1,hs1,hg1⟩
  have hc:=compF_any os1 w5 base v hr1 (by rw [hp1.length_eq]; exact hl) a (fun o ho=>Hin.out o (hp1.mem_iff.1 ho)) (fun w' h=>Ha.out w' (grown_next hg1 h (fun g hg=>.inl hg)))
  have HP:=Lib.hid (And.intro hp1 (And.intro hs1 hg1))
  clear hs hr1 hp1 hs1 hg1
  go_wp2_with fail
  refine hc.mono ?_
  rintro e6 w6 ⟨v6,rfl,hr6,hv6,hg6⟩
  have HR:=Lib.hid (RetSo.mk (w:=w) (w1:=w5) HP.out.1 (fun i j hj hi=>by have:=HP.out.2.1 i j hj hi; omega) (grown_next HP.out.2.2 hg6 (fun g hg=>.inl hg)) hr6 hv6)
  clear hr6 hv6 hg6 hc
  go_wp2_with fail
  go_ret
  exact HR.out
end Go.Proofs.YtojmofnamppbdaaGreat
