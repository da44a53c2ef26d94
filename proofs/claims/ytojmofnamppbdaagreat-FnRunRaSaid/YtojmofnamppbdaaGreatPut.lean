/-
  spec.l3Put: one more into an ascending list of outcomes.
-/
import Derived.Test.YtojmofnamppbdaaGreatS3A
namespace Go.Proofs.YtojmofnamppbdaaGreat
open Go.RowKit
set_option linter.unusedVariables false
set_option maxRecDepth 100000
theorem Tryz.infoIntsP:(Tryz.prog.info? 31).map (fun i=>(i.zero,i.size,i.bytes))=some (some (.slice none 0 0),1,24):=by kernel_rfl
theorem SlR.takeS {α:Type} {k:Nat} {R:World→(Nat→Value)→α→Prop} {w:World} {A:Option Addr} {n c:Nat} {xs:List α} (h:SlR k R w (.slice A n c) xs) (i:Nat) (hi:i≤xs.length):SlR k R w (.slice A (xs.take i).length c) (xs.take i):=by
 obtain⟨A',c',e,hl,hc⟩:=h
 injection e with e1 e2 e3
 subst e1 e3
 refine⟨A,c,rfl,by rw [List.length_take]; omega,fun j hj=>?_⟩
 rw [List.length_take] at hj
 obtain⟨b,o,h1,cs,h2,h3⟩:=hc j (by omega)
 exact⟨b,o,h1,cs,h2,by rw [List.getElem_take]; exact h3⟩
theorem SlR.dropS {α:Type} {k:Nat} {R:World→(Nat→Value)→α→Prop} {w:World} {b o n c:Nat} {xs:List α} (h:SlR k R w (.slice (some ⟨b,o,none⟩) n c) xs) (i c':Nat) (hi:i≤xs.length):SlR k R w (.slice (some ⟨b,o+i*k,none⟩) (xs.drop i).length c') (xs.drop i):=by
 obtain⟨A',c0,e,hl,hc⟩:=h
 injection e with e1 e2 e3
 subst e1 e3
 refine⟨_,_,rfl,by rw [List.length_drop]; omega,fun j hj=>?_⟩
 rw [List.length_drop] at hj
 obtain⟨b',o',h1,cs,h2,h3⟩:=hc (i+j) (by omega)
 injection h1 with h1
 injection h1 with h1 h4
 subst h1 h4
 refine⟨_,_,rfl,cs,fun q hq=>?_,by rw [List.getElem_drop]; exact h3⟩
 have:=h2 q hq
 rw [show o+i*k+j*k+q=o+(i+j)*k+q by rw [Nat.add_mul]; omega]
 exact this
theorem SlR.emptyS {α:Type} {k:Nat} {R:World→(Nat→Value)→α→Prop} {w:World} {A:Option Addr} {c:Nat}:SlR k R w (.slice A 0 c) ([]:List α):=⟨_,_,rfl,by simp,fun i hi=>absurd hi (Nat.not_lt_zero _)⟩
def RetPut (a W:World) (M:List (List Int)) (e:Ending) (W':World):Prop:=∃ g o c,e=.returned (.slice (some ⟨g,o,none⟩) M.length c)∧M.length≤c∧c≤9223372036854775807∧(∀ a',Le a a'→Le (above W.heap.size W') a'→Intss a' (some ⟨g,o,none⟩) c M)∧Below W.heap.size W W'
theorem retPut_mk {a W w:World} {base:Nat} {A:Option Addr} {n c:Nat} {M xs:List (List Int)} (hM:M=xs) (h:RowOf 1 (QS a) w base 31 (.slice A xs.length c) xs) (hb:Below W.heap.size W w) (hB:W.heap.size≤base) (hpos:0<xs.length) (hn:n=xs.length:=by rfl):RetPut a W M (.returned (.slice A n c)) w:=by
 subst hM hn
 obtain⟨g,rfl⟩:∃ g,A=some ⟨g,0,none⟩:=by
  obtain⟨cs',ho,_⟩:=h
  obtain⟨go,cap,e,_,_⟩:=owns_cell ho (by omega) (i:=0) (j:=0) hpos (by omega)
  injection e with e1
  exact⟨go,e1⟩
 obtain⟨A',c',e,h1,h2⟩:=h.slice
 injection e with e1 e2 e3
 subst e1 e3
 exact⟨g,0,c,rfl,h1,h2,fun a' h3 h4=>RowOf.slR (R:=RInts) (by omega) h (fun cs x hq=>QS.le h3 cs x hq) ((Le.above_mono hB w).trans h4),hb⟩
set_option maxHeartbeats 2000000 in
theorem l3Put_any (L:List (List Int)) (o:List Int) (hlen:∀ x∈L,x.length=o.length) (hLl:L.length≤5000000000000) (W:World) (b0 o0 c:Nat) (B:Option Addr) (d:Nat) (a:World) (ha:Le a W) (hL:Intss a (some ⟨b0,o0,none⟩) c L) (hc1:L.length≤c) (hc2:c≤9223372036854775807) (ho:Ints a B d o):
  Calls Tryz.prog 82 #[.slice (some ⟨b0,o0,none⟩) L.length c,.slice B o.length d] W (RetPut a W (putL L o)):=by
 obtain⟨i1,hi1,hy0,hy1,hy2⟩:=info_parts Tryz.infoIntsP
 have HL:=Lib.hid hlen
 have Ho:=Lib.hid (ho.le ha)
 have HI:=Lib.hid (Intss.le hL ha)
 have Ha:=Lib.hid ha
 have HLa:=Lib.hid hL
 have Hoa:=Lib.hid ho
 clear hlen ho ha hL
 go_enter Tryz.func82,Tryz.ntmps82
 go_wp2_with fail
 go_loopg [5] L.length (fun g s5 wr=>∃ k:Nat,k≤L.length∧g=L.length-k∧s5=.int .i64 k∧Hid (∀ j (h:j<L.length),j<k→lexC L[j] o<0)∧Below W.heap.size W wr)
 case atStart=>exact⟨0,Nat.zero_le _,rfl,rfl,fun j _ h=>absurd h (Nat.not_lt_zero _),Below.refl _ _⟩
 case round=>
  obtain⟨wo,rfl⟩:∃ wo:World,wo=wr:=⟨_,rfl⟩
  obtain⟨k,hk,rfl,rfl,hall,hb⟩:=hrel
  by_cases hlt:k<L.length
  ·obtain⟨b1,o1,A1,c1,e1,hb1,k1,hr1⟩:=HI.out.get hlt
   injection e1 with e1
   injection e1 with e1 e2
   subst e1 e2
   have k1:=Le.below hb _ _ k1
   have hle:=l3Less_any L[k] o (HL.out _ (List.getElem_mem hlt)) wo A1 B c1 d (hr1.le (Le.below hb)) (Ho.out.le (Le.below hb))
   have Hx:Hid (∀ U,Le wo U→Calls Tryz.prog 98 #[.slice A1 L[k].length c1,.slice B o.length d] U (RetI U (lexC L[k] o))):=fun U hU=>l3Less_any L[k] o (HL.out _ (List.getElem_mem hlt)) U A1 B c1 d (hr1.le ((Le.below hb).trans hU)) (Ho.out.le ((Le.below hb).trans hU))
   have hki:(k:Int)<(L.length:Int):=by omega
   have Hlx:Hid (∀ v,lexC L[k] o=v→lexC (L[k]'hlt) o=v):=fun v h=>h
   obtain⟨lx,hlx⟩:∃ lx,lx=lexC L[k] o:=⟨_,rfl⟩
   have HLx:=Lib.hid hlx
   rw [← hlx] at hle Hx
   have hxl:=Lib.hid (HL.out _ (List.getElem_mem hlt))
   obtain⟨ln,hln⟩:∃ ln,ln=L[k].length:=⟨_,rfl⟩
   rw [← hln] at k1 hle Hx
   clear hr1 hlx hln
   go_wp2_with fail
   refine hle.mono ?_
   rintro e5 w5 ⟨rfl,hb5⟩
   have hB5:=hb.trans (hb5.mono hb.size)
   clear hle
   by_cases hneg:lx<0
   ·have Hn:Hid (∀ j (h:j<L.length),j<k+1→lexC L[j] o<0):=fun j h hj=>by
     by_cases e:j=k
     ·subst e
      rw [← HLx.out]
      exact hneg
     ·exact hall.out j h (by omega)
    go_wp2_with fail
    go_roundg (L.length-(k+1))
    case measure=>omega
    case rel=>exact⟨k+1,by omega,rfl,by go_num,Hn.out,hB5⟩
   ·have k5:=Le.below hb5 _ _ k1
    have hle5:=Hx.out w5 (Le.below hb5)
    go_wp2_with fail
    refine hle5.mono ?_
    rintro e6 w6 ⟨rfl,hb6⟩
    have hB6:=hB5.trans (hb6.mono hB5.size)
    clear hle5 hb5 hb6 hb k1 k5
    by_cases hz:lx=0
    ·have HP:Hid (putL L o=L):=by
      show _=_
      rw [putL_at L o k hk hall.out (fun _=>by rw [← HLx.out]; exact Int.not_lt.2 hneg),if_pos ⟨hlt,by rw [← HLx.out]; exact hz⟩]
     have hz':(lx == 0)=true:=by rw [beq_iff_eq]; exact hz
     clear hz hneg
     go_wp2_with fail
     go_ret
     rw [HP.out]
     exact⟨b0,o0,c,rfl,hc1,hc2,fun a' h1 _=>HLa.out.le h1,hB6⟩
    ·have HP:Hid (putL L o=L.take k++[o]++L.drop k):=by
      show _=_
      rw [putL_at L o k hk hall.out (fun _=>by rw [← HLx.out]; exact Int.not_lt.2 hneg),if_neg (fun⟨_,h⟩=>hz (by rw [HLx.out]; exact h))]
      simp
     have hz':(lx == 0)=false:=by rw [beq_eq_false_iff_ne]; exact hz
     have hB:=hB6
     clear hz hneg hall HLx Hlx hxl Hx hB5 hB6 hki
     go_upto_region 6 with (fail)
     have hsz:=hB.size
     have hkI:(k:Int)≤(L.length:Int):=by omega
     have hkc0:k≤c:=by omega
     have Hle6:Hid (Le a w6):=Ha.out.trans (Le.below hB)
     have Ht:Hid (∀ X,Le a X→SlR 1 (fun _=>QS a) X (.slice (some ⟨b0,o0,none⟩) (L.take k).length c) (L.take k)):=fun X h=>i2_still (SlR.takeS HLa.out k hk) h
     have Hd:Hid (∀ X,Le a X→SlR 1 (fun _=>QS a) X (.slice (some ⟨b0,o0+k,none⟩) (L.drop k).length (c-k)) (L.drop k)):=fun X h=>i2_still (by have h:=SlR.dropS HLa.out k (c-k) hk; rw [Nat.mul_one] at h; exact h) h
     have hlt1:(L.take k).length=k:=by rw [List.length_take]; omega
     have hld1:(L.drop k).length=L.length-k:=List.length_drop
     have HPl:Hid ((putL L o).length=L.length+1):=by show _=_; rw [HP.out,List.length_append,List.length_append,hlt1,hld1,List.length_singleton]; omega
     generalize L.take k=T at Ht hlt1 HP
     generalize L.drop k=D at Hd hld1 HP
     have Hl1:=Lib.hid hlt1
     have Hld:=Lib.hid hld1
     clear HI Ho HL HLa hlt1 hld1
     go_upto_region 7 with (at_builtin; refine wpList_append_list (o:=⟨some 40,_,_,_,_,_⟩) (by rfl) _ _ _ (by rfl) (qs_congr a) (R:=fun _=>QS a) w6.heap.size 31 i1 _ 24 Tryz.underlying25 hi1 hy0 hy1 hy2 rfl (by omega) (.slice (some ⟨w6.heap.size,0,none⟩) 0 0) [] (by rfl) (RowOf.made _ (Own.new w6 _ _) (Nat.le_refl _)) (some ⟨b0,o0,none⟩) c T (by rw [Hl1.out]; rfl) (Ht.out _ (Hle6.out.to_alloc _)) (fun cs y h=>h) (qs_one a) (by have:=Hl1.out; simp [maxLen]; omega) (by have:=Hl1.out; simp; omega) (by simp) (w6.heap.size+1) (by simp) ?_; intro A7 c7 w7 hrow7 hgrow7 hat7; rw [List.nil_append] at hrow7 hat7)
     have hB7:Below w6.heap.size w6 w7:=below_of_grown ((Below.refl _ _).alloc (Nat.le_refl _) _) hgrow7 (by simp) (fun g hg=>by simp only [Value.ownBlock,Option.some.injEq] at hg; omega)
     obtain⟨cs7,hown7,hq7⟩:=hrow7
     have Hown7:=Lib.hid hown7
     have Hq7:=Lib.hid hq7
     have htl7:T.length≤5000000000000:=by have:=Hl1.out; omega
     have hs7:=hB7.size
     clear hown7 hq7 hgrow7 hat7
     go_upto_region 8 with (at_builtin; refine wpList_append_lies (o:=⟨some 44,_,_,_,_,_⟩) _ (by rfl) _ _ _ (by rfl) w6.heap.size 31 i1 _ 1 24 Tryz.underlying25 hi1 hy0 hy1 hy2 rfl (by omega) (.slice A7 T.length c7) T.length cs7 (by rfl) (owns_alloc Hown7.out _) ⟨w7.heap.size,0,none⟩ 1 1 [.slice B o.length d] (by rfl) (by rfl) (World.news_of_block (cs:=#[.slice B o.length d]) (t:=31) (fr:=(0,0)) (heap_alloc_new w7 _)) (by simp [Value.oneCell']) (by omega) (by simp [maxLen]; omega) (by omega) (by simp; omega) (w7.heap.size+1) (by simp) ?_; intro gg cap w8 hown8 hgrow8 hat8 hlt8)
     have hB8:Below w6.heap.size w6 w8:=below_of_grown (hB7.alloc hB7.size _) hgrow8 (by simp; omega) (fun g hg=>owns_base' Hown7.out hg)
     have Hr8:=Lib.hid (RowOf.snoc (news:=[.slice B o.length d]) (x:=o) (qs_congr a) Hown7.out Hq7.out rfl ⟨B,d,rfl,Hoa.out⟩ hown8)
     have hs8:=hB8.size
     clear hown8 hgrow8 hat8
     by_cases hkc:k<c
     ·go_wp2_with (at_builtin; refine wpList_append_list (o:=⟨some 49,_,_,_,_,_⟩) (by rfl) _ _ _ (by rfl) (qs_congr a) (R:=fun _=>QS a) w6.heap.size 31 i1 _ 24 Tryz.underlying25 hi1 hy0 hy1 hy2 rfl (by omega) (.slice (some ⟨gg,0,none⟩) (T.length+1) cap) (T++[o]) (by rfl) Hr8.out (some ⟨b0,o0+k,none⟩) (c-k) D (by rw [Hld.out]; rfl) (Hd.out _ (Hle6.out.trans (Le.below hB8))) (fun cs y h=>h) (qs_one a) (by have:=Hl1.out; have:=Hld.out; simp [maxLen]; omega) (by have:=Hl1.out; have:=Hld.out; simp; omega) hs8 w8.heap.size rfl ?_; intro A9 c9 w9 hrow9 hgrow9 hat9)
      have hB9:Below w6.heap.size w6 w9:=below_of_grown hB8 hgrow9 hs8 (fun g hg=>(Hr8.out.blk hg).1)
      have Hrow9:=Lib.hid hrow9
      clear hrow9 hgrow9 hat9
      go_wp2_with fail
      go_ret
      exact retPut_mk HP.out Hrow9.out (hB.trans (hB9.mono hB.size)) hB.size (by simp only [List.length_append,List.length_singleton]; omega) (by simp only [List.length_append,List.length_singleton]; omega)
     ·exact absurd (Nat.lt_of_lt_of_le hlt hc1) hkc
  ·have hall':∀ j (h:j<L.length),j<k→lexC L[j] o<0:=hall.out
   have HP:Hid (putL L o=L.take k++[o]++L.drop k):=by
    show _=_
    rw [putL_at L o k hk hall' (fun h=>absurd h hlt),if_neg (fun⟨h,_⟩=>hlt h)]
    simp
   have hki:¬ (k:Int)<(L.length:Int):=by omega
   obtain⟨w6,rfl⟩:∃ w6:World,w6=wo:=⟨_,rfl⟩
   have hB:=hb
   clear hall hall' hb
   go_upto_region 6 with (fail)
   clear hki
   have hsz:=hB.size
   have hkI:(k:Int)≤(L.length:Int):=by omega
   have hkc0:k≤c:=by omega
   have Hle6:Hid (Le a w6):=Ha.out.trans (Le.below hB)
   have Ht:Hid (∀ X,Le a X→SlR 1 (fun _=>QS a) X (.slice (some ⟨b0,o0,none⟩) (L.take k).length c) (L.take k)):=fun X h=>i2_still (SlR.takeS HLa.out k hk) h
   have Hd:Hid (∀ X,Le a X→SlR 1 (fun _=>QS a) X (.slice (some ⟨b0,o0+k,none⟩) (L.drop k).length (c-k)) (L.drop k)):=fun X h=>i2_still (by have h:=SlR.dropS HLa.out k (c-k) hk; rw [Nat.mul_one] at h; exact h) h
   have hlt1:(L.take k).length=k:=by rw [List.length_take]; omega
   have hld1:(L.drop k).length=L.length-k:=List.length_drop
   have HPl:Hid ((putL L o).length=L.length+1):=by show _=_; rw [HP.out,List.length_append,List.length_append,hlt1,hld1,List.length_singleton]; omega
   generalize L.take k=T at Ht hlt1 HP
   generalize L.drop k=D at Hd hld1 HP
   have Hl1:=Lib.hid hlt1
   have Hld:=Lib.hid hld1
   clear HI Ho HL HLa hlt1 hld1
   go_upto_region 7 with (at_builtin; refine wpList_append_list (o:=⟨some 40,_,_,_,_,_⟩) (by rfl) _ _ _ (by rfl) (qs_congr a) (R:=fun _=>QS a) w6.heap.size 31 i1 _ 24 Tryz.underlying25 hi1 hy0 hy1 hy2 rfl (by omega) (.slice (some ⟨w6.heap.size,0,none⟩) 0 0) [] (by rfl) (RowOf.made _ (Own.new w6 _ _) (Nat.le_refl _)) (some ⟨b0,o0,none⟩) c T (by rw [Hl1.out]; rfl) (Ht.out _ (Hle6.out.to_alloc _)) (fun cs y h=>h) (qs_one a) (by have:=Hl1.out; simp [maxLen]; omega) (by have:=Hl1.out; simp; omega) (by simp) (w6.heap.size+1) (by simp) ?_; intro A7 c7 w7 hrow7 hgrow7 hat7; rw [List.nil_append] at hrow7 hat7)
   have hB7:Below w6.heap.size w6 w7:=below_of_grown ((Below.refl _ _).alloc (Nat.le_refl _) _) hgrow7 (by simp) (fun g hg=>by simp only [Value.ownBlock,Option.some.injEq] at hg; omega)
   obtain⟨cs7,hown7,hq7⟩:=hrow7
   have Hown7:=Lib.hid hown7
   have Hq7:=Lib.hid hq7
   have htl7:T.length≤5000000000000:=by have:=Hl1.out; omega
   have hs7:=hB7.size
   clear hown7 hq7 hgrow7 hat7
   go_upto_region 8 with (at_builtin; refine wpList_append_lies (o:=⟨some 44,_,_,_,_,_⟩) _ (by rfl) _ _ _ (by rfl) w6.heap.size 31 i1 _ 1 24 Tryz.underlying25 hi1 hy0 hy1 hy2 rfl (by omega) (.slice A7 T.length c7) T.length cs7 (by rfl) (owns_alloc Hown7.out _) ⟨w7.heap.size,0,none⟩ 1 1 [.slice B o.length d] (by rfl) (by rfl) (World.news_of_block (cs:=#[.slice B o.length d]) (t:=31) (fr:=(0,0)) (heap_alloc_new w7 _)) (by simp [Value.oneCell']) (by omega) (by simp [maxLen]; omega) (by omega) (by simp; omega) (w7.heap.size+1) (by simp) ?_; intro gg cap w8 hown8 hgrow8 hat8 hlt8)
   have hB8:Below w6.heap.size w6 w8:=below_of_grown (hB7.alloc hB7.size _) hgrow8 (by simp; omega) (fun g hg=>owns_base' Hown7.out hg)
   have Hr8:=Lib.hid (RowOf.snoc (news:=[.slice B o.length d]) (x:=o) (qs_congr a) Hown7.out Hq7.out rfl ⟨B,d,rfl,Hoa.out⟩ hown8)
   have hs8:=hB8.size
   clear hown8 hgrow8 hat8
   by_cases hkc:k<c
   ·go_wp2_with (at_builtin; refine wpList_append_list (o:=⟨some 49,_,_,_,_,_⟩) (by rfl) _ _ _ (by rfl) (qs_congr a) (R:=fun _=>QS a) w6.heap.size 31 i1 _ 24 Tryz.underlying25 hi1 hy0 hy1 hy2 rfl (by omega) (.slice (some ⟨gg,0,none⟩) (T.length+1) cap) (T++[o]) (by rfl) Hr8.out (some ⟨b0,o0+k,none⟩) (c-k) D (by rw [Hld.out]; rfl) (Hd.out _ (Hle6.out.trans (Le.below hB8))) (fun cs y h=>h) (qs_one a) (by have:=Hl1.out; have:=Hld.out; simp [maxLen]; omega) (by have:=Hl1.out; have:=Hld.out; simp; omega) hs8 w8.heap.size rfl ?_; intro A9 c9 w9 hrow9 hgrow9 hat9)
    have hB9:Below w6.heap.size w6 w9:=below_of_grown hB8 hgrow9 hs8 (fun g hg=>(Hr8.out.blk hg).1)
    have Hrow9:=Lib.hid hrow9
    clear hrow9 hgrow9 hat9
    go_wp2_with fail
    go_ret
    exact retPut_mk HP.out Hrow9.out (hB.trans (hB9.mono hB.size)) hB.size (by simp only [List.length_append,List.length_singleton]; omega) (by simp only [List.length_append,List.length_singleton]; omega)
   ·have Hd0:Hid (∀ X,SlR 1 (fun _=>QS a) X (.slice (some ⟨b0,o0,none⟩) D.length (c-k)) D):=fun X=>by
     have:D=[]:=List.length_eq_zero_iff.1 (by rw [Hld.out]; omega)
     rw [this]
     exact SlR.emptyS
    go_wp2_with (at_builtin; refine wpList_append_list (o:=⟨some 49,_,_,_,_,_⟩) (by rfl) _ _ _ (by rfl) (qs_congr a) (R:=fun _=>QS a) w6.heap.size 31 i1 _ 24 Tryz.underlying25 hi1 hy0 hy1 hy2 rfl (by omega) (.slice (some ⟨gg,0,none⟩) (T.length+1) cap) (T++[o]) (by rfl) Hr8.out (some ⟨b0,o0,none⟩) (c-k) D (by rw [Hld.out]; rfl) (Hd0.out _) (fun cs y h=>h) (qs_one a) (by have:=Hl1.out; have:=Hld.out; simp [maxLen]; omega) (by have:=Hl1.out; have:=Hld.out; simp; omega) hs8 w8.heap.size rfl ?_; intro A9 c9 w9 hrow9 hgrow9 hat9)
    have hB9:Below w6.heap.size w6 w9:=below_of_grown hB8 hgrow9 hs8 (fun g hg=>(Hr8.out.blk hg).1)
    have Hrow9:=Lib.hid hrow9
    clear hrow9 hgrow9 hat9
    go_wp2_with fail
    go_ret
    exact retPut_mk HP.out Hrow9.out (hB.trans (hB9.mono hB.size)) hB.size (by simp only [List.length_append,List.length_singleton]; omega) (by simp only [List.length_append,List.length_singleton]; omega)
end Go.Proofs.YtojmofnamppbdaaGreat
