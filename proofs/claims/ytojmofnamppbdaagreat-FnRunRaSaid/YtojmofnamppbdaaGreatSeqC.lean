/-
  The walks of the machine with one memory: moves, key, outcome, newSeq. The walks of the machine with one memory: the text of a state.
-/
import Derived.Test.YtojmofnamppbdaaGreatSeqB
import Derived.Test.YtojmofnamppbdaaGreatRwS
import Derived.Maps.AppendAt
import Derived.Deep.Cut
import Derived.Laws.BytesArg
namespace Go.Proofs.YtojmofnamppbdaaGreat
open Go.RowKit
set_option linter.unusedVariables false
set_option maxRecDepth 100000
def mvI (p:Prg) (s:St) (i:Nat):List Int:=((List.range i).filter (onS p s)).map fun k=>((k:Nat):Int)
theorem mvI_off {p:Prg} {s:St} {i:Nat} (h:onS p s i=false):mvI p s (i+1)=mvI p s i:=by
 unfold mvI
 rw [List.range_succ,List.filter_append]
 simp [h]
theorem mvI_on {p:Prg} {s:St} {i:Nat} (h:onS p s i=true):mvI p s (i+1)=mvI p s i++[(i:Int)]:=by
 unfold mvI
 rw [List.range_succ,List.filter_append]
 simp [h]
theorem mvI_le (p:Prg) (s:St) (i:Nat):(mvI p s i).length≤i:=by
 unfold mvI
 rw [List.length_map]
 exact Nat.le_trans (List.length_filter_le _ _) (by simp)
set_option maxHeartbeats 1500000 in
theorem moves_any (p:Prg) (hp:PrgOk p) (s:St) (hs:StOk p s) (W:World) (b:Nat) (Ap:Option Addr) (cp:Nat) (ho:SeqL W b Ap cp p s) (hpr:PrgS W (.slice Ap p.length cp) p):
  Calls Tryz.prog 199 #[.pointer (some ⟨b,0,none⟩)] W (RetRowI W (mvI p s p.length)):=by
 obtain⟨i0,hi0,hz0,hz1,hz2⟩:=info_parts Tryz.infoInt
 have q0:=ho.prg
 have h3:=hp.1.1
 go_enter Tryz.func199,Tryz.ntmps199
 go_wp2_with fail
 go_loopg [3,13] p.length (fun g s3 s13 wr=>∃ (i:Nat) (v:Value),i≤p.length∧g=p.length-i∧v=s3∧s13=.int .i64 i∧Hid (RowI wr W.heap.size v (mvI p s i))∧Below W.heap.size W wr)
 case atStart=>exact⟨0,_,Nat.zero_le _,rfl,rfl,rfl,RowOf.nil _ _ _ _ _,Below.refl _ _⟩
 case round=>
  obtain⟨i,v,hi,rfl,rfl,rfl,hrow,hb⟩:=hrel
  have hsr:=hb.size
  by_cases hlt:i<p.length
  ·have hO:=ho.under hb
   have hP:=PrgS.le hpr (Le.below hb)
   cases hon:onS p s i
   ·have hc:=next_off hp hs hlt hO hP hon
    have Hm:=Lib.hid (mvI_off hon)
    clear hon hO hP q0
    go_wp2_with fail
    refine hc.mono ?_
    rintro e5 w5 ⟨rfl,hb5⟩
    have hB5:=hb.trans (hb5.mono hb.size)
    have Hrow5:=Lib.hid (RowOf.below (RowOf.below hrow.out hb5) ((Below.refl _ _).alloc (Nat.le_refl _) (.cells #[.int .i64 0,.int .i64 0,.int .i64 0,.int .i64 0] 50)))
    clear hc hrow
    go_wp2_with fail
    go_roundg (p.length-(i+1))
    case measure=>omega
    case rel=>exact⟨i+1,_,by omega,rfl,rfl,by go_num,by rw [Hm.out]; exact Hrow5.out,hB5.alloc hB5.size _⟩
   ·have hc:=next_on hp hs hlt hO hP hon
    have Hm:=Lib.hid (mvI_on hon)
    have hml:=mvI_le p s i
    clear hon hO hP q0
    generalize insS p s i=x at hc
    generalize mvI p s i=ms at hrow Hm hml
    go_wp2_with fail
    refine hc.mono ?_
    rintro e5 w5 ⟨rfl,hb5⟩
    have hB5:=hb.trans (hb5.mono hb.size)
    obtain⟨V6,hV6⟩:∃ V6,V6=w5.alloc (.cells #[.int .i64 x.op,.int .i64 x.loc,.int .i64 x.reg,.int .i64 x.val] 50):=⟨_,rfl⟩
    have hB6:Below W.heap.size W V6:=by rw [hV6]; exact hB5.alloc hB5.size _
    have hrow6:RowI V6 W.heap.size v ms:=by rw [hV6]; exact RowOf.below (RowOf.below hrow.out hb5) ((Below.refl _ _).alloc (Nat.le_refl _) _)
    obtain⟨cs,hown,hqq⟩:=hrow6
    have hs6:=hB6.size
    have Hown:=Lib.hid hown
    have Hqq:=Lib.hid hqq
    clear hc hrow hown hqq
    go_upto_region 7 with (fail)
    rw [← hV6]
    clear hV6
    go_wp2_with (at_builtin; refine wpList_append_lies _ (by rfl) _ _ _ (by rfl) W.heap.size 3 i0 _ 1 8 Tryz.underlying31 hi0 hz0 hz1 hz2 rfl (by omega) v ms.length cs (by rfl) (owns_alloc Hown.out _) ⟨V6.heap.size,0,none⟩ 1 1 [.int .i64 i] (by rfl) (by rfl) (World.news_of_block (cs:=#[.int .i64 i]) (t:=3) (fr:=(0,0)) (heap_alloc_new V6 _)) (by simp [Value.oneCell']) (by omega) (by simp [maxLen]; omega) (by omega) (by simp; omega) (V6.heap.size+1) (by simp) ?_; intro gg cap w8 hown8 hgrow8 hat8 hlt8)
    have hB8:Below W.heap.size W w8:=below_of_grown (hB6.alloc hs6 _) hgrow8 (by simp; omega) (fun g hg=>owns_base' Hown.out hg)
    have hr8:=Lib.hid (RowOf.snoc (news:=[.int .i64 (i:Int)]) (x:=(i:Int)) qint_congr Hown.out Hqq.out rfl rfl hown8)
    clear hown8 hgrow8 hat8
    go_wp2_with fail
    go_roundg (p.length-(i+1))
    case measure=>omega
    case rel=>exact⟨i+1,_,by omega,rfl,rfl,by go_num,by rw [Hm.out]; exact hr8.out,hB8⟩
  ·obtain rfl:i=p.length:=by omega
   go_wp2_with fail
   go_ret
   exact RetRowI.mk hrow.out hb
theorem idx3 (y0 y1 y2:Int):(∀ w,(Instr.index 101 (.agg #[.int .u8 y0,.int .u8 y1,.int .u8 y2]) (.int .i64 0)).run Tryz.prog w=.ok (.int .u8 y0) w)∧(∀ w,(Instr.index 101 (.agg #[.int .u8 y0,.int .u8 y1,.int .u8 y2]) (.int .i64 1)).run Tryz.prog w=.ok (.int .u8 y1) w)∧(∀ w,(Instr.index 101 (.agg #[.int .u8 y0,.int .u8 y1,.int .u8 y2]) (.int .i64 2)).run Tryz.prog w=.ok (.int .u8 y2) w):=
 ⟨fun w=>by kernel_rfl,fun w=>by kernel_rfl,fun w=>by kernel_rfl⟩
theorem take_regs {s:St} {i:Nat} (h:i<s.regs.length):s.regs.take (i+1)=s.regs.take i++[rgF s i]:=by
 rw [List.take_succ_eq_append_getElem h]
 unfold rgF
 rw [List.getD_eq_getElem?_getD,List.getElem?_eq_getElem h]
 rfl
theorem take_mem {s:St} {i:Nat} (h:i<s.mem.length):s.mem.take (i+1)=s.mem.take i++[meF s i]:=by
 rw [List.take_succ_eq_append_getElem h]
 unfold meF
 rw [List.getD_eq_getElem?_getD,List.getElem?_eq_getElem h]
 rfl
set_option maxHeartbeats 1500000 in
theorem outcome_any (p:Prg) (hp:PrgOk p) (s:St) (hs:StOk p s) (W:World) (b:Nat) (Ap:Option Addr) (cp:Nat) (ho:SeqL W b Ap cp p s):
  Calls Tryz.prog 189 #[.pointer (some ⟨b,0,none⟩)] W (RetRowI W (outS s)):=by
 obtain⟨i0,hi0,hz0,hz1,hz2⟩:=info_parts Tryz.infoInt
 have q0:=ho.prg
 have h3:=hp.1.1
 have hrl:=hs.regl
 have Hrl:=Lib.hid hs.regl
 have Hml:=Lib.hid hs.meml
 clear hrl
 go_enter Tryz.func189,Tryz.ntmps189
 go_wp2_with fail
 go_loopg [3,14] p.length (fun g s3 s14 wr=>∃ (i:Nat) (v:Value),i≤p.length∧g=p.length-i∧v=s3∧s14=.int .i64 i∧Hid (RowI wr W.heap.size v (s.regs.take (i*3)))∧Below W.heap.size W wr)
 case atStart=>exact⟨0,_,Nat.zero_le _,rfl,rfl,rfl,(by rw [Nat.zero_mul,List.take_zero]; exact RowOf.nil _ _ _ _ _),Below.refl _ _⟩
 case round=>
  obtain⟨wo,rfl⟩:∃ wo:World,wo=wr:=⟨_,rfl⟩
  obtain⟨i,v,hi,rfl,rfl,rfl,hrow,hb⟩:=hrel
  by_cases hlt:i<p.length
  ·have hO:=ho.under hb
   have k0:=SeqL.reg hO (i:=i*3+0) (by omega)
   have k1:=SeqL.reg hO (i:=i*3+1) (by omega)
   have k2:=SeqL.reg hO (i:=i*3+2) (by omega)
   rw [show 4+(i*3+0)=4+i*3 by omega] at k0
   rw [show 4+(i*3+1)=4+i*3+1 by omega] at k1
   rw [show 4+(i*3+2)=4+i*3+2 by omega] at k2
   have hi3:(i:Int)<3:=by omega
   have hil:i*3+2<s.regs.length:=by rw [Hrl.out]; omega
   have HT:Hid (s.regs.take (i*3+0+1)=s.regs.take (i*3+0)++[rgF s (i*3)]∧s.regs.take (i*3+1+1)=s.regs.take (i*3+1)++[rgF s (i*3+1)]∧s.regs.take (i*3+2+1)=s.regs.take (i*3+2)++[rgF s (i*3+2)]):=⟨take_regs (by omega),take_regs (by omega),take_regs hil⟩
   have HZ:Hid (In03 (rgF s (i*3))∧In03 (rgF s (i*3+1))∧In03 (rgF s (i*3+2))):=⟨getD_03 hs.regb _,getD_03 hs.regb _,getD_03 hs.regb _⟩
   generalize rgF s (i*3)=y0 at k0 HT HZ
   generalize rgF s (i*3+1)=y1 at k1 HT HZ
   generalize rgF s (i*3+2)=y2 at k2 HT HZ
   have hrl9:s.regs.length≤9:=by rw [Hrl.out]; omega
   clear hil hO
   go_wp2_with fail
   go_loopg [3,23] 3 (fun g s3 s23 wr=>∃ (k:Nat) (v:Value),k≤3∧g=3-k∧v=s3∧s23=.int .i64 k∧Hid (RowI wr W.heap.size v (s.regs.take (i*3+k)))∧Below W.heap.size W wr)
   case atStart=>exact⟨0,_,Nat.zero_le _,rfl,rfl,rfl,hrow,hb⟩
   case round=>
    obtain⟨k,v2,hk,rfl,rfl,rfl,hrow2,hb2⟩:=hrel
    have hs2:=hb2.size
    obtain⟨x0,x1,x2⟩:=idx3 y0 y1 y2
    rcases (show k=0∨k=1∨k=2∨k=3 by omega) with rfl | rfl | rfl | rfl
    ·have Hn:=Lib.hid (HT.out.1)
     obtain⟨cs,hown,hqq⟩:=hrow2.out
     have Hown:=Lib.hid hown
     have Hqq:=Lib.hid hqq
     have hlen:(s.regs.take (i*3+0)).length≤20:=by rw [List.length_take]; omega
     have hz:=HZ.out.1
     obtain⟨hz0',hz1'⟩:=hz
     generalize (s.regs.take (i*3+0))=ms at Hown Hqq Hn hlen
     clear hown hqq hrow2
     go_wp2_with (at_builtin; refine wpList_append_lies _ (by rfl) _ _ _ (by rfl) W.heap.size 3 i0 _ 1 8 Tryz.underlying31 hi0 hz0 hz1 hz2 rfl (by omega) v2 ms.length cs (by rfl) (owns_alloc Hown.out _) ⟨wr.heap.size,0,none⟩ 1 1 [.int .i64 y0] (by rfl) (by rfl) (World.news_of_block (cs:=#[.int .i64 y0]) (t:=3) (fr:=(0,0)) (heap_alloc_new wr _)) (by simp [Value.oneCell']) (by omega) (by simp [maxLen]; omega) (by omega) (by simp; omega) (wr.heap.size+1) (by simp) ?_; intro gg cap w8 hown8 hgrow8 hat8 hlt8)
     have hB8:Below W.heap.size W w8:=below_of_grown (hb2.alloc hb2.size _) hgrow8 (by simp; omega) (fun g hg=>owns_base' Hown.out hg)
     have hr8:=Lib.hid (RowOf.snoc (news:=[.int .i64 y0]) (x:=y0) qint_congr Hown.out Hqq.out rfl rfl hown8)
     clear hown8 hgrow8 hat8
     go_wp2_with fail
     go_roundg (3-(0+1))
     case measure=>omega
     case rel=>exact⟨0+1,_,by omega,rfl,rfl,by go_num,by rw [Hn.out]; exact hr8.out,hB8⟩
    ·have Hn:=Lib.hid (HT.out.2.1)
     obtain⟨cs,hown,hqq⟩:=hrow2.out
     have Hown:=Lib.hid hown
     have Hqq:=Lib.hid hqq
     have hlen:(s.regs.take (i*3+1)).length≤20:=by rw [List.length_take]; omega
     have hz:=HZ.out.2.1
     obtain⟨hz0',hz1'⟩:=hz
     generalize (s.regs.take (i*3+1))=ms at Hown Hqq Hn hlen
     clear hown hqq hrow2
     go_wp2_with (at_builtin; refine wpList_append_lies _ (by rfl) _ _ _ (by rfl) W.heap.size 3 i0 _ 1 8 Tryz.underlying31 hi0 hz0 hz1 hz2 rfl (by omega) v2 ms.length cs (by rfl) (owns_alloc Hown.out _) ⟨wr.heap.size,0,none⟩ 1 1 [.int .i64 y1] (by rfl) (by rfl) (World.news_of_block (cs:=#[.int .i64 y1]) (t:=3) (fr:=(0,0)) (heap_alloc_new wr _)) (by simp [Value.oneCell']) (by omega) (by simp [maxLen]; omega) (by omega) (by simp; omega) (wr.heap.size+1) (by simp) ?_; intro gg cap w8 hown8 hgrow8 hat8 hlt8)
     have hB8:Below W.heap.size W w8:=below_of_grown (hb2.alloc hb2.size _) hgrow8 (by simp; omega) (fun g hg=>owns_base' Hown.out hg)
     have hr8:=Lib.hid (RowOf.snoc (news:=[.int .i64 y1]) (x:=y1) qint_congr Hown.out Hqq.out rfl rfl hown8)
     clear hown8 hgrow8 hat8
     go_wp2_with fail
     go_roundg (3-(1+1))
     case measure=>omega
     case rel=>exact⟨1+1,_,by omega,rfl,rfl,by go_num,by rw [Hn.out]; exact hr8.out,hB8⟩
    ·have Hn:=Lib.hid (HT.out.2.2)
     obtain⟨cs,hown,hqq⟩:=hrow2.out
     have Hown:=Lib.hid hown
     have Hqq:=Lib.hid hqq
     have hlen:(s.regs.take (i*3+2)).length≤20:=by rw [List.length_take]; omega
     have hz:=HZ.out.2.2
     obtain⟨hz0',hz1'⟩:=hz
     generalize (s.regs.take (i*3+2))=ms at Hown Hqq Hn hlen
     clear hown hqq hrow2
     go_wp2_with (at_builtin; refine wpList_append_lies _ (by rfl) _ _ _ (by rfl) W.heap.size 3 i0 _ 1 8 Tryz.underlying31 hi0 hz0 hz1 hz2 rfl (by omega) v2 ms.length cs (by rfl) (owns_alloc Hown.out _) ⟨wr.heap.size,0,none⟩ 1 1 [.int .i64 y2] (by rfl) (by rfl) (World.news_of_block (cs:=#[.int .i64 y2]) (t:=3) (fr:=(0,0)) (heap_alloc_new wr _)) (by simp [Value.oneCell']) (by omega) (by simp [maxLen]; omega) (by omega) (by simp; omega) (wr.heap.size+1) (by simp) ?_; intro gg cap w8 hown8 hgrow8 hat8 hlt8)
     have hB8:Below W.heap.size W w8:=below_of_grown (hb2.alloc hb2.size _) hgrow8 (by simp; omega) (fun g hg=>owns_base' Hown.out hg)
     have hr8:=Lib.hid (RowOf.snoc (news:=[.int .i64 y2]) (x:=y2) qint_congr Hown.out Hqq.out rfl rfl hown8)
     clear hown8 hgrow8 hat8
     go_wp2_with fail
     go_roundg (3-(2+1))
     case measure=>omega
     case rel=>exact⟨2+1,_,by omega,rfl,rfl,by go_num,by rw [Hn.out]; exact hr8.out,hB8⟩
    ·go_wp2_with fail
     go_roundg (p.length-(i+1))
     case measure=>omega
     case rel=>exact⟨i+1,_,by omega,rfl,rfl,by go_num,by rw [show (i+1)*3=i*3+3 by omega]; exact hrow2.out,hb2⟩
  ·obtain rfl:i=p.length:=by omega
   have hrow':Hid (RowI wo W.heap.size v (s.regs++s.mem.take 0)):=by
    have h:=hrow.out
    rw [List.take_of_length_le (by rw [Hrl.out]; exact Nat.le_refl _)] at h
    rw [List.take_zero,List.append_nil]
    exact h
   have hO:=ho.under hb
   have k0:=SeqL.mem hO (l:=0) (by omega)
   have k1:=SeqL.mem hO (l:=1) (by omega)
   have k2:=SeqL.mem hO (l:=2) (by omega)
   have HT:Hid (s.regs++s.mem.take (0+1)=(s.regs++s.mem.take 0)++[meF s 0]∧s.regs++s.mem.take (1+1)=(s.regs++s.mem.take 1)++[meF s 1]∧s.regs++s.mem.take (2+1)=(s.regs++s.mem.take 2)++[meF s 2]):=⟨by rw [take_mem (by rw [Hml.out]; omega),List.append_assoc],by rw [take_mem (by rw [Hml.out]; omega),List.append_assoc],by rw [take_mem (by rw [Hml.out]; omega),List.append_assoc]⟩
   have HZ:Hid (In03 (meF s 0)∧In03 (meF s 1)∧In03 (meF s 2)):=⟨getD_03 hs.memb _,getD_03 hs.memb _,getD_03 hs.memb _⟩
   generalize meF s 0=y0 at k0 HT HZ
   generalize meF s 1=y1 at k1 HT HZ
   generalize meF s 2=y2 at k2 HT HZ
   have hrl9:s.regs.length≤9:=by rw [Hrl.out]; omega
   clear hO hrow
   go_wp2_with fail
   go_loopg [3,37] 3 (fun g s3 s37 wr=>∃ (k:Nat) (v:Value),k≤3∧g=3-k∧v=s3∧s37=.int .i64 k∧Hid (RowI wr W.heap.size v (s.regs++s.mem.take k))∧Below W.heap.size W wr)
   case atStart=>exact⟨0,_,Nat.zero_le _,rfl,rfl,rfl,hrow',hb⟩
   case round=>
    obtain⟨k,v2,hk,rfl,rfl,rfl,hrow2,hb2⟩:=hrel
    have hs2:=hb2.size
    obtain⟨x0,x1,x2⟩:=idx3 y0 y1 y2
    rcases (show k=0∨k=1∨k=2∨k=3 by omega) with rfl | rfl | rfl | rfl
    ·have Hn:=Lib.hid (HT.out.1)
     obtain⟨cs,hown,hqq⟩:=hrow2.out
     have Hown:=Lib.hid hown
     have Hqq:=Lib.hid hqq
     have hlen:(s.regs++s.mem.take 0).length≤20:=by rw [List.length_append,List.length_take]; omega
     have hz:=HZ.out.1
     obtain⟨hz0',hz1'⟩:=hz
     generalize (s.regs++s.mem.take 0)=ms at Hown Hqq Hn hlen
     clear hown hqq hrow2
     go_wp2_with (at_builtin; refine wpList_append_lies _ (by rfl) _ _ _ (by rfl) W.heap.size 3 i0 _ 1 8 Tryz.underlying31 hi0 hz0 hz1 hz2 rfl (by omega) v2 ms.length cs (by rfl) (owns_alloc Hown.out _) ⟨wr.heap.size,0,none⟩ 1 1 [.int .i64 y0] (by rfl) (by rfl) (World.news_of_block (cs:=#[.int .i64 y0]) (t:=3) (fr:=(0,0)) (heap_alloc_new wr _)) (by simp [Value.oneCell']) (by omega) (by simp [maxLen]; omega) (by omega) (by simp; omega) (wr.heap.size+1) (by simp) ?_; intro gg cap w8 hown8 hgrow8 hat8 hlt8)
     have hB8:Below W.heap.size W w8:=below_of_grown (hb2.alloc hb2.size _) hgrow8 (by simp; omega) (fun g hg=>owns_base' Hown.out hg)
     have hr8:=Lib.hid (RowOf.snoc (news:=[.int .i64 y0]) (x:=y0) qint_congr Hown.out Hqq.out rfl rfl hown8)
     clear hown8 hgrow8 hat8
     go_wp2_with fail
     go_roundg (3-(0+1))
     case measure=>omega
     case rel=>exact⟨0+1,_,by omega,rfl,rfl,by go_num,by rw [Hn.out]; exact hr8.out,hB8⟩
    ·have Hn:=Lib.hid (HT.out.2.1)
     obtain⟨cs,hown,hqq⟩:=hrow2.out
     have Hown:=Lib.hid hown
     have Hqq:=Lib.hid hqq
     have hlen:(s.regs++s.mem.take 1).length≤20:=by rw [List.length_append,List.length_take]; omega
     have hz:=HZ.out.2.1
     obtain⟨hz0',hz1'⟩:=hz
     generalize (s.regs++s.mem.take 1)=ms at Hown Hqq Hn hlen
     clear hown hqq hrow2
     go_wp2_with (at_builtin; refine wpList_append_lies _ (by rfl) _ _ _ (by rfl) W.heap.size 3 i0 _ 1 8 Tryz.underlying31 hi0 hz0 hz1 hz2 rfl (by omega) v2 ms.length cs (by rfl) (owns_alloc Hown.out _) ⟨wr.heap.size,0,none⟩ 1 1 [.int .i64 y1] (by rfl) (by rfl) (World.news_of_block (cs:=#[.int .i64 y1]) (t:=3) (fr:=(0,0)) (heap_alloc_new wr _)) (by simp [Value.oneCell']) (by omega) (by simp [maxLen]; omega) (by omega) (by simp; omega) (wr.heap.size+1) (by simp) ?_; intro gg cap w8 hown8 hgrow8 hat8 hlt8)
     have hB8:Below W.heap.size W w8:=below_of_grown (hb2.alloc hb2.size _) hgrow8 (by simp; omega) (fun g hg=>owns_base' Hown.out hg)
     have hr8:=Lib.hid (RowOf.snoc (news:=[.int .i64 y1]) (x:=y1) qint_congr Hown.out Hqq.out rfl rfl hown8)
     clear hown8 hgrow8 hat8
     go_wp2_with fail
     go_roundg (3-(1+1))
     case measure=>omega
     case rel=>exact⟨1+1,_,by omega,rfl,rfl,by go_num,by rw [Hn.out]; exact hr8.out,hB8⟩
    ·have Hn:=Lib.hid (HT.out.2.2)
     obtain⟨cs,hown,hqq⟩:=hrow2.out
     have Hown:=Lib.hid hown
     have Hqq:=Lib.hid hqq
     have hlen:(s.regs++s.mem.take 2).length≤20:=by rw [List.length_append,List.length_take]; omega
     have hz:=HZ.out.2.2
     obtain⟨hz0',hz1'⟩:=hz
     generalize (s.regs++s.mem.take 2)=ms at Hown Hqq Hn hlen
     clear hown hqq hrow2
     go_wp2_with (at_builtin; refine wpList_append_lies _ (by rfl) _ _ _ (by rfl) W.heap.size 3 i0 _ 1 8 Tryz.underlying31 hi0 hz0 hz1 hz2 rfl (by omega) v2 ms.length cs (by rfl) (owns_alloc Hown.out _) ⟨wr.heap.size,0,none⟩ 1 1 [.int .i64 y2] (by rfl) (by rfl) (World.news_of_block (cs:=#[.int .i64 y2]) (t:=3) (fr:=(0,0)) (heap_alloc_new wr _)) (by simp [Value.oneCell']) (by omega) (by simp [maxLen]; omega) (by omega) (by simp; omega) (wr.heap.size+1) (by simp) ?_; intro gg cap w8 hown8 hgrow8 hat8 hlt8)
     have hB8:Below W.heap.size W w8:=below_of_grown (hb2.alloc hb2.size _) hgrow8 (by simp; omega) (fun g hg=>owns_base' Hown.out hg)
     have hr8:=Lib.hid (RowOf.snoc (news:=[.int .i64 y2]) (x:=y2) qint_congr Hown.out Hqq.out rfl rfl hown8)
     clear hown8 hgrow8 hat8
     go_wp2_with fail
     go_roundg (3-(2+1))
     case measure=>omega
     case rel=>exact⟨2+1,_,by omega,rfl,rfl,by go_num,by rw [Hn.out]; exact hr8.out,hB8⟩
    ·go_wp2_with fail
     go_ret
     have h:=hrow2.out
     rw [List.take_of_length_le (by rw [Hml.out]; exact Nat.le_refl _)] at h
     exact RetRowI.mk h hb2
end Go.Proofs.YtojmofnamppbdaaGreat
namespace Go.Proofs.YtojmofnamppbdaaGreat
open Go.RowKit
set_option linter.unusedVariables false
set_option maxRecDepth 100000
theorem Tryz.infoByte:(Tryz.prog.info? 5).map (fun i=>(i.zero,i.size,i.bytes))=some (some (.int .u8 0),1,1):=by kernel_rfl
def QB (cs:Nat→Value) (n:Int):Prop:=cs 0=.int .u8 n
theorem qb_congr:∀ (f g:Nat→Value) (x:Int),(∀ j,j<1→f j=g j)→QB f x→QB g x:=fun f g x h hq=>(h 0 (by omega)).symm.trans hq
theorem qb_one:∀ (cs:Nat→Value) (y:Int),QB cs y→∀ j,j<1→(cs j).oneCell'=true:=fun cs y h j hj=>by
 obtain rfl:j=0:=by omega
 have h':cs 0=.int .u8 y:=h
 rw [h']; rfl
abbrev RowB (w:World) (base:Nat) (v:Value) (xs:List Int):Prop:=RowOf 1 QB w base 5 v xs
theorem three_b {w:World} {b o:Nat} {y0 y1 y2:Int} (h0:w.cell? ⟨b,o,none⟩=some (.int .u8 y0)) (h1:w.cell? ⟨b,o+1,none⟩=some (.int .u8 y1)) (h2:w.cell? ⟨b,o+2,none⟩=some (.int .u8 y2)):
  SlR 1 (fun _=>QB) w (.slice (some ⟨b,o,none⟩) 3 3) [y0,y1,y2]:=by
 refine⟨_,_,rfl,by simp,fun i hi=>⟨b,o,rfl,fun _=>.int .u8 [y0,y1,y2][i],fun j hj=>?_,rfl⟩⟩
 obtain rfl:j=0:=by omega
 match i,hi with
 | 0,_=>exact h0
 | 1,_=>exact h1
 | 2,_=>exact h2
def kP (s:St):List Int:=[((pcS s 0:Nat):Int),((pcS s 1:Nat):Int),((pcS s 2:Nat):Int)]
def kR (s:St) (k:Nat):List Int:=kP s++(List.range (k*3)).map (rgF s)
def kAll (s:St):List Int:=kR s 3++[meF s 0,meF s 1,meF s 2]
theorem kR_next (s:St) (k:Nat):kR s (k+1)=kR s k++[rgF s (k*3),rgF s (k*3+1),rgF s (k*3+2)]:=by
 unfold kR
 rw [show (k+1)*3=k*3+1+1+1 by omega,List.range_succ,List.range_succ,List.range_succ]
 simp
theorem kAll_key (s:St):strOfNums (kAll s)=keyI s:=by
 have h:(kAll s).map Int.toNat=kI s:=by
  simp [kAll,kR,kP,kI,rgF,meF,List.range_succ]
 unfold strOfNums keyI byt
 rw [← h,List.map_map]
 rfl
theorem idx33 (y0 y1 y2 y3 y4 y5 y6 y7 y8:Int):
  (∀ w,(Instr.index 102 (.agg #[.int .u8 y0,.int .u8 y1,.int .u8 y2,.int .u8 y3,.int .u8 y4,.int .u8 y5,.int .u8 y6,.int .u8 y7,.int .u8 y8]) (.int .i64 0)).run Tryz.prog w=.ok (.agg #[.int .u8 y0,.int .u8 y1,.int .u8 y2]) w)
  ∧ (∀ w,(Instr.index 102 (.agg #[.int .u8 y0,.int .u8 y1,.int .u8 y2,.int .u8 y3,.int .u8 y4,.int .u8 y5,.int .u8 y6,.int .u8 y7,.int .u8 y8]) (.int .i64 1)).run Tryz.prog w=.ok (.agg #[.int .u8 y3,.int .u8 y4,.int .u8 y5]) w)
  ∧ (∀ w,(Instr.index 102 (.agg #[.int .u8 y0,.int .u8 y1,.int .u8 y2,.int .u8 y3,.int .u8 y4,.int .u8 y5,.int .u8 y6,.int .u8 y7,.int .u8 y8]) (.int .i64 2)).run Tryz.prog w=.ok (.agg #[.int .u8 y6,.int .u8 y7,.int .u8 y8]) w):=⟨fun w=>by kernel_rfl,fun w=>by kernel_rfl,fun w=>by kernel_rfl⟩
theorem row_conv {w:World} {base:Nat} {v:Value} {xs:List Int} (h:RowB w base v xs) (hpos:0<xs.length) (w':World) (hw:w=w'):(convert 22 9 v).run Tryz.prog w'=.ok (.string (strOfNums xs)) w':=by
 subst hw
 obtain⟨A,c,rfl,_,hc⟩:=RowOf.slR (R:=fun _=>QB) (by omega) h (fun cs x h=>h) (Le.refl _)
 obtain⟨b,o,rfl,_⟩:=hc 0 hpos
 refine run_convert_bytes_arg w 22 5 (by kernel_rfl) (by kernel_rfl) b o xs.length c xs rfl (fun i hi=>?_) _ (by kernel_rfl)
 obtain⟨b',o',e,cs,h1,h2⟩:=hc i hi
 injection e with e
 injection e with e1 e2
 subst e1 e2
 have h3:=(cell_above_lt (h1 0 (by omega))).2
 rw [Nat.mul_one,Nat.add_zero] at h3
 rw [h3,h2,List.getD_eq_getElem?_getD,List.getElem?_eq_getElem hi]
 rfl
set_option maxHeartbeats 1500000 in
theorem text_any (p:Prg) (hp:PrgOk p) (s:St) (hs:StOk p s) (W:World) (b:Nat) (Ap:Option Addr) (cp:Nat) (ho:SeqL W b Ap cp p s):
  Calls Tryz.prog 187 #[.pointer (some ⟨b,0,none⟩)] W (fun e W'=>e=.returned (.string (keyI s))∧Below W.heap.size W W'):=by
 obtain⟨i0,hi0,hz0,hz1,hz2⟩:=info_parts Tryz.infoByte
 have hB:Below W.heap.size W (W.alloc (.cells #[] 5)):=(Below.refl _ _).alloc (Nat.le_refl _) _
 have oV:=ho.under hB
 have hrow0:Hid (RowB (W.alloc (.cells #[] 5)) W.heap.size (.slice (some ⟨W.heap.size,0,none⟩) 0 0) []):=RowOf.made _ (Own.new W _ _) (Nat.le_refl _)
 have hp3:Hid (SlR 1 (fun _=>QB) (W.alloc (.cells #[] 5)) (.slice (some ⟨b,1,none⟩) 3 3) (kP s)):=three_b (oV.pc (t:=0) (by omega)) (oV.pc (t:=1) (by omega)) (oV.pc (t:=2) (by omega))
 have hbl:=ho.lt
 have hkl:(kP s).length=3:=rfl
 have Hk0:Hid (kR s 0=kP s):=by show _=_; simp [kR]
 obtain⟨ys,hys⟩:∃ ys,ys=kP s:=⟨_,rfl⟩
 rw [← hys] at hp3 hkl Hk0
 clear hys oV
 go_enter Tryz.func187,Tryz.ntmps187
 have HkA:Hid (kR s (0+1)=kR s 0++[rgF s 0,rgF s 1,rgF s 2]∧kR s (1+1)=kR s 1++[rgF s 3,rgF s 4,rgF s 5]∧kR s (2+1)=kR s 2++[rgF s 6,rgF s 7,rgF s 8]):=⟨kR_next s 0,kR_next s 1,kR_next s 2⟩
 have HL:Hid ((kR s 0).length=3∧(kR s 1).length=6∧(kR s 2).length=9∧(kR s 3).length=12):=by refine⟨?_,?_,?_,?_⟩ <;> simp [kR,kP]
 go_wp2_with (at_builtin; refine wpList_append_list (o:=⟨some 11,_,_,_,_,_⟩) (by rfl) _ _ _ (by rfl) qb_congr (R:=fun _=>QB) W.heap.size 5 i0 _ 1 Tryz.underlying22 hi0 hz0 hz1 hz2 rfl (by omega) (.slice (some ⟨W.heap.size,0,none⟩) 0 0) [] (by rfl) hrow0.out (some ⟨b,1,none⟩) 3 ys (by rw [hkl]; rfl) (by rw [hkl]; exact hp3.out) (fun cs y h=>h) qb_one (by simp [maxLen]; omega) (by simp; omega) (by simp) (W.heap.size+1) (by simp) ?_; intro A5 c5 w5 hrow5 hgrow5 hat5; rw [List.nil_append] at hrow5 hat5; have hB5:Below W.heap.size W w5:=below_of_grown hB hgrow5 (by simp) (fun g hg=>by simp only [Value.ownBlock,Option.some.injEq] at hg; omega); have hO5:=ho.under hB5; have k0:=hO5.reg (i:=0) (by omega); have k1:=hO5.reg (i:=1) (by omega); have k2:=hO5.reg (i:=2) (by omega); have k3:=hO5.reg (i:=3) (by omega); have k4:=hO5.reg (i:=4) (by omega); have k5:=hO5.reg (i:=5) (by omega); have k6:=hO5.reg (i:=6) (by omega); have k7:=hO5.reg (i:=7) (by omega); have k8:=hO5.reg (i:=8) (by omega); simp only [Nat.reduceAdd] at k0 k1 k2 k3 k4 k5 k6 k7 k8; obtain⟨x0,x1,x2⟩:=idx33 (rgF s 0) (rgF s 1) (rgF s 2) (rgF s 3) (rgF s 4) (rgF s 5) (rgF s 6) (rgF s 7) (rgF s 8); clear hO5; generalize rgF s 0=y0 at k0 x0 x1 x2 HkA; generalize rgF s 1=y1 at k1 x0 x1 x2 HkA; generalize rgF s 2=y2 at k2 x0 x1 x2 HkA; generalize rgF s 3=y3 at k3 x0 x1 x2 HkA; generalize rgF s 4=y4 at k4 x0 x1 x2 HkA; generalize rgF s 5=y5 at k5 x0 x1 x2 HkA; generalize rgF s 6=y6 at k6 x0 x1 x2 HkA; generalize rgF s 7=y7 at k7 x0 x1 x2 HkA; generalize rgF s 8=y8 at k8 x0 x1 x2 HkA)
 have hr0:Hid (RowB w5 W.heap.size (.slice A5 ys.length c5) (kR s 0)):=by show RowB _ _ _ _; rw [Hk0.out]; exact hrow5
 rw [hkl] at hr0
 clear hrow5 hgrow5 hat5 k0 k1 k2 k3 k4 k5 k6 k7 k8 hrow0 hp3 Hk0 hkl
 go_loopg [3,16] 3 (fun g s3 s16 wr=>∃ (k:Nat) (v:Value),k≤3∧g=3-k∧v=s3∧s16=.int .i64 k∧Hid (RowB wr W.heap.size v (kR s k))∧Below W.heap.size W wr)
 case atStart=>exact⟨0,_,Nat.zero_le _,rfl,rfl,rfl,hr0,hB5⟩
 case round=>
  obtain⟨k,v2,hk,rfl,rfl,rfl,hrow2,hb2⟩:=hrel
  have hs2:=hb2.size
  rcases (show k=0∨k=1∨k=2∨k=3 by omega) with rfl | rfl | rfl | rfl
  ·have Hn:=Lib.hid (HkA.out.1)
   have hl:=HL.out.1
   have Hr2:=Lib.hid (RowOf.below hrow2.out ((Below.refl _ _).alloc (Nat.le_refl _) (.cells #[.int .u8 y0,.int .u8 y1,.int .u8 y2] 101)))
   have oT:=Own.new wr 101 #[.int .u8 y0,.int .u8 y1,.int .u8 y2]
   have H3:=Lib.hid (three_b (oT.cell (i:=0) rfl) (oT.cell (i:=0+1) rfl) (oT.cell (i:=0+2) rfl))
   have Hbs:Hid (∀ g,v2.ownBlock=some g→W.heap.size≤g):=fun g hg=>by obtain⟨cs,ho,_⟩:=hrow2.out; exact owns_base' ho hg
   generalize kR s 0=ms at Hr2 Hn hl
   clear hrow2 oT
   go_wp2_with (at_builtin; refine wpList_append_list (o:=⟨some 21,_,_,_,_,_⟩) (by rfl) _ _ _ (by rfl) qb_congr (R:=fun _=>QB) W.heap.size 5 i0 _ 1 Tryz.underlying22 hi0 hz0 hz1 hz2 rfl (by omega) v2 ms (by rfl) Hr2.out (some ⟨wr.heap.size,0,none⟩) 3 [y0,y1,y2] (by rfl) H3.out (fun cs y h=>h) qb_one (by simp [maxLen]; omega) (by simp; omega) (by simp; omega) (wr.heap.size+1) (by simp) ?_; intro A8 c8 w8 hrow8 hgrow8 hat8)
   have hB8:Below W.heap.size W w8:=below_of_grown (hb2.alloc hs2 _) hgrow8 (by simp; omega) Hbs.out
   have Hr8:Hid (RowB w8 W.heap.size (.slice A8 6 c8) (ms++[y0,y1,y2])):=by
    have h:=hrow8
    rw [show (ms++[y0,y1,y2]).length=6 by simp [hl]] at h
    exact h
   clear hrow8 hgrow8 hat8
   go_wp2_with fail
   go_roundg (3-(0+1))
   case measure=>omega
   case rel=>exact⟨0+1,_,by omega,rfl,rfl,by go_num,by rw [Hn.out]; exact Hr8.out,hB8⟩
  ·have Hn:=Lib.hid (HkA.out.2.1)
   have hl:=HL.out.2.1
   have Hr2:=Lib.hid (RowOf.below hrow2.out ((Below.refl _ _).alloc (Nat.le_refl _) (.cells #[.int .u8 y3,.int .u8 y4,.int .u8 y5] 101)))
   have oT:=Own.new wr 101 #[.int .u8 y3,.int .u8 y4,.int .u8 y5]
   have H3:=Lib.hid (three_b (oT.cell (i:=0) rfl) (oT.cell (i:=0+1) rfl) (oT.cell (i:=0+2) rfl))
   have Hbs:Hid (∀ g,v2.ownBlock=some g→W.heap.size≤g):=fun g hg=>by obtain⟨cs,ho,_⟩:=hrow2.out; exact owns_base' ho hg
   generalize kR s 1=ms at Hr2 Hn hl
   clear hrow2 oT
   go_wp2_with (at_builtin; refine wpList_append_list (o:=⟨some 21,_,_,_,_,_⟩) (by rfl) _ _ _ (by rfl) qb_congr (R:=fun _=>QB) W.heap.size 5 i0 _ 1 Tryz.underlying22 hi0 hz0 hz1 hz2 rfl (by omega) v2 ms (by rfl) Hr2.out (some ⟨wr.heap.size,0,none⟩) 3 [y3,y4,y5] (by rfl) H3.out (fun cs y h=>h) qb_one (by simp [maxLen]; omega) (by simp; omega) (by simp; omega) (wr.heap.size+1) (by simp) ?_; intro A8 c8 w8 hrow8 hgrow8 hat8)
   have hB8:Below W.heap.size W w8:=below_of_grown (hb2.alloc hs2 _) hgrow8 (by simp; omega) Hbs.out
   have Hr8:Hid (RowB w8 W.heap.size (.slice A8 9 c8) (ms++[y3,y4,y5])):=by
    have h:=hrow8
    rw [show (ms++[y3,y4,y5]).length=9 by simp [hl]] at h
    exact h
   clear hrow8 hgrow8 hat8
   go_wp2_with fail
   go_roundg (3-(1+1))
   case measure=>omega
   case rel=>exact⟨1+1,_,by omega,rfl,rfl,by go_num,by rw [Hn.out]; exact Hr8.out,hB8⟩
  ·have Hn:=Lib.hid (HkA.out.2.2)
   have hl:=HL.out.2.2.1
   have Hr2:=Lib.hid (RowOf.below hrow2.out ((Below.refl _ _).alloc (Nat.le_refl _) (.cells #[.int .u8 y6,.int .u8 y7,.int .u8 y8] 101)))
   have oT:=Own.new wr 101 #[.int .u8 y6,.int .u8 y7,.int .u8 y8]
   have H3:=Lib.hid (three_b (oT.cell (i:=0) rfl) (oT.cell (i:=0+1) rfl) (oT.cell (i:=0+2) rfl))
   have Hbs:Hid (∀ g,v2.ownBlock=some g→W.heap.size≤g):=fun g hg=>by obtain⟨cs,ho,_⟩:=hrow2.out; exact owns_base' ho hg
   generalize kR s 2=ms at Hr2 Hn hl
   clear hrow2 oT
   go_wp2_with (at_builtin; refine wpList_append_list (o:=⟨some 21,_,_,_,_,_⟩) (by rfl) _ _ _ (by rfl) qb_congr (R:=fun _=>QB) W.heap.size 5 i0 _ 1 Tryz.underlying22 hi0 hz0 hz1 hz2 rfl (by omega) v2 ms (by rfl) Hr2.out (some ⟨wr.heap.size,0,none⟩) 3 [y6,y7,y8] (by rfl) H3.out (fun cs y h=>h) qb_one (by simp [maxLen]; omega) (by simp; omega) (by simp; omega) (wr.heap.size+1) (by simp) ?_; intro A8 c8 w8 hrow8 hgrow8 hat8)
   have hB8:Below W.heap.size W w8:=below_of_grown (hb2.alloc hs2 _) hgrow8 (by simp; omega) Hbs.out
   have Hr8:Hid (RowB w8 W.heap.size (.slice A8 12 c8) (ms++[y6,y7,y8])):=by
    have h:=hrow8
    rw [show (ms++[y6,y7,y8]).length=12 by simp [hl]] at h
    exact h
   clear hrow8 hgrow8 hat8
   go_wp2_with fail
   go_roundg (3-(2+1))
   case measure=>omega
   case rel=>exact⟨2+1,_,by omega,rfl,rfl,by go_num,by rw [Hn.out]; exact Hr8.out,hB8⟩
  ·have hl:=HL.out.2.2.2
   have hO:=ho.under hb2
   have Hk:=Lib.hid (kAll_key s)
   have Hd:Hid (kAll s=kR s 3++[meF s 0,meF s 1,meF s 2]):=rfl
   have H3:Hid (SlR 1 (fun _=>QB) wr (.slice (some ⟨b,13,none⟩) 3 3) [meF s 0,meF s 1,meF s 2]):=(three_b (hO.mem (l:=0) (by omega)) (hO.mem (l:=1) (by omega)) (hO.mem (l:=2) (by omega)))
   have Hbs:Hid (∀ g,v2.ownBlock=some g→W.heap.size≤g):=fun g hg=>by obtain⟨cs,ho,_⟩:=hrow2.out; exact owns_base' ho hg
   generalize kR s 3=ms at hrow2 hl Hd
   generalize meF s 0=m0 at H3 Hd
   generalize meF s 1=m1 at H3 Hd
   generalize meF s 2=m2 at H3 Hd
   clear hO x0 x1 x2
   go_wp2_with (at_builtin; refine wpList_append_list (o:=⟨some 28,_,_,_,_,_⟩) (by rfl) _ _ _ (by rfl) qb_congr (R:=fun _=>QB) W.heap.size 5 i0 _ 1 Tryz.underlying22 hi0 hz0 hz1 hz2 rfl (by omega) v2 ms (by rfl) hrow2.out (some ⟨b,13,none⟩) 3 [m0,m1,m2] (by rfl) H3.out (fun cs y h=>h) qb_one (by simp [maxLen]; omega) (by simp; omega) hs2 wr.heap.size rfl ?_; intro A8 c8 w8 hrow8 hgrow8 hat8; have hcv:=row_conv hrow8 (by simp) w8 rfl; rw [show (ms++[m0,m1,m2]).length=15 by simp [hl]] at hcv)
   have hB8:Below W.heap.size W w8:=below_of_grown hb2 hgrow8 hs2 Hbs.out
   clear hrow8 hgrow8 hat8
   go_wp2_with fail
   go_ret
   exact⟨by rw [← Hk.out,Hd.out]; rfl,hB8⟩
set_option maxHeartbeats 400000 in
theorem key_any (p:Prg) (hp:PrgOk p) (s:St) (hs:StOk p s) (W:World) (b:Nat) (Ap:Option Addr) (cp:Nat) (ho:SeqL W b Ap cp p s):
  Calls Tryz.prog 198 #[.pointer (some ⟨b,0,none⟩)] W (fun e W'=>e=.returned (.string (keyI s))∧Below W.heap.size W W'):=by
 have hc:=text_any p hp s hs W b Ap cp ho
 go_enter Tryz.func198,Tryz.ntmps198
 go_wp2_with fail
 refine hc.mono ?_
 rintro e5 w5 ⟨rfl,hb5⟩
 go_wp2_with fail
 go_ret
 exact⟨rfl,hb5⟩
end Go.Proofs.YtojmofnamppbdaaGreat
