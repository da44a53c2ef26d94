/-
  The walks of the machine with store buffers: after.
-/
import Derived.Test.YtojmofnamppbdaaGreatBfB
import Derived.Test.YtojmofnamppbdaaGreatRgA
import Derived.Deep.MidRow
import Derived.Deep.WholeRow
namespace Go.Proofs.YtojmofnamppbdaaGreat
open Go.RowKit
set_option linter.unusedVariables false
set_option maxRecDepth 100000
theorem slice1_any (b1 o1 c1 n:Nat) (X:World) (hcap:n+1≤c1):(Instr.sliceAt 22 (.slice (some ⟨b1,o1,none⟩) (n+1) c1) (some (.int .i64 1)) none none).run Tryz.prog X=.ok (.slice (if c1=1 then some ⟨b1,o1,none⟩ else some ⟨b1,o1+1,none⟩) n (c1-1)) X:=by
 rw [run_sliceAt_slice (P:=Tryz.prog) (w:=X) 22 _ _ _ _ (by kernel_rfl),run_slice_l (P:=Tryz.prog) (w:=X) 22 _ _ _ (by kernel_rfl) .i64 1 (by omega) (by omega)]
 rw [show Tryz.prog.elem 22=5 from by kernel_rfl,Tryz.sizeOf5]
 show Result.ok (sliced _ _ _ _ _) _=_
 unfold sliced
 congr 1
structure RowC (w:World) (base g n:Nat) (f:Nat→Value):Prop where
 ge:base≤g
 lt:g<w.heap.size
 cell:∀ k,k<n→w.cell? ⟨g,k,none⟩=some (f k)
 fr:∀ k,w.frozen? ⟨g,k,none⟩=false
section
variable {w w':World} {base g n:Nat} {f:Nat→Value}
theorem RowC.below (h:RowC w base g n f) (hb:Below w.heap.size w w'):RowC w' base g n f:=by
 have hk:=hb.block g h.lt
 exact⟨h.ge,Nat.lt_of_lt_of_le h.lt hb.size,fun k hk'=>by rw [World.cell?_of_block (w:=w) hk]; exact h.cell k hk',fun k=>by rw [World.frozen?_of_block (w:=w) hk]; exact h.fr k⟩
theorem RowC.far (h:RowC w base g n f) {p:Addr} (u:Value) (hp:p.block≠g):RowC (w.setCell p u) base g n f:=
 ⟨h.ge,by simpa using h.lt,fun k hk=>by rw [World.cell?_setCell_other _ _ _ _ (fun e=>by subst e; exact hp rfl)]; exact h.cell k hk,fun k=>by rw [World.frozen?_setCell]; exact h.fr k⟩
theorem RowC.set (h:RowC w base g n f) {k:Nat} (hk:k<n) (u:Value):RowC (w.setCell ⟨g,k,none⟩ u) base g n (fun j=>if j=k then u else f j):=
 ⟨h.ge,by simpa using h.lt,fun j hj=>by
  by_cases e:j=k
  ·subst e
   rw [if_pos rfl]
   exact World.cell?_setCell_same' _ _ _ (by rw [h.cell j hj]; rfl)
  ·rw [if_neg e,World.cell?_setCell_other _ _ _ _ (fun e'=>e (by injection e' with _ e2 _; exact e2.symm))]
   exact h.cell j hj,fun j=>by rw [World.frozen?_setCell]; exact h.fr j⟩
theorem RowC.drew (h:RowC w base g n f):RowC w.drew base g n f:=⟨h.ge,h.lt,h.cell,h.fr⟩
end
theorem rowC_of {w:World} {base:Nat} {v:Value} {vs:List VO} (h:RowOf 1 QV w base 22 v vs) (hn:0<vs.length):∃ g cap,v=.slice (some ⟨g,0,none⟩) vs.length cap∧RowC w base g vs.length (fun k=>(vs.getD k ⟨.slice none 0 0,rfl⟩).1):=by
 obtain⟨cs,h1,h2⟩:=h
 rcases h1.2 with ⟨_,h0⟩ | ⟨g,cap,cur,rfl,hb,hg,hnc,hm,hc,ht⟩
 ·omega
 ·have ho:Own w g 22 cur:=hg
  refine⟨g,cap,rfl,hb,ho.lt,fun k hk=>?_,fun k=>ho.frozen k⟩
  have hl:=h1.1
  rw [Nat.mul_one] at hl hc
  have hq:=h2 k hk
  have hq:cs.getD (k*1+0) undef=vs[k].1:=hq
  rw [show k*1+0=k by omega,← ht,List.getD_eq_getElem?_getD,List.getElem?_take,if_pos (by omega),Array.getElem?_toList,Array.getElem?_eq_getElem (by omega),Option.getD_some] at hq
  rw [List.getD_eq_getElem?_getD,List.getElem?_eq_getElem hk,Option.getD_some,← hq]
  exact ho.cell (Array.getElem?_eq_getElem (by omega))
def sliceV (o:Option Value):VO:=match o with
 | some (.slice x y z)=>⟨.slice x y z,rfl⟩
 | _=>⟨.slice none 0 0,rfl⟩
theorem bufL_new {a W W':World} {R g cap n:Nat} {Ap:Option Addr} {cp:Nat} {p:Prg} {sp:Bool} {s':BSt} {f:Nat→Value} (ho:Own W' R 160 (bufC Ap cp p s'.s sp (.slice (some ⟨g,0,none⟩) n cap))) (hR:W.heap.size≤R) (hn:n=s'.bufs.length) (hn1:n≤1000) (hr:RowC W' W.heap.size g n f)
  (hrows:∀ k,k<n→∀ a',Le a a'→Le (above W.heap.size W') a'→∃ A1 c1,f k=.slice A1 (bufB s' k).length c1∧SlR 1 (fun _=>QB) a' (.slice A1 (bufB s' k).length c1) ((bufB s' k).map encZ)∧(bufB s' k).length≤c1) (a':World) (h1:Le a a') (h2:Le (above W.heap.size W') a'):BufL a' R Ap cp p sp s':=by
 have hc:∀ i v,(bufC Ap cp p s'.s sp (.slice (some ⟨g,0,none⟩) n cap))[i]?=some v→a'.cell? ⟨R,i,none⟩=some v:=fun i v hv=>h2 _ _ (cell_above_of hR (Own.cell ho hv))
 refine⟨fun i v hv=>hc i v ?_,hc 16 _ rfl,⟨some ⟨g,0,none⟩,cap,?_,⟨some ⟨g,0,none⟩,cap,by simp [bytB],by simp [bytB]; omega,fun k hk=>⟨g,0,rfl,fun _=>f k,fun j hj=>?_,?_⟩⟩⟩⟩
 ·exact bufC_get hv
 ·rw [← hn]; exact hc 17 _ rfl
 ·obtain rfl:j=0:=by omega
  have hk':k<n:=by simpa [bytB,hn] using hk
  rw [show 0+k*1+0=k by omega]
  exact h2 _ _ (cell_above_of hr.ge (hr.cell k hk'))
 ·have hk':k<n:=by simpa [bytB,hn] using hk
  obtain⟨A1,c1,e,hs,hle⟩:=hrows k hk' a' h1 h2
  rw [bytB_get (by omega)]
  exact⟨A1,c1,by rw [List.length_map]; exact e,by rw [List.length_map]; exact hle,by rw [List.length_map]; exact hs⟩
theorem wpList_store_newB {P:Program} {ops:Array Oper} {rest:List Oper} {op:Oper} {a:Act} {w:World} {Q:Exit→Act→World→Prop} (hgd:op.guard=none) (ty:TypeId) (x y:Operand) (ho:op.op=.store ty x y) (c c':Array Value) (hx:a.eval x=.pointer (some ⟨w.heap.size,0,none⟩)) (hy:a.eval y=.agg c')
  (hi:(P.info? ty).map (·.size)=some c'.size) (hs:c.size=c'.size) (h1:c'.all (·.oneCell')=true) (h:wpList P ops Q rest (a.put op.dst undef) (w.alloc (.cells c' ty))):wpList P ops Q (op::rest) a (w.alloc (.cells c ty)):=
 wpList_plain hgd fun _ hK=>by
  unfold Oper.wp execOp
  simp only [ho,hx,hy,run_storeAt_new w ty c c' hi hs h1,Sem.run_bind,Sem.run_pure,Result.andThen_ok]
  exact hK _ _ h
theorem seqC_mget {Ap:Option Addr} {cp:Nat} {p:Prg} {s:St} {l:Nat} (hl:l<3):(seqC Ap cp p s)[13+l]?=some (.int .u8 (meF s l)):=by
 match l,hl with
 | 0,_=>rfl
 | 1,_=>rfl
 | 2,_=>rfl
theorem seqC_pget {Ap:Option Addr} {cp:Nat} {p:Prg} {s:St} {t:Nat} (ht:t<3):(seqC Ap cp p s)[1+t]?=some (.int .u8 ((pcS s t:Nat):Int)):=by
 match t,ht with
 | 0,_=>rfl
 | 1,_=>rfl
 | 2,_=>rfl
theorem seqC_rget {Ap:Option Addr} {cp:Nat} {p:Prg} {s:St} {i:Nat} (hi:i<9):(seqC Ap cp p s)[4+i]?=some (.int .u8 (rgF s i)):=by
 match i,hi with
 | 0,_=>rfl
 | 1,_=>rfl
 | 2,_=>rfl
 | 3,_=>rfl
 | 4,_=>rfl
 | 5,_=>rfl
 | 6,_=>rfl
 | 7,_=>rfl
 | 8,_=>rfl
theorem bufC_pc {Ap:Option Addr} {cp:Nat} {p:Prg} {s:St} {sp:Bool} {u:Value} {t v:Nat} (ht:t<3) (hl:t<s.pc.length):
  (bufC Ap cp p s sp u).setIfInBounds (1+t) (.int .u8 ((v:Nat):Int))=bufC Ap cp p ⟨s.pc.set t v,s.regs,s.mem⟩ sp u:=by
 match t,ht with
 | 0,_=>simp [bufC,pcV,pcS,rgV,meV,rgF,meF,hl]
 | 1,_=>simp [bufC,pcV,pcS,rgV,meV,rgF,meF,hl]
 | 2,_=>simp [bufC,pcV,pcS,rgV,meV,rgF,meF,hl]
theorem bufC_reg {Ap:Option Addr} {cp:Nat} {p:Prg} {s:St} {sp:Bool} {u:Value} {i:Nat} {v:Int} (hi:i<9) (hl:i<s.regs.length):
  (bufC Ap cp p s sp u).setIfInBounds (4+i) (.int .u8 v)=bufC Ap cp p ⟨s.pc,s.regs.set i v,s.mem⟩ sp u:=by
 match i,hi with
 | 0,_=>simp [bufC,pcV,pcS,rgV,meV,rgF,meF,hl]
 | 1,_=>simp [bufC,pcV,pcS,rgV,meV,rgF,meF,hl]
 | 2,_=>simp [bufC,pcV,pcS,rgV,meV,rgF,meF,hl]
 | 3,_=>simp [bufC,pcV,pcS,rgV,meV,rgF,meF,hl]
 | 4,_=>simp [bufC,pcV,pcS,rgV,meV,rgF,meF,hl]
 | 5,_=>simp [bufC,pcV,pcS,rgV,meV,rgF,meF,hl]
 | 6,_=>simp [bufC,pcV,pcS,rgV,meV,rgF,meF,hl]
 | 7,_=>simp [bufC,pcV,pcS,rgV,meV,rgF,meF,hl]
 | 8,_=>simp [bufC,pcV,pcS,rgV,meV,rgF,meF,hl]
theorem bufC_mset {Ap:Option Addr} {cp:Nat} {p:Prg} {s:St} {sp:Bool} {u:Value} {l:Nat} {v:Int} (hi:l<3) (hl:l<s.mem.length):
  (bufC Ap cp p s sp u).setIfInBounds (13+l) (.int .u8 v)=bufC Ap cp p ⟨s.pc,s.regs,s.mem.set l v⟩ sp u:=by
 match l,hi with
 | 0,_=>simp [bufC,pcV,pcS,rgV,meV,rgF,meF,hl]
 | 1,_=>simp [bufC,pcV,pcS,rgV,meV,rgF,meF,hl]
 | 2,_=>simp [bufC,pcV,pcS,rgV,meV,rgF,meF,hl]
def RetBf (a W:World) (Ap:Option Addr) (cp:Nat) (p:Prg) (sp:Bool) (s:BSt) (e:Ending) (W':World):Prop:=
 ∃ b,e=.returned (.iface 157 (.pointer (some ⟨b,0,none⟩)))∧(∀ a',Le a a'→Le (above W.heap.size W') a'→BufL a' b Ap cp p sp s)∧Below W.heap.size W W'
def T17 (f:Nat→Value) (B:Nat) (bs:List Int) (z:Int) (d:Nat) (w:World) (v:Value):Prop:=
 match d with
 | 116=>RowB w B v bs
 | 129=>RowB w B v (bs++[z])
 | 128=>∃ bb,v=.slice (some ⟨bb,0,none⟩) 1 1∧B≤bb∧w.cell? ⟨bb,0,none⟩=some (.int .u8 z)
 | _=>v=f d
theorem t17_nx {f:Nat→Value} {B:Nat} {bs:List Int} {z:Int}:∀ d w w' v,Nx w w'→T17 f B bs z d w v→T17 f B bs z d w' v:=fun d w w' v hb h=>by
 unfold T17 at h ⊢
 split at h
 ·exact RowOf.below h hb
 ·exact RowOf.below h hb
 ·obtain⟨bb,e,h1,h2⟩:=h
  exact⟨bb,e,h1,Le.below (show Below w.heap.size w w' from hb) _ _ h2⟩
 ·exact h
theorem qb_cs {cs:List Value} {xs:List Int} (h:cs.length=xs.length*1) (hq:∀ i (h:i<xs.length),QB (fun j=>cs.getD (i*1+j) undef) xs[i]):cs=xs.map (Value.int .u8):=
 List.ext_getElem (by rw [List.length_map]; omega) fun i h1 h2=>by
  rw [List.length_map] at h2
  have h3:cs.getD (i*1+0) undef=.int .u8 xs[i]:=hq i h2
  rw [show i*1+0=i by omega,List.getD_eq_getElem?_getD,List.getElem?_eq_getElem h1,Option.getD_some] at h3
  rw [h3,List.getElem_map]
theorem one_news {w:World} {bb:Nat} {u:Value} (h:w.cell? ⟨bb,0,none⟩=some u):∀ j v,[u][j]?=some v→w.cell? ((⟨bb,0,none⟩:Addr).add j)=some v:=fun j v hv=>by
 have hadd:(⟨bb,0,none⟩:Addr).add j=⟨bb,j,none⟩:=by unfold Addr.add; split <;> simp_all
 have hj:j=0:=by
  have:=(List.getElem?_eq_some_iff.1 hv).1
  simpa using this
 subst hj
 rw [hadd]
 simp only [List.getElem?_cons_zero,Option.some.injEq] at hv
 rw [← hv]
 exact h
theorem t17_keep {f:Nat→Value} {B:Nat} {bs:List Int} {z:Int} {w w':World} {v:Value} {cs:List Value} {e:TypeId} (he:e=5) (hc:cs=bs.map (Value.int .u8)) (hg:w.grownBy w' v.ownBlock) (hk:∀ g,v.ownBlock=some g→w'.heap[g]?=w.heap[g]?∨∃ cur cur',w.heap[g]?=some (.cells cur e (0,0))∧w'.heap[g]?=some (.cells cur' e (0,0))∧cur'.size=cur.size∧cur'.toList.take (bs.length+1)=cs++[.int .u8 z]∧cur.toList.take bs.length=cs):
  ∀ d u,T17 f B bs z d w u→T17 f B bs z d w' u:=fun d u h=>by
 subst he
 have hl:cs.length=bs.length:=by rw [hc,List.length_map]
 unfold T17 at h ⊢
 split at h
 ·obtain⟨cs1,h1,h2⟩:=h
  exact⟨cs1,owns_kept hg hk hl h1 (.inl (Nat.le_refl _)),h2⟩
 ·obtain⟨cs1,h1,h2⟩:=h
  refine⟨cs1,owns_kept hg hk hl h1 (.inr ⟨by simp,?_⟩),h2⟩
  rw [qb_cs h1.1 h2,hc]
  simp
 ·obtain⟨bb,e,h1,h2⟩:=h
  refine⟨bb,e,h1,cell_kept hg hk hl h2 ?_⟩
  rcases Nat.eq_zero_or_pos bs.length with h0 | h0
  ·right
   rw [h0]
   rfl
  ·exact .inl h0
 ·exact h
set_option maxHeartbeats 4000000 in
theorem afterB_any (p:Prg) (hp:PrgOk p) (sp:Bool) (s:BSt) (hs:BOk p sp s) (m:Nat) (hm:m∈mvB p sp s) (a W:World) (hla:Le a W) (b:Nat) (Ap:Option Addr) (cp:Nat) (hoa:BufL a b Ap cp p sp s) (hpr:PrgS W (.slice Ap p.length cp) p):
  Calls Tryz.prog 200 #[.pointer (some ⟨b,0,none⟩),.int .i64 m] W (RetBf a W Ap cp p sp (nxB p sp s m)):=by
 have h3:=hp.1.1
 have hcan:=(mem_mvB hs).1 hm
 have ho:=hoa.le hla
 have hbW:=ho.lt
 have hlp:0<p.length:=hp.2.1
 have hnb:0<s.bufs.length:=by rw [hs.len]; unfold nBf; split <;> omega
 have hn9:s.bufs.length≤9:=by rw [hs.len]; exact nBf_le hp sp
 obtain⟨A0,c17,q17a,_,hrowsa⟩:=hoa.rows
 obtain⟨bp,op,_,_,rfl,_,_,_⟩:=hrowsa 0 hnb
 have q17:=hla _ _ q17a
 have Hrowsa:Hid (∀ k,k<s.bufs.length→∃ A1 c1,a.cell? ⟨bp,op+k,none⟩=some (.slice A1 (bufB s k).length c1)∧SlR 1 (fun _=>QB) a (.slice A1 (bufB s k).length c1) ((bufB s k).map encZ)∧(bufB s k).length≤c1):=fun k hk=>by
  obtain⟨bp',op',A1,c1,e,_,h2,h3,h4⟩:=hrowsa k hk
  injection e with e
  injection e with e1 e2
  subst e1 e2
  exact⟨A1,c1,h2,h3,h4⟩
 clear hrowsa
 obtain⟨V,hV⟩:∃ V,V=W.alloc (.cells #[.slice Ap p.length cp,.int .u8 ((pcS s.s 0:Nat):Int),.int .u8 ((pcS s.s 1:Nat):Int),.int .u8 ((pcS s.s 2:Nat):Int),.int .u8 (rgF s.s 0),.int .u8 (rgF s.s 1),.int .u8 (rgF s.s 2),.int .u8 (rgF s.s 3),.int .u8 (rgF s.s 4),.int .u8 (rgF s.s 5),.int .u8 (rgF s.s 6),.int .u8 (rgF s.s 7),.int .u8 (rgF s.s 8),.int .u8 (meF s.s 0),.int .u8 (meF s.s 1),.int .u8 (meF s.s 2),.bool sp,.slice (some ⟨bp,op,none⟩) s.bufs.length c17] 160):=⟨_,rfl⟩
 have hB:Below W.heap.size W V:=by rw [hV]; exact (Below.refl _ _).alloc (Nat.le_refl _) _
 have oC:Own V W.heap.size 160 (bufC Ap cp p s.s sp (.slice (some ⟨bp,op,none⟩) s.bufs.length c17)):=by rw [hV]; exact Own.new _ _ _
 have c0:W.cell? ⟨b,0,none⟩=some (.slice Ap p.length cp):=ho.vals 0 _ rfl
 have c1:W.cell? ⟨b,1,none⟩=some (.int .u8 ((pcS s.s 0:Nat):Int)):=ho.vals 1 _ rfl
 have c2:W.cell? ⟨b,2,none⟩=some (.int .u8 ((pcS s.s 1:Nat):Int)):=ho.vals 2 _ rfl
 have c3:W.cell? ⟨b,3,none⟩=some (.int .u8 ((pcS s.s 2:Nat):Int)):=ho.vals 3 _ rfl
 have c4:W.cell? ⟨b,4,none⟩=some (.int .u8 (rgF s.s 0)):=ho.vals 4 _ rfl
 have c5:W.cell? ⟨b,5,none⟩=some (.int .u8 (rgF s.s 1)):=ho.vals 5 _ rfl
 have c6:W.cell? ⟨b,6,none⟩=some (.int .u8 (rgF s.s 2)):=ho.vals 6 _ rfl
 have c7:W.cell? ⟨b,7,none⟩=some (.int .u8 (rgF s.s 3)):=ho.vals 7 _ rfl
 have c8:W.cell? ⟨b,8,none⟩=some (.int .u8 (rgF s.s 4)):=ho.vals 8 _ rfl
 have c9:W.cell? ⟨b,9,none⟩=some (.int .u8 (rgF s.s 5)):=ho.vals 9 _ rfl
 have c10:W.cell? ⟨b,10,none⟩=some (.int .u8 (rgF s.s 6)):=ho.vals 10 _ rfl
 have c11:W.cell? ⟨b,11,none⟩=some (.int .u8 (rgF s.s 7)):=ho.vals 11 _ rfl
 have c12:W.cell? ⟨b,12,none⟩=some (.int .u8 (rgF s.s 8)):=ho.vals 12 _ rfl
 have c13:W.cell? ⟨b,13,none⟩=some (.int .u8 (meF s.s 0)):=ho.vals 13 _ rfl
 have c14:W.cell? ⟨b,14,none⟩=some (.int .u8 (meF s.s 1)):=ho.vals 14 _ rfl
 have c15:W.cell? ⟨b,15,none⟩=some (.int .u8 (meF s.s 2)):=ho.vals 15 _ rfl
 have c16:W.cell? ⟨b,16,none⟩=some (.bool sp):=ho.spl
 have hrg:W.rangeAt b 0 [.slice Ap p.length cp,.int .u8 ((pcS s.s 0:Nat):Int),.int .u8 ((pcS s.s 1:Nat):Int),.int .u8 ((pcS s.s 2:Nat):Int),.int .u8 (rgF s.s 0),.int .u8 (rgF s.s 1),.int .u8 (rgF s.s 2),.int .u8 (rgF s.s 3),.int .u8 (rgF s.s 4),.int .u8 (rgF s.s 5),.int .u8 (rgF s.s 6),.int .u8 (rgF s.s 7),.int .u8 (rgF s.s 8),.int .u8 (meF s.s 0),.int .u8 (meF s.s 1),.int .u8 (meF s.s 2),.bool sp,.slice (some ⟨bp,op,none⟩) s.bufs.length c17]:=fun j v hj=>by
  rw [Nat.zero_add]
  have hj18:j<18:=by
   have:=(List.getElem?_eq_some_iff.1 hj).1
   simpa using this
  match j,hj18,hj with
  | 0,_,hj=>injection hj with hj; rw [← hj]; exact c0
  | 1,_,hj=>injection hj with hj; rw [← hj]; exact c1
  | 2,_,hj=>injection hj with hj; rw [← hj]; exact c2
  | 3,_,hj=>injection hj with hj; rw [← hj]; exact c3
  | 4,_,hj=>injection hj with hj; rw [← hj]; exact c4
  | 5,_,hj=>injection hj with hj; rw [← hj]; exact c5
  | 6,_,hj=>injection hj with hj; rw [← hj]; exact c6
  | 7,_,hj=>injection hj with hj; rw [← hj]; exact c7
  | 8,_,hj=>injection hj with hj; rw [← hj]; exact c8
  | 9,_,hj=>injection hj with hj; rw [← hj]; exact c9
  | 10,_,hj=>injection hj with hj; rw [← hj]; exact c10
  | 11,_,hj=>injection hj with hj; rw [← hj]; exact c11
  | 12,_,hj=>injection hj with hj; rw [← hj]; exact c12
  | 13,_,hj=>injection hj with hj; rw [← hj]; exact c13
  | 14,_,hj=>injection hj with hj; rw [← hj]; exact c14
  | 15,_,hj=>injection hj with hj; rw [← hj]; exact c15
  | 16,_,hj=>injection hj with hj; rw [← hj]; exact c16
  | 17,_,hj=>injection hj with hj; rw [← hj]; exact q17
 have Hrg:=Lib.hid hrg
 clear hrg
 -- the rows of the clone
 obtain⟨vs,hvs⟩:∃ vs:List VO,vs=(List.range s.bufs.length).map fun k=>sliceV (W.cell? ⟨bp,op+k,none⟩):=⟨_,rfl⟩
 have hvl:vs.length=s.bufs.length:=by rw [hvs]; simp
 have Hvs:Hid (∀ k,k<s.bufs.length→W.cell? ⟨bp,op+k,none⟩=some (vs.getD k ⟨.slice none 0 0,rfl⟩).1∧∃ A1 c1,(vs.getD k ⟨.slice none 0 0,rfl⟩).1=.slice A1 (bufB s k).length c1∧SlR 1 (fun _=>QB) a (.slice A1 (bufB s k).length c1) ((bufB s k).map encZ)∧(bufB s k).length≤c1):=fun k hk=>by
  obtain⟨A1,c1,h1,h2⟩:=Hrowsa.out k hk
  have h1:=hla _ _ h1
  have:vs.getD k ⟨.slice none 0 0,rfl⟩=⟨.slice A1 (bufB s k).length c1,rfl⟩:=by
   rw [hvs,List.getD_eq_getElem?_getD,List.getElem?_map,List.getElem?_range hk]
   simp only [Option.map_some,Option.getD_some,h1,sliceV]
  rw [this]
  exact⟨h1,A1,c1,rfl,h2⟩
 have hsl:SlR 1 (fun _=>QV) V (.slice (some ⟨bp,op,none⟩) vs.length c17) vs:=⟨_,_,rfl,by rw [hvl]; omega,fun k hk=>⟨bp,op,rfl,fun _=>vs[k].1,fun j hj=>by
  obtain rfl:j=0:=by omega
  have h:=(Hvs.out k (by omega)).1
  rw [List.getD_eq_getElem?_getD,List.getElem?_eq_getElem hk,Option.getD_some] at h
  rw [Nat.mul_one,Nat.add_zero]
  exact Le.below hB _ _ h,rfl⟩⟩
 have hcl:=clnV_any ⟨bp,op,none⟩ c17 vs (by omega) V hsl
 rw [hvl] at hcl
 have Hvl:=Lib.hid hvl
 clear hsl hvs
 have q17V:=Le.below hB _ _ q17
 have HVs:Hid (V.heap.size=W.heap.size+1):=by show _=_; rw [hV]; simp
 clear c0 c1 c2 c3 c4 c5 c6 c7 c8 c9 c10 c11 c12 c13 c14 c15 c16
 have hbV:b<V.heap.size:=Nat.lt_of_lt_of_le hbW hB.size
 go_enter Tryz.func200,Tryz.ntmps200
 go_upto_region 2 with (first | (refine wpList_load_mid (op:=⟨some 13,_,_,_,_,_⟩) (by rfl) _ _ (by rfl) b 0 (by rfl) [.slice Ap p.length cp,.int .u8 ((pcS s.s 0:Nat):Int),.int .u8 ((pcS s.s 1:Nat):Int),.int .u8 ((pcS s.s 2:Nat):Int),.int .u8 (rgF s.s 0),.int .u8 (rgF s.s 1),.int .u8 (rgF s.s 2),.int .u8 (rgF s.s 3),.int .u8 (rgF s.s 4),.int .u8 (rgF s.s 5),.int .u8 (rgF s.s 6),.int .u8 (rgF s.s 7),.int .u8 (rgF s.s 8),.int .u8 (meF s.s 0),.int .u8 (meF s.s 1),.int .u8 (meF s.s 2),.bool sp,.slice (some ⟨bp,op,none⟩) s.bufs.length c17] _ Hrg.out Tryz.underlying160 (by rfl) (by kernel_rfl) ?_) | (refine wpList_store_newB (op:=⟨none,Op.store 160 _ _,_,_,_,_⟩) (by rfl) _ _ _ (by rfl) #[.slice none 0 0,.int .u8 0,.int .u8 0,.int .u8 0,.int .u8 0,.int .u8 0,.int .u8 0,.int .u8 0,.int .u8 0,.int .u8 0,.int .u8 0,.int .u8 0,.int .u8 0,.int .u8 0,.int .u8 0,.int .u8 0,.bool false,.slice none 0 0] #[.slice Ap p.length cp,.int .u8 ((pcS s.s 0:Nat):Int),.int .u8 ((pcS s.s 1:Nat):Int),.int .u8 ((pcS s.s 2:Nat):Int),.int .u8 (rgF s.s 0),.int .u8 (rgF s.s 1),.int .u8 (rgF s.s 2),.int .u8 (rgF s.s 3),.int .u8 (rgF s.s 4),.int .u8 (rgF s.s 5),.int .u8 (rgF s.s 6),.int .u8 (rgF s.s 7),.int .u8 (rgF s.s 8),.int .u8 (meF s.s 0),.int .u8 (meF s.s 1),.int .u8 (meF s.s 2),.bool sp,.slice (some ⟨bp,op,none⟩) s.bufs.length c17] (by rfl) (by rfl) (by kernel_rfl) (by rfl) (by simp [Value.oneCell']) ?_))
 rw [← hV]
 clear hV
 go_wp2_with fail
 refine hcl.mono ?_
 rintro e5 w5 ⟨v5,rfl,hrow5,hb5⟩
 obtain⟨g,cap,rfl,hrc⟩:=rowC_of hrow5 (by omega)
 have hB5:=hB.trans (hb5.mono hB.size)
 have hVs:V.heap.size=W.heap.size+1:=HVs.out
 have oC5:=oC.under hb5
 have hs5:=hb5.size
 have hgR:g≠W.heap.size:=by have:=hrc.ge; omega
 obtain⟨V6,hV6⟩:∃ V6,V6=w5.setCell ⟨W.heap.size,17,none⟩ (.slice (some ⟨g,0,none⟩) s.bufs.length cap):=⟨_,rfl⟩
 have oC6:Own V6 W.heap.size 160 (bufC Ap cp p s.s sp (.slice (some ⟨g,0,none⟩) s.bufs.length cap)):=by
  rw [hV6]
  have h:=Own.set oC5 17 (.slice (some ⟨g,0,none⟩) s.bufs.length cap)
  exact h
 have rC6:RowC V6 W.heap.size g s.bufs.length (fun k=>(vs.getD k ⟨.slice none 0 0,rfl⟩).1):=by
  rw [hV6]
  rw [Hvl.out] at hrc
  have h:=hrc.far (p:=⟨W.heap.size,17,none⟩) (.slice (some ⟨g,0,none⟩) s.bufs.length cap) (fun e=>hgR e.symm)
  exact⟨by have:=h.ge; omega,h.lt,h.cell,h.fr⟩
 have hB6:Below W.heap.size W V6:=by rw [hV6]; exact hB5.setCell (Nat.le_refl _) _
 have k0:=Own.cell oC5 (i:=17) rfl
 have k1:=Own.frozen oC5 17
 have k2:=Own.lt oC5
 have HC6:=Lib.hid oC6
 have HR6:=Lib.hid rC6
 have q17W:=q17
 clear hcl hrow5 hrc oC oC5 oC6 rC6 q17V hb5 hB5
 go_upto_region 3 with (fail)
 rw [← hV6]
 clear hV6 k0 k1 k2
 have p0:=Le.below hB6 _ _ ho.vals.prg
 have q17V:=Le.below hB6 _ _ q17W
 by_cases hmp:m<p.length
 ·obtain⟨hmS,hbe⟩:=(can_thr hmp).1 hcan
  have hpc:=(mem_mvS.1 hmS).2
  have hon:onS p s.s m=true:=by unfold onS; rw [decide_eq_true_iff]; exact hpc
  have hix:=ins_ok hp hpc
  have hnx:=next_on hp hs.ok hmp (SeqL.le ho.vals (Le.below hB6)) (PrgS.le hpr (Le.below hB6)) hon
  have hp6:pcS s.s m≤6:=by have:=(thr_ok hp m).1; omega
  have ht3:m<3:=by omega
  have Hnx:Hid (nxB p sp s m=thrB sp s m (insS p s.s m)):=by show _=_; unfold nxB; rw [if_pos hmp]
  have hxl:(0≤(insS p s.s m).loc∧(insS p s.s m).loc≤2)∧(0≤(insS p s.s m).reg∧(insS p s.s m).reg≤2):=by
   rcases hix with h | h | h | h <;> omega
  generalize insS p s.s m=x at hnx hix Hnx hxl hbe
  obtain⟨l,hl⟩:∃ l:Nat,x.loc=(l:Int):=⟨x.loc.toNat,by omega⟩
  obtain⟨r,hr⟩:∃ r:Nat,x.reg=(r:Int):=⟨x.reg.toNat,by omega⟩
  have hl3:l<3:=by omega
  have hr3:r<3:=by omega
  have Hix:=Lib.hid hix
  have Hl:=Lib.hid hl
  have Hr:=Lib.hid hr
  have Hbe:=Lib.hid hbe
  have hmi:¬ (p.length:Int)≤(m:Int):=by omega
  clear hix hxl hl hr hbe hcan hm hmS hpc hon
  go_wp2_with fail
  refine hnx.mono ?_
  rintro e8 w8 ⟨rfl,hb8⟩
  have hB8:=hB6.trans (hb8.mono hB6.size)
  obtain⟨V9,hV9⟩:∃ V9,V9=w8.alloc (.cells #[.int .i64 x.op,.int .i64 x.loc,.int .i64 x.reg,.int .i64 x.val] 50):=⟨_,rfl⟩
  have hb9:Below V6.heap.size V6 V9:=by rw [hV9]; exact hb8.alloc hb8.size _
  have oI9:Own V9 w8.heap.size 50 #[.int .i64 x.op,.int .i64 x.loc,.int .i64 x.reg,.int .i64 x.val]:=by rw [hV9]; exact Own.new _ _ _
  have oC9:=Own.under HC6.out hb9
  have rC9:=HR6.out.below hb9
  have hB9:Below W.heap.size W V9:=hB6.trans (hb9.mono hB6.size)
  have hRw:W.heap.size≠w8.heap.size:=by have:=hb8.size; have:=Own.lt HC6.out; omega
  have hgw:g≠w8.heap.size:=by have:=hb8.size; have:=HR6.out.lt; omega
  obtain⟨V10,hV10⟩:∃ V10,V10=V9.setCell ⟨W.heap.size,1+m,none⟩ (.int .u8 (((pcS s.s m:Nat):Int)+1)):=⟨_,rfl⟩
  have oC10:Own V10 W.heap.size 160 (bufC Ap cp p ⟨s.s.pc.set m (pcS s.s m+1),s.s.regs,s.s.mem⟩ sp (.slice (some ⟨g,0,none⟩) s.bufs.length cap)):=by
   rw [hV10]
   have h:=Own.set oC9 (1+m) (.int .u8 ((pcS s.s m+1:Nat):Int))
   rw [bufC_pc ht3 (by rw [hs.ok.pcl]; exact hmp)] at h
   exact h
  have oI10:Own V10 w8.heap.size 50 #[.int .i64 x.op,.int .i64 x.loc,.int .i64 x.reg,.int .i64 x.val]:=by rw [hV10]; exact Own.far oI9 (fun e=>hRw e.symm) _
  have rC10:RowC V10 W.heap.size g s.bufs.length (fun k=>(vs.getD k ⟨.slice none 0 0,rfl⟩).1):=by rw [hV10]; exact rC9.far _ (fun e=>hgR e.symm)
  have hB10:Below W.heap.size W V10:=by rw [hV10]; exact hB9.setCell (Nat.le_refl _) _
  have k0:V9.cell? ⟨W.heap.size,1+m,none⟩=some (.int .u8 ((pcS s.s m:Nat):Int)):=Own.cell oC9 (bufC_get (seqC_pget ht3))
  have k1:=Own.frozen oC9 (1+m)
  have k2:=Own.lt oC9
  have hw256:(((pcS s.s m:Nat):Int)+1) % 256=((pcS s.s m:Nat):Int)+1:=by omega
  have hti:(m:Int)<3:=by omega
  rw [hV9] at k0 k1 k2
  have HK:=Lib.hid (And.intro oC10 (And.intro oI10 (And.intro rC10 hB10)))
  clear hb8 hb9 oI9 oC9 rC9 oC10 oI10 rC10 hB10 hnx
  go_upto_region 11 with (fail)
  rw [← hV9,← hV10]
  clear hV9 hV10 k0 k1 k2 hw256
  have i0:=HK.out.2.1.cell (i:=0) rfl
  have i1:=HK.out.2.1.cell (i:=1) rfl
  have i2:=HK.out.2.1.cell (i:=2) rfl
  have i3:=HK.out.2.1.cell (i:=3) rfl
  have hrd:=reads_any x V10
  go_wp2_with fail
  refine hrd.mono ?_
  rintro e11 w11 ⟨rfl,hb11⟩
  have oC11:=Own.under HK.out.1 hb11
  have oI11:=HK.out.2.1.under hb11
  have rC11:=HK.out.2.2.1.below hb11
  have hB11:=HK.out.2.2.2.trans (hb11.mono HK.out.2.2.2.size)
  have H11:=Lib.hid (And.intro oC11 (And.intro oI11 rC11))
  clear i0 i1 i2 i3 hrd hb11 HK oC11 rC11
  have i0:=oI11.cell (i:=0) rfl
  clear oI11
  by_cases h4:x.op=4
  ·have hre:rdB x=false:=by unfold rdB; simp [h4]
   rw [hre]
   have o2:((x.op:Int) == 2)=false:=by simp [h4]
   have o3:((x.op:Int) == 3)=false:=by simp [h4]
   have o5:((x.op:Int) == 5)=false:=by simp [h4]
   have Hfl:Hid (thrB sp s m x=⟨⟨s.s.pc.set m (pcS s.s m+1),s.s.regs,s.s.mem⟩,s.bufs⟩):=by
    show _=_
    rw [thr_bl (by unfold blkI; simp [h4])]
    unfold doS rdB wrB
    simp [h4]
   clear h4 hre
   go_wp2_with fail
   go_ret
   rw [Hnx.out,Hfl.out]
   exact⟨W.heap.size,rfl,bufL_new (s':=⟨⟨s.s.pc.set m (pcS s.s m+1),s.s.regs,s.s.mem⟩,s.bufs⟩) (n:=s.bufs.length) (cap:=cap) H11.out.1 (Nat.le_refl _) rfl (by omega) H11.out.2.2 (fun j hj a' h1 h2=>by
    obtain⟨_,A2,c2,h3,h4,h5⟩:=Hvs.out j hj
    exact⟨A2,c2,h3,SlR.le (R:=fun _=>QB) (fun _ _ _ h=>h) h4 h1,h5⟩),hB11⟩
  ·by_cases hre:rdB x=true
   ·rw [hre]
    have i1:w11.cell? ⟨w8.heap.size,1,none⟩=some (.int .i64 (l:Int)):=by rw [← Hl.out]; exact H11.out.2.1.cell (i:=1) rfl
    have i2:w11.cell? ⟨w8.heap.size,2,none⟩=some (.int .i64 (r:Int)):=by rw [← Hr.out]; exact H11.out.2.1.cell (i:=2) rfl
    have hri:(r:Int)<3:=by omega
    have Hrd:Hid (∀ U,Below W.heap.size W U→Calls Tryz.prog 205 #[.pointer (some ⟨b,0,none⟩),.int .i64 m,.int .i64 l] U (fun e W'=>e=.returned (.int .u8 (seenB (bufB s (plB sp m l)) (l:Int) (meF s.s l)))∧Below U.heap.size U W')):=fun U hU=>read_any p hp sp s hs m l hmp hl3 U b Ap cp (ho.under hU)
    generalize hsv:seenB (bufB s (plB sp m l)) (l:Int) (meF s.s l)=sv at Hrd
    have Hsv:=Lib.hid hsv
    have Hre:=Lib.hid hre
    have Hin:=Lib.hid h4
    clear hsv hre h4
    go_upto_region 12 with (fail)
    go_region_held3 (fun X=>X.cell? ⟨w8.heap.size,1,none⟩=some (.int .i64 (l:Int))∧X.cell? ⟨w8.heap.size,2,none⟩=some (.int .i64 (r:Int)))
     (first
      | exact⟨i1,i2⟩
      | exact⟨Le.below hb12 _ _ i1,Le.below hb12 _ _ i2⟩
      | exact⟨(World.cell?_setCell_other _ _ _ _ (fun e=>hRw (by injection e))).trans (Le.below hb12 _ _ i1),(World.cell?_setCell_other _ _ _ _ (fun e=>hRw (by injection e))).trans (Le.below hb12 _ _ i2)⟩)
     (first
      | (go_at_call 205; ((with_reducible refine (Hrd.out _ hB11.drew).mono ?_); rintro e12 w12 ⟨rfl,hb12⟩; have oC12:=Own.under H11.out.1 (below_of_drewS hb12); have g0:w12.cell? ⟨W.heap.size,4+m*3+r,none⟩=some (.int .u8 (rgF s.s (m*3+r))):=(by have h:=Own.cell oC12 (bufC_get (seqC_rget (i:=m*3+r) (by omega))); rw [show 4+(m*3+r)=4+m*3+r by omega] at h; exact h); have g1:=Own.frozen oC12 (4+m*3+r); have g2:=Own.lt oC12; have HO12:=Lib.hid oC12; clear oC12)))
    have hb12':=below_of_drewS hb12
    have oI12:=H11.out.2.1.under hb12'
    have rC12:=H11.out.2.2.below hb12'
    have hB12:=hB11.trans (hb12'.mono hB11.size)
    obtain⟨V13,hV13⟩:∃ V13,V13=w12.setCell ⟨W.heap.size,4+m*3+r,none⟩ (.int .u8 sv):=⟨_,rfl⟩
    rw [← hV13]
    have oC13:Own V13 W.heap.size 160 (bufC Ap cp p ⟨s.s.pc.set m (pcS s.s m+1),s.s.regs.set (m*3+r) sv,s.s.mem⟩ sp (.slice (some ⟨g,0,none⟩) s.bufs.length cap)):=by
     rw [hV13]
     have h:=Own.set HO12.out (4+(m*3+r)) (.int .u8 sv)
     rw [bufC_reg (by omega) (by show m*3+r<s.s.regs.length; rw [hs.ok.regl]; omega)] at h
     rw [show 4+(m*3+r)=4+m*3+r by omega] at h
     exact h
    have oI13:Own V13 w8.heap.size 50 #[.int .i64 x.op,.int .i64 x.loc,.int .i64 x.reg,.int .i64 x.val]:=by rw [hV13]; exact Own.far oI12 (fun e=>hRw e.symm) _
    have rC13:RowC V13 W.heap.size g s.bufs.length (fun k=>(vs.getD k ⟨.slice none 0 0,rfl⟩).1):=by rw [hV13]; exact rC12.far _ (fun e=>hgR e.symm)
    have hB13:Below W.heap.size W V13:=by rw [hV13]; exact hB12.setCell (Nat.le_refl _) _
    have H13:=Lib.hid (And.intro oC13 (And.intro oI13 rC13))
    clear hV13 oC13 rC13 oI12 rC12 HO12 g0 g1 g2 hb12 hb12' i0 i1 i2 H11
    have i0:=oI13.cell (i:=0) rfl
    clear oI13
    by_cases h1:x.op=1
    ·have o2:((x.op:Int) == 2)=false:=by simp [h1]
     have o3:((x.op:Int) == 3)=false:=by simp [h1]
     have o5:((x.op:Int) == 5)=false:=by simp [h1]
     have Hfl:Hid (thrB sp s m x=⟨⟨s.s.pc.set m (pcS s.s m+1),s.s.regs.set (m*3+r) sv,s.s.mem⟩,s.bufs⟩):=by
      show _=_
      rw [thr_ld h1,← Hsv.out]
      have e1:x.loc.toNat=l:=by have:=Hl.out; omega
      have e2:rgI m x=m*3+r:=by unfold rgI; have:=Hr.out; omega
      rw [e1,e2,Hl.out]
      rfl
     clear h1
     go_wp2_with fail
     go_ret
     rw [Hnx.out,Hfl.out]
     exact⟨W.heap.size,rfl,bufL_new (s':=⟨⟨s.s.pc.set m (pcS s.s m+1),s.s.regs.set (m*3+r) sv,s.s.mem⟩,s.bufs⟩) (n:=s.bufs.length) (cap:=cap) H13.out.1 (Nat.le_refl _) rfl (by omega) H13.out.2.2 (fun j hj a' h1 h2=>by
      obtain⟨_,A2,c2,h3,h4,h5⟩:=Hvs.out j hj
      exact⟨A2,c2,h3,SlR.le (R:=fun _=>QB) (fun _ _ _ h=>h) h4 h1,h5⟩),hB13⟩
    ·have h5:x.op=5:=by
      have:=Hre.out
      unfold rdB at this
      rw [Bool.or_eq_true,decide_eq_true_iff,decide_eq_true_iff] at this
      omega
     have hv:0≤x.val∧x.val≤3:=by
      rcases Hix.out with h | h | h | h <;> omega
     have o2:((x.op:Int) == 2)=false:=by simp [h5]
     have o3:((x.op:Int) == 3)=false:=by simp [h5]
     have o5:((x.op:Int) == 5)=true:=by simp [h5]
     have hv256:x.val % 256=x.val:=by omega
     have i1:V13.cell? ⟨w8.heap.size,1,none⟩=some (.int .i64 (l:Int)):=by rw [← Hl.out]; exact H13.out.2.1.cell (i:=1) rfl
     have i3:=H13.out.2.1.cell (i:=3) rfl
     have m0:=Own.cell H13.out.1 (bufC_get (seqC_mget (Ap:=Ap) (cp:=cp) (p:=p) (s:=⟨s.s.pc.set m (pcS s.s m+1),s.s.regs.set (m*3+r) sv,s.s.mem⟩) hl3))
     have m1:=Own.frozen H13.out.1 (13+l)
     have m2:=Own.lt H13.out.1
     have hli:(l:Int)<3:=by omega
     have Hfl:Hid (thrB sp s m x=⟨⟨s.s.pc.set m (pcS s.s m+1),s.s.regs.set (m*3+r) sv,s.s.mem.set l x.val⟩,s.bufs⟩):=by
      show _=_
      have hb:blkI x=true:=by unfold blkI; simp [h5]
      have he:empB sp s m=true:=by
       rcases Hbe.out with h | h
       ·rw [hb] at h; cases h
       ·exact h
      unfold empB at he
      rw [List.all_eq_true] at he
      have he:=List.isEmpty_iff.1 (he l (List.mem_range.2 hl3))
      have hsv:meF s.s l=sv:=by
       have h:=Hsv.out
       rw [he] at h
       exact h
      have e1:x.loc.toNat=l:=by have:=Hl.out; omega
      have e2:rgI m x=m*3+r:=by unfold rgI; have:=Hr.out; omega
      rw [thr_bl hb]
      unfold doS rdB wrB valS
      rw [e1,e2,← hsv]
      simp [h5]
      rfl
     clear h5 h1 hv
     go_wp2_with fail
     go_ret
     rw [Hnx.out,Hfl.out]
     have o8:=Own.set H13.out.1 (13+l) (.int .u8 x.val)
     rw [bufC_mset hl3 (by show l<s.s.mem.length; rw [hs.ok.meml]; exact hl3)] at o8
     have r8:=H13.out.2.2.far (p:=⟨W.heap.size,13+l,none⟩) (.int .u8 x.val) (fun e=>hgR e.symm)
     exact⟨W.heap.size,rfl,bufL_new (s':=⟨⟨s.s.pc.set m (pcS s.s m+1),s.s.regs.set (m*3+r) sv,s.s.mem.set l x.val⟩,s.bufs⟩) (n:=s.bufs.length) (cap:=cap) o8 (Nat.le_refl _) rfl (by omega) r8 (fun j hj a' h1 h2=>by
      obtain⟨_,A2,c2,h3,h4,h5⟩:=Hvs.out j hj
      exact⟨A2,c2,h3,SlR.le (R:=fun _=>QB) (fun _ _ _ h=>h) h4 h1,h5⟩),hB13.setCell (Nat.le_refl _) _⟩
   ·have hre':rdB x=false:=by cases h:rdB x <;> simp_all
    rw [hre']
    have h23:x.op=2∨x.op=3:=by
     have:x.op≠1∧x.op≠5:=by
      unfold rdB at hre'
      rw [Bool.or_eq_false_iff,decide_eq_false_iff_not,decide_eq_false_iff_not] at hre'
      exact hre'
     rcases Hix.out with h | h | h | h <;> omega
    have i1:w11.cell? ⟨w8.heap.size,1,none⟩=some (.int .i64 (l:Int)):=by rw [← Hl.out]; exact H11.out.2.1.cell (i:=1) rfl
    have hbuf:=buffer_any sp w11 b (ho.under hB11).spl m l ht3 hl3
    have hk:plB sp m l<s.bufs.length:=by rw [hs.len]; exact pl_lt hmp hl3
    have H23:=Lib.hid h23
    clear hre hre' h4
    generalize hkk:plB sp m l=k at hbuf hk
    have Hk:=Lib.hid hkk
    clear hkk
    have hop:((x.op:Int) == 2)=true∨(((x.op:Int) == 2)=false∧((x.op:Int) == 3)=true):=by
     rcases h23 with h | h
     ·left; simp [h]
     ·right; simp [h]
    clear h23
    rcases hop with o2 | ⟨o2,o3⟩
    all_goals
     go_wp2_with fail
     refine hbuf.mono ?_
     rintro e12 w12 ⟨rfl,hb12⟩
     have hB12:=hB11.trans (hb12.mono hB11.size)
     have oC12:=Own.under H11.out.1 hb12
     have oI12:=H11.out.2.1.under hb12
     have rC12:=H11.out.2.2.below hb12
     obtain⟨A1,c1,hra,hby,hcap⟩:=Hrowsa.out k hk
     obtain⟨bs,hbs⟩:∃ bs,bs=(bufB s k).map encZ:=⟨_,rfl⟩
     have hbl:bs.length=(bufB s k).length:=by rw [hbs,List.length_map]
     rw [← hbs,← hbl] at hby
     rw [← hbl] at hra hcap
     have hbl7:bs.length≤7:=by rw [hbl]; exact hs.short7 hp k
     have n17:w12.cell? ⟨W.heap.size,17,none⟩=some (.slice (some ⟨g,0,none⟩) s.bufs.length cap):=Own.cell oC12 (i:=17) rfl
     have n18:=Le.below hB12 _ _ q17
     have n19:=Le.below hB12 _ _ (hla _ _ hra)
     have j0:=oI12.cell (i:=0) rfl
     have j1:=oI12.cell (i:=1) rfl
     have j2:=oI12.cell (i:=2) rfl
     have j3:=oI12.cell (i:=3) rfl
     have i1:w12.cell? ⟨w8.heap.size,1,none⟩=some (.int .i64 (l:Int)):=by rw [← Hl.out]; exact oI12.cell (i:=1) rfl
     obtain⟨vl,hvl⟩:∃ vl,vl=valS s.s m x:=⟨_,rfl⟩
     have hv03:0≤vl∧vl≤3:=by rw [hvl]; exact val_03 hs.ok Hix.out
     have Hcl:Hid (∀ w,Below w12.heap.size w12 w→Calls Tryz.prog 207 #[.slice A1 bs.length c1] w (fun e W'=>∃ v,e=.returned v∧RowB W' w.heap.size v bs∧Below w.heap.size w W')):=fun w hw=>clnB_any A1 c1 bs (by omega) w (SlR.le (R:=fun _=>QB) (fun _ _ _ h=>h) hby (hla.trans ((Le.below hB12).trans (Le.below hw))))
     have Hst:Hid (∀ w,Below w12.heap.size w12 w→Calls Tryz.prog 186 #[.pointer (some ⟨b,0,none⟩),.int .i64 m,.agg #[.int .i64 x.op,.int .i64 x.loc,.int .i64 x.reg,.int .i64 x.val]] w (fun e W'=>e=.returned (.int .u8 vl)∧Below w.heap.size w W')):=fun w hw=>by
      rw [hvl]
      exact stored_any p hp s.s hs.ok m hmp x Hix.out w b Ap cp (ho.vals.le ((Le.below hB12).trans (Le.below hw)))
     obtain⟨z,hz⟩:∃ z,z=(l:Int)*16+vl:=⟨_,rfl⟩
     have Hz:=Lib.hid hz
     have Hvl:=Lib.hid hvl
     have Hbs:=Lib.hid hbs
     have Hbl:=Lib.hid hbl
     have H12:=Lib.hid (And.intro oC12 rC12)
     have hm119:(l:Int) % 256=(l:Int):=by omega
     have hm120:(l:Int)*16 % 256=(l:Int)*16:=by omega
     have hm127:((l:Int)*16+vl) % 256=z:=by omega
     have hki:(k:Int)<(s.bufs.length:Int):=by omega
     clear hvl hz hbs hbl hra hby oC12 rC12 oI12
     obtain⟨i0,hi0,hz0,hz1,hz2⟩:=info_parts Tryz.infoByte
     go_upto_region 17 with (fail)
     obtain⟨f17,hf17⟩:∃ f17:Nat→Value,f17=(fun d=>match d with | 106=>.pointer (some ⟨W.heap.size,17,none⟩) | 107=>.slice (some ⟨g,0,none⟩) s.bufs.length cap | 108=>.int .i64 (k:Int) | 109=>.pointer (some ⟨b,0,none⟩) | 110=>.pointer (some ⟨b,0,none⟩) | 111=>.pointer (some ⟨b,17,none⟩) | 112=>.slice (some ⟨bp,op,none⟩) s.bufs.length c17 | 113=>.int .i64 (k:Int) | 114=>.pointer (some ⟨bp,op+k,none⟩) | 115=>.slice A1 bs.length c1 | 117=>.pointer (some ⟨w8.heap.size,1,none⟩) | 118=>.int .i64 (l:Int) | 119=>.int .u8 (l:Int) | 120=>.int .u8 ((l:Int)*16) | 121=>.pointer (some ⟨b,0,none⟩) | 122=>.pointer (some ⟨b,0,none⟩) | 123=>.pointer (some ⟨b,0,none⟩) | 124=>.int .i64 (m:Int) | 125=>.agg #[.int .i64 x.op,.int .i64 x.loc,.int .i64 x.reg,.int .i64 x.val] | 126=>.int .u8 vl | 127=>.int .u8 z | 130=>.pointer (some ⟨g,k,none⟩) | _=>undef):=⟨_,rfl⟩
     have hf106:f17 106=.pointer (some ⟨W.heap.size,17,none⟩):=congrFun hf17 106
     have hf107:f17 107=.slice (some ⟨g,0,none⟩) s.bufs.length cap:=congrFun hf17 107
     have hf108:f17 108=.int .i64 (k:Int):=congrFun hf17 108
     have hf109:f17 109=.pointer (some ⟨b,0,none⟩):=congrFun hf17 109
     have hf110:f17 110=.pointer (some ⟨b,0,none⟩):=congrFun hf17 110
     have hf111:f17 111=.pointer (some ⟨b,17,none⟩):=congrFun hf17 111
     have hf112:f17 112=.slice (some ⟨bp,op,none⟩) s.bufs.length c17:=congrFun hf17 112
     have hf113:f17 113=.int .i64 (k:Int):=congrFun hf17 113
     have hf114:f17 114=.pointer (some ⟨bp,op+k,none⟩):=congrFun hf17 114
     have hf115:f17 115=.slice A1 bs.length c1:=congrFun hf17 115
     have hf117:f17 117=.pointer (some ⟨w8.heap.size,1,none⟩):=congrFun hf17 117
     have hf118:f17 118=.int .i64 (l:Int):=congrFun hf17 118
     have hf119:f17 119=.int .u8 (l:Int):=congrFun hf17 119
     have hf120:f17 120=.int .u8 ((l:Int)*16):=congrFun hf17 120
     have hf121:f17 121=.pointer (some ⟨b,0,none⟩):=congrFun hf17 121
     have hf122:f17 122=.pointer (some ⟨b,0,none⟩):=congrFun hf17 122
     have hf123:f17 123=.pointer (some ⟨b,0,none⟩):=congrFun hf17 123
     have hf124:f17 124=.int .i64 (m:Int):=congrFun hf17 124
     have hf125:f17 125=.agg #[.int .i64 x.op,.int .i64 x.loc,.int .i64 x.reg,.int .i64 x.val]:=congrFun hf17 125
     have hf126:f17 126=.int .u8 vl:=congrFun hf17 126
     have hf127:f17 127=.int .u8 z:=congrFun hf17 127
     have hf130:f17 130=.pointer (some ⟨g,k,none⟩):=congrFun hf17 130
     clear hf17
     refine wp_region_relR (R:=RTl w12.heap.size (T17 f17 w12.heap.size bs z)) (RTl.refl _ _) (fun a b c=>RTl.trans a b c) [0,1,2,3,4,5,6,7,8,9,10,11,12,13,14,15,16,17,18,19,20,21,22,23,24] [25] (T17 f17 w12.heap.size bs z) (fun _=>0) [106,107,108,109,110,111,112,113,114,115,116,117,118,119,120,121,122,123,124,125,126,127,128,129,130] (by kernel_rfl) (by kernel_rfl) rfl (by simp) (fun d w w' v h k=>h.2.2 d v k) (fun _ _ _ _ _ h=>absurd rfl h) ?_ ?_
     ·refine⟨?_,?_,?_,?_,?_,?_,?_,?_,?_,?_,?_,?_,?_,?_,?_,?_,?_,?_,?_,?_,?_,?_,?_,?_,?_,trivial⟩
      all_goals (intro xs w hw hdep hsep; have hbw:=hw.1; have hwz:w12.heap.size≤w.heap.size:=hw.2.1; have hbw:Below w12.heap.size w12 w:=(Below.refl w12.heap.size w12).drew.trans hbw; simp only [shpA,fillL,List.contains_cons,List.contains_nil,Nat.reduceAdd,Nat.reduceBEq,Bool.or_false,Bool.or_true,Bool.false_eq_true,↓reduceIte])
      ·go_wp2_with fail
       exact RelPostR.mk (RTl.refl _ _ _) _ rfl hf106.symm rfl
      ·have e106:xs 106=.pointer (some ⟨W.heap.size,17,none⟩):=(show xs 106=f17 106 from hdep 106 (List.mem_of_elem_eq_true (by kernel_rfl))).trans hf106
       have q0:=Le.below hbw _ _ n17
       rw [e106]
       go_wp2_with fail
       exact RelPostR.mk (RTl.refl _ _ _) _ rfl hf107.symm rfl
      ·go_wp2_with fail
       exact RelPostR.mk (RTl.refl _ _ _) _ rfl hf108.symm rfl
      ·go_wp2_with fail
       exact RelPostR.mk (RTl.refl _ _ _) _ rfl hf109.symm rfl
      ·have e109:xs 109=.pointer (some ⟨b,0,none⟩):=(show xs 109=f17 109 from hdep 109 (List.mem_of_elem_eq_true (by kernel_rfl))).trans hf109
       rw [e109]
       go_wp2_with fail
       exact RelPostR.mk (RTl.refl _ _ _) _ rfl hf110.symm rfl
      ·have e110:xs 110=.pointer (some ⟨b,0,none⟩):=(show xs 110=f17 110 from hdep 110 (List.mem_of_elem_eq_true (by kernel_rfl))).trans hf110
       rw [e110]
       go_wp2_with fail
       exact RelPostR.mk (RTl.refl _ _ _) _ rfl hf111.symm rfl
      ·have e111:xs 111=.pointer (some ⟨b,17,none⟩):=(show xs 111=f17 111 from hdep 111 (List.mem_of_elem_eq_true (by kernel_rfl))).trans hf111
       have q0:=Le.below hbw _ _ n18
       rw [e111]
       go_wp2_with fail
       exact RelPostR.mk (RTl.refl _ _ _) _ rfl hf112.symm rfl
      ·go_wp2_with fail
       exact RelPostR.mk (RTl.refl _ _ _) _ rfl hf113.symm rfl
      ·have e112:xs 112=.slice (some ⟨bp,op,none⟩) s.bufs.length c17:=(show xs 112=f17 112 from hdep 112 (List.mem_of_elem_eq_true (by kernel_rfl))).trans hf112
       have e113:xs 113=.int .i64 (k:Int):=(show xs 113=f17 113 from hdep 113 (List.mem_of_elem_eq_true (by kernel_rfl))).trans hf113
       rw [e112,e113]
       go_wp2_with fail
       exact RelPostR.mk (RTl.refl _ _ _) _ rfl hf114.symm rfl
      ·have e114:xs 114=.pointer (some ⟨bp,op+k,none⟩):=(show xs 114=f17 114 from hdep 114 (List.mem_of_elem_eq_true (by kernel_rfl))).trans hf114
       have q0:=Le.below hbw _ _ n19
       rw [e114]
       go_wp2_with fail
       exact RelPostR.mk (RTl.refl _ _ _) _ rfl hf115.symm rfl
      ·have e115:xs 115=.slice A1 bs.length c1:=(show xs 115=f17 115 from hdep 115 (List.mem_of_elem_eq_true (by kernel_rfl))).trans hf115
       rw [e115]
       have hcl:=Hcl.out w hbw
       go_wp2_with fail
       refine hcl.mono ?_
       rintro ec wc ⟨vc,rfl,hrowc,hbc⟩
       go_wp2_with fail
       exact RelPostR.mk (RTl.nx t17_nx hwz hbc) vc rfl (hrowc.rebase fun g hg=>Nat.le_trans hwz (hrowc.blk hg).1) rfl
      ·go_wp2_with fail
       exact RelPostR.mk (RTl.refl _ _ _) _ rfl hf117.symm rfl
      ·have e117:xs 117=.pointer (some ⟨w8.heap.size,1,none⟩):=(show xs 117=f17 117 from hdep 117 (List.mem_of_elem_eq_true (by kernel_rfl))).trans hf117
       have q0:=Le.below hbw _ _ i1
       rw [e117]
       go_wp2_with fail
       exact RelPostR.mk (RTl.refl _ _ _) _ rfl hf118.symm rfl
      ·have e118:xs 118=.int .i64 (l:Int):=(show xs 118=f17 118 from hdep 118 (List.mem_of_elem_eq_true (by kernel_rfl))).trans hf118
       rw [e118]
       go_wp2_with fail
       exact RelPostR.mk (RTl.refl _ _ _) _ rfl hf119.symm rfl
      ·have e119:xs 119=.int .u8 (l:Int):=(show xs 119=f17 119 from hdep 119 (List.mem_of_elem_eq_true (by kernel_rfl))).trans hf119
       rw [e119]
       go_wp2_with fail
       exact RelPostR.mk (RTl.refl _ _ _) _ rfl hf120.symm rfl
      ·go_wp2_with fail
       exact RelPostR.mk (RTl.refl _ _ _) _ rfl hf121.symm rfl
      ·have e121:xs 121=.pointer (some ⟨b,0,none⟩):=(show xs 121=f17 121 from hdep 121 (List.mem_of_elem_eq_true (by kernel_rfl))).trans hf121
       rw [e121]
       go_wp2_with fail
       exact RelPostR.mk (RTl.refl _ _ _) _ rfl hf122.symm rfl
      ·have e122:xs 122=.pointer (some ⟨b,0,none⟩):=(show xs 122=f17 122 from hdep 122 (List.mem_of_elem_eq_true (by kernel_rfl))).trans hf122
       rw [e122]
       go_wp2_with fail
       exact RelPostR.mk (RTl.refl _ _ _) _ rfl hf123.symm rfl
      ·go_wp2_with fail
       exact RelPostR.mk (RTl.refl _ _ _) _ rfl hf124.symm rfl
      ·have q0:=Le.below hbw _ _ j0
       have q1:=Le.below hbw _ _ j1
       have q2:=Le.below hbw _ _ j2
       have q3:=Le.below hbw _ _ j3
       go_wp2_with fail
       exact RelPostR.mk (RTl.refl _ _ _) _ rfl hf125.symm rfl
      ·have e123:xs 123=.pointer (some ⟨b,0,none⟩):=(show xs 123=f17 123 from hdep 123 (List.mem_of_elem_eq_true (by kernel_rfl))).trans hf123
       have e124:xs 124=.int .i64 (m:Int):=(show xs 124=f17 124 from hdep 124 (List.mem_of_elem_eq_true (by kernel_rfl))).trans hf124
       have e125:xs 125=.agg #[.int .i64 x.op,.int .i64 x.loc,.int .i64 x.reg,.int .i64 x.val]:=(show xs 125=f17 125 from hdep 125 (List.mem_of_elem_eq_true (by kernel_rfl))).trans hf125
       rw [e123,e124,e125]
       have hst:=Hst.out w hbw
       go_wp2_with fail
       refine hst.mono ?_
       rintro ec wc ⟨rfl,hbc⟩
       go_wp2_with fail
       exact RelPostR.mk (RTl.nx t17_nx hwz hbc) _ rfl hf126.symm rfl
      ·have e120:xs 120=.int .u8 ((l:Int)*16):=(show xs 120=f17 120 from hdep 120 (List.mem_of_elem_eq_true (by kernel_rfl))).trans hf120
       have e126:xs 126=.int .u8 vl:=(show xs 126=f17 126 from hdep 126 (List.mem_of_elem_eq_true (by kernel_rfl))).trans hf126
       rw [e120,e126]
       go_wp2_with fail
       exact RelPostR.mk (RTl.refl _ _ _) _ rfl ((congrArg (Value.int .u8) Hz.out.symm).trans hf127.symm) rfl
      ·have e127:xs 127=.int .u8 z:=(show xs 127=f17 127 from hdep 127 (List.mem_of_elem_eq_true (by kernel_rfl))).trans hf127
       rw [e127]
       go_wp2_with fail
       exact RelPostR.mk (RTl.nx t17_nx hwz ((Below.refl _ _).alloc (Nat.le_refl _) _)) _ rfl ⟨w.heap.size,rfl,hwz,(Own.new w 5 #[.int .u8 z]).cell rfl⟩ rfl
      ·obtain⟨cs,hown,hqq⟩:RowB w w12.heap.size (xs 116) bs:=hdep 116 (List.mem_of_elem_eq_true (by kernel_rfl))
       obtain⟨bb,e128,hbb,hbc⟩:∃ bb,xs 128=.slice (some ⟨bb,0,none⟩) 1 1∧w12.heap.size≤bb∧w.cell? ⟨bb,0,none⟩=some (.int .u8 z):=hdep 128 (List.mem_of_elem_eq_true (by kernel_rfl))
       rw [e128]
       go_wp2_with (at_builtin; refine wpList_append_keep (by rfl) _ _ _ (by rfl) w12.heap.size 5 i0 _ 1 Tryz.underlying22 hi0 hz0 hz1 hz2 rfl (xs 116) bs.length cs (by rfl) hown ⟨bb,0,none⟩ 1 1 [.int .u8 z] (by rfl) rfl (one_news hbc) (by simp [Value.oneCell']) (by omega) (by simp [maxLen]; omega) (by omega) hwz ?_; intro v' w' hown' hgrow hat hkeep)
       have hown'':w'.ownsRow w12.heap.size 5 1 v' (bs.length+1) (cs++[.int .u8 z]):=hown'
       have hcsl:cs=bs.map (Value.int .u8):=qb_cs hown.1 hqq
       have hbel:Below w12.heap.size w w':=below_of_grown (Below.refl _ _) hgrow hwz (fun g hg=>(World.ownsRow.lt hown g hg).1)
       exact RelPostR.mk ⟨hbel,hgrow.size,t17_keep rfl hcsl hgrow hkeep⟩ v' rfl (RowOf.snoc (news:=[.int .u8 z]) (x:=z) qb_congr hown hqq rfl rfl hown'') rfl
      ·have e107:xs 107=.slice (some ⟨g,0,none⟩) s.bufs.length cap:=(show xs 107=f17 107 from hdep 107 (List.mem_of_elem_eq_true (by kernel_rfl))).trans hf107
       have e108:xs 108=.int .i64 (k:Int):=(show xs 108=f17 108 from hdep 108 (List.mem_of_elem_eq_true (by kernel_rfl))).trans hf108
       rw [e107,e108]
       go_wp2_with fail
       exact RelPostR.mk (RTl.refl _ _ _) _ rfl hf130.symm rfl
     intro xs w17 hw hT hsep
     have hbw:Below w12.heap.size w12 w17:=(Below.refl w12.heap.size w12).drew.trans hw.1
     have e130:xs 130=.pointer (some ⟨g,k,none⟩):=(show xs 130=f17 130 from hT 130 (List.mem_of_elem_eq_true (by kernel_rfl))).trans hf130
     have hrow:RowB w17 w12.heap.size (xs 129) (bs++[z]):=hT 129 (List.mem_of_elem_eq_true (by kernel_rfl))
     obtain⟨A9,c9,e129,hle9,_⟩:=RowOf.slice hrow
     have hN:(bs++[z]).length=bs.length+1:=by simp
     rw [hN] at e129 hle9
     clear hN
     show wpList _ _ _ [_] _ _
     simp only [shpA,fillL,List.contains_cons,List.contains_nil,Nat.reduceAdd,Nat.reduceBEq,Bool.or_false,Bool.or_true,Bool.false_eq_true,↓reduceIte]
     rw [e129] at hrow
     rw [e130,e129]
     generalize xs 106=u106x
     generalize xs 107=u107x
     generalize xs 108=u108x
     generalize xs 109=u109x
     generalize xs 110=u110x
     generalize xs 111=u111x
     generalize xs 112=u112x
     generalize xs 113=u113x
     generalize xs 114=u114x
     generalize xs 115=u115x
     generalize xs 116=u116x
     generalize xs 117=u117x
     generalize xs 118=u118x
     generalize xs 119=u119x
     generalize xs 120=u120x
     generalize xs 121=u121x
     generalize xs 122=u122x
     generalize xs 123=u123x
     generalize xs 124=u124x
     generalize xs 125=u125x
     generalize xs 126=u126x
     generalize xs 127=u127x
     generalize xs 128=u128x
     have hsz17:=hw.2.1
     have g0:=(H12.out.2.below hbw).cell k hk
     have g1:=(H12.out.2.below hbw).fr k
     have g2:=(H12.out.2.below hbw).lt
     have H17:=Lib.hid (And.intro (Own.under H12.out.1 hbw) (H12.out.2.below hbw))
     have hB17:=hB12.trans (hbw.mono hB12.size)
     have Hrow:=Lib.hid hrow
     have Hle9:=Lib.hid hle9
     clear hT hsep hw e130 e129 hrow
     clear hf106 hf107 hf108 hf109 hf110 hf111 hf112 hf113 hf114 hf115 hf117 hf118 hf119 hf120 hf121 hf122 hf123 hf124 hf125 hf126 hf127 hf130
     clear n17 n18 n19 j0 j1 j2 j3 hm119 hm120 hm127 Hcl Hst hle9
     go_wp2_with fail
     go_ret
     have hthr:thrB sp s m x=⟨⟨s.s.pc.set m (pcS s.s m+1),s.s.regs,s.s.mem⟩,s.bufs.set k (bufB s k++[(x.loc,valS s.s m x)])⟩:=by
      rw [thr_st H23.out,show x.loc.toNat=l by have:=Hl.out; omega,Hk.out]
     rw [Hnx.out,hthr]
     have o8:=Own.far H17.out.1 (a:=⟨g,k,none⟩) (fun e=>hgR e.symm) (.slice A9 (bs.length+1) c9)
     have r8:=H17.out.2.set hk (.slice A9 (bs.length+1) c9)
     refine⟨W.heap.size,rfl,bufL_new (s':=⟨⟨s.s.pc.set m (pcS s.s m+1),s.s.regs,s.s.mem⟩,s.bufs.set k (bufB s k++[(x.loc,valS s.s m x)])⟩) (n:=s.bufs.length) (cap:=cap) o8 (Nat.le_refl _) (by simp) (by omega) r8 (fun j hj a' h1 h2=>?_),hB17.setCell H17.out.2.ge _⟩
     rw [buf_set hk]
     by_cases e:j=k
     ·subst e
      simp only [if_pos]
      have hlen:(bufB s j++[(x.loc,valS s.s m x)]).length=bs.length+1:=by simp [Hbl.out]
      have henc:(bufB s j++[(x.loc,valS s.s m x)]).map encZ=bs++[z]:=by
       rw [List.map_append,← Hbs.out,Hz.out,Hvl.out,← Hl.out]
       rfl
      rw [hlen,henc]
      have hr8:RowB (w17.setCell ⟨g,j,none⟩ (.slice A9 (bs.length+1) c9)) W.heap.size (.slice A9 (bs.length+1) c9) (bs++[z]):=
       (RowOf.of_block Hrow.out fun g' h1 _ _=>Go.Deep.blk_setCell_other _ _ _ _ (by have:=H12.out.2.lt; show g'≠g; omega)).rebase fun g' hg=>by have:=(Hrow.out.blk hg).1; have:=hB12.size; omega
      exact⟨A9,c9,rfl,RowOf.slR (R:=fun _=>QB) (by omega) hr8 (fun _ _ h=>h) h2,Hle9.out⟩
     ·simp only [if_neg e]
      obtain⟨_,A2,c2,h3,h4,h5⟩:=Hvs.out j hj
      exact⟨A2,c2,h3,SlR.le (R:=fun _=>QB) (fun _ _ _ h=>h) h4 h1,h5⟩
 ·obtain⟨k,rfl⟩:∃ k,m=p.length+k:=⟨m-p.length,by omega⟩
  obtain⟨w,r,hwr⟩:=can_flu.1 hcan
  have hk:=buf_lt hwr
  have hw:=hs.ent k w (by rw [hwr]; simp)
  obtain⟨e0,e35,eq1,eq2⟩:=encZ_lt hw
  obtain⟨A1,c1,hra,hby,hcap⟩:=Hrowsa.out k hk
  have hc1:∃ b1 o1,A1=some ⟨b1,o1,none⟩∧a.cell? ⟨b1,o1,none⟩=some (.int .u8 (encZ w)):=by
   obtain⟨b1,o1,cs1,e,h1,h2⟩:=SlR.get1 hby (i:=0) (by rw [hwr]; simp)
   have h2:cs1 0=.int .u8 _:=h2
   have hw0:((bufB s k).map encZ)[0]'(by rw [hwr]; simp)=encZ w:=by simp [hwr]
   rw [h2,hw0,Nat.add_zero] at h1
   exact⟨b1,o1,e,h1⟩
  obtain⟨b1,o1,rfl,hc1⟩:=hc1
  have hc1:=Le.below hB6 _ _ (hla _ _ hc1)
  have hr6:=Le.below hB6 _ _ (hla _ _ hra)
  have hlen:(bufB s k).length=r.length+1:=by rw [hwr]; rfl
  rw [hlen] at hr6 hra hby hcap
  obtain⟨l,hl⟩:∃ l:Nat,w.1=(l:Int):=⟨w.1.toNat,by have:=hw.1; omega⟩
  have hl3:l<3:=by have:=hw.1; omega
  have Hw:=Lib.hid hw
  have Hl:=Lib.hid hl
  have Hwr:=Lib.hid hwr
  have Hby:=Lib.hid hby
  have hki:(k:Int)<(s.bufs.length:Int):=by omega
  have h7:=hs.short7 hp k
  have hr6':r.length≤7:=by omega
  rw [hl] at eq1
  have Hv2:=Lib.hid eq2
  generalize hee:encZ w=ee at hc1 e0 e35 eq1 eq2
  have Hee:=Lib.hid hee
  have hcm:r.length+1≤c1∨True:=.inr trivial
  clear hlen hra hby hee hcan hm h7 hl hw hcm
  clear hwr
  rw [show ((p.length+k:Nat):Int)=(p.length:Int)+k by omega]
  have hsub:(p.length:Int)+(k:Int)-(p.length:Int)=(k:Int):=by omega
  have hsl1:=fun X:World=>slice1_any b1 o1 c1 r.length X hcap
  go_upto_region 6 with (fail)
  have n17:V6.cell? ⟨W.heap.size,17,none⟩=some (.slice (some ⟨g,0,none⟩) s.bufs.length cap):=Own.cell HC6.out (i:=17) rfl
  have g0:=HR6.out.cell k hk
  have g1:=HR6.out.fr k
  have g2:=HR6.out.lt
  go_still_tail 12,(by kernel_rfl)
  go_upto_region 7 with (fail)
  obtain⟨nr,hnr⟩:∃ nr,nr=Value.slice (if c1=1 then some ⟨b1,o1,none⟩ else some ⟨b1,o1+1,none⟩) r.length (c1-1):=⟨_,rfl⟩
  try rw [← hnr]
  obtain⟨V7,hV7⟩:∃ V7,V7=(V6.setCell ⟨g,k,none⟩ nr).drew:=⟨_,rfl⟩
  try rw [← hV7]
  have oC7:Own V7 W.heap.size 160 (bufC Ap cp p s.s sp (.slice (some ⟨g,0,none⟩) s.bufs.length cap)):=by rw [hV7]; exact (Own.far HC6.out (fun e=>hgR e.symm) _).drew
  have rC7:=(HR6.out.set hk nr).drew
  rw [← hV7] at rC7
  have hB7:Below W.heap.size W V7:=by rw [hV7]; exact (hB6.setCell HR6.out.ge _).drew
  have m0:=Own.cell oC7 (bufC_get (seqC_mget (Ap:=Ap) (cp:=cp) (p:=p) (s:=s.s) hl3))
  have m1:=Own.frozen oC7 (13+l)
  have m2:=Own.lt oC7
  have HC7:=Lib.hid oC7
  have HR7:=Lib.hid rC7
  have Hnr:=Lib.hid hnr
  have hli:(l:Int)<3:=by omega
  clear hV7 hnr oC7 rC7 n17 g0 g1 g2 hsl1 p0 q17V hr6 hc1
  go_wp2_with fail
  go_ret
  have hfl:nxB p sp s (p.length+k)=⟨⟨s.s.pc,s.s.regs,s.s.mem.set l w.2⟩,s.bufs.set k r⟩:=by
   unfold nxB
   rw [if_neg (by omega),Nat.add_sub_cancel_left,flu_eq Hwr.out,show w.1.toNat=l by have:=Hl.out; omega]
  rw [hfl]
  have o8:=Own.set HC7.out (13+l) (.int .u8 w.2)
  rw [bufC_mset hl3 (by rw [hs.ok.meml]; exact hl3)] at o8
  have r8:=HR7.out.far (p:=⟨W.heap.size,13+l,none⟩) (.int .u8 w.2) (fun e=>hgR e.symm)
  refine⟨W.heap.size,rfl,bufL_new (s':=⟨⟨s.s.pc,s.s.regs,s.s.mem.set l w.2⟩,s.bufs.set k r⟩) (n:=s.bufs.length) (cap:=cap) o8 (Nat.le_refl _) (by simp) (by omega) r8 (fun j hj a' h1 h2=>?_),hB7.setCell (Nat.le_refl _) _⟩
  rw [buf_set hk]
  by_cases e:j=k
  ·subst e
   simp only [if_pos]
   have h:=Hby.out
   rw [Hwr.out,List.map_cons] at h
   by_cases hc:c1=1
   ·obtain rfl:r=[]:=List.length_eq_zero_iff.1 (by omega)
    exact⟨_,_,by rw [Hnr.out],⟨_,_,rfl,by simp,fun i hi=>absurd hi (Nat.not_lt_zero _)⟩,Nat.zero_le _⟩
   ·refine⟨some ⟨b1,o1+1,none⟩,c1-1,by rw [Hnr.out,if_neg hc],?_,by omega⟩
    have h':=SlR.tail h (c1-1)
    rw [List.length_map] at h'
    exact SlR.le (R:=fun _=>QB) (fun _ _ _ h=>h) h' h1
  ·simp only [if_neg e]
   obtain⟨_,A2,c2,h3,h4,h5⟩:=Hvs.out j hj
   exact⟨A2,c2,h3,SlR.le (R:=fun _=>QB) (fun _ _ _ h=>h) h4 h1,h5⟩
end Go.Proofs.YtojmofnamppbdaaGreat
