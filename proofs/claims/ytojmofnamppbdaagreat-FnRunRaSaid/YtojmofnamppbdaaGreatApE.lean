/-
  Appending to an empty row that is one's own ('append([]int{}, xs...)'): nothing that was there turns.
-/
import Derived.Test.YtojmofnamppbdaaGreatRwS
import Derived.Test.YtojmofnamppbdaaGreatRgA
import Derived.ArgAppend
namespace Go.Proofs.YtojmofnamppbdaaGreat
open Go.RowKit
set_option linter.unusedVariables false
set_option maxRecDepth 100000
theorem RowOf.mk_news {α:Type} {k:Nat} {Q:(Nat→Value)→α→Prop} {w:World} {base n:Nat} {e:TypeId} {v:Value} {ys:List α} {news:List Value} (h:w.ownsRow base e k v n news) (hn:n=ys.length) (hq:∀ i (hi:i<ys.length),Q (fun j=>news.getD (i*k+j) undef) ys[i]):RowOf k Q w base e v ys:=by
 subst hn
 exact⟨news,h,hq⟩
theorem owns_rebase {w:World} {base base':Nat} {e:TypeId} {k n:Nat} {v:Value} {cs:List Value} (h:w.ownsRow base e k v n cs) (hb:base'≤base):w.ownsRow base' e k v n cs:=by
 refine⟨h.1,?_⟩
 rcases h.2 with h2 | ⟨g,cap,cur,h2,h3,h4⟩
 ·exact .inl h2
 ·exact .inr ⟨g,cap,cur,h2,by omega,h4⟩
theorem run_append_emp {α:Type} {P:Program} {w:World} {k:Nat} {Q:(Nat→Value)→α→Prop} (hQ:∀ (f g:Nat→Value) x,(∀ j,j<k→f j=g j)→Q f x→Q g x) {R:World→(Nat→Value)→α→Prop} (t ty:TypeId) (B:Nat) (e:TypeId) (i:TypeInfo) (z:Value) (bytes:Nat) (ht:P.underlying t=some (.slice e)) (hi:P.info? e=some i) (hz:i.zero=some z)
  (hsize:i.size=k) (hby:i.bytes=bytes) (hzs:z.cells.size=k) (hsz:0<k) (g:Nat) (hown:Own w g e #[]) (hB:B≤g) (A:Option Addr) (c:Nat) (ys:List α) (hy:SlR k R w (.slice A ys.length c) ys)
  (hRQ:∀ cs y,R w cs y→Q cs y) (h1:∀ cs y,Q cs y→∀ j,j<k→(cs j).oneCell'=true) (h63:ys.length≤maxLen) (hbytes:ys.length*bytes≤140737488355328):
  ∃ A' c' w',(Builtin.append_ #[t,t] ty #[.slice (some ⟨g,0,none⟩) 0 0,.slice A ys.length c]).run P w=.ok (.slice A' ys.length c') w'∧RowOf k Q w' B e (.slice A' ys.length c') ys∧Nx w w'∧(∀ b,blkV (.slice A' ys.length c')=some b→b=g∨w.heap.size≤b):=by
 have hgl:=hown.lt
 have hnil:A=none→ys.length=0:=fun e=>by
  rcases Nat.eq_zero_or_pos ys.length with h | h
  ·exact h
  ·obtain⟨b,o,e1,_⟩:=SlR.news hy hsz h
   rw [e] at e1; cases e1
 have hempty:ys.length=0→RowOf k Q w B e (.slice (some ⟨g,0,none⟩) ys.length 0) ys:=fun h0=>by
  obtain rfl:ys=[]:=List.length_eq_zero_iff.1 h0
  exact RowOf.made Q hown hB
 have hblk:∀ n:Nat,∀ b,blkV (.slice (some ⟨g,0,none⟩) n 0)=some b→b=g∨w.heap.size≤b:=fun n b hb=>by
  injection hb with hb
  exact .inl hb.symm
 cases A with
 | none=>
  have h0:=hnil rfl
  refine⟨some ⟨g,0,none⟩,0,w,?_,hempty h0,Nx.refl _,hblk _⟩
  rw [h0]
  exact run_append_nilx w t ty e i ht hi B k (.slice (some ⟨g,0,none⟩) 0 0) 0 [] (made_owns hown hB) c
 | some a=>
  rcases Nat.eq_zero_or_pos ys.length with h0 | hpos
  ·refine⟨some ⟨g,0,none⟩,0,w,?_,hempty h0,Nx.refl _,hblk _⟩
   rw [h0]
   have:=run_append_room_cells (P:=P) w t ty e i ht hi g 0 0 0 a 0 c [] (by simp) (fun j u h=>by simp at h) (fun u h=>by cases h) (by omega) (fun j h=>by simp at h) (fun j h=>by simp at h)
   exact this
  ·obtain⟨b,o,e1,news,hnl,hnw,hnr⟩:=SlR.news hy hsz hpos
   obtain rfl:a=⟨b,o,none⟩:=by injection e1
   have hnq:∀ i (hi:i<ys.length),Q (fun j=>news.getD (i*k+j) undef) ys[i]:=fun i hi=>by
    obtain⟨cs,h1,h2⟩:=hnr i hi
    exact hQ _ _ _ h1 (hRQ _ _ h2)
   obtain⟨v',w',hr,h2,h3⟩:=run_append_arg_grows (P:=P) w t ty e i z k bytes ht hi hz hsize hby hzs hsz ⟨g,0,none⟩ 0 0 [] (by simp) (fun j u h=>by simp at h) ⟨b,o,none⟩ ys.length c news hnl hnw (by omega) (by omega) (by rw [Nat.zero_add]; exact hbytes)
   rw [List.nil_append,Nat.zero_add] at h2
   have hrow:RowOf k Q w' w.heap.size e v' ys:=RowOf.mk_news h2 rfl hnq
   obtain⟨A',c',rfl,_⟩:=hrow.slice
   refine⟨A',c',w',hr,RowOf.mk_news (owns_rebase h2 (by omega)) rfl hnq,⟨World.grownBy.os h3,World.grownBy.tape h3,World.grownBy.output h3,World.grownBy.size h3,fun i hi=>World.grownBy.block h3 i hi (by simp)⟩,fun b' hb'=>.inr ?_⟩
   have h5:=h2
   rcases h5.2 with ⟨e,_⟩ | ⟨g',cap,cur,e,hg',_⟩
   ·injection e with e
    subst e
    cases hb'
   ·injection e with e
    subst e
    injection hb' with hb'
    simp only at hb'
    omega
theorem wpList_append_emp {α:Type} {P:Program} {w:World} {ops:Array Oper} {rest:List Oper} {o:Oper} {a:Act} {QQ:Exit→Act→World→Prop} (hgd:o.guard=none) (s x:Operand) (t:TypeId) (ho:o.op=.call { callee:=.builtin .append,args:=#[s,x],argTypes:=#[t,t] })
  {k:Nat} {Q:(Nat→Value)→α→Prop} (hQ:∀ (f g:Nat→Value) x,(∀ j,j<k→f j=g j)→Q f x→Q g x) {R:World→(Nat→Value)→α→Prop} (B:Nat) (e:TypeId) (i:TypeInfo) (z:Value) (bytes:Nat) (ht:P.underlying t=some (.slice e)) (hi:P.info? e=some i) (hz:i.zero=some z)
  (hsize:i.size=k) (hby:i.bytes=bytes) (hzs:z.cells.size=k) (hsz:0<k) (g:Nat) (hs:a.eval s=.slice (some ⟨g,0,none⟩) 0 0) (hown:Own w g e #[]) (hB:B≤g) (A:Option Addr) (c:Nat) (ys:List α) (hx:a.eval x=.slice A ys.length c) (hy:SlR k R w (.slice A ys.length c) ys)
  (hRQ:∀ cs y,R w cs y→Q cs y) (h1:∀ cs y,Q cs y→∀ j,j<k→(cs j).oneCell'=true) (h63:ys.length≤maxLen) (hbytes:ys.length*bytes≤140737488355328)
  (h:∀ A' c' w',RowOf k Q w' B e (.slice A' ys.length c') ys→Nx w w'→(∀ b,blkV (.slice A' ys.length c')=some b→b=g∨w.heap.size≤b)→wpList P ops QQ rest (a.put o.dst (.slice A' ys.length c')) w'):wpList P ops QQ (o::rest) a w:=
 wpList_plain hgd fun _ hK=>by
  obtain⟨A',c',w',hr,h2,h3,h4⟩:=run_append_emp (P:=P) (ty:=o.type) hQ t B e i z bytes ht hi hz hsize hby hzs hsz g hown hB A c ys hy hRQ h1 h63 hbytes
  unfold Oper.wp execOp
  simp only [ho,resolve,invoke,builtin,Sem.run_bind,Sem.run_pure,Result.andThen_ok,List.map_toArray,List.map_cons,List.map_nil,hs,hx,hr]
  exact hK _ _ (h A' c' w' h2 h3 h4)
end Go.Proofs.YtojmofnamppbdaaGreat
