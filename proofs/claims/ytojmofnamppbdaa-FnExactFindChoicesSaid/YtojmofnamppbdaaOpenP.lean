/-
  Arguments that are programs, opened.
-/
import Derived.Test.YtojmofnamppbdaaShut
import Derived.Test.YtojmofnamppbdaaPrg
namespace Go.Proofs.Ytojmofnamppbdaa
open Go.RowKit Go.ChangeShapes Go.WideShapes Go.ChangeAt Go.Deep
set_option linter.unusedVariables false
set_option maxRecDepth 100000
variable {H:Type} {enc:TypeId×Value→H} {w:World} {base:Nat} {spare:Nat→Bool} {held:Bool}
theorem Try.cellsIntP:Try.prog.cellsOf 3=1:=by kernel_rfl
theorem Try.cellsInsP:Try.prog.cellsOf 86=4:=by kernel_rfl
theorem Try.cellsInsSP:Try.prog.cellsOf 42=1:=by kernel_rfl
theorem int_of_trodP {fuel:Nat} {c:Value} {x:DataW H×List MemPlace} (h:DataW.trod enc Try.prog w base spare held fuel 3 [c]=some x):∃ n,c=.int .i64 n:=by
 obtain⟨n,e,_,_⟩:=DataW.trod_int Try.underlying3 h
 simp only [List.cons.injEq,and_true] at e
 exact⟨n,e⟩
theorem ins_of_trod {fuel:Nat} {cs:List Value} {x:DataW H×List MemPlace} (h:DataW.trod enc Try.prog w base spare held fuel 86 cs=some x) (hlen:cs.length=4):∃ r:Ins,RIns w (fun j=>cs.getD j undef) r:=by
 obtain⟨xs,n,hn,_,_,hxs,hf⟩:=DataW.trod_struct Try.underlying86 h
 match cs,hlen with
 | [c0,c1,c2,c3],_=>
  have l0:xs.length=4:=hxs
  have h0:DataW.trod enc Try.prog w base spare held n 3 [c0]=xs[0]?:=by simpa [Try.cellsIntP] using hf 0 _ rfl
  have h1:DataW.trod enc Try.prog w base spare held n 3 [c1]=xs[1]?:=by simpa [Try.cellsIntP] using hf 1 _ rfl
  have h2:DataW.trod enc Try.prog w base spare held n 3 [c2]=xs[2]?:=by simpa [Try.cellsIntP] using hf 2 _ rfl
  have h3:DataW.trod enc Try.prog w base spare held n 3 [c3]=xs[3]?:=by simpa [Try.cellsIntP] using hf 3 _ rfl
  rw [List.getElem?_eq_getElem (by omega)] at h0 h1 h2 h3
  obtain⟨n0,rfl⟩:=int_of_trodP h0
  obtain⟨n1,rfl⟩:=int_of_trodP h1
  obtain⟨n2,rfl⟩:=int_of_trodP h2
  obtain⟨n3,rfl⟩:=int_of_trodP h3
  exact⟨⟨n0,n1,n2,n3⟩,rfl,rfl,rfl,rfl⟩
theorem inss_of_trod {fuel:Nat} {cs:List Value} {x:DataW H×List MemPlace} (h:DataW.trod enc Try.prog w base spare held fuel 42 cs=some x):∃ A c,∃ xs:List Ins,cs=[.slice A xs.length c]∧InsS w (.slice A xs.length c) xs:=
 slR_of_trod (k:=4) (R:=RIns) Try.underlying42 Try.cellsInsP (by omega) h fun n cs' x' _ hl hx=>ins_of_trod hx hl
theorem prg_of_trod {fuel:Nat} {cs:List Value} {x:DataW H×List MemPlace} (h:DataW.trod enc Try.prog w base spare held fuel 22 cs=some x):∃ A c,∃ p:Prg,cs=[.slice A p.length c]∧PrgS w (.slice A p.length c) p:=
 slR_of_trod (k:=1) (R:=RSub 4 RIns) Try.underlying22 Try.cellsInsSP (by omega) h fun n cs' x' _ _ hx=>by
  obtain⟨A,c,xs,e,h⟩:=inss_of_trod hx
  exact⟨xs,A,c,by rw [e]; rfl,h⟩
theorem open_prg {v:Value} {d:DataW H} {ps:List MemPlace} (h:DataW.Trod enc Try.prog w base spare held 22 v d ps) {W:World} {r:Reach} {b:Nat} (hok:Value.okWide Try.prog W r b 22 v):∃ p:Prg,PrgS w v p:=by
 obtain⟨fuel,hf⟩:=h
 obtain⟨A,c,p,e,hk⟩:=prg_of_trod hf
 rw [slice_of_cells Try.underlying22 hok e]
 exact⟨p,hk⟩
end Go.Proofs.Ytojmofnamppbdaa
