/-
  An argument that is a slice of bytes, opened.
-/
import Derived.Test.YtojmofnamppbdaaGreatShut
import Derived.Test.YtojmofnamppbdaaGreatDpP
namespace Go.Proofs.YtojmofnamppbdaaGreat
open Go.RowKit Go.ChangeShapes Go.WideShapes Go.ChangeAt Go.Deep
set_option linter.unusedVariables false
set_option maxRecDepth 100000
variable {H:Type} {enc:TypeId×Value→H} {w:World} {base:Nat} {spare:Nat→Bool} {held:Bool}
theorem Tryz.cellsU8:Tryz.prog.cellsOf 5=1:=by kernel_rfl
def RByte (_:World) (cs:Nat→Value) (v:Int):Prop:=cs 0=.int .u8 v∧0≤v∧v≤255
theorem slice_of_cells' {P:Program} {W:World} {r:Reach} {b:Nat} {t e:TypeId} {v c:Value} (ht:P.underlying t=some (.slice e)) (hok:Value.okWide P W r b t v) (hc:v.cells.toList=[c]):v=c:=by
 cases v <;> simp only [Value.cells,List.cons.injEq,and_true] at hc <;> first | exact hc | skip
 simp [Value.okWide,Cell.okWide,ht,Cell.ok] at hok
theorem open_bytes {v:Value} {d:DataW H} {ps:List MemPlace} (h:DataW.Trod enc Tryz.prog w base spare held 22 v d ps) {W:World} {r:Reach} {b:Nat} (hok:Value.okWide Tryz.prog W r b 22 v):
  ∃ A n c,v=.slice A n c∧Bys w A n∧n≤c∧(A=none→n=0):=by
 obtain⟨fuel,hf⟩:=h
 obtain⟨A,c,xs,e,hk⟩:=slR_of_trod (k:=1) (R:=RByte) Tryz.underlying22 Tryz.cellsU8 (by omega) hf (fun m cs' x' hm hl hx=>by
  obtain⟨n,e,_,hw⟩:=DataW.trod_int Tryz.underlying5 hx
  subst e
  exact⟨n,rfl,bounds_u8 hw⟩)
 have hnc:xs.length≤c:=by
  rcases DataW.trod_slice Tryz.underlying22 hf with ⟨h,_⟩ | ⟨a,len,cap,_,_,_,_,h,_,_,hlc,_⟩
  ·rw [h] at e
   simp only [List.cons.injEq,and_true,Value.slice.injEq] at e
   omega
  ·rw [h] at e
   simp only [List.cons.injEq,and_true,Value.slice.injEq] at e
   omega
 have hB:Bys w A xs.length:=by
  obtain⟨A',c',e',hm,hat⟩:=hk
  injection e' with e1 e2 e3
  subst e1
  refine⟨hm,fun i hi=>?_⟩
  obtain⟨b,o,h1,cs,h2,h3,h4⟩:=hat i hi
  exact⟨b,o,_,h1,by have:=h2 0 (by omega); rw [Nat.mul_one,Nat.add_zero] at this; rw [this,h3],h4⟩
 refine⟨A,xs.length,c,slice_of_cells' Tryz.underlying22 hok e,hB,hnc,fun hA=>?_⟩
 rcases Nat.eq_zero_or_pos xs.length with h0 | h0
 ·exact h0
 ·obtain⟨b,o,v,h1,_⟩:=hB.2 0 h0
  rw [hA] at h1
  cases h1
end Go.Proofs.YtojmofnamppbdaaGreat
