/-
  Slices of strings, as they lie in memory.
-/
import Derived.Test.YtojmofnamppbdaaGreatLib
namespace Go.Proofs.YtojmofnamppbdaaGreat
open Go.RowKit
set_option linter.unusedVariables false
set_option maxRecDepth 100000
def RStr (_:World) (cs:Nat→Value) (s:ByteArray):Prop:=cs 0=.string s
def Strs (w:World) (A:Option Addr) (c:Nat) (ss:List ByteArray):Prop:=SlR 1 RStr w (.slice A ss.length c) ss
theorem Strs.le {w w':World} {A:Option Addr} {c:Nat} {ss:List ByteArray} (h:Strs w A c ss) (hl:Le w w'):Strs w' A c ss:=SlR.le (R:=RStr) (w:=w) (fun _ _ _ h=>h) h hl
theorem Strs.get {w:World} {A:Option Addr} {c:Nat} {ss:List ByteArray} (h:Strs w A c ss) {i:Nat} (hi:i<ss.length):
  ∃ b o,A=some ⟨b,o,none⟩∧b<w.heap.size∧w.cell? ⟨b,o+i,none⟩=some (.string ss[i]):=by
 obtain⟨b,o,cs,h0,h1,h2⟩:=SlR.get1 h hi
 exact⟨b,o,h0,World.block_lt_of_cell? _ _ h1,by rw [h1,show cs 0=_ from h2]⟩
theorem Strs.mk {w:World} {b o c:Nat} {ss:List ByteArray} (hl:ss.length≤9223372036854775807) (h:∀ i (h:i<ss.length),w.cell? ⟨b,o+i,none⟩=some (.string ss[i])):Strs w (some ⟨b,o,none⟩) c ss:=
 ⟨_,_,rfl,hl,fun i hi=>⟨b,o,rfl,fun _=>.string ss[i],fun j hj=>by
  obtain rfl:j=0:=by omega
  simpa using h i hi,rfl⟩⟩
def RetStrs (w:World) (ss:List ByteArray) (e:Ending) (w':World):Prop:=∃ A c,e=.returned (.slice A ss.length c)∧Strs (above w.heap.size w') A c ss∧Below w.heap.size w w'
end Go.Proofs.YtojmofnamppbdaaGreat
