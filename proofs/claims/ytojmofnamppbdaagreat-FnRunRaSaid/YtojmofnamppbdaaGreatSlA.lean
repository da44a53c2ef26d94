/-
  Slices of ints in rows of one's own. No program in sight.
-/
import Derived.Test.YtojmofnamppbdaaGreatThr2
import Derived.Test.YtojmofnamppbdaaGreatStr
import Derived.Test.YtojmofnamppbdaaGreatInts
namespace Go.Proofs.YtojmofnamppbdaaGreat
open Go.RowKit
set_option linter.unusedVariables false
set_option maxRecDepth 100000
def QInt (cs:Nat→Value) (n:Int):Prop:=cs 0=.int .i64 n
theorem qint_congr:∀ (f g:Nat→Value) (x:Int),(∀ j,j<1→f j=g j)→QInt f x→QInt g x:=fun f g x h hq=>(h 0 (by omega)).symm.trans hq
theorem qint_one:∀ (cs:Nat→Value) (y:Int),QInt cs y→∀ j,j<1→(cs j).oneCell'=true:=fun cs y h j hj=>by
 obtain rfl:j=0:=by omega
 rw [h]; rfl
abbrev RowI (w:World) (base:Nat) (v:Value) (xs:List Int):Prop:=RowOf 1 QInt w base 3 v xs
theorem RowI.ints {w:World} {base:Nat} {v:Value} {xs:List Int} (h:RowI w base v xs):∃ A c,v=.slice A xs.length c∧Ints (above base w) A c xs:=by
 have hs:=h.slR (k:=1) (R:=RInt) (by omega) (a:=above base w) (fun cs x h=>h) (Le.refl _)
 obtain⟨A,c,rfl,_⟩:=hs.slice
 exact⟨A,c,rfl,hs⟩
theorem row_of_map {w:World} {base:Nat} {v:Value} {xs:List Int} (h:w.ownsRow base 3 1 v xs.length (xs.map (Value.int .i64))):RowI w base v xs:=
 ⟨_,h,fun i hi=>by show List.getD _ _ _=_; simp [hi]⟩
theorem row_to_map {w:World} {base:Nat} {v:Value} {xs:List Int} (h:RowI w base v xs):w.ownsRow base 3 1 v xs.length (xs.map (Value.int .i64)):=by
 obtain⟨cs,h1,h2⟩:=h
 have hl:=h1.1
 have:cs=xs.map (Value.int .i64):=by
  apply List.ext_getElem
  ·simp [hl]
  ·intro i h3 h4
   have hi:i<xs.length:=by simpa using h4
   have:=h2 i hi
   unfold QInt at this
   simp only [Nat.mul_one,Nat.add_zero] at this
   rw [List.getD_eq_getElem?_getD,List.getElem?_eq_getElem h3] at this
   simpa using this
 rw [← this]
 exact h1
def RetRowI (w:World) (xs:List Int) (e:Ending) (w':World):Prop:=∃ A c,e=.returned (.slice A xs.length c)∧RowI w' w.heap.size (.slice A xs.length c) xs∧Below w.heap.size w w'
theorem RetRowI.mk {w w':World} {xs:List Int} {v:Value} (h:RowI w' w.heap.size v xs) (hb:Below w.heap.size w w'):RetRowI w xs (.returned v) w':=by
 obtain⟨A,c,rfl,_⟩:=h.slice
 exact⟨A,c,rfl,h,hb⟩
def srt (xs:List Int):List Int:=xs.mergeSort fun x y=>decide (x≤y)
theorem srt_length (xs:List Int):(srt xs).length=xs.length:=by unfold srt; simp
end Go.Proofs.YtojmofnamppbdaaGreat
