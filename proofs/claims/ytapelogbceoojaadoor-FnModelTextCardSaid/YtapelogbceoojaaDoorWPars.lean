/-
  The walks of the parser of expressions: take, name, atom, level, impl.ParseRelExpr. The walks of the parser's atom and level. The walk of the parser's level. The parser's walks joined: atom and level at every text. The walk of impl.ParseRelExpr.
-/
import Derived.Test.YtapelogbceoojaaDoorVal
import Derived.Test.YtapelogbceoojaaDoorLib
import Derived.Test.YtapelogbceoojaaDoorRE
import Derived.Test.YtapelogbceoojaaDoorWVal
import Derived.Test.YtapelogbceoojaaDoorWText
import Derived.Deep.RegionHeld3

/-! The walks of the parser of expressions: take, name, atom, level, impl.ParseRelExpr. -/
namespace Go.Proofs.YtapelogbceoojaaDoor
open Go.RowKit
set_option linter.unusedVariables false
set_option maxRecDepth 100000

theorem ext_drop (s : ByteArray) (i : Nat) : (s.extract i s.size).data.toList = s.data.toList.drop i := by
  rw [ByteArray.data_extract, Array.toList_extract]
  simp [List.take_of_length_le]
theorem ext_take (s : ByteArray) (i : Nat) : (s.extract 0 i).data.toList = s.data.toList.take i := by
  rw [ByteArray.data_extract, Array.toList_extract]
  simp [List.extract_eq_take_drop]
theorem head_drop (s : ByteArray) (h : 0 < s.size) : s.data.toList = s[0] :: (s.extract 1 s.size).data.toList := by
  rw [ext_drop]
  have hl : 0 < s.data.toList.length := by simpa using h
  have h1 := List.drop_eq_getElem_cons (l := s.data.toList) (i := 0) hl
  rw [List.drop_zero] at h1
  exact h1

/-- The parser: what is left, and whether it has failed. -/
abbrev Prs (w : World) (R : Nat) (s : ByteArray) (fl : Bool) : Prop := Own w R 82 #[.string s, .bool fl]

def RetTake (w : World) (R : Nat) (s : ByteArray) (fl : Bool) (c : UInt8) (e : Ending) (w' : World) : Prop :=
  (e = .returned (.bool true) ∧ fl = false ∧ ∃ s', s.data.toList = c :: s'.data.toList ∧ Prs w' R s' false ∧ Mv R w w') ∨ (e = .returned (.bool false) ∧ (fl = true ∨ s.data.toList.head? ≠ some c) ∧ Prs w' R s fl ∧ Mv R w w')

set_option maxHeartbeats 400000 in
theorem take_any (w : World) (R : Nat) (s : ByteArray) (fl : Bool) (c : UInt8) (hs : s.size ≤ 300) (h : Prs w R s fl) :
    Calls Tryd.prog 92 #[.pointer (some ⟨R, 0, none⟩), .int .u8 c.toNat] w (RetTake w R s fl c) := by
  have q0 := h.cell (i := 0) rfl
  have q1 := h.cell (i := 1) rfl
  have q2 := h.frozen 0
  go_enter Tryd.func92, Tryd.ntmps92
  cases fl
  case true =>
    go_wp2_with fail
    go_ret
    exact Or.inr ⟨rfl, Or.inl rfl, h, Mv.refl _ _⟩
  case false =>
    by_cases h0 : s.size = 0
    · have hs0 : s = ⟨#[]⟩ := by
        have : s = ByteArray.empty := by simpa using h0
        exact this
      subst hs0
      go_wp2_with fail
      go_ret
      exact Or.inr ⟨rfl, Or.inr (by simp), h, Mv.refl _ _⟩
    · have hne : s ≠ ⟨#[]⟩ := fun e => h0 (by rw [e]; rfl)
      have hnb := str_ne_nil hne
      have hi : (0 : Int) < (s.size : Int) := by omega
      have hi0 : 0 < s.size := by omega
      have ht := head_drop s hi0
      by_cases hc : s[0] = c
      · have hcb : ((s[0].toNat : Int) != (c.toNat : Int)) = false := by rw [hc]; simp
        have Hc := Lib.hid hc
        clear hc
        go_wp2_with fail
        go_ret
        exact Or.inl ⟨rfl, rfl, _, by rw [ht, Hc.out], h.set 0 _, (Mv.refl _ _).setR 0 _⟩
      · have hcb : ((s[0].toNat : Int) != (c.toNat : Int)) = true := by
          rw [bne_iff_ne]
          intro e
          exact hc (UInt8.toNat_inj.1 (by omega))
        have Hc := Lib.hid hc
        clear hc
        go_wp2_with fail
        go_ret
        exact Or.inr ⟨rfl, Or.inr fun e => Hc.out (by rw [ht] at e; simpa using e), h, Mv.refl _ _⟩

def RetName (w : World) (R : Nat) (s : ByteArray) (fl : Bool) (e : Ending) (w' : World) : Prop :=
  ∃ n s' : ByteArray, e = .returned (.string n) ∧ s.data.toList = n.data.toList ++ s'.data.toList ∧ (∀ c ∈ n.data.toList, isLet c) ∧ ¬ letHead s'.data.toList ∧ n.size + s'.size = s.size ∧ Prs w' R s' fl ∧ Mv R w w'

theorem get_data (s : ByteArray) (k : Nat) (h : k < s.size) : s.data.toList[k]'(by simpa using h) = s[k] := rfl
theorem let_iff (c : UInt8) : isLet c ↔ (97 : Int) ≤ (c.toNat : Int) ∧ (c.toNat : Int) ≤ 122 := by
  unfold isLet
  rw [UInt8.le_iff_toNat_le, UInt8.le_iff_toNat_le]
  have h1 : (97 : UInt8).toNat = 97 := rfl
  have h2 : (122 : UInt8).toNat = 122 := rfl
  omega

set_option maxHeartbeats 1000000 in
theorem name_any (w : World) (R : Nat) (s : ByteArray) (fl : Bool) (hs : s.size ≤ 300) (h : Prs w R s fl) :
    Calls Tryd.prog 103 #[.pointer (some ⟨R, 0, none⟩)] w (RetName w R s fl) := by
  have q0 := h.cell (i := 0) rfl
  have q2 := h.frozen 0
  go_enter Tryd.func103, Tryd.ntmps103
  go_wp2_with fail
  go_loopg [3] s.size (fun g s3 wr => ∃ k : Nat, k ≤ s.size ∧ g = s.size - k ∧ s3 = .int .i64 k ∧ Hid (∀ c ∈ s.data.toList.take k, isLet c) ∧ w = wr)
  case atStart => exact ⟨0, Nat.zero_le _, rfl, rfl, fun c hc => by simp at hc, rfl⟩
  case round =>
    obtain ⟨k, hk, rfl, rfl, hall, rfl⟩ := hrel
    have done : (k = s.size ∨ ∃ hk : k < s.size, ¬ isLet s[k]) → ¬ letHead (s.extract k s.size).data.toList := fun hd hl => by
      rw [ext_drop] at hl
      rcases hd with rfl | ⟨hk, hn⟩
      · rw [List.drop_of_length_le (by simp)] at hl
        exact hl
      · rw [List.drop_eq_getElem_cons (by simpa using hk)] at hl
        exact hn hl
    have fin : (k = s.size ∨ ∃ hk : k < s.size, ¬ isLet s[k]) → RetName w R s fl (.returned (.string (s.extract 0 k))) (w.setCell ⟨R, 0, none⟩ (.string (s.extract k s.size))) := fun hd =>
      ⟨_, _, rfl, by rw [ext_take, ext_drop, List.take_append_drop], by rw [ext_take]; exact hall.out, done hd, by simp; omega, h.set 0 _, (Mv.refl _ _).setR 0 _⟩
    have Fin := Lib.hid fin
    clear fin done
    by_cases hlt : k < s.size
    · by_cases h97 : (97 : Int) ≤ (s[k].toNat : Int)
      · by_cases h122 : (s[k].toNat : Int) ≤ 122
        · have d1 : decide ((s[k].toNat : Int) ≥ 97) = true := by simpa using h97
          have d2 : decide ((s[k].toNat : Int) ≤ 122) = true := by simpa using h122
          have hl := (let_iff s[k]).2 ⟨h97, h122⟩
          have Hl := Lib.hid hl
          clear hl h97 h122
          go_wp2_with fail
          go_roundg (s.size - (k + 1))
          case measure => omega
          case rel =>
            refine ⟨k + 1, by omega, rfl, by go_num, fun c hc => ?_, rfl⟩
            rw [List.take_succ_eq_append_getElem (by simpa using hlt), List.mem_append, List.mem_singleton] at hc
            rcases hc with hc | rfl
            · exact hall.out c hc
            · exact Hl.out
        · have d1 : decide ((s[k].toNat : Int) ≥ 97) = true := by simpa using h97
          have d2 : decide ((s[k].toNat : Int) ≤ 122) = false := by simpa using h122
          have hf := Fin.out (Or.inr ⟨hlt, fun h => h122 ((let_iff _).1 h).2⟩)
          have Hf := Lib.hid hf
          clear hf h97 h122
          go_wp2_with fail
          go_ret
          exact Hf.out
      · have d1 : decide ((s[k].toNat : Int) ≥ 97) = false := by simpa using h97
        have hf := Fin.out (Or.inr ⟨hlt, fun h => h97 ((let_iff _).1 h).1⟩)
        have Hf := Lib.hid hf
        clear hf h97
        go_wp2_with fail
        go_ret
        exact Hf.out
    · have hf := Fin.out (Or.inl (by omega))
      have Hf := Lib.hid hf
      clear hf
      go_wp2_with fail
      go_ret
      exact Hf.out
end Go.Proofs.YtapelogbceoojaaDoor

/-! The walks of the parser's atom and level. -/
namespace Go.Proofs.YtapelogbceoojaaDoor
open Go.RowKit
set_option linter.unusedVariables false
set_option maxRecDepth 100000

def RetPs (c : Cmd) (w : World) (R : Nat) (s : ByteArray) (fl : Bool) (e : Ending) (w' : World) : Prop :=
  ∃ (x : RE) (A : Option Addr) (k : Nat) (F : List Nat) (s' : ByteArray) (fl' : Bool), e = .returned (.agg #[.int .i64 x.op, .string x.name, .slice A x.kids.length k]) ∧ OwE w' (.slice A x.kids.length k) x.kids F ∧ F.Nodup ∧ (∀ b ∈ F, w.heap.size ≤ b) ∧ x.name.size ≤ 300 ∧
    Prs w' R s' fl' ∧ Mv R w w' ∧ s'.size ≤ s.size ∧ (fl = false → ∀ x0 u, Ps c s.data.toList x0 u → x0 = x ∧ s'.data.toList = u ∧ fl' = false)

theorem OwE.mv {w w' : World} {v : Value} {es : List RE} {F : List Nat} {R : Nat} (h : OwE w v es F) (m : Mv R w w') (hR : ∀ b ∈ F, b ≠ R) : OwE w' v es F := h.of_blocks fun b hb => m.block (h.lt b hb) (hR b hb)
theorem OwE.alloc {w : World} {v : Value} {es : List RE} {F : List Nat} (h : OwE w v es F) (o : Obj) : OwE (w.alloc o) v es F := h.of_blocks fun b hb => Go.Deep.blk_alloc_lt _ _ _ (h.lt b hb)
theorem OwE.setCell {w : World} {v : Value} {es : List RE} {F : List Nat} (h : OwE w v es F) (p : Addr) (u : Value) (hp : ∀ b ∈ F, b ≠ p.block) : OwE (w.setCell p u) v es F := h.of_blocks fun b hb => Below.heap_setCell _ _ _ _ (hp b hb)
/-- The block of the result is written: three cells. -/
theorem Own.res {w : World} {b : Nat} {t : TypeId} {v0 v1 v2 : Value} (h : Own w b t #[v0, v1, v2]) : w.cell? ⟨b, 0, none⟩ = some v0 ∧ w.cell? ⟨b, 1, none⟩ = some v1 ∧ w.cell? ⟨b, 2, none⟩ = some v2 ∧ w.frozen? ⟨b, 0, none⟩ = false ∧ w.frozen? ⟨b, 1, none⟩ = false ∧ w.frozen? ⟨b, 2, none⟩ = false ∧ b < w.heap.size :=
  ⟨h.cell rfl, h.cell rfl, h.cell rfl, h.frozen 0, h.frozen 1, h.frozen 2, h.lt⟩

theorem RetPs.fin {c : Cmd} {w W : World} {R : Nat} {s s' : ByteArray} {fl fl' : Bool} {x : RE} {A : Option Addr} {k : Nat} {F : List Nat} {v0 v1 v2 : Value} (hR : R < w.heap.size) (ho : OwE W (.slice A x.kids.length k) x.kids F) (hnd : F.Nodup) (hF : ∀ b ∈ F, w.heap.size < b)
    (hn : x.name.size ≤ 300) (h : Prs W R s' fl') (m : Mv R w W) (hs : s'.size ≤ s.size) (hp : fl = false → ∀ x0 u, Ps c s.data.toList x0 u → x0 = x ∧ s'.data.toList = u ∧ fl' = false) :
    RetPs c w R s fl (.returned (.agg #[.int .i64 x.op, .string x.name, .slice A x.kids.length k])) (((W.setCell ⟨w.heap.size, 0, none⟩ v0).setCell ⟨w.heap.size, 1, none⟩ v1).setCell ⟨w.heap.size, 2, none⟩ v2) := by
  have hne : ∀ b ∈ F, b ≠ w.heap.size := fun b hb => by have := hF b hb; omega
  refine ⟨x, A, k, F, s', fl', rfl, ((ho.setCell _ _ hne).setCell _ _ hne).setCell _ _ hne, hnd, fun b hb => Nat.le_of_lt (hF b hb), hn, ?_, ?_, hs, hp⟩
  · exact ((h.far (by show R ≠ w.heap.size; omega) _).far (by show R ≠ w.heap.size; omega) _).far (by show R ≠ w.heap.size; omega) _
  · exact ((m.setNew (Nat.le_refl _) _).setNew (Nat.le_refl _) _).setNew (Nat.le_refl _) _

theorem size_set3 (W : World) (a b c : Addr) (v0 v1 v2 : Value) : (((W.setCell a v0).setCell b v1).setCell c v2).heap.size = W.heap.size := by simp [World.setCell]
/-- .. the result's operand in a block made last. -/
theorem RetPs.fin1 {c : Cmd} {w W : World} {R : Nat} {s s' : ByteArray} {fl fl' : Bool} {op : Int} {x : RE} {A : Option Addr} {k : Nat} {F : List Nat} {v0 v1 v2 : Value} (hR : R < w.heap.size) (ho : OwE W (.slice A x.kids.length k) x.kids F) (hnd : F.Nodup) (hF : ∀ b ∈ F, w.heap.size < b)
    (hn : x.name.size ≤ 300) (hw : w.heap.size < W.heap.size) (h : Prs W R s' fl') (m : Mv R w W) (hs : s'.size ≤ s.size) (hp : fl = false → ∀ x0 u, Ps c s.data.toList x0 u → x0 = .mk op ⟨#[]⟩ [x] ∧ s'.data.toList = u ∧ fl' = false) :
    RetPs c w R s fl (.returned (.agg #[.int .i64 op, .string ⟨#[]⟩, .slice (some ⟨W.heap.size, 0, none⟩) 1 1])) ((((W.setCell ⟨w.heap.size, 0, none⟩ v0).setCell ⟨w.heap.size, 1, none⟩ v1).setCell ⟨w.heap.size, 2, none⟩ v2).alloc (.cells #[.int .i64 x.op, .string x.name, .slice A x.kids.length k] 29)) := by
  have hne : ∀ b ∈ F, b ≠ w.heap.size := fun b hb => by have := hF b hb; omega
  have one := (((ho.setCell ⟨w.heap.size, 0, none⟩ v0 hne).setCell ⟨w.heap.size, 1, none⟩ v1 hne).setCell ⟨w.heap.size, 2, none⟩ v2 hne).one (by omega)
  rw [size_set3] at one
  refine ⟨.mk op ⟨#[]⟩ [x], _, 1, _, s', fl', rfl, one, List.nodup_cons.2 ⟨fun hb => by have := ho.lt _ hb; omega, hnd⟩, fun b hb => ?_, (by show ByteArray.size ⟨#[]⟩ ≤ 300; decide), ?_, ?_, hs, hp⟩
  · rcases List.mem_cons.1 hb with rfl | hb
    · omega
    · exact Nat.le_of_lt (hF b hb)
  · exact (((h.far (by show R ≠ w.heap.size; omega) _).far (by show R ≠ w.heap.size; omega) _).far (by show R ≠ w.heap.size; omega) _).alloc _
  · exact (((m.setNew (Nat.le_refl _) _).setNew (Nat.le_refl _) _).setNew (Nat.le_refl _) _).alloc _

set_option maxHeartbeats 1000000 in
theorem atom_of (s : ByteArray) (hs : s.size ≤ 300)
    (ihL : ∀ s1 : ByteArray, s1.size < s.size → ∀ w R fl, Prs w R s1 fl → Calls Tryd.prog 63 #[.pointer (some ⟨R, 0, none⟩), .int .i64 3] w (RetPs (.lev 3) w R s1 fl))
    (ihA : ∀ s1 : ByteArray, s1.size < s.size → ∀ w R fl, Prs w R s1 fl → Calls Tryd.prog 91 #[.pointer (some ⟨R, 0, none⟩)] w (RetPs .atom w R s1 fl))
    (w : World) (R : Nat) (fl : Bool) (h : Prs w R s fl) : Calls Tryd.prog 91 #[.pointer (some ⟨R, 0, none⟩)] w (RetPs .atom w R s fl) := by
  have hR := h.lt
  have rb := Own.new w 29 #[.int .i64 0, .string ByteArray.empty, .slice none 0 0]
  have t1 := take_any _ R s fl 40 hs (h.alloc (.cells #[.int .i64 0, .string ByteArray.empty, .slice none 0 0] 29))
  have m0 : Mv R w (w.alloc (.cells #[.int .i64 0, .string ByteArray.empty, .slice none 0 0] 29)) := (Mv.refl _ _).alloc _
  go_enter Tryd.func91, Tryd.ntmps91
  go_wp2_with fail
  refine t1.mono ?_
  rintro e1 w1 (⟨rfl, rfl, s1, hs1, h1, m1⟩ | ⟨rfl, hno, h1, m1⟩)
  · have rb1 := rb.mv m1 (by omega)
    have m01 := m0.trans m1
    have hsz : s1.size < s.size := by
      have := congrArg List.length hs1
      simp at this
      omega
    clear t1 rb m0 m1
    go_wp2_with fail
    refine (ihL s1 hsz _ R false h1).mono ?_
    rintro e2 w2 ⟨x, A, c, F, s2, fl2, rfl, ho, hnd, hF, hnm, h2, m2, hsz2, hps⟩
    have rb2 := rb1.mv m2 (by omega)
    have m02 := m01.trans m2
    have t2 := take_any _ R s2 fl2 41 (by omega) (h2.alloc (.cells #[.int .i64 x.op, .string x.name, .slice A x.kids.length c] 29))
    have hz1 := m01.size
    have hz2 := m2.size
    have hlt1 := rb1.lt
    go_wp2_with fail
    refine t2.mono ?_
    rintro e3 w3 ht
    have heq : ∃ (b : Bool) (s3 : ByteArray) (fl3 : Bool), e3 = .returned (.bool b) ∧ Prs w3 R s3 fl3 ∧ Mv R (w2.alloc (.cells #[.int .i64 x.op, .string x.name, .slice A x.kids.length c] 29)) w3 ∧ s3.size ≤ s2.size ∧
        (b = true → fl3 = false ∧ s2.data.toList = 41 :: s3.data.toList) ∧ (b = false → fl2 = true ∨ s2.data.toList.head? ≠ some 41) := by
      rcases ht with ⟨rfl, rfl, s3, hs3, h3, m3⟩ | ⟨rfl, hno, h3, m3⟩
      · refine ⟨true, s3, false, rfl, h3, m3, ?_, fun _ => ⟨rfl, hs3⟩, fun h => Bool.noConfusion h⟩
        have := congrArg List.length hs3
        simp at this
        omega
      · exact ⟨false, s2, fl2, rfl, h3, m3, Nat.le_refl _, fun h => Bool.noConfusion h, fun _ => hno⟩
    clear ht t2
    obtain ⟨b, s3, fl3, rfl, h3, m3, hsz3, hb1, hb2⟩ := heq
    have rb3 := (rb2.alloc (.cells #[.int .i64 x.op, .string x.name, .slice A x.kids.length c] 29)).mv m3 (by omega)
    have eb3 := (Own.new w2 29 #[.int .i64 x.op, .string x.name, .slice A x.kids.length c]).mv m3 (by omega)
    have ho3 := (ho.alloc (.cells #[.int .i64 x.op, .string x.name, .slice A x.kids.length c] 29)).mv m3 (fun b hb => by have := hF b hb; omega)
    have m03 := (m02.alloc (.cells #[.int .i64 x.op, .string x.name, .slice A x.kids.length c] 29)).trans m3
    obtain ⟨r0, r1, r2, g0, g1, g2, rl⟩ := rb3.res
    obtain ⟨x0, x1, x2, _, _, _, xl⟩ := eb3.res
    have p1 := h3.cell (i := 1) rfl
    have p2 := h3.frozen 1
    have hFlt : ∀ b ∈ F, w.heap.size < b := fun b hb => by have := hF b hb; omega
    have hFR : ∀ b ∈ F, b ≠ R := fun b hb => by have := hF b hb; omega
    have hsz' : s3.size ≤ s.size := by omega
    cases b
    · have hbad : false = false → ∀ x0 u, Ps .atom s.data.toList x0 u → x0 = x ∧ s3.data.toList = u ∧ true = false := fun _ x0 u hp => by
        rw [hs1] at hp
        obtain ⟨rfl, h5, h6⟩ := hps (by first | rfl | trivial) x0 _ hp.atom_par
        rcases hb2 rfl with h7 | h7
        · rw [h6] at h7; cases h7
        · rw [h5] at h7; exact absurd rfl h7
      have Hbad := Lib.hid hbad
      clear hbad hps hb1 hb2
      go_wp2_with fail
      refine bodyPost_ret (v := .agg #[.int .i64 x.op, .string x.name, .slice A x.kids.length c]) (by simp [results, Tryd.results91, go_sem, r0, r1, r2]) rfl ?_
      exact RetPs.fin hR (ho3.setCell _ _ hFR) hnd hFlt hnm (h3.set 1 (.bool true)) (m03.setR _ _) hsz' (fun _ => Hbad.out (by first | rfl | trivial))
    · obtain ⟨rfl, hs3⟩ := hb1 rfl
      have hgood : false = false → ∀ x0 u, Ps .atom s.data.toList x0 u → x0 = x ∧ s3.data.toList = u ∧ false = false := fun _ x0 u hp => by
        rw [hs1] at hp
        obtain ⟨rfl, h5, h6⟩ := hps (by first | rfl | trivial) x0 _ hp.atom_par
        rw [hs3] at h5
        injection h5 with _ h5
        exact ⟨rfl, h5, rfl⟩
      have Hgood := Lib.hid hgood
      clear hgood hps hb1 hb2 hs3
      go_wp2_with fail
      refine bodyPost_ret (v := .agg #[.int .i64 x.op, .string x.name, .slice A x.kids.length c]) (by simp [results, Tryd.results91, go_sem, r0, r1, r2]) rfl ?_
      exact RetPs.fin hR ho3 hnd hFlt hnm h3 m03 hsz' (fun _ x0 u hp => by obtain ⟨a, b, _⟩ := Hgood.out (by first | rfl | trivial) x0 u hp; exact ⟨a, b, rfl⟩)
  · have rb1 := rb.mv m1 (by omega)
    have m01 := m0.trans m1
    have t2 := take_any _ R s fl 126 hs h1
    clear t1 rb m0 m1
    go_wp2_with fail
    refine t2.mono ?_
    rintro e2 w2 (⟨rfl, rfl, s1, hs1, h2, m2⟩ | ⟨rfl, hno2, h2, m2⟩)
    · have hsg : s.data.toList = sg 6 :: s1.data.toList := hs1
      have rbA := rb1.mv m2 (by omega)
      have mA := m01.trans m2
      have hsz : s1.size < s.size := by
        have := congrArg List.length hs1
        simp at this
        omega
      clear t2 m01 m2 rb1
      go_wp2_with fail
      refine (ihA s1 hsz _ R false h2).mono ?_
      rintro e9 w9 ⟨x, A, c, F, s9, fl9, rfl, ho, hnd, hF, hnm, h9, m9, hsz9, hps⟩
      have rb9 := rbA.mv m9 (by omega)
      have mB := mA.trans m9
      have hltA := rbA.lt
      obtain ⟨r0, r1, r2, g0, g1, g2, rl⟩ := rb9.res
      have hgood : ∀ x0 u, Ps .atom s.data.toList x0 u → x0 = .mk 6 ⟨#[]⟩ [x] ∧ s9.data.toList = u ∧ fl9 = false := fun x0 u hp => by
        rw [hsg] at hp
        obtain ⟨x1, h4, rfl⟩ := Ps.atom_pre (op := 6) (by decide) hp
        obtain ⟨rfl, h5, h6⟩ := hps (by first | rfl | trivial) _ _ h4
        exact ⟨rfl, h5, h6⟩
      have Hgood := Lib.hid hgood
      have hsz' : s9.size ≤ s.size := by omega
      have hFlt : ∀ b ∈ F, w.heap.size < b := fun b hb => by have := hF b hb; omega
      clear hgood hps hs1 hsg
      go_wp2_with fail
      refine bodyPost_ret (v := .agg #[.int .i64 6, .string ⟨#[]⟩, .slice (some ⟨w9.heap.size, 0, none⟩) 1 1]) (by simp [results, Tryd.results91, go_sem, r0, r1, r2, rl, World.cell?_alloc_lt]) rfl ?_
      exact RetPs.fin1 hR ho hnd hFlt hnm rl h9 mB hsz' (fun _ => Hgood.out)
    · have rb2 := rb1.mv m2 (by omega)
      have m02 := m01.trans m2
      have t3 := take_any _ R s fl 43 hs h2
      clear t2 rb1 m01 m2
      go_wp2_with fail
      refine t3.mono ?_
      rintro e3 w3 (⟨rfl, rfl, s1, hs1, h3, m3⟩ | ⟨rfl, hno3, h3, m3⟩)
      · have hsg : s.data.toList = sg 7 :: s1.data.toList := hs1
        have rbA := rb2.mv m3 (by omega)
        have mA := m02.trans m3
        have hsz : s1.size < s.size := by
          have := congrArg List.length hs1
          simp at this
          omega
        clear t3 m02 m3 rb2
        go_wp2_with fail
        refine (ihA s1 hsz _ R false h3).mono ?_
        rintro e9 w9 ⟨x, A, c, F, s9, fl9, rfl, ho, hnd, hF, hnm, h9, m9, hsz9, hps⟩
        have rb9 := rbA.mv m9 (by omega)
        have mB := mA.trans m9
        have hltA := rbA.lt
        obtain ⟨r0, r1, r2, g0, g1, g2, rl⟩ := rb9.res
        have hgood : ∀ x0 u, Ps .atom s.data.toList x0 u → x0 = .mk 7 ⟨#[]⟩ [x] ∧ s9.data.toList = u ∧ fl9 = false := fun x0 u hp => by
          rw [hsg] at hp
          obtain ⟨x1, h4, rfl⟩ := Ps.atom_pre (op := 7) (by decide) hp
          obtain ⟨rfl, h5, h6⟩ := hps (by first | rfl | trivial) _ _ h4
          exact ⟨rfl, h5, h6⟩
        have Hgood := Lib.hid hgood
        have hsz' : s9.size ≤ s.size := by omega
        have hFlt : ∀ b ∈ F, w.heap.size < b := fun b hb => by have := hF b hb; omega
        clear hgood hps hs1 hsg
        go_wp2_with fail
        refine bodyPost_ret (v := .agg #[.int .i64 7, .string ⟨#[]⟩, .slice (some ⟨w9.heap.size, 0, none⟩) 1 1]) (by simp [results, Tryd.results91, go_sem, r0, r1, r2, rl, World.cell?_alloc_lt]) rfl ?_
        exact RetPs.fin1 hR ho hnd hFlt hnm rl h9 mB hsz' (fun _ => Hgood.out)
      · have rb3 := rb2.mv m3 (by omega)
        have m03 := m02.trans m3
        have t4 := name_any _ R s fl hs h3
        clear t3 rb2 m02 m3
        go_wp2_with fail
        refine t4.mono ?_
        rintro e4 w4 ⟨n, s4, rfl, hcat, hlet, hnl, hsum, h4, m4⟩
        have rb4 := rb3.mv m4 (by omega)
        have m04 := m03.trans m4
        obtain ⟨r0, r1, r2, g0, g1, g2, rl⟩ := rb4.res
        have p1 := h4.cell (i := 1) rfl
        have p2 := h4.frozen 1
        have hsz' : s4.size ≤ s.size := by omega
        have hnm : n.size ≤ 300 := by omega
        have hkey : fl = false → ∀ x0 u, Ps .atom s.data.toList x0 u → n.data.toList ≠ [] := fun hf x0 u hp he => by
          obtain ⟨c, t', ht, hc⟩ := hp.atom_none
          rw [he, List.nil_append] at hcat
          rw [ht] at hno hno2 hno3 hcat
          subst hf
          have a1 : c ≠ 40 := fun e => by rcases hno with h | h; cases h; exact h (by rw [e]; rfl)
          have a2 : c ≠ sg 6 := fun e => by rcases hno2 with h | h; cases h; exact h (by rw [e]; rfl)
          have a3 : c ≠ sg 7 := fun e => by rcases hno3 with h | h; cases h; exact h (by rw [e]; rfl)
          rcases hc with h | h | h | h
          · exact a1 h
          · exact a2 h
          · exact a3 h
          · rw [← hcat] at hnl; exact hnl h
        have hgood : fl = false → ∀ x0 u, Ps .atom s.data.toList x0 u → x0 = .mk 1 n [] ∧ s4.data.toList = u := fun hf x0 u hp => by
          have hne := hkey hf x0 u hp
          rw [hcat] at hp
          obtain ⟨rfl, rfl⟩ := hp.atom_name hne hlet hnl
          rw [toArray_data']
          exact ⟨rfl, rfl⟩
        have Hkey := Lib.hid hkey
        have Hgood := Lib.hid hgood
        clear hkey hgood t4 rb3 m03 m4 hno hno2 hno3 hcat hlet hnl
        by_cases hn0 : n.size = 0
        · have hn : n = ⟨#[]⟩ := by
            have : n = ByteArray.empty := by simpa using hn0
            exact this
          subst hn
          go_wp2_with fail
          refine bodyPost_ret (v := .agg #[.int .i64 1, .string ⟨#[]⟩, .slice none 0 0]) (by simp [results, Tryd.results91, go_sem, r0, r1, r2]) rfl ?_
          exact RetPs.fin (x := .mk 1 ⟨#[]⟩ []) hR .nil List.nodup_nil (fun b hb => by cases hb) hnm (h4.set 1 (.bool true)) (m04.setR _ _) hsz' (fun hf x0 u hp => absurd rfl (Hkey.out hf x0 u hp))
        · have hne : n ≠ ⟨#[]⟩ := fun e => hn0 (by rw [e]; rfl)
          have hnb := str_ne_nil hne
          go_wp2_with fail
          refine bodyPost_ret (v := .agg #[.int .i64 1, .string n, .slice none 0 0]) (by simp [results, Tryd.results91, go_sem, r0, r1, r2]) rfl ?_
          exact RetPs.fin (x := .mk 1 n []) hR .nil List.nodup_nil (fun b hb => by cases hb) hnm h4 m04 hsz' (fun hf x0 u hp => ⟨(Hgood.out hf x0 u hp).1, (Hgood.out hf x0 u hp).2, hf⟩)

end Go.Proofs.YtapelogbceoojaaDoor

/-! The walk of the parser's level. -/
namespace Go.Proofs.YtapelogbceoojaaDoor
open Go.RowKit
set_option linter.unusedVariables false
set_option maxRecDepth 100000

theorem sgn_size {o : Int} (h1 : 2 ≤ o) (h2 : o ≤ 5) : 0 < (sgn o).size := by
  have h : o = 2 ∨ o = 3 ∨ o = 4 ∨ o = 5 := by omega
  rcases h with rfl | rfl | rfl | rfl <;> decide
theorem sgn_sg {o : Int} (h1 : 2 ≤ o) (h2 : o ≤ 5) : (sgn o)[0]'(sgn_size h1 h2) = sg o := by
  have h : o = 2 ∨ o = 3 ∨ o = 4 ∨ o = 5 := by omega
  rcases h with rfl | rfl | rfl | rfl <;> rfl

/-- The search for an operation has come to i: none yet, or one taken. -/
def OpAt (l : Nat) (wr : World) (R : Nat) (s1 : ByteArray) (fl1 : Bool) (i : Nat) (op : Int) : Prop :=
  (op = 0 ∧ Prs wr R s1 fl1 ∧ ∀ o : Int, 2 ≤ o → o < i + 2 → lvl o = (l + 1 : Nat) → fl1 = true ∨ s1.data.toList.head? ≠ some (sg o)) ∨
  (2 ≤ op ∧ op ≤ 5 ∧ lvl op = (l + 1 : Nat) ∧ fl1 = false ∧ ∃ s2 : ByteArray, s1.data.toList = sg op :: s2.data.toList ∧ Prs wr R s2 false)

set_option maxHeartbeats 2000000 in
theorem lev_of (s : ByteArray) (hs : s.size ≤ 300) (l : Nat) (hl : l ≤ 2)
    (ihL : ∀ s1 : ByteArray, s1.size < s.size → ∀ w R fl, Prs w R s1 fl → Calls Tryd.prog 63 #[.pointer (some ⟨R, 0, none⟩), .int .i64 (l : Int)] w (RetPs (.lev l) w R s1 fl))
    (ih : ∀ w R fl, Prs w R s fl → Calls Tryd.prog 63 #[.pointer (some ⟨R, 0, none⟩), .int .i64 (l : Int)] w (RetPs (.lev l) w R s fl))
    (w : World) (R : Nat) (fl : Bool) (h : Prs w R s fl) : Calls Tryd.prog 63 #[.pointer (some ⟨R, 0, none⟩), .int .i64 ((l : Int) + 1)] w (RetPs (.lev (l + 1)) w R s fl) := by
  have hR := h.lt
  have rb := Own.new w 29 #[.int .i64 0, .string ByteArray.empty, .slice none 0 0]
  have t1 := ih _ R fl (h.alloc (.cells #[.int .i64 0, .string ByteArray.empty, .slice none 0 0] 29))
  have m0 : Mv R w (w.alloc (.cells #[.int .i64 0, .string ByteArray.empty, .slice none 0 0] 29)) := (Mv.refl _ _).alloc _
  have hl0 : ((l : Int) + 1 == 0) = false := by rw [beq_eq_false_iff_ne]; omega
  have hl1 : (l : Int) + 1 - 1 = l := by omega
  go_enter Tryd.func63, Tryd.ntmps63
  go_wp2_with fail
  refine t1.mono ?_
  rintro e1 w1 ⟨x, A, c, F, s1, fl1, rfl, ho, hnd, hF, hnm, h1, m1, hsz1, hps⟩
  have rb1 := rb.mv m1 (by omega)
  have m01 := m0.trans m1
  have hFlt : ∀ b ∈ F, w.heap.size < b := fun b hb => by have := hF b hb; simp at this; omega
  have eb := Own.new w1 29 #[.int .i64 x.op, .string x.name, .slice A x.kids.length c]
  have hz1 := m01.size
  have hltb := rb1.lt
  clear t1 rb m0 m1 hF
  have hstart : fl = false → ∀ x0 u, Ps (.lev (l + 1)) s.data.toList x0 u → Ps (.loop (l + 1) x) s1.data.toList x0 u ∧ fl1 = false := fun hf x0 u hp => by
    obtain ⟨e, v, h3, h4⟩ := hp.lev_succ
    obtain ⟨rfl, rfl, h5⟩ := hps hf _ _ h3
    exact ⟨h4, h5⟩
  have Hstart := Lib.hid hstart
  clear hstart hps
  go_wp2_with fail
  go_loopg [6] s1.size (fun g s6 wr => ∃ (x : RE) (A : Option Addr) (c : Nat) (F : List Nat) (s2 : ByteArray) (fl2 : Bool), g = s2.size ∧ OwE wr (.slice A x.kids.length c) x.kids F ∧ F.Nodup ∧ (∀ b ∈ F, w.heap.size < b ∧ b ≠ w1.heap.size) ∧ x.name.size ≤ 300 ∧ Prs wr R s2 fl2 ∧ Mv R w wr ∧
    Own wr w.heap.size 29 #[.int .i64 0, .string ByteArray.empty, .slice none 0 0] ∧ Own wr w1.heap.size 29 #[.int .i64 x.op, .string x.name, .slice A x.kids.length c] ∧ s2.size ≤ s.size ∧
    Hid (fl = false → ∀ x0 u, Ps (.lev (l + 1)) s.data.toList x0 u → Ps (.loop (l + 1) x) s2.data.toList x0 u ∧ fl2 = false))
  case atStart => exact ⟨x, A, c, F, s1, fl1, rfl, ho.alloc _, hnd, fun b hb => ⟨hFlt b hb, by have := ho.lt b hb; omega⟩, hnm, h1.alloc _, m01.alloc _, rb1.alloc _, eb, hsz1, Hstart⟩
  case round =>
    clear Hstart ho hnd hFlt hnm h1 m01 rb1 eb hsz1
    obtain ⟨x, A, c, F, s2, fl2, rfl, ho, hnd, hF, hnm, h2, m2, rb2, eb2, hsz2, hsp⟩ := hrel
    obtain ⟨W, hW⟩ : ∃ W, W = wr := ⟨_, rfl⟩
    subst hW
    have ops := Own.new W 3 #[.int .i64 2, .int .i64 3, .int .i64 4, .int .i64 5]
    have hRr := h2.lt
    have hrb := rb2.lt
    have heb := eb2.lt
    go_wp2_with fail
    go_loopg [6, 22] 4 (fun g s6 s22 wi => ∃ (i : Nat) (op : Int), i ≤ 4 ∧ g = 4 - i ∧ s22 = .int .i64 i ∧ s6 = .int .i64 op ∧ OpAt l wi R s2 fl2 i op ∧ Mv R (W.alloc (.cells #[.int .i64 2, .int .i64 3, .int .i64 4, .int .i64 5] 3)) wi)
    case atStart => exact ⟨0, 0, by omega, rfl, rfl, rfl, Or.inl ⟨rfl, h2.alloc _, fun o h1 h2 => by omega⟩, Mv.refl _ _⟩
    case round =>
      obtain ⟨i, op, hi4, rfl, rfl, rfl, hat, mi⟩ := hrel
      by_cases hi : i < 4
      · have oc : wr.cell? ⟨W.heap.size, i, none⟩ = some (.int .i64 ((i : Int) + 2)) := (ops.mv mi (by omega)).cell (by
          match i, hi with
          | 0, _ => rfl
          | 1, _ => rfl
          | 2, _ => rfl
          | 3, _ => rfl)
        have hii : (i : Int) < 4 := by omega
        rcases hat with ⟨rfl, h3, hno⟩ | ⟨ho2, ho5, hol, rfl, s3, hs3, h3⟩
        · by_cases hlv : lvl ((i : Int) + 2) = (l + 1 : Nat)
          · have blv : (lvl ((i : Int) + 2) == (l : Int) + 1) = true := by rw [beq_iff_eq]; omega
            have hsz := sgn_size (o := (i : Int) + 2) (by omega) (by omega)
            have hszi : (0 : Int) < ((sgn ((i : Int) + 2)).size : Int) := by omega
            have hsg := sgn_sg (o := (i : Int) + 2) (by omega) (by omega)
            have tk := take_any wr R s2 fl2 (sg ((i : Int) + 2)) (by omega) h3
            go_wp2_with fail
            refine (relLevel_any _ _).mono ?_
            rintro e3 w3 ⟨rfl, rfl⟩
            go_wp2_with fail
            refine tk.mono ?_
            rintro e4 w4 (⟨rfl, rfl, s3, hs3, h4, m4⟩ | ⟨rfl, hno4, h4, m4⟩)
            · go_wp2_with fail
              go_roundg (4 - (i + 1))
              case measure => omega
              case rel => exact ⟨i + 1, _, by omega, rfl, by go_num, rfl, Or.inr ⟨by omega, by omega, hlv, rfl, s3, hs3, h4⟩, mi.trans m4⟩
            · go_wp2_with fail
              go_roundg (4 - (i + 1))
              case measure => omega
              case rel =>
                refine ⟨i + 1, 0, by omega, rfl, by go_num, rfl, Or.inl ⟨rfl, h4, fun o g1 g2 g3 => ?_⟩, mi.trans m4⟩
                by_cases he : o = (i : Int) + 2
                · subst he
                  exact hno4
                · exact hno o g1 (by omega) g3
          · have blv : (lvl ((i : Int) + 2) == (l : Int) + 1) = false := by rw [beq_eq_false_iff_ne]; omega
            go_wp2_with fail
            refine (relLevel_any _ _).mono ?_
            rintro e3 w3 ⟨rfl, rfl⟩
            go_wp2_with fail
            go_roundg (4 - (i + 1))
            case measure => omega
            case rel =>
              refine ⟨i + 1, 0, by omega, rfl, by go_num, rfl, Or.inl ⟨rfl, h3, fun o g1 g2 g3 => ?_⟩, mi⟩
              by_cases he : o = (i : Int) + 2
              · subst he
                exact absurd g3 hlv
              · exact hno o g1 (by omega) g3
        · have bop : (op == 0) = false := by rw [beq_eq_false_iff_ne]; omega
          go_wp2_with fail
          refine (relLevel_any _ _).mono ?_
          rintro e3 w3 ⟨rfl, rfl⟩
          go_wp2_with fail
          go_roundg (4 - (i + 1))
          case measure => omega
          case rel => exact ⟨i + 1, op, by omega, rfl, by go_num, rfl, Or.inr ⟨ho2, ho5, hol, rfl, s3, hs3, h3⟩, mi⟩
      · obtain rfl : i = 4 := by omega
        rcases hat with ⟨rfl, h3, hno⟩ | ⟨ho2, ho5, hol, rfl, s3, hs3, h3⟩
        · have rb3 := (rb2.alloc _).mv mi (by omega)
          have eb3 := (eb2.alloc _).mv mi (by omega)
          have ho3 := (ho.alloc _).mv mi (fun b hb => by have := hF b hb; omega)
          have m3 := (m2.alloc _).trans mi
          obtain ⟨r0, r1, r2, g0, g1, g2, rl⟩ := rb3.res
          obtain ⟨x0, x1, x2, _, _, _, xl⟩ := eb3.res
          go_wp2_with fail
          refine bodyPost_ret (v := .agg #[.int .i64 x.op, .string x.name, .slice A x.kids.length c]) (by simp [results, Tryd.results63, go_sem, r0, r1, r2]) rfl ?_
          refine RetPs.fin hR ho3 hnd (fun b hb => (hF b hb).1) hnm h3 m3 hsz2 (fun hf x0 u hp => ?_)
          obtain ⟨h5, h6⟩ := hsp.out hf x0 u hp
          obtain ⟨rfl, rfl⟩ := h5.loop_done (fun o g1 g2 g3 => by
            rcases hno o g1 (by omega) g3 with h | h
            · rw [h6] at h; cases h
            · exact h)
          exact ⟨rfl, rfl, h6⟩
        · have bop : (op == 0) = false := by rw [beq_eq_false_iff_ne]; omega
          have hlt3 : s3.size < s2.size := by
            have := congrArg List.length hs3
            simp at this
            omega
          have rb3 := (rb2.alloc _).mv mi (by omega)
          have eb3 := (eb2.alloc _).mv mi (by omega)
          have ho3 := (ho.alloc _).mv mi (fun b hb => by have := hF b hb; omega)
          have m3 := (m2.alloc _).trans mi
          obtain ⟨x0, x1, x2, y0, y1, y2, xl⟩ := eb3.res
          have hz3 := m3.size
          have hwl : IntKind.i64.wrap (l : Int) = l := by
            have h : l = 0 ∨ l = 1 ∨ l = 2 := by omega
            rcases h with rfl | rfl | rfl <;> rfl
          have ihs := ihL s3 (by omega) wr.drew R false h3.drew
          have Eb3 := Lib.hid eb3
          clear ops mi h2 rb2 eb2 m2 ho eb3
          go_wp2_with fail
          go_region_with (first
            | (go_at_call 63; ((with_reducible refine ihs.mono ?_); rintro e5 w5 ⟨y, A', c', F', s5, fl5, rfl, hoy, hndy, hFy, hny, h5, m5, hs5, hpy⟩; obtain ⟨z0, z1, z2, u0, u1, u2, zl⟩ := (Own.mv Eb3.out.drew m5 (by omega)).res)))
          all_goals
            have hFy' : ∀ b ∈ F', wr.heap.size ≤ b := hFy
            have m35 := m3.drew.trans m5
            have hz5 : wr.heap.size ≤ w5.heap.size := m5.size
            have hFz : ∀ b ∈ F, b < wr.heap.size := ho3.lt
            have ho5' : OwE w5 (.slice A x.kids.length c) x.kids F := (show OwE wr.drew (.slice A x.kids.length c) x.kids F from ho3.of_blocks fun b _ => rfl).mv m5 (fun b hb => by have := hF b hb; omega)
            have hE1 : ∀ b ∈ F, b ≠ w1.heap.size := fun b hb => (hF b hb).2
            have hE2 : ∀ b ∈ F', b ≠ w1.heap.size := fun b hb => by have := hFy' b hb; omega
            have two := ((((ho5'.setCell ⟨w1.heap.size, 0, none⟩ (.int .i64 op) hE1).setCell ⟨w1.heap.size, 1, none⟩ (.string ⟨#[]⟩) hE1).setCell ⟨w1.heap.size, 2, none⟩ (.slice (some ⟨w5.heap.size, 0, none⟩) 2 2) hE1)).two
              (((hoy.setCell ⟨w1.heap.size, 0, none⟩ (.int .i64 op) hE2).setCell ⟨w1.heap.size, 1, none⟩ (.string ⟨#[]⟩) hE2).setCell ⟨w1.heap.size, 2, none⟩ (.slice (some ⟨w5.heap.size, 0, none⟩) 2 2) hE2) (by omega) (by omega)
            rw [size_set3] at two
            have hnd2 : (w5.heap.size :: (F ++ F')).Nodup := List.nodup_cons.2 ⟨fun hb => by
                rcases List.mem_append.1 hb with hb | hb
                · have := hFz _ hb; omega
                · have := hoy.lt _ hb; omega, List.nodup_append.2 ⟨hnd, hndy, fun a ha b hb e => by have h1 := hFz a ha; have h2 := hFy' b hb; omega⟩⟩
            have hF2 : ∀ b ∈ (w5.heap.size :: (F ++ F')), w.heap.size < b ∧ b ≠ w1.heap.size := fun b hb => by
              rcases List.mem_cons.1 hb with rfl | hb
              · omega
              · rcases List.mem_append.1 hb with hb | hb
                · exact hF b hb
                · have := hFy' b hb; omega
            have P5 : Prs ((((w5.setCell ⟨w1.heap.size, 0, none⟩ (.int .i64 op)).setCell ⟨w1.heap.size, 1, none⟩ (.string ⟨#[]⟩)).setCell ⟨w1.heap.size, 2, none⟩ (.slice (some ⟨w5.heap.size, 0, none⟩) 2 2))) R s5 fl5 :=
              ((h5.far (by show R ≠ w1.heap.size; omega) _).far (by show R ≠ w1.heap.size; omega) _).far (by show R ≠ w1.heap.size; omega) _
            have M5 : Mv R w ((((w5.setCell ⟨w1.heap.size, 0, none⟩ (.int .i64 op)).setCell ⟨w1.heap.size, 1, none⟩ (.string ⟨#[]⟩)).setCell ⟨w1.heap.size, 2, none⟩ (.slice (some ⟨w5.heap.size, 0, none⟩) 2 2))) :=
              ((m35.setNew (by show w.heap.size ≤ w1.heap.size; omega) _).setNew (by show w.heap.size ≤ w1.heap.size; omega) _).setNew (by show w.heap.size ≤ w1.heap.size; omega) _
            have R5 := (((show Own wr.drew w.heap.size _ _ from rb3).mv m5 (by omega)).far (by show w.heap.size ≠ w1.heap.size; omega) (a := ⟨w1.heap.size, 0, none⟩) (.int .i64 op)).far (by show w.heap.size ≠ w1.heap.size; omega) (a := ⟨w1.heap.size, 1, none⟩) (.string ⟨#[]⟩) |>.far (by show w.heap.size ≠ w1.heap.size; omega) (a := ⟨w1.heap.size, 2, none⟩) (.slice (some ⟨w5.heap.size, 0, none⟩) 2 2)
            have E5 := ((((show Own wr.drew w1.heap.size _ _ from Eb3.out).mv m5 (by omega)).set 0 (.int .i64 op)).set 1 (.string ⟨#[]⟩)).set 2 (.slice (some ⟨w5.heap.size, 0, none⟩) 2 2)
            have hspec : fl = false → ∀ x0 u, Ps (.lev (l + 1)) s.data.toList x0 u → Ps (.loop (l + 1) (.mk op ⟨#[]⟩ [x, y])) s5.data.toList x0 u ∧ fl5 = false := fun hf x0 u hp => by
              obtain ⟨g1, g2⟩ := hsp.out hf x0 u hp
              rw [hs3] at g1
              obtain ⟨e2, v, g3, g4⟩ := g1.loop_more ho2 ho5 hol
              obtain ⟨rfl, rfl, g5⟩ := hpy (by first | rfl | trivial) _ _ g3
              exact ⟨g4, g5⟩
            have Hspec := Lib.hid hspec
            have Two := Lib.hid two
            have hlt5 : s5.size < s2.size := by omega
            have hle5 : s5.size ≤ s.size := by omega
            clear hspec two hpy hsp m5 z0 z1 z2 u0 u1 u2 x0 x1 x2 y0 y1 y2 hoy ho5' hFy
            go_wp2_with fail
            go_roundg s5.size
            case measure => omega
            case rel => exact ⟨.mk op ⟨#[]⟩ [x, y], _, 2, _, s5, fl5, rfl, Two.out, hnd2, hF2, (by show ByteArray.size ⟨#[]⟩ ≤ 300; decide), P5.alloc _, M5.alloc _, R5.alloc _, E5.alloc _, hle5, Hspec⟩

end Go.Proofs.YtapelogbceoojaaDoor

/-! The parser's walks joined: atom and level at every text. -/
namespace Go.Proofs.YtapelogbceoojaaDoor
open Go.RowKit
set_option linter.unusedVariables false
set_option maxRecDepth 100000

set_option maxHeartbeats 1000000 in
theorem lev_zero_of (s : ByteArray) (hs : s.size ≤ 300)
    (ihA : ∀ w R fl, Prs w R s fl → Calls Tryd.prog 91 #[.pointer (some ⟨R, 0, none⟩)] w (RetPs .atom w R s fl))
    (w : World) (R : Nat) (fl : Bool) (h : Prs w R s fl) : Calls Tryd.prog 63 #[.pointer (some ⟨R, 0, none⟩), .int .i64 0] w (RetPs (.lev 0) w R s fl) := by
  have hR := h.lt
  have rb := Own.new w 29 #[.int .i64 0, .string ByteArray.empty, .slice none 0 0]
  have t1 := ihA _ R fl (h.alloc (.cells #[.int .i64 0, .string ByteArray.empty, .slice none 0 0] 29))
  have m0 : Mv R w (w.alloc (.cells #[.int .i64 0, .string ByteArray.empty, .slice none 0 0] 29)) := (Mv.refl _ _).alloc _
  go_enter Tryd.func63, Tryd.ntmps63
  go_wp2_with fail
  refine t1.mono ?_
  rintro e1 w1 ⟨x, A, c, F, s1, fl1, rfl, ho, hnd, hF, hnm, h1, m1, hsz1, hps⟩
  have rb1 := rb.mv m1 (by omega)
  have m01 := m0.trans m1
  have hFlt : ∀ b ∈ F, w.heap.size < b := fun b hb => by have := hF b hb; simp at this; omega
  obtain ⟨r0, r1, r2, g0, g1, g2, rl⟩ := rb1.res
  clear t1 rb m0 m1 hF
  go_wp2_with fail
  refine bodyPost_ret (v := .agg #[.int .i64 x.op, .string x.name, .slice A x.kids.length c]) (by simp [results, Tryd.results63, go_sem, r0, r1, r2]) rfl ?_
  exact RetPs.fin hR ho hnd hFlt hnm h1 m01 hsz1 (fun hf x0 u hp => hps hf x0 u hp.lev_zero)

theorem pars_all (N : Nat) : ∀ s : ByteArray, s.size = N → s.size ≤ 300 →
    (∀ w R fl, Prs w R s fl → Calls Tryd.prog 91 #[.pointer (some ⟨R, 0, none⟩)] w (RetPs .atom w R s fl)) ∧
    ∀ l : Nat, l ≤ 3 → ∀ w R fl, Prs w R s fl → Calls Tryd.prog 63 #[.pointer (some ⟨R, 0, none⟩), .int .i64 (l : Int)] w (RetPs (.lev l) w R s fl) := by
  induction N using Nat.strongRecOn with
  | _ N ih =>
    intro s hN hs
    have smA := fun (s1 : ByteArray) (h : s1.size < s.size) => (ih s1.size (by omega) s1 rfl (by omega)).1
    have smL := fun (s1 : ByteArray) (h : s1.size < s.size) => (ih s1.size (by omega) s1 rfl (by omega)).2
    have hA := atom_of s hs (fun s1 h => smL s1 h 3 (by omega)) smA
    have h0 := lev_zero_of s hs hA
    have h1 := lev_of s hs 0 (by omega) (fun s1 h => smL s1 h 0 (by omega)) h0
    have h2 := lev_of s hs 1 (by omega) (fun s1 h => smL s1 h 1 (by omega)) h1
    have h3 := lev_of s hs 2 (by omega) (fun s1 h => smL s1 h 2 (by omega)) h2
    refine ⟨hA, fun l hl => ?_⟩
    match l, hl with
    | 0, _ => exact h0
    | 1, _ => exact h1
    | 2, _ => exact h2
    | 3, _ => exact h3

end Go.Proofs.YtapelogbceoojaaDoor

/-! The walk of impl.ParseRelExpr. -/
namespace Go.Proofs.YtapelogbceoojaaDoor
open Go.RowKit
set_option linter.unusedVariables false
set_option maxRecDepth 100000

/-- What reading a text comes to: the valid expression with that text, or nothing. -/
def Read (t : ByteArray) (x : RE) (b : Bool) : Prop := (b = true ∧ Val x ∧ ct x = t) ∨ (b = false ∧ x = .mk 0 ⟨#[]⟩ [] ∧ ∀ y, Val y → ct y ≠ t)
theorem Read.uniq {t : ByteArray} {x y : RE} {a b : Bool} (h : Read t x a) (k : Read t y b) : x = y ∧ a = b := by
  rcases h with ⟨rfl, h1, h2⟩ | ⟨rfl, rfl, h2⟩ <;> rcases k with ⟨rfl, k1, k2⟩ | ⟨rfl, rfl, k2⟩
  · exact ⟨ct_inj h1 k1 (h2.trans k2.symm), rfl⟩
  · exact absurd h2 (k2 _ h1)
  · exact absurd k2 (h2 _ k1)
  · exact ⟨rfl, rfl⟩
def RetRead (w : World) (t : ByteArray) (e : Ending) (w' : World) : Prop :=
  ∃ (x : RE) (b : Bool) (A : Option Addr) (k : Nat) (F : List Nat), e = .returned (.tuple #[.agg #[.int .i64 x.op, .string x.name, .slice A x.kids.length k], .bool b]) ∧ Read t x b ∧ OwE w' (.slice A x.kids.length k) x.kids F ∧ F.Nodup ∧ (∀ b ∈ F, w.heap.size ≤ b) ∧ x.name.size ≤ 300 ∧ Below w.heap.size w w'

/-- A valid expression's text is short. -/
theorem size_tx4 (m : Nat) : ∀ e : RE, Shp m e → ∀ most : Int, 0 ≤ most → (tx e most).size ≤ 4 * cntE e + 1 ∧ (ct e).size + (if 0 < lvl e.op then 2 else 0) ≤ 4 * cntE e + 1 := by
  have key : ∀ e : RE, (ct e).size + (if 0 < lvl e.op then 2 else 0) ≤ 4 * cntE e + 1 → ∀ most : Int, 0 ≤ most → (tx e most).size ≤ 4 * cntE e + 1 := by
    intro e h most hm
    by_cases hl : most < lvl e.op
    · rw [if_pos (by omega)] at h
      rw [tx_pos hl]
      simp only [ByteArray.size_append, ByteArray.size_mk']
      simp
      omega
    · rw [tx_neg hl]
      omega
  induction m with
  | zero => intro e h; exact h.elim
  | succ m ih =>
    intro e h most hm
    suffices hc : (ct e).size + (if 0 < lvl e.op then 2 else 0) ≤ 4 * cntE e + 1 from ⟨key e hc most hm, hc⟩
    obtain ⟨op, name, kids⟩ := e
    obtain ⟨⟨h1, h2, h3⟩, h4⟩ := h
    simp only [RE.op, RE.name, RE.kids] at h1 h2 h3 h4 ⊢
    match kids, h1, h4 with
    | [], h1, _ =>
      have ho : op = 1 := by rcases kidsI_cases h1 with ⟨h, _⟩ | ⟨_, h⟩ | ⟨_, h⟩ <;> first | exact h | simp at h
      subst ho
      have hn := size_nm (h2.1 rfl)
      rw [cntE, cntL, ct]
      show name.size + (if 0 < lvl 1 then 2 else 0) ≤ _
      rw [if_neg (by decide)]
      omega
    | [a], h1, h4 =>
      have ho : op = 6 ∨ op = 7 := by rcases kidsI_cases h1 with ⟨_, h⟩ | ⟨h, _⟩ | ⟨_, h⟩ <;> first | exact h | simp at h
      have ha := (ih a (h4 a (by simp)) 0 (by omega)).1
      have e1 : ct (.mk op name [a]) = sgn op ++ tx a 0 := by rw [ct]; rfl
      have hs := size_sgn op
      have hl0 : ¬ 0 < lvl op := by rcases ho with h | h <;> (rw [h]; decide)
      show (ct (.mk op name [a])).size + (if 0 < lvl op then 2 else 0) ≤ _
      rw [cntE, cntL, cntL, e1, ByteArray.size_append, if_neg hl0]
      omega
    | [a, b], h1, h4 =>
      have ho : op = 2 ∨ op = 3 ∨ op = 4 ∨ op = 5 := by rcases kidsI_cases h1 with ⟨_, h⟩ | ⟨_, h⟩ | ⟨h, _⟩ <;> first | exact h | simp at h
      have hl : 1 ≤ lvl op := by rcases ho with rfl | rfl | rfl | rfl <;> decide
      have ha := (ih a (h4 a (by simp)) (lvl op) (by omega)).1
      have hb := (ih b (h4 b (by simp)) (lvl op - 1) (by omega)).1
      have e1 : ct (.mk op name [a, b]) = tx a (lvl op) ++ sgn op ++ tx b (lvl op - 1) := by rw [ct]; rfl
      have hs := size_sgn op
      have hl0 : 0 < lvl op := by omega
      show (ct (.mk op name [a, b])).size + (if 0 < lvl op then 2 else 0) ≤ _
      rw [cntE, cntL, cntL, cntL, e1, ByteArray.size_append, ByteArray.size_append, if_pos hl0]
      omega
    | _ :: _ :: _ :: _, h1, _ =>
      simp only [List.length_cons] at h1
      rcases kidsI_cases h1 with ⟨_, h⟩ | ⟨_, h⟩ | ⟨_, h⟩ <;> omega
theorem ct_size {x : RE} (h : Val x) : (ct x).size ≤ 161 := by
  have h1 := (size_tx4 12 x h.1 0 (by omega)).2
  have h2 := h.2
  omega

theorem ct_ne {y : RE} (h : Val y) : ct y ≠ ⟨#[]⟩ := fun e => by
  have h1 := read_back h
  rw [e] at h1
  obtain ⟨e1, u1, h2, _⟩ := h1.lev_succ
  obtain ⟨e2, u2, h3, _⟩ := h2.lev_succ
  obtain ⟨e3, u3, h4, _⟩ := h3.lev_succ
  obtain ⟨c, t', h5, _⟩ := h4.lev_zero.atom_none
  cases h5
theorem RetRead.fail {w W : World} {t : ByteArray} (hb : Below w.heap.size w W) (hn : ∀ y, Val y → ct y ≠ t) : RetRead w t (.returned (.tuple #[.agg #[.int .i64 0, .string ⟨#[]⟩, .slice none 0 0], .bool false])) W :=
  ⟨.mk 0 ⟨#[]⟩ [], false, none, 0, [], rfl, Or.inr ⟨rfl, rfl, hn⟩, .nil, List.nodup_nil, (fun b hb => by cases hb), (by show ByteArray.size ⟨#[]⟩ ≤ 300; decide), hb⟩

set_option maxHeartbeats 2000000 in
theorem parse_any (t : ByteArray) (w : World) (hg : GN w) : Calls Tryd.prog 29 #[.string t] w (RetRead w t) := by
  have rb := Own.new w 29 #[.int .i64 0, .string ByteArray.empty, .slice none 0 0]
  go_enter Tryd.func29, Tryd.ntmps29
  by_cases hsz : (300 : Int) < (t.size : Int)
  · have hd : decide ((t.size : Int) > 300) = true := by simpa using hsz
    go_wp2_with fail
    refine bodyPost_ret (v := .tuple #[.agg #[.int .i64 0, .string ⟨#[]⟩, .slice none 0 0], .bool false]) (by simp [results, Tryd.results29, go_sem]) rfl ?_
    refine ⟨.mk 0 ⟨#[]⟩ [], false, none, 0, [], rfl, Or.inr ⟨rfl, rfl, fun y hy e => ?_⟩, .nil, List.nodup_nil, (fun b hb => by cases hb), (by show ByteArray.size ⟨#[]⟩ ≤ 300; decide), (Below.refl _ _).alloc (Nat.le_refl _) _⟩
    have := ct_size hy
    rw [e] at this
    omega
  · have hd : decide ((t.size : Int) > 300) = false := by simpa using hsz
    have pr := Own.new (w.alloc (.cells #[.int .i64 0, .string ByteArray.empty, .slice none 0 0] 29)) 82 #[.string t, .bool false]
    rw [World.size_alloc] at pr
    have hp := (pars_all t.size t rfl (by omega)).2 3 (by omega) _ _ false pr
    have rb1 := rb.alloc (.cells #[.string t, .bool false] 82)
    go_wp2_with fail
    refine hp.mono ?_
    rintro e1 w1 ⟨x, A, c, F, s1, fl1, rfl, ho, hnd, hF, hnm, h1, m1, hsz1, hps⟩
    have hb1 : Below w.heap.size w w1 := (((Below.refl _ _).alloc (Nat.le_refl _) _).alloc (by simp) _).trans (m1.below (by omega) (by simp; omega))
    have rb2 := rb1.mv m1 (by omega)
    have hkey : ∀ y, Val y → ct y = t → y = x ∧ s1 = ⟨#[]⟩ ∧ fl1 = false := fun y hy e => by
      have h2 := read_back hy
      rw [e] at h2
      obtain ⟨h3, h4, h5⟩ := hps (by first | rfl | trivial) _ _ h2
      exact ⟨h3, ByteArray.ext (by rw [← Array.toList_inj, h4]), h5⟩
    have Hkey := Lib.hid hkey
    have hgb := hg.le (Le.below hb1)
    clear hkey hps hp rb rb1 pr m1
    have p0 := h1.cell (i := 0) rfl
    have p1 := h1.cell (i := 1) rfl
    have plt := h1.lt
    obtain ⟨r0, r1, r2, g0, g1, g2, rl⟩ := rb2.res
    cases fl1
    case true =>
      go_wp2_with fail
      refine bodyPost_ret (v := .tuple #[.agg #[.int .i64 0, .string ⟨#[]⟩, .slice none 0 0], .bool false]) (by simp [results, Tryd.results29, go_sem, r0, r1, r2, rl, World.cell?_alloc_lt]) rfl ?_
      refine RetRead.fail ?_ (fun y hy e => by have := (Hkey.out y hy e).2.2; cases this)
      repeat (first | exact hb1 | refine Below.alloc ?_ (by simp <;> omega) _ | refine Below.setCell ?_ (by simp <;> omega) _)
    case false =>
      by_cases hs1 : s1 = ⟨#[]⟩
      · subst hs1
        by_cases ht : t = ⟨#[]⟩
        · subst ht
          go_wp2_with fail
          refine bodyPost_ret (v := .tuple #[.agg #[.int .i64 0, .string ⟨#[]⟩, .slice none 0 0], .bool false]) (by simp [results, Tryd.results29, go_sem, r0, r1, r2, rl, World.cell?_alloc_lt]) rfl ?_
          refine RetRead.fail ?_ (fun y hy e => ct_ne hy e)
          repeat (first | exact hb1 | refine Below.alloc ?_ (by simp <;> omega) _ | refine Below.setCell ?_ (by simp <;> omega) _)
        · have hne := str_ne_nil ht
          have hrep : RepK w1 A c x := ⟨by omega, RepEs.le (ho.rep (B := 0) (fun b hb => Nat.zero_le _)) (Le.above _ _)⟩
          go_wp2_with fail
          refine (format_any x _ A c (hgb.le (Le.alloc _ _)) (hrep.le (Le.alloc _ _))).mono ?_
          rintro e2 w2 ⟨rfl, hb2⟩
          have B2 : Below w.heap.size w w2 := (hb1.alloc hb1.size _).trans (hb2.mono (by have := hb1.size; simp; omega))
          have eb2 := ((Own.new w1 29 #[.int .i64 x.op, .string x.name, .slice A x.kids.length c]).under hb2).res
          obtain ⟨x0, x1, x2, _, _, _, xl⟩ := eb2
          obtain ⟨q0, q1, q2, f0, f1, f2, ql⟩ := ((rb2.alloc (.cells #[.int .i64 x.op, .string x.name, .slice A x.kids.length c] 29)).under hb2).res
          have ho2 := (ho.alloc (.cells #[.int .i64 x.op, .string x.name, .slice A x.kids.length c] 29)).of_blocks (fun b hb => hb2.block b ((ho.alloc (.cells #[.int .i64 x.op, .string x.name, .slice A x.kids.length c] 29)).lt b hb))
          have hFlt : ∀ b ∈ F, w.heap.size < b := fun b hb => by have := hF b hb; simp at this; omega
          have hFne : ∀ b ∈ F, b ≠ w.heap.size := fun b hb => by have := hFlt b hb; omega
          clear hrep hb2 r0 r1 r2 g0 g1 g2 rl p0 p1 plt
          by_cases hfm : fmt x = t
          · have hsb := str_eq_true hfm
            have hv : Val x := by
              cases hvb : valB x
              · rw [fmt_false hvb] at hfm
                exact absurd hfm.symm ht
              · exact valB_iff.1 hvb
            have hct : ct x = t := by rw [← fmt_true (valB_iff.2 hv)]; exact hfm
            have Hfm := Lib.hid hct
            clear hfm hct
            go_wp2_with fail
            refine bodyPost_ret (v := .tuple #[.agg #[.int .i64 x.op, .string x.name, .slice A x.kids.length c], .bool true]) (by simp [results, Tryd.results29, go_sem, q0, q1, q2]) rfl ?_
            refine ⟨x, true, A, c, F, rfl, Or.inl ⟨rfl, hv, Hfm.out⟩, ((ho2.setCell _ _ hFne).setCell _ _ hFne).setCell _ _ hFne, hnd, (fun b hb => Nat.le_of_lt (hFlt b hb)), hnm, ?_⟩
            repeat (first | exact B2 | refine Below.setCell ?_ (by simp <;> omega) _)
          · have hsb := str_eq_false hfm
            have Hn : Hid (∀ y, Val y → ct y ≠ t) := fun y hy e => by
              have h5 := (Hkey.out y hy e).1
              subst h5
              exact hfm (by rw [fmt_true (valB_iff.2 hy), e])
            go_wp2_with fail
            refine bodyPost_ret (v := .tuple #[.agg #[.int .i64 0, .string ⟨#[]⟩, .slice none 0 0], .bool false]) (by simp [results, Tryd.results29, go_sem, q0, q1, q2]) rfl ?_
            refine RetRead.fail ?_ Hn.out
            repeat (first | exact B2 | refine Below.setCell ?_ (by simp <;> omega) _)
      · have hne := str_ne_nil hs1
        go_wp2_with fail
        refine bodyPost_ret (v := .tuple #[.agg #[.int .i64 0, .string ⟨#[]⟩, .slice none 0 0], .bool false]) (by simp [results, Tryd.results29, go_sem, r0, r1, r2, rl, World.cell?_alloc_lt]) rfl ?_
        refine RetRead.fail ?_ (fun y hy e => hs1 (Hkey.out y hy e).2.1)
        repeat (first | exact hb1 | refine Below.alloc ?_ (by simp <;> omega) _ | refine Below.setCell ?_ (by simp <;> omega) _)

end Go.Proofs.YtapelogbceoojaaDoor
