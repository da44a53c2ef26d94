/-
  The walks of the parser's atom and level.
-/
import Derived.Test.YtapelogbceoojaaDoorWPars
import Derived.Test.YtapelogbceoojaaDoorOwn
namespace Go.Proofs.YtapelogbceoojaaDoor
open Go.RowKit
set_option linter.unusedVariables false
set_option maxRecDepth 100000

def RetPs (c : Cmd) (w : World) (R : Nat) (s : ByteArray) (fl : Bool) (e : Ending) (w' : World) : Prop :=
  ∃ (x : RE) (A : Option Addr) (k : Nat) (F : List Nat) (s' : ByteArray) (fl' : Bool), e = .returned (.agg #[.int .i64 x.op, .string x.name, .slice A x.kids.length k]) ∧ OwE w' (.slice A x.kids.length k) x.kids F ∧ F.Nodup ∧ (∀ b ∈ F, w.heap.size ≤ b) ∧ x.name.size ≤ 300 ∧
    Prs w' R s' fl' ∧ Mv R w w' ∧ s'.size ≤ s.size ∧ (fl = false → ∀ x0 u, Ps c s.data.toList x0 u → x0 = x ∧ s'.data.toList = u ∧ fl' = false)

theorem OwE.mv {w w' : World} {v : Value} {es : List RE} {F : List Nat} {R : Nat} (h : OwE w v es F) (m : Mv R w w') (hR : ∀ b ∈ F, b ≠ R) : OwE w' v es F := h.of_blocks fun b hb => m.block (h.lt b hb) (hR b hb)
theorem OwE.alloc {w : World} {v : Value} {es : List RE} {F : List Nat} (h : OwE w v es F) (o : Obj) : OwE (w.alloc o) v es F := h.of_blocks fun b hb => Go.Deep.blk_alloc_lt _ _ _ (h.lt b hb)
theorem OwE.setCell {w : World} {v : Value} {es : List RE} {F : List Nat} (h : OwE w v es F) (p : Addr) (u : Value) (hp : ∀ b ∈ F, b ≠ p.block) : OwE (w.setCell p u) v es F := h.of_blocks fun b hb => Below.heap_setCell _ _ _ _ (hp b hb)
/-- The block of the result is written: three cells. -/
theorem Own.res {w : World} {b : Nat} {t : TypeId} {v0 v1 v2 : Value} (h : Own w b t #[v0, v1, v2]) : w.cell? ⟨b, 0, none⟩ = some v0 ∧ w.cell? ⟨b, 1, none⟩ = some v1 ∧ w.cell? ⟨b, 2, none⟩ = some v2 ∧ w.frozen? ⟨b, 0, none⟩ = false ∧ w.frozen? ⟨b, 1, none⟩ = false ∧ w.frozen? ⟨b, 2, none⟩ = false ∧ b < w.heap.size :=
  ⟨h.cell rfl, h.cell rfl, h.cell rfl, h.frozen 0, h.frozen 1, h.frozen 2, h.lt⟩

theorem RetPs.fin {c : Cmd} {w W : World} {R : Nat} {s s' : ByteArray} {fl fl' : Bool} {x : RE} {A : Option Addr} {k : Nat} {F : List Nat} {v0 v1 v2 : Value} (hR : R < w.heap.size) (ho : OwE W (.slice A x.kids.length k) x.kids F) (hnd : F.Nodup) (hF : ∀ b ∈ F, w.heap.size < b)
    (hn : x.name.size ≤ 300) (h : Prs W R s' fl') (m : Mv R w W) (hs : s'.size ≤ s.size) (hp : fl = false → ∀ x0 u, Ps c s.data.toList x0 u → x0 = x ∧ s'.data.toList = u ∧ fl' = false) :
    RetPs c w R s fl (.returned (.agg #[.int .i64 x.op, .string x.name, .slice A x.kids.length k])) (((W.setCell ⟨w.heap.size, 0, none⟩ v0).setCell ⟨w.heap.size, 1, none⟩ v1).setCell ⟨w.heap.size, 2, none⟩ v2) := by
  have hne : ∀ b ∈ F, b ≠ w.heap.size := fun b hb => by have := hF b hb; omega
  refine ⟨x, A, k, F, s', fl', rfl, ((ho.setCell _ _ hne).setCell _ _ hne).setCell _ _ hne, hnd, fun b hb => Nat.le_of_lt (hF b hb), hn, ?_, ?_, hs, hp⟩
  · exact ((h.far (by show R ≠ w.heap.size; omega) _).far (by show R ≠ w.heap.size; omega) _).far (by show R ≠ w.heap.size; omega) _
  · exact ((m.setNew (Nat.le_refl _) _).setNew (Nat.le_refl _) _).setNew (Nat.le_refl _) _

theorem size_set3 (W : World) (a b c : Addr) (v0 v1 v2 : Value) : (((W.setCell a v0).setCell b v1).setCell c v2).heap.size = W.heap.size := by simp [World.setCell]
/-- .. the result's operand in a block made last. -/
theorem RetPs.fin1 {c : Cmd} {w W : World} {R : Nat} {s s' : ByteArray} {fl fl' : Bool} {op : Int} {x : RE} {A : Option Addr} {k : Nat} {F : List Nat} {v0 v1 v2 : Value} (hR : R < w.heap.size) (ho : OwE W (.slice A x.kids.length k) x.kids F) (hnd : F.Nodup) (hF : ∀ b ∈ F, w.heap.size < b)
    (hn : x.name.size ≤ 300) (hw : w.heap.size < W.heap.size) (h : Prs W R s' fl') (m : Mv R w W) (hs : s'.size ≤ s.size) (hp : fl = false → ∀ x0 u, Ps c s.data.toList x0 u → x0 = .mk op ⟨#[]⟩ [x] ∧ s'.data.toList = u ∧ fl' = false) :
    RetPs c w R s fl (.returned (.agg #[.int .i64 op, .string ⟨#[]⟩, .slice (some ⟨W.heap.size, 0, none⟩) 1 1])) ((((W.setCell ⟨w.heap.size, 0, none⟩ v0).setCell ⟨w.heap.size, 1, none⟩ v1).setCell ⟨w.heap.size, 2, none⟩ v2).alloc (.cells #[.int .i64 x.op, .string x.name, .slice A x.kids.length k] 29)) := by
  have hne : ∀ b ∈ F, b ≠ w.heap.size := fun b hb => by have := hF b hb; omega
  have one := (((ho.setCell ⟨w.heap.size, 0, none⟩ v0 hne).setCell ⟨w.heap.size, 1, none⟩ v1 hne).setCell ⟨w.heap.size, 2, none⟩ v2 hne).one (by omega)
  rw [size_set3] at one
  refine ⟨.mk op ⟨#[]⟩ [x], _, 1, _, s', fl', rfl, one, List.nodup_cons.2 ⟨fun hb => by have := ho.lt _ hb; omega, hnd⟩, fun b hb => ?_, (by show ByteArray.size ⟨#[]⟩ ≤ 300; decide), ?_, ?_, hs, hp⟩
  · rcases List.mem_cons.1 hb with rfl | hb
    · omega
    · exact Nat.le_of_lt (hF b hb)
  · exact (((h.far (by show R ≠ w.heap.size; omega) _).far (by show R ≠ w.heap.size; omega) _).far (by show R ≠ w.heap.size; omega) _).alloc _
  · exact (((m.setNew (Nat.le_refl _) _).setNew (Nat.le_refl _) _).setNew (Nat.le_refl _) _).alloc _

set_option maxHeartbeats 1000000 in
theorem atom_of (s : ByteArray) (hs : s.size ≤ 300)
    (ihL : ∀ s1 : ByteArray, s1.size < s.size → ∀ w R fl, Prs w R s1 fl → Calls Tryd.prog 63 #[.pointer (some ⟨R, 0, none⟩), .int .i64 3] w (RetPs (.lev 3) w R s1 fl))
    (ihA : ∀ s1 : ByteArray, s1.size < s.size → ∀ w R fl, Prs w R s1 fl → Calls Tryd.prog 91 #[.pointer (some ⟨R, 0, none⟩)] w (RetPs .atom w R s1 fl))
    (w : World) (R : Nat) (fl : Bool) (h : Prs w R s fl) : Calls Tryd.prog 91 #[.pointer (some ⟨R, 0, none⟩)] w (RetPs .atom w R s fl) := by
  have hR := h.lt
  have rb := Own.new w 29 #[.int .i64 0, .string ByteArray.empty, .slice none 0 0]
  have t1 := take_any _ R s fl 40 hs (h.alloc (.cells #[.int .i64 0, .string ByteArray.empty, .slice none 0 0] 29))
  have m0 : Mv R w (w.alloc (.cells #[.int .i64 0, .string ByteArray.empty, .slice none 0 0] 29)) := (Mv.refl _ _).alloc _
  go_enter Tryd.func91, Tryd.ntmps91
  go_wp2_with fail
  refine t1.mono ?_
  rintro e1 w1 (⟨rfl, rfl, s1, hs1, h1, m1⟩ | ⟨rfl, hno, h1, m1⟩)
  · have rb1 := rb.mv m1 (by omega)
    have m01 := m0.trans m1
    have hsz : s1.size < s.size := by
      have := congrArg List.length hs1
      simp at this
      omega
    clear t1 rb m0 m1
    go_wp2_with fail
    refine (ihL s1 hsz _ R false h1).mono ?_
    rintro e2 w2 ⟨x, A, c, F, s2, fl2, rfl, ho, hnd, hF, hnm, h2, m2, hsz2, hps⟩
    have rb2 := rb1.mv m2 (by omega)
    have m02 := m01.trans m2
    have t2 := take_any _ R s2 fl2 41 (by omega) (h2.alloc (.cells #[.int .i64 x.op, .string x.name, .slice A x.kids.length c] 29))
    have hz1 := m01.size
    have hz2 := m2.size
    have hlt1 := rb1.lt
    go_wp2_with fail
    refine t2.mono ?_
    rintro e3 w3 ht
    have heq : ∃ (b : Bool) (s3 : ByteArray) (fl3 : Bool), e3 = .returned (.bool b) ∧ Prs w3 R s3 fl3 ∧ Mv R (w2.alloc (.cells #[.int .i64 x.op, .string x.name, .slice A x.kids.length c] 29)) w3 ∧ s3.size ≤ s2.size ∧
        (b = true → fl3 = false ∧ s2.data.toList = 41 :: s3.data.toList) ∧ (b = false → fl2 = true ∨ s2.data.toList.head? ≠ some 41) := by
      rcases ht with ⟨rfl, rfl, s3, hs3, h3, m3⟩ | ⟨rfl, hno, h3, m3⟩
      · refine ⟨true, s3, false, rfl, h3, m3, ?_, fun _ => ⟨rfl, hs3⟩, fun h => Bool.noConfusion h⟩
        have := congrArg List.length hs3
        simp at this
        omega
      · exact ⟨false, s2, fl2, rfl, h3, m3, Nat.le_refl _, fun h => Bool.noConfusion h, fun _ => hno⟩
    clear ht t2
    obtain ⟨b, s3, fl3, rfl, h3, m3, hsz3, hb1, hb2⟩ := heq
    have rb3 := (rb2.alloc (.cells #[.int .i64 x.op, .string x.name, .slice A x.kids.length c] 29)).mv m3 (by omega)
    have eb3 := (Own.new w2 29 #[.int .i64 x.op, .string x.name, .slice A x.kids.length c]).mv m3 (by omega)
    have ho3 := (ho.alloc (.cells #[.int .i64 x.op, .string x.name, .slice A x.kids.length c] 29)).mv m3 (fun b hb => by have := hF b hb; omega)
    have m03 := (m02.alloc (.cells #[.int .i64 x.op, .string x.name, .slice A x.kids.length c] 29)).trans m3
    obtain ⟨r0, r1, r2, g0, g1, g2, rl⟩ := rb3.res
    obtain ⟨x0, x1, x2, _, _, _, xl⟩ := eb3.res
    have p1 := h3.cell (i := 1) rfl
    have p2 := h3.frozen 1
    have hFlt : ∀ b ∈ F, w.heap.size < b := fun b hb => by have := hF b hb; omega
    have hFR : ∀ b ∈ F, b ≠ R := fun b hb => by have := hF b hb; omega
    have hsz' : s3.size ≤ s.size := by omega
    cases b
    · have hbad : false = false → ∀ x0 u, Ps .atom s.data.toList x0 u → x0 = x ∧ s3.data.toList = u ∧ true = false := fun _ x0 u hp => by
        rw [hs1] at hp
        obtain ⟨rfl, h5, h6⟩ := hps (by first | rfl | trivial) x0 _ hp.atom_par
        rcases hb2 rfl with h7 | h7
        · rw [h6] at h7; cases h7
        · rw [h5] at h7; exact absurd rfl h7
      have Hbad := Lib.hid hbad
      clear hbad hps hb1 hb2
      go_wp2_with fail
      refine bodyPost_ret (v := .agg #[.int .i64 x.op, .string x.name, .slice A x.kids.length c]) (by simp [results, Tryd.results91, go_sem, r0, r1, r2]) rfl ?_
      exact RetPs.fin hR (ho3.setCell _ _ hFR) hnd hFlt hnm (h3.set 1 (.bool true)) (m03.setR _ _) hsz' (fun _ => Hbad.out (by first | rfl | trivial))
    · obtain ⟨rfl, hs3⟩ := hb1 rfl
      have hgood : false = false → ∀ x0 u, Ps .atom s.data.toList x0 u → x0 = x ∧ s3.data.toList = u ∧ false = false := fun _ x0 u hp => by
        rw [hs1] at hp
        obtain ⟨rfl, h5, h6⟩ := hps (by first | rfl | trivial) x0 _ hp.atom_par
        rw [hs3] at h5
        injection h5 with _ h5
        exact ⟨rfl, h5, rfl⟩
      have Hgood := Lib.hid hgood
      clear hgood hps hb1 hb2 hs3
      go_wp2_with fail
      refine bodyPost_ret (v := .agg #[.int .i64 x.op, .string x.name, .slice A x.kids.length c]) (by simp [results, Tryd.results91, go_sem, r0, r1, r2]) rfl ?_
      exact RetPs.fin hR ho3 hnd hFlt hnm h3 m03 hsz' (fun _ x0 u hp => by obtain ⟨a, b, _⟩ := Hgood.out (by first | rfl | trivial) x0 u hp; exact ⟨a, b, rfl⟩)
  · have rb1 := rb.mv m1 (by omega)
    have m01 := m0.trans m1
    have t2 := take_any _ R s fl 126 hs h1
    clear t1 rb m0 m1
    go_wp2_with fail
    refine t2.mono ?_
    rintro e2 w2 (⟨rfl, rfl, s1, hs1, h2, m2⟩ | ⟨rfl, hno2, h2, m2⟩)
    · have hsg : s.data.toList = sg 6 :: s1.data.toList := hs1
      have rbA := rb1.mv m2 (by omega)
      have mA := m01.trans m2
      have hsz : s1.size < s.size := by
        have := congrArg List.length hs1
        simp at this
        omega
      clear t2 m01 m2 rb1
      go_wp2_with fail
      refine (ihA s1 hsz _ R false h2).mono ?_
      rintro e9 w9 ⟨x, A, c, F, s9, fl9, rfl, ho, hnd, hF, hnm, h9, m9, hsz9, hps⟩
      have rb9 := rbA.mv m9 (by omega)
      have mB := mA.trans m9
      have hltA := rbA.lt
      obtain ⟨r0, r1, r2, g0, g1, g2, rl⟩ := rb9.res
      have hgood : ∀ x0 u, Ps .atom s.data.toList x0 u → x0 = .mk 6 ⟨#[]⟩ [x] ∧ s9.data.toList = u ∧ fl9 = false := fun x0 u hp => by
        rw [hsg] at hp
        obtain ⟨x1, h4, rfl⟩ := Ps.atom_pre (op := 6) (by decide) hp
        obtain ⟨rfl, h5, h6⟩ := hps (by first | rfl | trivial) _ _ h4
        exact ⟨rfl, h5, h6⟩
      have Hgood := Lib.hid hgood
      have hsz' : s9.size ≤ s.size := by omega
      have hFlt : ∀ b ∈ F, w.heap.size < b := fun b hb => by have := hF b hb; omega
      clear hgood hps hs1 hsg
      go_wp2_with fail
      refine bodyPost_ret (v := .agg #[.int .i64 6, .string ⟨#[]⟩, .slice (some ⟨w9.heap.size, 0, none⟩) 1 1]) (by simp [results, Tryd.results91, go_sem, r0, r1, r2, rl, World.cell?_alloc_lt]) rfl ?_
      exact RetPs.fin1 hR ho hnd hFlt hnm rl h9 mB hsz' (fun _ => Hgood.out)
    · have rb2 := rb1.mv m2 (by omega)
      have m02 := m01.trans m2
      have t3 := take_any _ R s fl 43 hs h2
      clear t2 rb1 m01 m2
      go_wp2_with fail
      refine t3.mono ?_
      rintro e3 w3 (⟨rfl, rfl, s1, hs1, h3, m3⟩ | ⟨rfl, hno3, h3, m3⟩)
      · have hsg : s.data.toList = sg 7 :: s1.data.toList := hs1
        have rbA := rb2.mv m3 (by omega)
        have mA := m02.trans m3
        have hsz : s1.size < s.size := by
          have := congrArg List.length hs1
          simp at this
          omega
        clear t3 m02 m3 rb2
        go_wp2_with fail
        refine (ihA s1 hsz _ R false h3).mono ?_
        rintro e9 w9 ⟨x, A, c, F, s9, fl9, rfl, ho, hnd, hF, hnm, h9, m9, hsz9, hps⟩
        have rb9 := rbA.mv m9 (by omega)
        have mB := mA.trans m9
        have hltA := rbA.lt
        obtain ⟨r0, r1, r2, g0, g1, g2, rl⟩ := rb9.res
        have hgood : ∀ x0 u, Ps .atom s.data.toList x0 u → x0 = .mk 7 ⟨#[]⟩ [x] ∧ s9.data.toList = u ∧ fl9 = false := fun x0 u hp => by
          rw [hsg] at hp
          obtain ⟨x1, h4, rfl⟩ := Ps.atom_pre (op := 7) (by decide) hp
          obtain ⟨rfl, h5, h6⟩ := hps (by first | rfl | trivial) _ _ h4
          exact ⟨rfl, h5, h6⟩
        have Hgood := Lib.hid hgood
        have hsz' : s9.size ≤ s.size := by omega
        have hFlt : ∀ b ∈ F, w.heap.size < b := fun b hb => by have := hF b hb; omega
        clear hgood hps hs1 hsg
        go_wp2_with fail
        refine bodyPost_ret (v := .agg #[.int .i64 7, .string ⟨#[]⟩, .slice (some ⟨w9.heap.size, 0, none⟩) 1 1]) (by simp [results, Tryd.results91, go_sem, r0, r1, r2, rl, World.cell?_alloc_lt]) rfl ?_
        exact RetPs.fin1 hR ho hnd hFlt hnm rl h9 mB hsz' (fun _ => Hgood.out)
      · have rb3 := rb2.mv m3 (by omega)
        have m03 := m02.trans m3
        have t4 := name_any _ R s fl hs h3
        clear t3 rb2 m02 m3
        go_wp2_with fail
        refine t4.mono ?_
        rintro e4 w4 ⟨n, s4, rfl, hcat, hlet, hnl, hsum, h4, m4⟩
        have rb4 := rb3.mv m4 (by omega)
        have m04 := m03.trans m4
        obtain ⟨r0, r1, r2, g0, g1, g2, rl⟩ := rb4.res
        have p1 := h4.cell (i := 1) rfl
        have p2 := h4.frozen 1
        have hsz' : s4.size ≤ s.size := by omega
        have hnm : n.size ≤ 300 := by omega
        have hkey : fl = false → ∀ x0 u, Ps .atom s.data.toList x0 u → n.data.toList ≠ [] := fun hf x0 u hp he => by
          obtain ⟨c, t', ht, hc⟩ := hp.atom_none
          rw [he, List.nil_append] at hcat
          rw [ht] at hno hno2 hno3 hcat
          subst hf
          have a1 : c ≠ 40 := fun e => by rcases hno with h | h; cases h; exact h (by rw [e]; rfl)
          have a2 : c ≠ sg 6 := fun e => by rcases hno2 with h | h; cases h; exact h (by rw [e]; rfl)
          have a3 : c ≠ sg 7 := fun e => by rcases hno3 with h | h; cases h; exact h (by rw [e]; rfl)
          rcases hc with h | h | h | h
          · exact a1 h
          · exact a2 h
          · exact a3 h
          · rw [← hcat] at hnl; exact hnl h
        have hgood : fl = false → ∀ x0 u, Ps .atom s.data.toList x0 u → x0 = .mk 1 n [] ∧ s4.data.toList = u := fun hf x0 u hp => by
          have hne := hkey hf x0 u hp
          rw [hcat] at hp
          obtain ⟨rfl, rfl⟩ := hp.atom_name hne hlet hnl
          rw [toArray_data']
          exact ⟨rfl, rfl⟩
        have Hkey := Lib.hid hkey
        have Hgood := Lib.hid hgood
        clear hkey hgood t4 rb3 m03 m4 hno hno2 hno3 hcat hlet hnl
        by_cases hn0 : n.size = 0
        · have hn : n = ⟨#[]⟩ := by
            have : n = ByteArray.empty := by simpa using hn0
            exact this
          subst hn
          go_wp2_with fail
          refine bodyPost_ret (v := .agg #[.int .i64 1, .string ⟨#[]⟩, .slice none 0 0]) (by simp [results, Tryd.results91, go_sem, r0, r1, r2]) rfl ?_
          exact RetPs.fin (x := .mk 1 ⟨#[]⟩ []) hR .nil List.nodup_nil (fun b hb => by cases hb) hnm (h4.set 1 (.bool true)) (m04.setR _ _) hsz' (fun hf x0 u hp => absurd rfl (Hkey.out hf x0 u hp))
        · have hne : n ≠ ⟨#[]⟩ := fun e => hn0 (by rw [e]; rfl)
          have hnb := str_ne_nil hne
          go_wp2_with fail
          refine bodyPost_ret (v := .agg #[.int .i64 1, .string n, .slice none 0 0]) (by simp [results, Tryd.results91, go_sem, r0, r1, r2]) rfl ?_
          exact RetPs.fin (x := .mk 1 n []) hR .nil List.nodup_nil (fun b hb => by cases hb) hnm h4 m04 hsz' (fun hf x0 u hp => ⟨(Hgood.out hf x0 u hp).1, (Hgood.out hf x0 u hp).2, hf⟩)

end Go.Proofs.YtapelogbceoojaaDoor
