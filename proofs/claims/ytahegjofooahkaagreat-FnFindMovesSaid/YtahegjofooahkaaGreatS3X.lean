/-
  The reference's states: l3Do. The reference's states: l3Start.
-/
import Derived.Test.YtahegjofooahkaaGreatS3C

/-! The reference's states: l3Do. -/
namespace Go.Proofs.YtahegjofooahkaaGreat
open Go.RowKit
set_option linter.unusedVariables false
set_option maxRecDepth 100000

/-- A state in rows of one's own; n1 .. n4: the rows' lengths. -/
structure OwS (B : Nat) (w : World) (A1 A2 A3 A4 : Option Addr) (n1 n2 n3 n4 c1 c2 c3 c4 K : Nat) (cs : List Value) (Fs : Nat → List Nat) (s : S3) : Prop where
  r1 : RowI w B (.slice A1 n1 c1) s.at_
  r2 : RowI w B (.slice A2 n2 c2) s.regs
  r3 : RowI w B (.slice A3 n3 c3) s.mem
  p12 : ApV (.slice A1 n1 c1) (.slice A2 n2 c2)
  p13 : ApV (.slice A1 n1 c1) (.slice A3 n3 c3)
  p23 : ApV (.slice A2 n2 c2) (.slice A3 n3 c3)
  lt : ∀ b, blkV (.slice A1 n1 c1) = some b ∨ blkV (.slice A2 n2 c2) = some b ∨ blkV (.slice A3 n3 c3) = some b → b < K
  r4 : RowsI w K (.slice A4 n4 c4) s.buf cs Fs
  le : B ≤ K
theorem RowI.keptV {w : World} {B : Nat} {A : Option Addr} {n c : Nat} {xs : List Int} {p : Addr} {u : Value} (h : RowI w B (.slice A n c) xs) (hn : ¬ blkV (.slice A n c) = some p.block) : RowI (w.setCell p u) B (.slice A n c) xs :=
  RowOf.kept h fun hg => hn (by
    obtain ⟨cs, h1, _⟩ := h
    rcases h1.2 with ⟨e, _⟩ | ⟨g, cap, cur, e, _⟩
    · injection e with e
      subst e
      cases hg
    · injection e with e
      subst e
      exact hg)
namespace OwS
variable {B : Nat} {w w' : World} {A1 A2 A3 A4 : Option Addr} {n1 n2 n3 n4 c1 c2 c3 c4 K : Nat} {cs : List Value} {Fs : Nat → List Nat} {s : S3}
theorem move (h : OwS B w A1 A2 A3 A4 n1 n2 n3 n4 c1 c2 c3 c4 K cs Fs s) (hb : ∀ b, B ≤ b → b < w.heap.size → w'.heap[b]? = w.heap[b]?) : OwS B w' A1 A2 A3 A4 n1 n2 n3 n4 c1 c2 c3 c4 K cs Fs s :=
  ⟨h.r1.of_block fun g h1 _ hl => hb g h1 hl, h.r2.of_block fun g h1 _ hl => hb g h1 hl, h.r3.of_block fun g h1 _ hl => hb g h1 hl, h.p12, h.p13, h.p23, h.lt, h.r4.move (rowP_loc 1 3 QInt) fun b h1 hl => hb b (Nat.le_trans h.le h1) hl, h.le⟩
theorem below (h : OwS B w A1 A2 A3 A4 n1 n2 n3 n4 c1 c2 c3 c4 K cs Fs s) (hb : Below w.heap.size w w') : OwS B w' A1 A2 A3 A4 n1 n2 n3 n4 c1 c2 c3 c4 K cs Fs s := h.move fun b _ hl => hb.block b hl
/-- A store into a block that is not the state's. -/
theorem far (h : OwS B w A1 A2 A3 A4 n1 n2 n3 n4 c1 c2 c3 c4 K cs Fs s) {p : Addr} (u : Value) (hp : p.block < B ∨ w.heap.size ≤ p.block) : OwS B (w.setCell p u) A1 A2 A3 A4 n1 n2 n3 n4 c1 c2 c3 c4 K cs Fs s :=
  h.move fun b h1 hl => Go.Deep.blk_setCell_other _ _ _ _ (by omega)
theorem set1 (h : OwS B w A1 A2 A3 A4 n1 n2 n3 n4 c1 c2 c3 c4 K cs Fs s) {i : Nat} (hi : i < s.at_.length) : ∃ g, A1 = some ⟨g, 0, none⟩ ∧ B ≤ g ∧ g < w.heap.size ∧ w.cell? ⟨g, i, none⟩ = some (.int .i64 (s.at_.getD i 0)) ∧ w.frozen? ⟨g, i, none⟩ = false ∧ (n1 = s.at_.length) ∧
    ∀ v, OwS B (w.setCell ⟨g, i, none⟩ (.int .i64 v)) A1 A2 A3 A4 n1 n2 n3 n4 c1 c2 c3 c4 K cs Fs ⟨s.at_.set i v, s.regs, s.mem, s.buf⟩ := by
  obtain ⟨g, rfl, h1, h2, h3, h4⟩ := RowI.at h.r1 hi
  obtain ⟨A', c', e, hl, _⟩ := h.r1.slice
  injection e with e1 e2 e3
  refine ⟨g, rfl, h1, h2, h4 i hi, h3 i, e2, fun v => ⟨RowI.set h.r1 hi v, h.r2.keptV (fun e => h.p12 g rfl e), h.r3.keptV (fun e => h.p13 g rfl e), h.p12, h.p13, h.p23, h.lt, ?_, h.le⟩⟩
  exact h.r4.move (rowP_loc 1 3 QInt) fun b hb _ => Go.Deep.blk_setCell_other _ _ _ _ (by have := h.lt g (.inl rfl); show b ≠ g; omega)
theorem set2 (h : OwS B w A1 A2 A3 A4 n1 n2 n3 n4 c1 c2 c3 c4 K cs Fs s) {i : Nat} (hi : i < s.regs.length) : ∃ g, A2 = some ⟨g, 0, none⟩ ∧ B ≤ g ∧ g < w.heap.size ∧ w.cell? ⟨g, i, none⟩ = some (.int .i64 (s.regs.getD i 0)) ∧ w.frozen? ⟨g, i, none⟩ = false ∧ (n2 = s.regs.length) ∧
    ∀ v, OwS B (w.setCell ⟨g, i, none⟩ (.int .i64 v)) A1 A2 A3 A4 n1 n2 n3 n4 c1 c2 c3 c4 K cs Fs ⟨s.at_, s.regs.set i v, s.mem, s.buf⟩ := by
  obtain ⟨g, rfl, h1, h2, h3, h4⟩ := RowI.at h.r2 hi
  obtain ⟨A', c', e, hl, _⟩ := h.r2.slice
  injection e with e1 e2 e3
  refine ⟨g, rfl, h1, h2, h4 i hi, h3 i, e2, fun v => ⟨h.r1.keptV (fun e => h.p12 g e rfl), RowI.set h.r2 hi v, h.r3.keptV (fun e => h.p23 g rfl e), h.p12, h.p13, h.p23, h.lt, ?_, h.le⟩⟩
  exact h.r4.move (rowP_loc 1 3 QInt) fun b hb _ => Go.Deep.blk_setCell_other _ _ _ _ (by have := h.lt g (.inr (.inl rfl)); show b ≠ g; omega)
theorem set3 (h : OwS B w A1 A2 A3 A4 n1 n2 n3 n4 c1 c2 c3 c4 K cs Fs s) {i : Nat} (hi : i < s.mem.length) : ∃ g, A3 = some ⟨g, 0, none⟩ ∧ B ≤ g ∧ g < w.heap.size ∧ w.cell? ⟨g, i, none⟩ = some (.int .i64 (s.mem.getD i 0)) ∧ w.frozen? ⟨g, i, none⟩ = false ∧ (n3 = s.mem.length) ∧
    ∀ v, OwS B (w.setCell ⟨g, i, none⟩ (.int .i64 v)) A1 A2 A3 A4 n1 n2 n3 n4 c1 c2 c3 c4 K cs Fs ⟨s.at_, s.regs, s.mem.set i v, s.buf⟩ := by
  obtain ⟨g, rfl, h1, h2, h3, h4⟩ := RowI.at h.r3 hi
  obtain ⟨A', c', e, hl, _⟩ := h.r3.slice
  injection e with e1 e2 e3
  refine ⟨g, rfl, h1, h2, h4 i hi, h3 i, e2, fun v => ⟨h.r1.keptV (fun e => h.p13 g e rfl), h.r2.keptV (fun e => h.p23 g e rfl), RowI.set h.r3 hi v, h.p12, h.p13, h.p23, h.lt, ?_, h.le⟩⟩
  exact h.r4.move (rowP_loc 1 3 QInt) fun b hb _ => Go.Deep.blk_setCell_other _ _ _ _ (by have := h.lt g (.inr (.inr rfl)); show b ≠ g; omega)
/-- It can be read. -/
theorem rep (h : OwS B w A1 A2 A3 A4 n1 n2 n3 n4 c1 c2 c3 c4 K cs Fs s) : n1 = s.at_.length ∧ n2 = s.regs.length ∧ n3 = s.mem.length ∧ n4 = s.buf.length ∧ Rep4 (above B w) A1 A2 A3 A4 c1 c2 c3 c4 s := by
  have key : ∀ A n c xs, RowI w B (.slice A n c) xs → n = xs.length ∧ Ints (above B w) A c xs := fun A n c xs h => by
    obtain ⟨A', c', e, hI⟩ := h.ints
    injection e with e1 e2 e3
    subst e1 e3
    exact ⟨e2, hI⟩
  obtain ⟨k1, k2⟩ := key _ _ _ _ h.r1
  obtain ⟨k3, k4⟩ := key _ _ _ _ h.r2
  obtain ⟨k5, k6⟩ := key _ _ _ _ h.r3
  obtain ⟨A', c', e, hI⟩ := h.r4.intss
  injection e with e1 e2 e3
  subst e1 e3
  refine ⟨k1, k3, k5, e2, k2, k4, k6, hI.le (Le.above_mono h.le _), ?_⟩
  rw [← e2]
  exact h.r4.slR (R := RIntc) (by omega) h.le fun cs x F' hF hP => by
    obtain ⟨A, c, e, hle, _⟩ := RowOf.slice hP.1
    have hs := hP.1.slR' (k := 1) (R := RInt) (a := above B w) (by omega) (fun cs x h => h) (fun g o u _ hv hc => cell_above_of (by have := hF g (by rw [hP.2]; exact mem_own.2 hv); show B ≤ g; omega) hc)
    exact ⟨A, c, e, hle, by rw [e] at hs; exact hs⟩
end OwS
theorem RetCS.ow {W W' : World} {s : S3} {e : Ending} (h : RetCS W s e W') : ∃ A1 A2 A3 A4 c1 c2 c3 c4 K cs Fs, e = .returned (.agg #[.slice A1 s.at_.length c1, .slice A2 s.regs.length c2, .slice A3 s.mem.length c3, .slice A4 s.buf.length c4]) ∧ OwS W.heap.size W' A1 A2 A3 A4 s.at_.length s.regs.length s.mem.length s.buf.length c1 c2 c3 c4 K cs Fs s ∧ Below W.heap.size W W' := by
  obtain ⟨A1, A2, A3, A4, c1, c2, c3, c4, K, cs, Fs, he, hK, _, ⟨h1, h2, h3⟩, ⟨p1, p2, p3⟩, hl, h4, hb⟩ := h
  exact ⟨A1, A2, A3, A4, c1, c2, c3, c4, K, cs, Fs, he, ⟨h1, h2, h3, p1, p2, p3, hl, h4, hK⟩, hb⟩
/-- A state in new memory. -/
def RetS4 (W : World) (s : S3) (e : Ending) (W' : World) : Prop := ∃ A1 A2 A3 A4 c1 c2 c3 c4, e = .returned (.agg #[.slice A1 s.at_.length c1, .slice A2 s.regs.length c2, .slice A3 s.mem.length c3, .slice A4 s.buf.length c4]) ∧ Rep4 (above W.heap.size W') A1 A2 A3 A4 c1 c2 c3 c4 s ∧ Below W.heap.size W W'
theorem OwS.ret {W w : World} {B : Nat} {A1 A2 A3 A4 : Option Addr} {n1 n2 n3 n4 c1 c2 c3 c4 K : Nat} {cs : List Value} {Fs : Nat → List Nat} {s s' : S3} (h : OwS B w A1 A2 A3 A4 n1 n2 n3 n4 c1 c2 c3 c4 K cs Fs s) (hs : s = s') (hB : W.heap.size ≤ B) (hb : Below W.heap.size W w) {R : Nat} (hR : W.heap.size ≤ R) (hRB : R < B) (v0 v1 v2 v3 : Value) :
    RetS4 W s' (.returned (.agg #[.slice A1 n1 c1, .slice A2 n2 c2, .slice A3 n3 c3, .slice A4 n4 c4])) ((((w.setCell ⟨R, 0, none⟩ v0).setCell ⟨R, 1, none⟩ v1).setCell ⟨R, 2, none⟩ v2).setCell ⟨R, 3, none⟩ v3) := by
  subst hs
  have h4 := (((h.far (p := ⟨R, 0, none⟩) v0 (.inl hRB)).far (p := ⟨R, 1, none⟩) v1 (.inl hRB)).far (p := ⟨R, 2, none⟩) v2 (.inl hRB)).far (p := ⟨R, 3, none⟩) v3 (.inl hRB)
  obtain ⟨rfl, rfl, rfl, rfl, hr⟩ := h4.rep
  exact ⟨A1, A2, A3, A4, c1, c2, c3, c4, rfl, hr.le (Le.above_mono hB _), (((hb.setCell hR _).setCell hR _).setCell hR _).setCell hR _⟩
/-- After an instruction of thread t. -/
def do3 (s : S3) (t : Nat) (x : Ins) : S3 where
  at_ := s.at_.set t (s.at_.getD t 0 + 1)
  regs := if rdB x = true then s.regs.set (t * 3 + x.reg.toNat) (s.mem.getD x.loc.toNat 0) else s.regs
  mem := if wrB x = true then s.mem.set x.loc.toNat (val3 s t x) else s.mem
  buf := s.buf

/-- One slot holds a new block, the others are told. -/
def TAl (f : Nat → Value) (a B : Nat) (t : TypeId) (cs : Array Value) (d : Nat) (w : World) (v : Value) : Prop := if d = a then HasB B t cs w v else v = f d
theorem tal_nx {f : Nat → Value} {a B : Nat} {t : TypeId} {cs : Array Value} : ∀ d w w' v, Nx w w' → TAl f a B t cs d w v → TAl f a B t cs d w' v := fun d w w' v hb h => by
  unfold TAl at h ⊢
  split at h
  · rename_i e
    rw [if_pos e]
    exact h.nx hb
  · rename_i e
    rw [if_neg e]
    exact h
theorem tal_blk {f : Nat → Value} {a B : Nat} {t : TypeId} {cs : Array Value} : ∀ d w v b, TAl f a B t cs d w v → (fun d => if d = a then 1 else 0 : Nat → Nat) d ≠ 0 → blkV v = some b → b < w.heap.size := fun d w v b h hc hb => by
  unfold TAl at h
  split at h
  · exact h.blk hb
  · rename_i e
    simp only [if_neg e] at hc
    exact absurd rfl hc

set_option maxHeartbeats 4000000 in
theorem l3Do_any (p : Prg) (s : S3) (t k : Nat) (x : Ins) (hx : InsOk x) (ht : t < p.length) (hp3 : p.length ≤ 100) (hk : s.at_.getD t 0 = (k : Int)) (hkl : k < (thrP p t).length) (hxk : (thrP p t).getD k ⟨0, 0, 0, 0⟩ = x) (hk1 : k ≤ 1000)
    (h1 : s.at_.length = p.length) (h2 : s.regs.length = p.length * 3) (h3 : s.mem.length = 3) (h4 : s.buf.length ≤ 1000) (h5 : ∀ xs ∈ s.buf, xs.length ≤ 1000) (hrl : s.regs.length ≤ 100) (W : World) (vp : Value) (hpr : PrgS W vp p) (A1 A2 A3 A4 : Option Addr) (c1 c2 c3 c4 : Nat) (hr : Rep4 W A1 A2 A3 A4 c1 c2 c3 c4 s) :
    Calls Tryz.prog 119 #[vp, .agg #[.slice A1 s.at_.length c1, .slice A2 s.regs.length c2, .slice A3 s.mem.length c3, .slice A4 s.buf.length c4], .int .i64 t] W (RetS4 W (do3 s t x)) := by
  obtain ⟨Ap, cp, rfl, hpl⟩ := SlR.slice hpr
  obtain ⟨V, hV⟩ : ∃ V, V = (W.alloc (.cells #[.slice A1 s.at_.length c1, .slice A2 s.regs.length c2, .slice A3 s.mem.length c3, .slice A4 s.buf.length c4] 70)).alloc (.cells #[.slice none 0 0, .slice none 0 0, .slice none 0 0, .slice none 0 0] 70) := ⟨_, rfl⟩
  have hB : Below W.heap.size W V := by rw [hV]; exact ((Below.refl _ _).alloc (Nat.le_refl _) _).alloc (by simp) _
  have hVs : V.heap.size = W.heap.size + 2 := by rw [hV]; simp
  have oX : Own V W.heap.size 70 #[.slice A1 s.at_.length c1, .slice A2 s.regs.length c2, .slice A3 s.mem.length c3, .slice A4 s.buf.length c4] := by rw [hV]; exact (Own.new _ _ _).alloc _
  have oR : Own V (W.heap.size + 1) 70 #[.slice none 0 0, .slice none 0 0, .slice none 0 0, .slice none 0 0] := by rw [hV]; simpa using Own.new (W.alloc (.cells #[.slice A1 s.at_.length c1, .slice A2 s.regs.length c2, .slice A3 s.mem.length c3, .slice A4 s.buf.length c4] 70)) 70 #[.slice none 0 0, .slice none 0 0, .slice none 0 0, .slice none 0 0]
  have hcp := l3CopyW_any s (by omega) (by omega) (by omega) h4 h5 V A1 A2 A3 A4 c1 c2 c3 c4 (hr.le (Le.below hB))
  have x0 := oX.cell (i := 0) rfl
  have x1 := oX.cell (i := 1) rfl
  have x2 := oX.cell (i := 2) rfl
  have x3 := oX.cell (i := 3) rfl
  have hWV := oX.lt
  have HO := Lib.hid (And.intro oX (And.intro oR (And.intro hVs hr)))
  have HP := Lib.hid hpr
  have HL := Lib.hid (And.intro h1 (And.intro h2 (And.intro h3 hk)))
  have HX := Lib.hid hxk
  clear hVs oR oX hpr hk hxk h1 h2 h3 h5 hr
  go_enter Tryz.func119, Tryz.ntmps119
  go_upto_region 1 with (fail)
  rw [← hV]
  clear hV
  go_wp2_with fail
  refine hcp.mono ?_
  rintro e5 w5 h
  obtain ⟨D1, D2, D3, D4, d1, d2, d3, d4, K, cs, Fs, rfl, ow5, hb5⟩ := h.ow
  have OW5 := Lib.hid ow5
  clear h hcp x0 x1 x2 x3 ow5
  obtain ⟨bp, op, A5, c5, e5, hbp, k0, _, hins⟩ := SlR.getSub HP.out ht
  subst e5
  have hth := thrP_get ht
  have hxk' : (thrP p t)[k]'hkl = x := by have h := HX.out; rw [List.getD_eq_getElem?_getD, List.getElem?_eq_getElem hkl] at h; exact h
  obtain ⟨th, hthe⟩ : ∃ th, th = p[t] := ⟨_, rfl⟩
  rw [← hthe] at k0 hins hth
  have hkl' : k < th.length := by rw [← hth]; exact hkl
  have hxk2 : th[k]'hkl' = x := by simpa only [hth] using hxk'
  obtain ⟨b1, o1, e6, hb1, i0, i1, i2, i3⟩ := InsS.get hins hkl'
  subst e6
  rw [hxk2] at i0 i1 i2 i3
  have hat : t < s.at_.length := by rw [HL.out.1]; exact ht
  obtain ⟨b3, o3, e7, hb3, j0⟩ := HO.out.2.2.2.at_.get hat
  subst e7
  have hatk : s.at_[t]'hat = (k : Int) := by have h := HL.out.2.2.2; rw [List.getD_eq_getElem?_getD, List.getElem?_eq_getElem hat] at h; exact h
  rw [hatk] at j0
  obtain ⟨w6, hw6⟩ : ∃ w6, w6 = w5.alloc (.cells #[.slice D1 s.at_.length d1, .slice D2 s.regs.length d2, .slice D3 s.mem.length d3, .slice D4 s.buf.length d4] 70) := ⟨_, rfl⟩
  have hB6 : Below V.heap.size V w6 := by rw [hw6]; exact hb5.alloc hb5.size _
  have oT6 : Own w6 w5.heap.size 70 #[.slice D1 s.at_.length d1, .slice D2 s.regs.length d2, .slice D3 s.mem.length d3, .slice D4 s.buf.length d4] := by rw [hw6]; exact Own.new _ _ _
  have hs6 : w6.heap.size = w5.heap.size + 1 := by rw [hw6]; simp
  have ow6 := Lib.hid (OW5.out.below (w' := w6) (by rw [hw6]; exact (Below.refl _ _).alloc (Nat.le_refl _) _))
  /- what can be read wherever what was there at the start is as it was -/
  have HR : Hid (∀ U, Below V.heap.size V U → (U.cell? ⟨bp, op + t, none⟩ = some (.slice (some ⟨b1, o1, none⟩) th.length c5) ∧ U.cell? ⟨W.heap.size, 0, none⟩ = some (.slice (some ⟨b3, o3, none⟩) s.at_.length c1) ∧ U.cell? ⟨b3, o3 + t, none⟩ = some (.int .i64 (k : Int)))
      ∧ (U.cell? ⟨b1, o1 + k * 4, none⟩ = some (.int .i64 x.op) ∧ U.cell? ⟨b1, o1 + k * 4 + 1, none⟩ = some (.int .i64 x.loc) ∧ U.cell? ⟨b1, o1 + k * 4 + 2, none⟩ = some (.int .i64 x.reg) ∧ U.cell? ⟨b1, o1 + k * 4 + 3, none⟩ = some (.int .i64 x.val))
      ∧ U.cell? ⟨W.heap.size, 1, none⟩ = some (.slice A2 s.regs.length c2) ∧ U.cell? ⟨W.heap.size, 2, none⟩ = some (.slice A3 s.mem.length c3) ∧ U.cell? ⟨W.heap.size, 3, none⟩ = some (.slice A4 s.buf.length c4) ∧ Rep4 U (some ⟨b3, o3, none⟩) A2 A3 A4 c1 c2 c3 c4 s ∧ Own U (W.heap.size + 1) 70 #[.slice none 0 0, .slice none 0 0, .slice none 0 0, .slice none 0 0]) := fun U hU => by
    have hl : Le W U := (Le.below hB).trans (Le.below hU)
    have oX := HO.out.1
    exact ⟨⟨hl _ _ k0, Le.below hU _ _ (oX.cell (i := 0) rfl), hl _ _ j0⟩, ⟨hl _ _ i0, hl _ _ i1, hl _ _ i2, hl _ _ i3⟩, Le.below hU _ _ (oX.cell (i := 1) rfl), Le.below hU _ _ (oX.cell (i := 2) rfl), Le.below hU _ _ (oX.cell (i := 3) rfl), HO.out.2.2.2.le hl, HO.out.2.1.under hU⟩
  have HVs := Lib.hid HO.out.2.2.1
  have OT6 := Lib.hid oT6
  have htI : (t : Int) < (p.length : Int) := by omega
  have hkI : (k : Int) < (th.length : Int) := by omega
  have hatI : (t : Int) < (s.at_.length : Int) := by omega
  obtain ⟨T, hTT⟩ : ∃ T, T = w5.heap.size := ⟨_, rfl⟩
  have hT6 : T < w6.heap.size := by omega
  have hb5s := hb5.size
  have hVT : V.heap.size ≤ T := by omega
  rw [← hTT] at OT6
  clear hins k0 i0 i1 i2 i3 j0 hth hthe hxk' hxk2 hatk hkl' hkl oT6 OW5 HP HX
  go_upto_region 2 with (fail)
  rw [← hw6, ← hTT]
  clear hw6 hTT hb5 hs6
  refine wp_region_rel [0, 1, 2, 3, 4, 5, 6, 7, 8, 9, 10, 11] [12] (TAl (fun d => match d with | 11 => .slice (some ⟨bp, op, none⟩) p.length cp | 12 => .int .i64 t | 13 => .pointer (some ⟨bp, op + t, none⟩) | 14 => .slice (some ⟨b1, o1, none⟩) th.length c5 | 15 => .pointer (some ⟨W.heap.size, 0, none⟩) | 16 => .slice (some ⟨b3, o3, none⟩) s.at_.length c1 | 17 => .int .i64 t | 18 => .pointer (some ⟨b3, o3 + t, none⟩) | 19 => .int .i64 k | 20 => .pointer (some ⟨b1, o1 + k * 4, none⟩) | 21 => .agg #[.int .i64 x.op, .int .i64 x.loc, .int .i64 x.reg, .int .i64 x.val] | _ => undef) 8 w6.heap.size 52 #[.int .i64 0, .int .i64 0, .int .i64 0, .int .i64 0]) (fun d => if d = 8 then 1 else 0) [11, 12, 13, 14, 15, 16, 17, 18, 19, 20, 21, 8] (by kernel_rfl) (by kernel_rfl) rfl (by simp) tal_nx tal_blk ?_ ?_
  · refine ⟨?_, ?_, ?_, ?_, ?_, ?_, ?_, ?_, ?_, ?_, ?_, ?_, trivial⟩
    all_goals (intro xs w hw hdep hsep; have hbw := nx_below hw; simp only [shpA, fillL, List.contains_cons, List.contains_nil, Nat.reduceAdd, Nat.reduceBEq, Bool.or_false, Bool.or_true, Bool.false_eq_true, ↓reduceIte])
    · go_wp2_with fail
      exact RelPost.mk (Nx.refl _) _ rfl rfl rfl
    · go_wp2_with fail
      exact RelPost.mk (Nx.refl _) _ rfl rfl rfl
    · have e11 : xs 11 = .slice (some ⟨bp, op, none⟩) p.length cp := hdep 11 (List.mem_of_elem_eq_true (by kernel_rfl))
      have e12 : xs 12 = .int .i64 t := hdep 12 (List.mem_of_elem_eq_true (by kernel_rfl))
      rw [e11, e12]
      go_wp2_with fail
      exact RelPost.mk (Nx.refl _) _ rfl rfl rfl
    · have e13 : xs 13 = .pointer (some ⟨bp, op + t, none⟩) := hdep 13 (List.mem_of_elem_eq_true (by kernel_rfl))
      have q0 := (HR.out w (hB6.trans (hbw.mono hB6.size))).1.1
      rw [e13]
      go_wp2_with fail
      exact RelPost.mk (Nx.refl _) _ rfl rfl rfl
    · go_wp2_with fail
      exact RelPost.mk (Nx.refl _) _ rfl rfl rfl
    · have e15 : xs 15 = .pointer (some ⟨W.heap.size, 0, none⟩) := hdep 15 (List.mem_of_elem_eq_true (by kernel_rfl))
      have q0 := (HR.out w (hB6.trans (hbw.mono hB6.size))).1.2.1
      rw [e15]
      go_wp2_with fail
      exact RelPost.mk (Nx.refl _) _ rfl rfl rfl
    · go_wp2_with fail
      exact RelPost.mk (Nx.refl _) _ rfl rfl rfl
    · have e16 : xs 16 = .slice (some ⟨b3, o3, none⟩) s.at_.length c1 := hdep 16 (List.mem_of_elem_eq_true (by kernel_rfl))
      have e17 : xs 17 = .int .i64 t := hdep 17 (List.mem_of_elem_eq_true (by kernel_rfl))
      rw [e16, e17]
      go_wp2_with fail
      exact RelPost.mk (Nx.refl _) _ rfl rfl rfl
    · have e18 : xs 18 = .pointer (some ⟨b3, o3 + t, none⟩) := hdep 18 (List.mem_of_elem_eq_true (by kernel_rfl))
      have q0 := (HR.out w (hB6.trans (hbw.mono hB6.size))).1.2.2
      rw [e18]
      go_wp2_with fail
      exact RelPost.mk (Nx.refl _) _ rfl rfl rfl
    · have e14 : xs 14 = .slice (some ⟨b1, o1, none⟩) th.length c5 := hdep 14 (List.mem_of_elem_eq_true (by kernel_rfl))
      have e19 : xs 19 = .int .i64 k := hdep 19 (List.mem_of_elem_eq_true (by kernel_rfl))
      rw [e14, e19]
      go_wp2_with fail
      exact RelPost.mk (Nx.refl _) _ rfl rfl rfl
    · have e20 : xs 20 = .pointer (some ⟨b1, o1 + k * 4, none⟩) := hdep 20 (List.mem_of_elem_eq_true (by kernel_rfl))
      have q0 := (HR.out w (hB6.trans (hbw.mono hB6.size))).2.1.1
      have q1 := (HR.out w (hB6.trans (hbw.mono hB6.size))).2.1.2.1
      have q2 := (HR.out w (hB6.trans (hbw.mono hB6.size))).2.1.2.2.1
      have q3 := (HR.out w (hB6.trans (hbw.mono hB6.size))).2.1.2.2.2
      rw [e20]
      go_wp2_with fail
      exact RelPost.mk (Nx.refl _) _ rfl rfl rfl
    · go_wp2_with fail
      exact RelPost.own ((Below.refl _ _).alloc (Nat.le_refl _) _) _ rfl ⟨w.heap.size, rfl, Own.new w _ _, Below.size hbw⟩ (fun b hb => .inl (by injection hb with hb; simp only at hb; omega))
  intro xs w7 hw hT hsep
  have hbw := nx_below hw
  obtain ⟨X, e8, oX7, hX6⟩ : HasB w6.heap.size 52 #[.int .i64 0, .int .i64 0, .int .i64 0, .int .i64 0] w7 (xs 8) := hT 8 (List.mem_of_elem_eq_true (by kernel_rfl))
  have e21 : xs 21 = .agg #[.int .i64 x.op, .int .i64 x.loc, .int .i64 x.reg, .int .i64 x.val] := hT 21 (List.mem_of_elem_eq_true (by kernel_rfl))
  show wpList _ _ _ [_] _ _
  simp only [shpA, fillL, List.contains_cons, List.contains_nil, Nat.reduceAdd, Nat.reduceBEq, Bool.or_false, Bool.or_true, Bool.false_eq_true, ↓reduceIte]
  rw [e8, e21]
  have z0 := oX7.cell (i := 0) rfl
  have z1 := oX7.cell (i := 1) rfl
  have z2 := oX7.cell (i := 2) rfl
  have z3 := oX7.cell (i := 3) rfl
  have y0 := oX7.frozen 0
  have y1 := oX7.frozen 1
  have y2 := oX7.frozen 2
  have y3 := oX7.frozen 3
  clear e8 e21 hT hsep hw
  obtain ⟨w8, hw8⟩ : ∃ w8, w8 = (((w7.setCell ⟨X, 0, none⟩ (.int .i64 x.op)).setCell ⟨X, 1, none⟩ (.int .i64 x.loc)).setCell ⟨X, 2, none⟩ (.int .i64 x.reg)).setCell ⟨X, 3, none⟩ (.int .i64 x.val) := ⟨_, rfl⟩
  have oX8 : Own w8 X 52 #[.int .i64 x.op, .int .i64 x.loc, .int .i64 x.reg, .int .i64 x.val] := by rw [hw8]; exact (((oX7.set 0 (.int .i64 x.op)).set 1 (.int .i64 x.loc)).set 2 (.int .i64 x.reg)).set 3 (.int .i64 x.val)
  have hB8 : Below w6.heap.size w6 w8 := by rw [hw8]; exact (((hbw.setCell hX6 _).setCell hX6 _).setCell hX6 _).setCell hX6 _
  have ow8 := Lib.hid (ow6.out.below hB8)
  have OX8 := Lib.hid oX8
  have OT8 := Lib.hid (OT6.out.under hB8)
  have hBV8 : Below V.heap.size V w8 := hB6.trans (hB8.mono hB6.size)
  have hX8 := oX8.lt
  generalize xs 11 = u11x
  generalize xs 12 = u12x
  generalize xs 13 = u13x
  generalize xs 14 = u14x
  generalize xs 15 = u15x
  generalize xs 16 = u16x
  generalize xs 17 = u17x
  generalize xs 18 = u18x
  generalize xs 19 = u19x
  generalize xs 20 = u20x
  go_upto_region 3 with (fail)
  rw [← hw8]
  clear hw8 oX7 oX8 z0 z1 z2 z3 y0 y1 y2 y3 ow6 OT6 hbw
  have hxb : (0 ≤ x.reg ∧ x.reg ≤ 2) ∧ 0 ≤ x.loc ∧ x.loc ≤ 2 := by
    rcases hx with h' | h' | h' | h' <;> omega
  obtain ⟨r, hr2⟩ : ∃ r : Nat, x.reg = (r : Int) := ⟨x.reg.toNat, by omega⟩
  obtain ⟨l, hl2⟩ : ∃ l : Nat, x.loc = (l : Int) := ⟨x.loc.toNat, by omega⟩
  have hr3 : r ≤ 2 := by omega
  have hl3 : l ≤ 2 := by omega
  have Hrl := Lib.hid (And.intro hr2 hl2)
  have Hx := Lib.hid hx
  have hlm : l < s.mem.length := by rw [HL.out.2.2.1]; omega
  have hrg : t * 3 + r < s.regs.length := by rw [HL.out.2.1]; omega
  have hreg3 : t * 3 + 3 ≤ s.regs.length := by rw [HL.out.2.1]; omega
  obtain ⟨mv, hmv⟩ : ∃ mv, mv = s.mem.getD l 0 := ⟨_, rfl⟩
  obtain ⟨wv, hwv⟩ : ∃ wv, wv = val3 s t x := ⟨_, rfl⟩
  have Hmv := Lib.hid (And.intro hmv hwv)
  have hHm : Hid (∃ b9 o9, A3 = some ⟨b9, o9, none⟩ ∧ ∀ U, Below V.heap.size V U → U.cell? ⟨b9, o9 + l, none⟩ = some (.int .i64 mv)) := by
    obtain ⟨b9, o9, e9, _, m0⟩ := HO.out.2.2.2.mem.get hlm
    refine ⟨b9, o9, e9, fun U hU => ?_⟩
    rw [hmv, List.getD_eq_getElem?_getD, List.getElem?_eq_getElem hlm]
    exact ((Le.below hB).trans (Le.below hU)) _ _ m0
  obtain ⟨b9, o9, e9, hm9⟩ := hHm.out
  have Hm9 := Lib.hid hm9
  subst e9
  have hD1 := ow8.out.set1 hat
  have hD2 := ow8.out.set2 hrg
  have hD3 := ow8.out.set3 hlm
  obtain ⟨g1, e1, hg1, _⟩ := hD1
  obtain ⟨g2, e2, hg2, _⟩ := hD2
  obtain ⟨g3, e3, hg3, _⟩ := hD3
  subst e1 e2 e3
  have hg1T : g1 ≠ T := fun e => ow8.out.r1.ne_own OT8.out (by decide) (by rw [e]; rfl)
  have hg1X : g1 ≠ X := fun e => ow8.out.r1.ne_own OX8.out (by decide) (by rw [e]; rfl)
  have hg2T : g2 ≠ T := fun e => ow8.out.r2.ne_own OT8.out (by decide) (by rw [e]; rfl)
  have hg2X : g2 ≠ X := fun e => ow8.out.r2.ne_own OX8.out (by decide) (by rw [e]; rfl)
  have hg3T : g3 ≠ T := fun e => ow8.out.r3.ne_own OT8.out (by decide) (by rw [e]; rfl)
  have hg3X : g3 ≠ X := fun e => ow8.out.r3.ne_own OX8.out (by decide) (by rw [e]; rfl)
  have hmem3 : (l : Int) < (s.mem.length : Int) := by omega
  have hregI : ((t * 3 + r : Nat) : Int) < (s.regs.length : Int) := by omega
  clear hx hxb hr2 hl2 hmv hwv hm9 hHm
  refine wp_region_rel [0, 1, 2, 3, 4, 5, 6, 7, 8, 9] [10] (TEq (fun d => match d with | 22 => .pointer (some ⟨T, 0, none⟩) | 23 => .slice (some ⟨g1, 0, none⟩) s.at_.length d1 | 24 => .int .i64 t | 25 => .pointer (some ⟨W.heap.size, 0, none⟩) | 26 => .slice (some ⟨b3, o3, none⟩) s.at_.length c1 | 27 => .int .i64 t | 28 => .pointer (some ⟨b3, o3 + t, none⟩) | 29 => .int .i64 k | 30 => .int .i64 ((k : Int) + 1) | 31 => .pointer (some ⟨g1, t, none⟩) | _ => undef)) (fun _ => 0) [22, 23, 24, 25, 26, 27, 28, 29, 30, 31] (by kernel_rfl) (by kernel_rfl) rfl (by simp) teq_nx teq_blk ?_ ?_
  · refine ⟨?_, ?_, ?_, ?_, ?_, ?_, ?_, ?_, ?_, ?_, trivial⟩
    all_goals (intro xs w hw hdep hsep; have hbw := nx_below hw; simp only [shpA, fillL, List.contains_cons, List.contains_nil, Nat.reduceAdd, Nat.reduceBEq, Bool.or_false, Bool.or_true, Bool.false_eq_true, ↓reduceIte])
    · go_wp2_with fail
      exact RelPost.mk (Nx.refl _) _ rfl rfl rfl
    · have e22 : xs 22 = .pointer (some ⟨T, 0, none⟩) := hdep 22 (List.mem_of_elem_eq_true (by kernel_rfl))
      have q0 := (OT8.out.under hbw).cell (i := 0) rfl
      rw [e22]
      go_wp2_with fail
      exact RelPost.mk (Nx.refl _) _ rfl rfl rfl
    · go_wp2_with fail
      exact RelPost.mk (Nx.refl _) _ rfl rfl rfl
    · go_wp2_with fail
      exact RelPost.mk (Nx.refl _) _ rfl rfl rfl
    · have e25 : xs 25 = .pointer (some ⟨W.heap.size, 0, none⟩) := hdep 25 (List.mem_of_elem_eq_true (by kernel_rfl))
      have q0 := (HR.out w (hBV8.trans (hbw.mono hBV8.size))).1.2.1
      rw [e25]
      go_wp2_with fail
      exact RelPost.mk (Nx.refl _) _ rfl rfl rfl
    · go_wp2_with fail
      exact RelPost.mk (Nx.refl _) _ rfl rfl rfl
    · have e26 : xs 26 = .slice (some ⟨b3, o3, none⟩) s.at_.length c1 := hdep 26 (List.mem_of_elem_eq_true (by kernel_rfl))
      have e27 : xs 27 = .int .i64 t := hdep 27 (List.mem_of_elem_eq_true (by kernel_rfl))
      rw [e26, e27]
      go_wp2_with fail
      exact RelPost.mk (Nx.refl _) _ rfl rfl rfl
    · have e28 : xs 28 = .pointer (some ⟨b3, o3 + t, none⟩) := hdep 28 (List.mem_of_elem_eq_true (by kernel_rfl))
      have q0 := (HR.out w (hBV8.trans (hbw.mono hBV8.size))).1.2.2
      rw [e28]
      go_wp2_with fail
      exact RelPost.mk (Nx.refl _) _ rfl rfl rfl
    · have e29 : xs 29 = .int .i64 k := hdep 29 (List.mem_of_elem_eq_true (by kernel_rfl))
      rw [e29]
      go_wp2_with fail
      exact RelPost.mk (Nx.refl _) _ rfl rfl rfl
    · have e23 : xs 23 = .slice (some ⟨g1, 0, none⟩) s.at_.length d1 := hdep 23 (List.mem_of_elem_eq_true (by kernel_rfl))
      have e24 : xs 24 = .int .i64 t := hdep 24 (List.mem_of_elem_eq_true (by kernel_rfl))
      rw [e23, e24]
      go_wp2_with fail
      exact RelPost.mk (Nx.refl _) _ rfl rfl rfl
  intro xs w9 hw hT hsep
  have hbw := nx_below hw
  have e30 : xs 30 = .int .i64 ((k : Int) + 1) := hT 30 (List.mem_of_elem_eq_true (by kernel_rfl))
  have e31 : xs 31 = .pointer (some ⟨g1, t, none⟩) := hT 31 (List.mem_of_elem_eq_true (by kernel_rfl))
  show wpList _ _ _ [_] _ _
  simp only [shpA, fillL, List.contains_cons, List.contains_nil, Nat.reduceAdd, Nat.reduceBEq, Bool.or_false, Bool.or_true, Bool.false_eq_true, ↓reduceIte]
  rw [e30, e31]
  clear e30 e31 hT hsep hw
  generalize xs 22 = u22x
  generalize xs 23 = u23x
  generalize xs 24 = u24x
  generalize xs 25 = u25x
  generalize xs 26 = u26x
  generalize xs 27 = u27x
  generalize xs 28 = u28x
  generalize xs 29 = u29x
  obtain ⟨g', e', _, _, q1, f1, _, hset⟩ := (ow8.out.below hbw).set1 hat
  injection e' with e'
  injection e' with e'
  subst e'
  have ow10 := Lib.hid (hset ((k : Int) + 1))
  obtain ⟨w10, hw10⟩ : ∃ w10, w10 = w9.setCell ⟨g1, t, none⟩ (.int .i64 ((k : Int) + 1)) := ⟨_, rfl⟩
  have OT10 := Lib.hid ((OT8.out.under hbw).far (a := ⟨g1, t, none⟩) (fun e => hg1T e.symm) (.int .i64 ((k : Int) + 1)))
  have OX10 := Lib.hid ((OX8.out.under hbw).far (a := ⟨g1, t, none⟩) (fun e => hg1X e.symm) (.int .i64 ((k : Int) + 1)))
  have hBV10 : Below V.heap.size V (w9.setCell ⟨g1, t, none⟩ (.int .i64 ((k : Int) + 1))) := (hBV8.trans (hbw.mono hBV8.size)).setCell hg1 _
  have hs9 := hbw.size
  go_upto_region 4 with (fail)
  rw [← hw10] at ow10 OT10 OX10 hBV10 ⊢
  have hs10 : w10.heap.size = w9.heap.size := by rw [hw10]; simp
  clear hw10 q1 f1 hset OT8 OX8 ow8 hbw
  have hc4 := l1Reads_any x w10
  have x0 := OX10.out.cell (i := 0) rfl
  have x1 := OX10.out.cell (i := 1) rfl
  have x2 := OX10.out.cell (i := 2) rfl
  have x3 := OX10.out.cell (i := 3) rfl
  have hX10 := OX10.out.lt
  have hHo := Lib.hid hg1
  go_wp2_with fail
  refine hc4.mono ?_
  rintro ea wa ⟨rfl, hba⟩
  have ow11 := Lib.hid (ow10.out.below hba)
  have OT11 := Lib.hid (OT10.out.under hba)
  have OX11 := Lib.hid (OX10.out.under hba)
  have hBV11 := hBV10.trans (hba.mono hBV10.size)
  clear hc4 x0 x1 x2 x3 ow10 OT10 OX10 hBV10 hba
  obtain ⟨rg, hrgd⟩ : ∃ rg, rg = (if rdB x = true then s.regs.set (t * 3 + r) mv else s.regs) := ⟨_, rfl⟩
  have hrgl : rg.length = s.regs.length := by rw [hrgd]; split <;> simp
  have Hrg := Lib.hid hrgd
  have Hrgl := Lib.hid hrgl
  clear hrgl
  cases hrd : rdB x
  case' true =>
    rw [hrd, if_pos rfl] at hrgd
    have Hrd := Lib.hid hrgd
    clear hrgd hrd
    go_upto_region 5 with (fail)
    refine wp_region_rel [0, 1, 2, 3, 4, 5, 6, 7, 8, 9, 10, 11, 12] [13] (TEq (fun d => match d with | 34 => .pointer (some ⟨T, 1, none⟩) | 35 => .slice (some ⟨g2, 0, none⟩) s.regs.length d2 | 36 => .int .i64 t | 37 => .pointer (some ⟨X, 2, none⟩) | 38 => .int .i64 r | 39 => .int .i64 ((t * 3 + r : Nat) : Int) | 40 => .pointer (some ⟨W.heap.size, 2, none⟩) | 41 => .slice (some ⟨b9, o9, none⟩) s.mem.length c3 | 42 => .pointer (some ⟨X, 1, none⟩) | 43 => .int .i64 l | 44 => .pointer (some ⟨b9, o9 + l, none⟩) | 45 => .int .i64 mv | 46 => .pointer (some ⟨g2, t * 3 + r, none⟩) | _ => undef)) (fun _ => 0) [34, 35, 36, 37, 38, 39, 40, 41, 42, 43, 44, 45, 46] (by kernel_rfl) (by kernel_rfl) rfl (by simp) teq_nx teq_blk ?_ ?_
    · refine ⟨?_, ?_, ?_, ?_, ?_, ?_, ?_, ?_, ?_, ?_, ?_, ?_, ?_, trivial⟩
      all_goals (intro xs w hw hdep hsep; have hbw := nx_below hw; simp only [shpA, fillL, List.contains_cons, List.contains_nil, Nat.reduceAdd, Nat.reduceBEq, Bool.or_false, Bool.or_true, Bool.false_eq_true, ↓reduceIte])
      · go_wp2_with fail
        exact RelPost.mk (Nx.refl _) _ rfl rfl rfl
      · have e34 : xs 34 = .pointer (some ⟨T, 1, none⟩) := hdep 34 (List.mem_of_elem_eq_true (by kernel_rfl))
        have q0 := (OT11.out.under hbw).cell (i := 1) rfl
        rw [e34]
        go_wp2_with fail
        exact RelPost.mk (Nx.refl _) _ rfl rfl rfl
      · go_wp2_with fail
        exact RelPost.mk (Nx.refl _) _ rfl rfl rfl
      · go_wp2_with fail
        exact RelPost.mk (Nx.refl _) _ rfl rfl rfl
      · have e37 : xs 37 = .pointer (some ⟨X, 2, none⟩) := hdep 37 (List.mem_of_elem_eq_true (by kernel_rfl))
        have q0 := ((OX11.out.under hbw).cell (i := 2) rfl : w.cell? ⟨X, 2, none⟩ = some (.int .i64 x.reg))
        have q1 := Hrl.out.1
        rw [e37]
        go_wp2_with fail
        exact RelPost.mk (Nx.refl _) _ rfl rfl rfl
      · have e36 : xs 36 = .int .i64 t := hdep 36 (List.mem_of_elem_eq_true (by kernel_rfl))
        have e38 : xs 38 = .int .i64 r := hdep 38 (List.mem_of_elem_eq_true (by kernel_rfl))
        rw [e36, e38]
        go_wp2_with fail
        refine (l3Reg_any t r (by omega) (by omega) w).mono ?_
        rintro ec wc ⟨rfl, hbc⟩
        go_wp2_with fail
        exact RelPost.mk hbc _ rfl rfl rfl
      · go_wp2_with fail
        exact RelPost.mk (Nx.refl _) _ rfl rfl rfl
      · have e40 : xs 40 = .pointer (some ⟨W.heap.size, 2, none⟩) := hdep 40 (List.mem_of_elem_eq_true (by kernel_rfl))
        have q0 := (HR.out w (hBV11.trans (hbw.mono hBV11.size))).2.2.2.1
        rw [e40]
        go_wp2_with fail
        exact RelPost.mk (Nx.refl _) _ rfl rfl rfl
      · go_wp2_with fail
        exact RelPost.mk (Nx.refl _) _ rfl rfl rfl
      · have e42 : xs 42 = .pointer (some ⟨X, 1, none⟩) := hdep 42 (List.mem_of_elem_eq_true (by kernel_rfl))
        have q0 := ((OX11.out.under hbw).cell (i := 1) rfl : w.cell? ⟨X, 1, none⟩ = some (.int .i64 x.loc))
        have q1 := Hrl.out.2
        rw [e42]
        go_wp2_with fail
        exact RelPost.mk (Nx.refl _) _ rfl rfl rfl
      · have e41 : xs 41 = .slice (some ⟨b9, o9, none⟩) s.mem.length c3 := hdep 41 (List.mem_of_elem_eq_true (by kernel_rfl))
        have e43 : xs 43 = .int .i64 l := hdep 43 (List.mem_of_elem_eq_true (by kernel_rfl))
        rw [e41, e43]
        go_wp2_with fail
        exact RelPost.mk (Nx.refl _) _ rfl rfl rfl
      · have e44 : xs 44 = .pointer (some ⟨b9, o9 + l, none⟩) := hdep 44 (List.mem_of_elem_eq_true (by kernel_rfl))
        have q0 := Hm9.out w (hBV11.trans (hbw.mono hBV11.size))
        rw [e44]
        go_wp2_with fail
        exact RelPost.mk (Nx.refl _) _ rfl rfl rfl
      · have e35 : xs 35 = .slice (some ⟨g2, 0, none⟩) s.regs.length d2 := hdep 35 (List.mem_of_elem_eq_true (by kernel_rfl))
        have e39 : xs 39 = .int .i64 ((t * 3 + r : Nat) : Int) := hdep 39 (List.mem_of_elem_eq_true (by kernel_rfl))
        rw [e35, e39]
        go_wp2_with fail
        exact RelPost.mk (Nx.refl _) _ rfl rfl rfl
    intro xs wy hw hT hsep
    have hbw := nx_below hw
    have e45 : xs 45 = .int .i64 mv := hT 45 (List.mem_of_elem_eq_true (by kernel_rfl))
    have e46 : xs 46 = .pointer (some ⟨g2, t * 3 + r, none⟩) := hT 46 (List.mem_of_elem_eq_true (by kernel_rfl))
    show wpList _ _ _ [_] _ _
    simp only [shpA, fillL, List.contains_cons, List.contains_nil, Nat.reduceAdd, Nat.reduceBEq, Bool.or_false, Bool.or_true, Bool.false_eq_true, ↓reduceIte]
    rw [e45, e46]
    clear e45 e46 hT hsep hw
    generalize xs 34 = u34x
    generalize xs 35 = u35x
    generalize xs 36 = u36x
    generalize xs 37 = u37x
    generalize xs 38 = u38x
    generalize xs 39 = u39x
    generalize xs 40 = u40x
    generalize xs 41 = u41x
    generalize xs 42 = u42x
    generalize xs 43 = u43x
    generalize xs 44 = u44x
    obtain ⟨g', e', _, _, q1, f1, _, hset⟩ := (ow11.out.below hbw).set2 (i := t * 3 + r) hrg
    injection e' with e'
    injection e' with e'
    subst e'
    have ow12 : Hid (OwS V.heap.size (wy.setCell ⟨g2, t * 3 + r, none⟩ (.int .i64 mv)) (some ⟨g1, 0, none⟩) (some ⟨g2, 0, none⟩) (some ⟨g3, 0, none⟩) D4 s.at_.length s.regs.length s.mem.length s.buf.length d1 d2 d3 d4 K cs Fs ⟨s.at_.set t ((k : Int) + 1), rg, s.mem, s.buf⟩) := by rw [Hrd.out]; exact hset mv
    obtain ⟨wb, hwb⟩ : ∃ wb, wb = wy.setCell ⟨g2, t * 3 + r, none⟩ (.int .i64 mv) := ⟨_, rfl⟩
    have OT12 := Lib.hid ((OT11.out.under hbw).far (a := ⟨g2, t * 3 + r, none⟩) (fun e => hg2T e.symm) (.int .i64 mv))
    have OX12 := Lib.hid ((OX11.out.under hbw).far (a := ⟨g2, t * 3 + r, none⟩) (fun e => hg2X e.symm) (.int .i64 mv))
    have hBV12 : Below V.heap.size V (wy.setCell ⟨g2, t * 3 + r, none⟩ (.int .i64 mv)) := (hBV11.trans (hbw.mono hBV11.size)).setCell hg2 _
    go_upto_region 6 with (fail)
    rw [← hwb] at ow12 OT12 OX12 hBV12 ⊢
    clear hwb q1 f1 hset OT11 OX11 ow11 hbw hBV11 Hrd
  case' false =>
    rw [hrd, if_neg (by simp)] at hrgd
    have ow12 : Hid (OwS V.heap.size wa (some ⟨g1, 0, none⟩) (some ⟨g2, 0, none⟩) (some ⟨g3, 0, none⟩) D4 s.at_.length s.regs.length s.mem.length s.buf.length d1 d2 d3 d4 K cs Fs ⟨s.at_.set t ((k : Int) + 1), rg, s.mem, s.buf⟩) := by rw [hrgd]; exact ow11.out
    have OT12 := OT11
    have OX12 := OX11
    have hBV12 := hBV11
    obtain ⟨wb, hwb⟩ : ∃ wb : World, wb = wa := ⟨_, rfl⟩
    rw [← hwb] at ow12 OT12 OX12 hBV12
    clear ow11 OT11 OX11 hBV11 hrgd hrd
    go_upto_region 6 with (fail)
    try rw [← hwb]
    clear hwb
  all_goals
    have hc6 := l1Writes_any x wb
    have x0 := OX12.out.cell (i := 0) rfl
    have x1 := OX12.out.cell (i := 1) rfl
    have x2 := OX12.out.cell (i := 2) rfl
    have x3 := OX12.out.cell (i := 3) rfl
    have hX12 := OX12.out.lt
    go_wp2_with fail
    refine hc6.mono ?_
    rintro eb wc ⟨rfl, hbc⟩
    have ow13 := Lib.hid (ow12.out.below hbc)
    have OT13 := Lib.hid (OT12.out.under hbc)
    have OX13 := Lib.hid (OX12.out.under hbc)
    have hBV13 := hBV12.trans (hbc.mono hBV12.size)
    clear hc6 x0 x1 x2 x3 ow12 OT12 OX12 hBV12 hbc
    obtain ⟨mm, hmm⟩ : ∃ mm, mm = (if wrB x = true then s.mem.set l wv else s.mem) := ⟨_, rfl⟩
    have Hmm := Lib.hid hmm
    cases hwr : wrB x
    · rw [hwr, if_neg (by simp)] at hmm
      have ow14 : Hid (OwS V.heap.size wc (some ⟨g1, 0, none⟩) (some ⟨g2, 0, none⟩) (some ⟨g3, 0, none⟩) D4 s.at_.length s.regs.length s.mem.length s.buf.length d1 d2 d3 d4 K cs Fs ⟨s.at_.set t ((k : Int) + 1), rg, mm, s.buf⟩) := by rw [hmm]; exact ow13.out
      have OT14 := OT13
      have hBV14 := hBV13
      obtain ⟨wf, hwf⟩ : ∃ wf : World, wf = wc := ⟨_, rfl⟩
      rw [← hwf] at ow14 OT14 hBV14
      clear ow13 OT13 OX13 hBV13 hmm hwr
      go_upto_region 8 with (fail)
      try rw [← hwf]
      clear hwf
      have Hdo : Hid ((⟨s.at_.set t ((k : Int) + 1), rg, mm, s.buf⟩ : S3) = do3 s t x) := by
        show _ = _
        unfold do3
        rw [HL.out.2.2.2, Hrl.out.1, Hrl.out.2, Int.toNat_natCast, Int.toNat_natCast, ← Hmv.out.1, ← Hmv.out.2, ← Hrg.out, ← Hmm.out]
      have q0 := OT14.out.cell (i := 0) rfl
      have q1 := OT14.out.cell (i := 1) rfl
      have q2 := OT14.out.cell (i := 2) rfl
      have q3 := OT14.out.cell (i := 3) rfl
      have hTl := OT14.out.lt
      have oRr := (HR.out wf hBV14).2.2.2.2.2.2
      have p0 := oRr.cell (i := 0) rfl
      have p1 := oRr.cell (i := 1) rfl
      have p2 := oRr.cell (i := 2) rfl
      have p3 := oRr.cell (i := 3) rfl
      have f0 := oRr.frozen 0
      have f1 := oRr.frozen 1
      have f2 := oRr.frozen 2
      have f3 := oRr.frozen 3
      have hRl := oRr.lt
      clear oRr
      go_wp2_with fail
      refine bodyPost_ret (v := .agg #[.slice (some ⟨g1, 0, none⟩) s.at_.length d1, .slice (some ⟨g2, 0, none⟩) s.regs.length d2, .slice (some ⟨g3, 0, none⟩) s.mem.length d3, .slice D4 s.buf.length d4]) (by simp [results, Tryz.results119, go_sem, p0, p1, p2, p3]) rfl ?_
      exact ow14.out.ret Hdo.out (by have := HVs.out; omega) (hB.trans (hBV14.mono hB.size)) (by omega) (by have := HVs.out; omega) _ _ _ _
    · rw [hwr, if_pos rfl] at hmm
      have Hwd := Lib.hid hmm
      clear hmm hwr
      go_upto_region 7 with (fail)
      refine wp_region_rel [0, 1, 2, 3, 4, 5, 6, 7, 8] [9] (TEq (fun d => match d with | 49 => .pointer (some ⟨T, 2, none⟩) | 50 => .slice (some ⟨g3, 0, none⟩) s.mem.length d3 | 51 => .pointer (some ⟨X, 1, none⟩) | 52 => .int .i64 l | 53 => .agg #[.slice (some ⟨b3, o3, none⟩) s.at_.length c1, .slice A2 s.regs.length c2, .slice (some ⟨b9, o9, none⟩) s.mem.length c3, .slice A4 s.buf.length c4] | 54 => .int .i64 t | 55 => .agg #[.int .i64 x.op, .int .i64 x.loc, .int .i64 x.reg, .int .i64 x.val] | 56 => .int .i64 wv | 57 => .pointer (some ⟨g3, l, none⟩) | _ => undef)) (fun _ => 0) [49, 50, 51, 52, 53, 54, 55, 56, 57] (by kernel_rfl) (by kernel_rfl) rfl (by simp) teq_nx teq_blk ?_ ?_
      · refine ⟨?_, ?_, ?_, ?_, ?_, ?_, ?_, ?_, ?_, trivial⟩
        all_goals (intro xs w hw hdep hsep; have hbw := nx_below hw; simp only [shpA, fillL, List.contains_cons, List.contains_nil, Nat.reduceAdd, Nat.reduceBEq, Bool.or_false, Bool.or_true, Bool.false_eq_true, ↓reduceIte])
        · go_wp2_with fail
          exact RelPost.mk (Nx.refl _) _ rfl rfl rfl
        · have e49 : xs 49 = .pointer (some ⟨T, 2, none⟩) := hdep 49 (List.mem_of_elem_eq_true (by kernel_rfl))
          have q0 := (OT13.out.under hbw).cell (i := 2) rfl
          rw [e49]
          go_wp2_with fail
          exact RelPost.mk (Nx.refl _) _ rfl rfl rfl
        · go_wp2_with fail
          exact RelPost.mk (Nx.refl _) _ rfl rfl rfl
        · have e51 : xs 51 = .pointer (some ⟨X, 1, none⟩) := hdep 51 (List.mem_of_elem_eq_true (by kernel_rfl))
          have q0 := ((OX13.out.under hbw).cell (i := 1) rfl : w.cell? ⟨X, 1, none⟩ = some (.int .i64 x.loc))
          have q1 := Hrl.out.2
          rw [e51]
          go_wp2_with fail
          exact RelPost.mk (Nx.refl _) _ rfl rfl rfl
        · have q0 := (HR.out w (hBV13.trans (hbw.mono hBV13.size))).1.2.1
          have q1 := (HR.out w (hBV13.trans (hbw.mono hBV13.size))).2.2.1
          have q2 := (HR.out w (hBV13.trans (hbw.mono hBV13.size))).2.2.2.1
          have q3 := (HR.out w (hBV13.trans (hbw.mono hBV13.size))).2.2.2.2.1
          go_wp2_with fail
          exact RelPost.mk (Nx.refl _) _ rfl rfl rfl
        · go_wp2_with fail
          exact RelPost.mk (Nx.refl _) _ rfl rfl rfl
        · have q0 := (OX13.out.under hbw).cell (i := 0) rfl
          have q1 := (OX13.out.under hbw).cell (i := 1) rfl
          have q2 := (OX13.out.under hbw).cell (i := 2) rfl
          have q3 := (OX13.out.under hbw).cell (i := 3) rfl
          go_wp2_with fail
          exact RelPost.mk (Nx.refl _) _ rfl rfl rfl
        · have e53 : xs 53 = .agg #[.slice (some ⟨b3, o3, none⟩) s.at_.length c1, .slice A2 s.regs.length c2, .slice (some ⟨b9, o9, none⟩) s.mem.length c3, .slice A4 s.buf.length c4] := hdep 53 (List.mem_of_elem_eq_true (by kernel_rfl))
          have e54 : xs 54 = .int .i64 t := hdep 54 (List.mem_of_elem_eq_true (by kernel_rfl))
          have e55 : xs 55 = .agg #[.int .i64 x.op, .int .i64 x.loc, .int .i64 x.reg, .int .i64 x.val] := hdep 55 (List.mem_of_elem_eq_true (by kernel_rfl))
          rw [e53, e54, e55]
          go_wp2_with fail
          refine (l3Value_any s t x Hx.out hreg3 hrl w _ _ _ _ _ _ _ _ (HR.out w (hBV13.trans (hbw.mono hBV13.size))).2.2.2.2.2.1).mono ?_
          rintro ec wc' ⟨rfl, hbc⟩
          rw [← Hmv.out.2]
          go_wp2_with fail
          exact RelPost.mk hbc _ rfl rfl rfl
        · have e50 : xs 50 = .slice (some ⟨g3, 0, none⟩) s.mem.length d3 := hdep 50 (List.mem_of_elem_eq_true (by kernel_rfl))
          have e52 : xs 52 = .int .i64 l := hdep 52 (List.mem_of_elem_eq_true (by kernel_rfl))
          rw [e50, e52]
          go_wp2_with fail
          exact RelPost.mk (Nx.refl _) _ rfl rfl rfl
      intro xs wz hw hT hsep
      have hbw := nx_below hw
      have e56 : xs 56 = .int .i64 wv := hT 56 (List.mem_of_elem_eq_true (by kernel_rfl))
      have e57 : xs 57 = .pointer (some ⟨g3, l, none⟩) := hT 57 (List.mem_of_elem_eq_true (by kernel_rfl))
      show wpList _ _ _ [_] _ _
      simp only [shpA, fillL, List.contains_cons, List.contains_nil, Nat.reduceAdd, Nat.reduceBEq, Bool.or_false, Bool.or_true, Bool.false_eq_true, ↓reduceIte]
      rw [e56, e57]
      clear e56 e57 hT hsep hw
      generalize xs 49 = u49x
      generalize xs 50 = u50x
      generalize xs 51 = u51x
      generalize xs 52 = u52x
      generalize xs 53 = u53x
      generalize xs 54 = u54x
      generalize xs 55 = u55x
      obtain ⟨g', e', _, _, q1, f1, _, hset⟩ := (ow13.out.below hbw).set3 (i := l) hlm
      injection e' with e'
      injection e' with e'
      subst e'
      have ow14 : Hid (OwS V.heap.size (wz.setCell ⟨g3, l, none⟩ (.int .i64 wv)) (some ⟨g1, 0, none⟩) (some ⟨g2, 0, none⟩) (some ⟨g3, 0, none⟩) D4 s.at_.length s.regs.length s.mem.length s.buf.length d1 d2 d3 d4 K cs Fs ⟨s.at_.set t ((k : Int) + 1), rg, mm, s.buf⟩) := by rw [Hwd.out]; exact hset wv
      obtain ⟨wf, hwf⟩ : ∃ wf, wf = wz.setCell ⟨g3, l, none⟩ (.int .i64 wv) := ⟨_, rfl⟩
      have OT14 := Lib.hid ((OT13.out.under hbw).far (a := ⟨g3, l, none⟩) (fun e => hg3T e.symm) (.int .i64 wv))
      have hBV14 : Below V.heap.size V (wz.setCell ⟨g3, l, none⟩ (.int .i64 wv)) := (hBV13.trans (hbw.mono hBV13.size)).setCell hg3 _
      go_upto_region 8 with (fail)
      rw [← hwf] at ow14 OT14 hBV14 ⊢
      clear hwf q1 f1 hset OT13 OX13 ow13 hbw hBV13
      have Hdo : Hid ((⟨s.at_.set t ((k : Int) + 1), rg, mm, s.buf⟩ : S3) = do3 s t x) := by
        show _ = _
        unfold do3
        rw [HL.out.2.2.2, Hrl.out.1, Hrl.out.2, Int.toNat_natCast, Int.toNat_natCast, ← Hmv.out.1, ← Hmv.out.2, ← Hrg.out, ← Hmm.out]
      have q0 := OT14.out.cell (i := 0) rfl
      have q1 := OT14.out.cell (i := 1) rfl
      have q2 := OT14.out.cell (i := 2) rfl
      have q3 := OT14.out.cell (i := 3) rfl
      have hTl := OT14.out.lt
      have oRr := (HR.out wf hBV14).2.2.2.2.2.2
      have p0 := oRr.cell (i := 0) rfl
      have p1 := oRr.cell (i := 1) rfl
      have p2 := oRr.cell (i := 2) rfl
      have p3 := oRr.cell (i := 3) rfl
      have f0 := oRr.frozen 0
      have f1 := oRr.frozen 1
      have f2 := oRr.frozen 2
      have f3 := oRr.frozen 3
      have hRl := oRr.lt
      clear oRr
      go_wp2_with fail
      refine bodyPost_ret (v := .agg #[.slice (some ⟨g1, 0, none⟩) s.at_.length d1, .slice (some ⟨g2, 0, none⟩) s.regs.length d2, .slice (some ⟨g3, 0, none⟩) s.mem.length d3, .slice D4 s.buf.length d4]) (by simp [results, Tryz.results119, go_sem, p0, p1, p2, p3]) rfl ?_
      exact ow14.out.ret Hdo.out (by have := HVs.out; omega) (hB.trans (hBV14.mono hB.size)) (by omega) (by have := HVs.out; omega) _ _ _ _

end Go.Proofs.YtahegjofooahkaaGreat

/-! The reference's states: l3Start. -/
namespace Go.Proofs.YtahegjofooahkaaGreat
open Go.RowKit
set_option linter.unusedVariables false
set_option maxRecDepth 100000

theorem madeCells_rep (z : Value) (n : Nat) : (madeCells #[z] n).toList = List.replicate n z := by
  unfold madeCells
  refine List.ext_getElem (by simp) fun i h1 h2 => ?_
  simp only [Array.toList_map, List.getElem_map, List.getElem_replicate]
  have : (Array.range n).toList[i]'(by simpa using h1) % 1 = 0 := Nat.mod_one _
  simp [Nat.mod_one]
theorem rowI_own {w : World} {g B : Nat} {xs : List Int} {cur : Array Value} (ho : Own w g 3 cur) (hc : cur.toList = xs.map (Value.int .i64)) (hB : B ≤ g) (hl : xs.length ≤ 1000000) : RowI w B (.slice (some ⟨g, 0, none⟩) xs.length xs.length) xs :=
  row_of_map ⟨by simp, .inr ⟨g, xs.length, cur, rfl, hB, ho, Nat.le_refl _, by simp [maxLen]; omega, by have := congrArg List.length hc; simpa using this, by rw [hc, Nat.mul_one, List.take_of_length_le (by simp)]⟩⟩
theorem hasI_made {w : World} {B n : Nat} (hB : B ≤ w.heap.size) (hn : n ≤ 1000000) : HasI B (List.replicate n 0) (w.alloc (.cells (madeCells #[.int .i64 0] n) 3)) (.slice (some ⟨w.heap.size, 0, none⟩) n n) := by
  have h := rowI_own (B := B) (xs := List.replicate n 0) (Own.new w 3 (madeCells #[.int .i64 0] n)) (by rw [madeCells_rep]; simp) hB (by simpa using hn)
  refine ⟨some ⟨w.heap.size, 0, none⟩, n, by rw [List.length_replicate], ?_⟩
  rw [List.length_replicate] at h ⊢
  exact h
/-- The state before a program of n threads with b buffers. -/
def s30 (n b : Nat) : S3 := ⟨List.replicate n 0, List.replicate (n * 3) 0, [0, 0, 0], List.replicate b []⟩
def TSt (Ap : Option Addr) (cp n V : Nat) (d : Nat) (w : World) (v : Value) : Prop :=
  match d with
  | 6 => v = .slice Ap n cp
  | 7 => v = .int .i64 n
  | 8 => HasI V (List.replicate n 0) w v
  | 9 => v = .slice Ap n cp
  | 10 => v = .int .i64 n
  | 11 => v = .int .i64 ((n * 3 : Nat) : Int)
  | 12 => HasI V (List.replicate (n * 3) 0) w v
  | 13 => HasI V [0, 0, 0] w v
  | 14 => ∃ v1 v2 v3, v = .agg #[v1, v2, v3, .slice none 0 0] ∧ HasI V (List.replicate n 0) w v1 ∧ HasI V (List.replicate (n * 3) 0) w v2 ∧ HasI V [0, 0, 0] w v3
  | 5 => HasB V 70 #[.slice none 0 0, .slice none 0 0, .slice none 0 0, .slice none 0 0] w v
  | _ => True
def clSt (d : Nat) : Nat :=
  match d with
  | 5 => 1 | _ => 0
theorem tst_nx {Ap : Option Addr} {cp n V : Nat} : ∀ d w w' v, Nx w w' → TSt Ap cp n V d w v → TSt Ap cp n V d w' v := fun d w w' v hb h => by
  unfold TSt at h ⊢
  split at h <;> first | exact h | exact HasI.nx hb h | exact HasB.nx hb h | (obtain ⟨v1, v2, v3, e, h1, h2, h3⟩ := h; exact ⟨v1, v2, v3, e, h1.nx hb, h2.nx hb, h3.nx hb⟩) | trivial
theorem tst_blk {Ap : Option Addr} {cp n V : Nat} : ∀ d w v b, TSt Ap cp n V d w v → clSt d ≠ 0 → blkV v = some b → b < w.heap.size := fun d w v b h hc hb => by
  unfold TSt at h
  split at h <;> first | exact HasI.blk h hb | exact HasB.blk h hb | exact absurd rfl hc | (exfalso; revert hc; unfold clSt; split <;> simp_all)

set_option maxHeartbeats 4000000 in
theorem l3Start_any (p : Prg) (hp : p.length ≤ 1000) (b : Nat) (hb1000 : b ≤ 1000) (W : World) (vp : Value) (hpr : PrgS W vp p) :
    Calls Tryz.prog 98 #[vp, .int .i64 b] W (RetS4 W (s30 p.length b)) := by
  obtain ⟨Ap, cp, rfl, hpl⟩ := SlR.slice hpr
  have hmk1 := run_make_any (P := Tryz.prog) 24 3 _ 1 8 Tryz.underlying24 Tryz.infoInt p.length (by omega) (by omega)
  have hmk2 := run_make_any (P := Tryz.prog) 24 3 _ 1 8 Tryz.underlying24 Tryz.infoInt (p.length * 3) (by omega) (by omega)
  have hmk3 := run_make_any (P := Tryz.prog) 24 3 _ 1 8 Tryz.underlying24 Tryz.infoInt 3 (by omega) (by omega)
  have hmk4 := run_make_any (P := Tryz.prog) 31 24 _ 1 24 Tryz.underlying31 Tryz.infoInts b (by omega) (by omega)
  obtain ⟨V, hV⟩ : ∃ V, V = W.alloc (.cells #[.slice none 0 0, .slice none 0 0, .slice none 0 0, .slice none 0 0] 70) := ⟨_, rfl⟩
  have hB : Below W.heap.size W V := by rw [hV]; exact (Below.refl _ _).alloc (Nat.le_refl _) _
  have hVs : V.heap.size = W.heap.size + 1 := by rw [hV]; simp
  have oR : Own V W.heap.size 70 #[.slice none 0 0, .slice none 0 0, .slice none 0 0, .slice none 0 0] := by rw [hV]; exact Own.new _ _ _
  have HV := Lib.hid (And.intro hVs oR)
  obtain ⟨n, hn⟩ : ∃ n, n = p.length := ⟨_, rfl⟩
  rw [← hn] at hp hmk1 hmk2 ⊢
  have hmkb : ∀ w, (Instr.makeSlice 24 (.int .i64 ((n : Int) * 3)) (.int .i64 ((n : Int) * 3))).run Tryz.prog w = .ok (.slice (some ⟨w.heap.size, 0, none⟩) (n * 3) (n * 3)) (w.alloc (.cells (madeCells #[.int .i64 0] (n * 3)) 3)) := fun w => by
    have h := hmk2 w
    rw [show ((n * 3 : Nat) : Int) = (n : Int) * 3 by omega, Nat.mul_one] at h
    exact h
  have hmkc : ∀ w, (Instr.makeSlice 24 (.int .i64 3) (.int .i64 3)).run Tryz.prog w = .ok (.slice (some ⟨w.heap.size, 0, none⟩) 3 3) (w.alloc (.cells (madeCells #[.int .i64 0] 3) 3)) := fun w => hmk3 w
  have hmka : ∀ w, (Instr.makeSlice 24 (.int .i64 (n : Int)) (.int .i64 (n : Int))).run Tryz.prog w = .ok (.slice (some ⟨w.heap.size, 0, none⟩) n n) (w.alloc (.cells (madeCells #[.int .i64 0] n) 3)) := fun w => by
    have h := hmk1 w
    rw [Nat.mul_one] at h
    exact h
  have hmkd : ∀ w, (Instr.makeSlice 31 (.int .i64 (b : Int)) (.int .i64 (b : Int))).run Tryz.prog w = .ok (.slice (some ⟨w.heap.size, 0, none⟩) b b) (w.alloc (.cells (madeCells #[.slice none 0 0] b) 24)) := fun w => by
    have h := hmk4 w
    rw [Nat.mul_one] at h
    exact h
  clear hmk1 hmk2 hmk3 hmk4
  clear hVs oR hpr hn hpl
  go_enter Tryz.func98, Tryz.ntmps98
  go_upto_region 1 with (fail)
  rw [← hV]
  clear hV
  refine wp_region_rel [0, 1, 2, 3, 4, 5, 6, 7, 8, 9] [10] (TSt Ap cp n V.heap.size) clSt [6, 7, 8, 9, 10, 11, 12, 13, 14, 5] (by kernel_rfl) (by kernel_rfl) rfl (by simp) tst_nx tst_blk ?_ ?_
  · refine ⟨?_, ?_, ?_, ?_, ?_, ?_, ?_, ?_, ?_, ?_, trivial⟩
    all_goals (intro xs w hw hdep hsep; have hVw : V.heap.size ≤ w.heap.size := Nx.sz hw; simp only [shpA, fillL, List.contains_cons, List.contains_nil, Nat.reduceAdd, Nat.reduceBEq, Bool.or_false, Bool.or_true, Bool.false_eq_true, ↓reduceIte])
    · go_wp2_with fail
      exact RelPost.mk (Nx.refl _) _ rfl rfl rfl
    · have e1 : xs 6 = .slice Ap n cp := hdep 6 (List.mem_of_elem_eq_true (by kernel_rfl))
      rw [e1]
      go_wp2_with fail
      exact RelPost.mk (Nx.refl _) _ rfl rfl rfl
    · have e1 : xs 7 = .int .i64 n := hdep 7 (List.mem_of_elem_eq_true (by kernel_rfl))
      rw [e1]
      go_wp2_with fail
      exact RelPost.mk ((Below.refl _ _).alloc (Nat.le_refl _) _) _ rfl (hasI_made (n := n) hVw (by omega)) rfl
    · go_wp2_with fail
      exact RelPost.mk (Nx.refl _) _ rfl rfl rfl
    · have e1 : xs 9 = .slice Ap n cp := hdep 9 (List.mem_of_elem_eq_true (by kernel_rfl))
      rw [e1]
      go_wp2_with fail
      exact RelPost.mk (Nx.refl _) _ rfl rfl rfl
    · have e1 : xs 10 = .int .i64 n := hdep 10 (List.mem_of_elem_eq_true (by kernel_rfl))
      rw [e1]
      go_wp2_with fail
      exact RelPost.mk (Nx.refl _) _ rfl (by show _ = _; go_num) rfl
    · have e1 : xs 11 = .int .i64 ((n * 3 : Nat) : Int) := hdep 11 (List.mem_of_elem_eq_true (by kernel_rfl))
      rw [e1]
      go_wp2_with fail
      exact RelPost.mk ((Below.refl _ _).alloc (Nat.le_refl _) _) _ rfl (hasI_made (n := n * 3) hVw (by omega)) rfl
    · go_wp2_with fail
      exact RelPost.mk ((Below.refl _ _).alloc (Nat.le_refl _) _) _ rfl (hasI_made (n := 3) hVw (by omega)) rfl
    · obtain ⟨A8, c8, e8, r8⟩ : HasI V.heap.size (List.replicate n 0) w (xs 8) := hdep 8 (List.mem_of_elem_eq_true (by kernel_rfl))
      obtain ⟨A12, c12, e12, r12⟩ : HasI V.heap.size (List.replicate (n * 3) 0) w (xs 12) := hdep 12 (List.mem_of_elem_eq_true (by kernel_rfl))
      obtain ⟨A13, c13, e13, r13⟩ : HasI V.heap.size [0, 0, 0] w (xs 13) := hdep 13 (List.mem_of_elem_eq_true (by kernel_rfl))
      rw [List.length_replicate] at e8 e12
      rw [e8, e12, e13]
      go_wp2_with fail
      exact RelPost.mk (Nx.refl _) _ rfl ⟨_, _, _, rfl, ⟨A8, c8, by rw [List.length_replicate], r8⟩, ⟨A12, c12, by rw [List.length_replicate], r12⟩, ⟨A13, c13, rfl, r13⟩⟩ rfl
    · go_wp2_with fail
      exact RelPost.own ((Below.refl _ _).alloc (Nat.le_refl _) _) _ rfl ⟨w.heap.size, rfl, Own.new w _ _, hVw⟩ (fun b hb => .inl (by injection hb with hb; simp only at hb; omega))
  intro xs w5 hw5 hT hsep
  obtain ⟨T, eT, oT, hT0⟩ : HasB V.heap.size 70 #[.slice none 0 0, .slice none 0 0, .slice none 0 0, .slice none 0 0] w5 (xs 5) := hT 5 (List.mem_of_elem_eq_true (by kernel_rfl))
  obtain ⟨v1, v2, v3, e14, ⟨A8, c8, rfl, r8⟩, ⟨A12, c12, rfl, r12⟩, ⟨A13, c13, rfl, r13⟩⟩ : ∃ v1 v2 v3, xs 14 = .agg #[v1, v2, v3, .slice none 0 0] ∧ HasI V.heap.size (List.replicate n 0) w5 v1 ∧ HasI V.heap.size (List.replicate (n * 3) 0) w5 v2 ∧ HasI V.heap.size [0, 0, 0] w5 v3 := hT 14 (List.mem_of_elem_eq_true (by kernel_rfl))
  have hbw := nx_below hw5
  simp only [List.length_replicate] at e14 r8 r12
  show wpList _ _ _ [_] _ _
  simp only [shpA, fillL, List.contains_cons, List.contains_nil, Nat.reduceAdd, Nat.reduceBEq, Bool.or_false, Bool.or_true, Bool.false_eq_true, ↓reduceIte]
  rw [eT, e14]
  have y0 := oT.frozen 0
  have y1 := oT.frozen 1
  have y2 := oT.frozen 2
  have y3 := oT.frozen 3
  have z0 := oT.cell (i := 0) rfl
  have z1 := oT.cell (i := 1) rfl
  have z2 := oT.cell (i := 2) rfl
  have z3 := oT.cell (i := 3) rfl
  obtain ⟨w3, hw3⟩ : ∃ w3, w3 = (((w5.setCell ⟨T, 0, none⟩ (.slice A8 n c8)).setCell ⟨T, 1, none⟩ (.slice A12 (n * 3) c12)).setCell ⟨T, 2, none⟩ (.slice A13 3 c13)).setCell ⟨T, 3, none⟩ (.slice none 0 0) := ⟨_, rfl⟩
  have oT3 : Own w3 T 70 #[.slice A8 n c8, .slice A12 (n * 3) c12, .slice A13 3 c13, .slice none 0 0] := by
    rw [hw3]
    exact (((oT.set 0 (.slice A8 n c8)).set 1 (.slice A12 (n * 3) c12)).set 2 (.slice A13 3 c13)).set 3 (.slice none 0 0)
  have hB3 : Below V.heap.size V w3 := by rw [hw3]; exact (((hbw.setCell hT0 _).setCell hT0 _).setCell hT0 _).setCell hT0 _
  have hfar : ∀ b, b ≠ T → w3.heap[b]? = w5.heap[b]? := fun b hb => by
    rw [hw3]
    rw [Go.Deep.blk_setCell_other _ _ _ _ hb, Go.Deep.blk_setCell_other _ _ _ _ hb, Go.Deep.blk_setCell_other _ _ _ _ hb, Go.Deep.blk_setCell_other _ _ _ _ hb]
  have R8 : Hid (RowI w3 V.heap.size (.slice A8 n c8) (List.replicate n 0)) := r8.of_block fun g _ hg _ => hfar g (fun e => r8.ne_own oT (by decide) (by rw [hg, e]))
  have R12 : Hid (RowI w3 V.heap.size (.slice A12 (n * 3) c12) (List.replicate (n * 3) 0)) := r12.of_block fun g _ hg _ => hfar g (fun e => r12.ne_own oT (by decide) (by rw [hg, e]))
  have R13 : Hid (RowI w3 V.heap.size (.slice A13 3 c13) [0, 0, 0]) := r13.of_block fun g _ hg _ => hfar g (fun e => r13.ne_own oT (by decide) (by rw [hg, e]))
  have N8 := Lib.hid (r8.ne_own oT (by decide))
  have N12 := Lib.hid (r12.ne_own oT (by decide))
  have N13 := Lib.hid (r13.ne_own oT (by decide))
  have hTl := oT3.lt
  have hs3 : w3.heap.size = w5.heap.size := by rw [hw3]; simp
  have f3 : ∀ o, (w3.alloc o).frozen? ⟨T, 3, none⟩ = false := fun o => (oT3.alloc o).frozen 3
  have k3 : ∀ o, (w3.alloc o).cell? ⟨T, 3, none⟩ = some (.slice none 0 0) := fun o => (oT3.alloc o).cell (i := 3) rfl
  have OT3 := Lib.hid oT3
  clear hT hsep eT e14 hw5 hmka hmkb hmkc
  generalize xs 6 = u6x
  generalize xs 7 = u7x
  generalize xs 8 = u8x
  generalize xs 9 = u9x
  generalize xs 10 = u10x
  generalize xs 11 = u11x
  generalize xs 12 = u12x
  generalize xs 13 = u13x
  go_upto_region 2 with (fail)
  rw [← hw3]
  clear hw3 hfar r8 r12 r13 oT y0 y1 y2 y3 z0 z1 z2 z3 hbw oT3
  go_upto_region 3 with (fail)
  obtain ⟨w4, hw4⟩ : ∃ w4, w4 = (w3.alloc (.cells (madeCells #[.slice none 0 0] b) 24)).setCell ⟨T, 3, none⟩ (.slice (some ⟨w5.heap.size, 0, none⟩) b b) := ⟨_, rfl⟩
  rw [← hw4]
  have oT4 : Own w4 T 70 #[.slice A8 n c8, .slice A12 (n * 3) c12, .slice A13 3 c13, .slice (some ⟨w5.heap.size, 0, none⟩) b b] := by rw [hw4]; exact (OT3.out.alloc _).set 3 _
  have oG : Own w4 w5.heap.size 24 (madeCells #[.slice none 0 0] b) := by
    rw [hw4, ← hs3]
    exact (Own.new w3 24 (madeCells #[.slice none 0 0] b)).far (fun e => by simp only at e; omega) _
  have hB4 : Below V.heap.size V w4 := by rw [hw4]; exact (hB3.alloc hB3.size _).setCell hT0 _
  have hfar4 : ∀ g, g ≠ T → g < w3.heap.size → w4.heap[g]? = w3.heap[g]? := fun g hg hl => by
    rw [hw4, Go.Deep.blk_setCell_other _ _ _ _ hg]
    exact Go.Deep.blk_alloc_lt _ _ _ hl
  have S8 : Hid (RowI w4 V.heap.size (.slice A8 n c8) (List.replicate n 0)) := R8.out.of_block fun g _ hg hl => hfar4 g (fun e => N8.out (by rw [hg, e])) hl
  have S12 : Hid (RowI w4 V.heap.size (.slice A12 (n * 3) c12) (List.replicate (n * 3) 0)) := R12.out.of_block fun g _ hg hl => hfar4 g (fun e => N12.out (by rw [hg, e])) hl
  have S13 : Hid (RowI w4 V.heap.size (.slice A13 3 c13) [0, 0, 0]) := R13.out.of_block fun g _ hg hl => hfar4 g (fun e => N13.out (by have h := hg; rw [e] at h; exact h)) hl
  have hsG : V.heap.size ≤ w5.heap.size := by have := hB3.size; omega
  have q0 := oT4.cell (i := 0) rfl
  have q1 := oT4.cell (i := 1) rfl
  have q2 := oT4.cell (i := 2) rfl
  have q3 := oT4.cell (i := 3) rfl
  have hT4 := oT4.lt
  have oR4 := HV.out.2.under hB4
  have p0 := oR4.cell (i := 0) rfl
  have p1 := oR4.cell (i := 1) rfl
  have p2 := oR4.cell (i := 2) rfl
  have p3 := oR4.cell (i := 3) rfl
  have g0 := oR4.frozen 0
  have g1 := oR4.frozen 1
  have g2 := oR4.frozen 2
  have g3 := oR4.frozen 3
  have hR4 := oR4.lt
  have OG := Lib.hid oG
  clear hw4 oT4 oG hfar4 R8 R12 R13 N8 N12 N13 OT3 hTl hs3 f3 k3 hB3 oR4
  go_wp2_with fail
  refine bodyPost_ret (v := .agg #[.slice A8 n c8, .slice A12 (n * 3) c12, .slice A13 3 c13, .slice (some ⟨w5.heap.size, 0, none⟩) b b]) (by simp [results, Tryz.results98, go_sem, p0, p1, p2, p3]) rfl ?_
  obtain ⟨X, hX⟩ : ∃ X, X = (((w4.setCell ⟨W.heap.size, 0, none⟩ (.slice A8 n c8)).setCell ⟨W.heap.size, 1, none⟩ (.slice A12 (n * 3) c12)).setCell ⟨W.heap.size, 2, none⟩ (.slice A13 3 c13)).setCell ⟨W.heap.size, 3, none⟩ (.slice (some ⟨w5.heap.size, 0, none⟩) b b) := ⟨_, rfl⟩
  have hfar : ∀ g, V.heap.size ≤ g → X.heap[g]? = w4.heap[g]? := fun g hg => by
    have hne : g ≠ W.heap.size := by have := HV.out.1; omega
    rw [hX, Go.Deep.blk_setCell_other _ _ _ _ hne, Go.Deep.blk_setCell_other _ _ _ _ hne, Go.Deep.blk_setCell_other _ _ _ _ hne, Go.Deep.blk_setCell_other _ _ _ _ hne]
  have hWV : W.heap.size ≤ V.heap.size := hB.size
  have hbX : Below W.heap.size W X := by rw [hX]; exact ((((hB.trans (hB4.mono hB.size)).setCell (Nat.le_refl _) _).setCell (Nat.le_refl _) _).setCell (Nat.le_refl _) _).setCell (Nat.le_refl _) _
  rw [← hX]
  have key : ∀ A m c xs, RowI w4 V.heap.size (.slice A m c) xs → Ints (above W.heap.size X) A c xs := fun A m c xs h => by
    have h' : RowI X V.heap.size (.slice A m c) xs := h.of_block fun g h1 _ _ => hfar g h1
    obtain ⟨A', c', e, hI⟩ := h'.ints
    injection e with e1 e2 e3
    subst e1 e3
    exact hI.le (Le.above_mono hWV _)
  have oGX : Own X w5.heap.size 24 (madeCells #[.slice none 0 0] b) := OG.out.of_block (hfar _ hsG)
  have hbuf : Intss (above W.heap.size X) (some ⟨w5.heap.size, 0, none⟩) b (s30 n b).buf := by
    refine Intss.mk (by simp [s30]; omega) fun i hi => ⟨none, 0, ?_, ?_⟩
    · have hi' : i < b := by simpa [s30] using hi
      have h1 : (madeCells #[Value.slice none 0 0] b)[i]? = some (.slice none 0 0) := by
        rw [← Array.getElem?_toList, madeCells_rep, List.getElem?_replicate, if_pos hi']
      rw [show 0 + i = i by omega]
      refine cell_above_of (by simp only; omega) ((oGX.cell h1).trans ?_)
      simp [s30]
    · simp only [s30, List.getElem_replicate]
      exact Ints.nil _ _
  have hcaps := intss_nil hbuf fun x hx => by
    have : x ∈ List.replicate b ([] : List Int) := hx
    rw [List.mem_replicate] at this
    exact this.2
  exact ⟨A8, A12, A13, some ⟨w5.heap.size, 0, none⟩, c8, c12, c13, b, by simp [s30], ⟨key _ _ _ _ S8.out, key _ _ _ _ S12.out, key _ _ _ _ S13.out, hbuf, hcaps⟩, hbX⟩

end Go.Proofs.YtahegjofooahkaaGreat
