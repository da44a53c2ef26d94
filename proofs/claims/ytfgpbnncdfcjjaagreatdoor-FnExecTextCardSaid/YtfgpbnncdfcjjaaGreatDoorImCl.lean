/-
  The walk of impl.cloneExec.
-/
import Derived.Test.YtfgpbnncdfcjjaaGreatDoorOwM
import Derived.Test.YtfgpbnncdfcjjaaGreatDoorDel
import Derived.Test.YtfgpbnncdfcjjaaGreatDoorWrCV
namespace Go.Proofs.YtfgpbnncdfcjjaaGreatDoor
open Go.RowKit
set_option linter.unusedVariables false
set_option maxRecDepth 100000

theorem Own.all2 {w : World} {b : Nat} {t : TypeId} {u v : Value} (h : Own w b t #[u, v]) : w.cell? ⟨b, 0, none⟩ = some u ∧ w.cell? ⟨b, 1, none⟩ = some v ∧ w.frozen? ⟨b, 0, none⟩ = false ∧ w.frozen? ⟨b, 1, none⟩ = false ∧ b < w.heap.size := ⟨h.cell rfl, h.cell rfl, h.frozen 0, h.frozen 1, h.lt⟩
/-- What is known behind the first region: the clone in block T, its rows in block M. -/
structure ClF (W : World) (x : Ex) (T M : Nat) (A : Option Addr) (c : Nat) (w' : World) : Prop where
  box : Own w' T 27 #[.slice A x.from_.length c, .slice (some ⟨M, 0, none⟩) x.order.length x.order.length]
  row : ∃ G, w'.rowIs M 24 x.order.length G
  from_ : RowI w' W.heap.size (.slice A x.from_.length c) x.from_
  below : Below W.heap.size W w'
  ne : T ≠ M
  geT : W.heap.size ≤ T
  geM : W.heap.size ≤ M
  far : ∀ g, (Value.slice A x.from_.length c).ownBlock = some g → g ≠ T ∧ g ≠ M
section ClF
variable {W V w5 : World} {x : Ex} {T M : Nat} {A : Option Addr} {c : Nat} {cs : Array Value}
theorem clF_DM (hV : Below W.heap.size W V) (hb : Below V.heap.size V w5) (h : RowI w5 V.heap.size (.slice A x.from_.length c) x.from_) :
    ClF W x (w5.heap.size + 1) w5.heap.size A c ((w5.alloc (.cells (madeCells #[.slice none 0 0] x.order.length) 24)).alloc (.cells #[.slice A x.from_.length c, .slice (some ⟨w5.heap.size, 0, none⟩) x.order.length x.order.length] 27)) := by
  have hs := hV.size
  have hs5 := hb.size
  have hW5 : Below W.heap.size W w5 := hV.trans (hb.mono hs)
  have ho := Own.new (w5.alloc (.cells (madeCells #[.slice none 0 0] x.order.length) 24)) 27 #[.slice A x.from_.length c, .slice (some ⟨w5.heap.size, 0, none⟩) x.order.length x.order.length]
  rw [World.size_alloc] at ho
  obtain ⟨G, hG⟩ := rowIs_made_any w5 #[.slice none 0 0] x.order.length 24
  exact ⟨ho, ⟨G, hG.of_block (Go.Deep.blk_alloc_lt _ _ _ hG.lt)⟩, ((h.rebase fun g hg => by have := (h.blk hg).1; omega).of_block fun g _ _ hl => (Go.Deep.blk_alloc_lt _ _ _ (by simp; omega)).trans (Go.Deep.blk_alloc_lt _ _ _ hl)), (hW5.alloc hW5.size _).alloc (by simp; omega) _, by omega, by omega, by omega, fun g hg => by have := (h.blk hg).2; omega⟩
theorem clF_TM (hV : Below W.heap.size W V) (hb : Below V.heap.size V w5) (h : RowI w5 V.heap.size (.slice A x.from_.length c) x.from_) :
    ClF W x w5.heap.size (w5.heap.size + 1) A c ((w5.alloc (.cells #[.slice A x.from_.length c, .slice (some ⟨w5.heap.size + 1, 0, none⟩) x.order.length x.order.length] 27)).alloc (.cells (madeCells #[.slice none 0 0] x.order.length) 24)) := by
  have hs := hV.size
  have hs5 := hb.size
  have hW5 : Below W.heap.size W w5 := hV.trans (hb.mono hs)
  have ho := (Own.new w5 27 #[.slice A x.from_.length c, .slice (some ⟨w5.heap.size + 1, 0, none⟩) x.order.length x.order.length]).alloc (.cells (madeCells #[.slice none 0 0] x.order.length) 24)
  obtain ⟨G, hG⟩ := rowIs_made_any (w5.alloc (.cells #[.slice A x.from_.length c, .slice (some ⟨w5.heap.size + 1, 0, none⟩) x.order.length x.order.length] 27)) #[.slice none 0 0] x.order.length 24
  rw [World.size_alloc] at hG
  exact ⟨ho, ⟨G, hG⟩, ((h.rebase fun g hg => by have := (h.blk hg).1; omega).of_block fun g _ _ hl => (Go.Deep.blk_alloc_lt _ _ _ (by simp; omega)).trans (Go.Deep.blk_alloc_lt _ _ _ hl)), (hW5.alloc hW5.size _).alloc (by simp; omega) _, by omega, by omega, by omega, fun g hg => by have := (h.blk hg).2; omega⟩
/-- The rows' block was made ahead of the clone. -/
theorem clF_T (hV : Below W.heap.size W V) (hb : Below V.heap.size V w5) (h : RowI w5 V.heap.size (.slice A x.from_.length c) x.from_) {G : Nat → Value} (hM : V.rowIs M 24 x.order.length G) (hM2 : W.heap.size ≤ M) :
    ClF W x w5.heap.size M A c (w5.alloc (.cells #[.slice A x.from_.length c, .slice (some ⟨M, 0, none⟩) x.order.length x.order.length] 27)) := by
  have hs := hV.size
  have hs5 := hb.size
  have hW5 : Below W.heap.size W w5 := hV.trans (hb.mono hs)
  have hl := hM.lt
  have hM5 : w5.rowIs M 24 x.order.length G := hM.of_block (hb.block M hl)
  exact ⟨Own.new _ _ _, ⟨G, hM5.of_block (Go.Deep.blk_alloc_lt _ _ _ hM5.lt)⟩, ((h.rebase fun g hg => by have := (h.blk hg).1; omega).of_block fun g _ _ hl => Go.Deep.blk_alloc_lt _ _ _ hl), hW5.alloc hW5.size _, by omega, by omega, hM2, fun g hg => by have := h.blk hg; omega⟩
theorem clF_S (hV : Below W.heap.size W V) (hb : Below V.heap.size V w5) (h : RowI w5 V.heap.size (.slice A x.from_.length c) x.from_) (hT : Own V T 27 #[.slice none 0 0, .slice none 0 0]) (hT2 : W.heap.size ≤ T) {G : Nat → Value} (hM : w5.rowIs M 24 x.order.length G) (hM2 : W.heap.size ≤ M) (hM3 : M < V.heap.size) (hne : T ≠ M) :
    ClF W x T M A c ((w5.setCell ⟨T, 0, none⟩ (.slice A x.from_.length c)).setCell ⟨T, 1, none⟩ (.slice (some ⟨M, 0, none⟩) x.order.length x.order.length)) := by
  have hs := hV.size
  have hs5 := hb.size
  have hW5 : Below W.heap.size W w5 := hV.trans (hb.mono hs)
  have hl := hT.lt
  have h2 := ((hT.under hb).set 0 (.slice A x.from_.length c)).set 1 (.slice (some ⟨M, 0, none⟩) x.order.length x.order.length)
  exact ⟨h2, ⟨G, hM.of_block ((Below.heap_setCell _ _ _ _ (fun e => hne e.symm)).trans (Below.heap_setCell _ _ _ _ (fun e => hne e.symm)))⟩, ((h.rebase fun g hg => by have := (h.blk hg).1; omega).of_block fun g _ hg _ => (Below.heap_setCell _ _ _ _ (fun e => by have := (h.blk hg).1; simp only at e; omega)).trans (Below.heap_setCell _ _ _ _ (fun e => by have := (h.blk hg).1; simp only at e; omega))), (hW5.setCell (p := ⟨T, 0, none⟩) hT2 _).setCell (p := ⟨T, 1, none⟩) hT2 _, hne, hT2, hM2, fun g hg => by have := h.blk hg; omega⟩
theorem clF_SM (hV : Below W.heap.size W V) (hb : Below V.heap.size V w5) (h : RowI w5 V.heap.size (.slice A x.from_.length c) x.from_) (hT : Own V T 27 #[.slice none 0 0, .slice none 0 0]) (hT2 : W.heap.size ≤ T) :
    ClF W x T w5.heap.size A c (((w5.setCell ⟨T, 0, none⟩ (.slice A x.from_.length c)).setCell ⟨T, 1, none⟩ (.slice (some ⟨w5.heap.size, 0, none⟩) x.order.length x.order.length)).alloc (.cells (madeCells #[.slice none 0 0] x.order.length) 24)) := by
  have hs := hV.size
  have hs5 := hb.size
  have hW5 : Below W.heap.size W w5 := hV.trans (hb.mono hs)
  have hl := hT.lt
  have h2 := ((hT.under hb).set 0 (.slice A x.from_.length c)).set 1 (.slice (some ⟨w5.heap.size, 0, none⟩) x.order.length x.order.length)
  obtain ⟨G, hG⟩ := rowIs_made_any ((w5.setCell ⟨T, 0, none⟩ (.slice A x.from_.length c)).setCell ⟨T, 1, none⟩ (.slice (some ⟨w5.heap.size, 0, none⟩) x.order.length x.order.length)) #[.slice none 0 0] x.order.length 24
  rw [show ((w5.setCell ⟨T, 0, none⟩ (.slice A x.from_.length c)).setCell ⟨T, 1, none⟩ (.slice (some ⟨w5.heap.size, 0, none⟩) x.order.length x.order.length)).heap.size = w5.heap.size by simp [World.setCell]] at hG
  exact ⟨h2.alloc _, ⟨G, hG⟩, ((h.rebase fun g hg => by have := (h.blk hg).1; omega).of_block fun g _ hg hl => (Go.Deep.blk_alloc_lt _ _ _ (by simpa [World.setCell] using hl)).trans ((Below.heap_setCell _ _ _ _ (fun e => by have := (h.blk hg).1; simp only at e; omega)).trans (Below.heap_setCell _ _ _ _ (fun e => by have := (h.blk hg).1; simp only at e; omega)))), ((hW5.setCell (p := ⟨T, 0, none⟩) hT2 _).setCell (p := ⟨T, 1, none⟩) hT2 _).alloc (by simp [World.setCell]; omega) _, by omega, hT2, by omega, fun g hg => by have := h.blk hg; omega⟩
end ClF
/-- Behind the first region. -/
def ClQ (w W : World) (x : Ex) (A : Option Addr) (c : Nat) (B : Option Addr) (d : Nat) (e : Exit) (a : Act) (w' : World) : Prop :=
  match e with | .normal => (∃ (T M : Nat) (A5 : Option Addr) (c5 : Nat), a = { tmps := #[.agg #[.slice A x.from_.length c, .slice B x.order.length d], .pointer (some ⟨w.heap.size, 0, none⟩), .pointer (some ⟨w.heap.size + 1, 0, none⟩), .pointer (some ⟨T, 0, none⟩), undef, undef, .pointer (some ⟨w.heap.size, 0, none⟩), .slice A x.from_.length c, .slice A5 x.from_.length c5, .pointer (some ⟨w.heap.size, 1, none⟩), .slice B x.order.length d, .int .i64 x.order.length, .slice (some ⟨M, 0, none⟩) x.order.length x.order.length, .agg #[.slice A5 x.from_.length c5, .slice (some ⟨M, 0, none⟩) x.order.length x.order.length], undef, undef, undef, undef, undef, undef, undef, undef, undef, undef, undef, undef, undef, undef, undef, undef], defers := [] } ∧ ClF W x T M A5 c5 w') | _ => False
theorem ClQ.get {w W : World} {x : Ex} {A B : Option Addr} {c d : Nat} {e : Exit} {a : Act} {w' : World} (h : ClQ w W x A c B d e a w') : e = .normal ∧ ClQ w W x A c B d .normal a w' := by
  cases e <;> first | exact ⟨rfl, h⟩ | exact h.elim
theorem Fill.done' {α : Type} {k : Nat} {P : OwP α} {w : World} {lo g : Nat} {G : Nat → Value} {xs : List α} {Fs : Nat → List Nat} {e : TypeId} {c N : Nat} (h : Fill k P w lo g G xs xs.length Fs) (hr : w.rowIs g e N G) (hc : xs.length ≤ c) (hN : xs.length * k ≤ N) (hm : xs.length ≤ 9223372036854775807) :
    ∃ F, OwRow k e P w (.slice (some ⟨g, 0, none⟩) xs.length c) xs F ∧ F.Nodup ∧ ∀ b ∈ F, b = g ∨ lo ≤ b := by
  refine ⟨_, OwRow.made Fs hr hc hN hm (fun i hi => h.el i hi hi), ?_, ?_⟩
  · rw [List.nodup_cons]
    refine ⟨fun hm => ?_, h.nd⟩
    obtain ⟨i, hi, hx⟩ := of_mem_ft hm
    exact (h.ge i hi g hx).2 rfl
  · intro b hb
    rcases List.mem_cons.1 hb with rfl | hb
    · exact .inl rfl
    · obtain ⟨i, hi, hx⟩ := of_mem_ft hb
      exact .inr (h.ge i hi b hx).1
theorem ow_block {α : Type} {k : Nat} {e : TypeId} {Q : (Nat → Value) → α → Prop} {w : World} {v : Value} {xs : List α} {F : List Nat} (h : OwRow k e (flat Q) w v xs F) : ∀ b ∈ F, v.ownBlock = some b := fun b hb => by
  rcases h with ⟨rfl, rfl, rfl⟩ | ⟨g, c, N, G, Fs, rfl, _, _, _, _, hel, rfl⟩
  · cases hb
  · rw [flat_ft _ _ fun i hi => (hel i hi).2] at hb
    rw [List.mem_singleton.1 hb]
    rfl
/-- A candidate of one's own is handed back. -/
def RetOwX (w : World) (x : Ex) (e : Ending) (w' : World) : Prop := ∃ A c B d F, e = .returned (.agg #[.slice A x.from_.length c, .slice B x.order.length d]) ∧ PX w' (fun j => if j = 0 then .slice A x.from_.length c else .slice B x.order.length d) x F ∧ F.Nodup ∧ (∀ b ∈ F, w.heap.size ≤ b) ∧ Below w.heap.size w w'

set_option maxHeartbeats 8000000 in
theorem imCl_any (x : Ex) (h1 : x.from_.length ≤ 1000) (h2 : x.order.length ≤ 1000) (h3 : ∀ xs ∈ x.order, xs.length ≤ 1000) (w : World) (A B : Option Addr) (c d : Nat) (hr : RepX w A c B d x) :
    Calls Tryz.prog 163 #[.agg #[.slice A x.from_.length c, .slice B x.order.length d]] w (RetOwX w x) := by
  have hmk := run_make_any (P := Tryz.prog) 25 24 _ 1 24 Tryz.underlying25 Tryz.infoInts x.order.length (by omega) (by omega)
  have H3 := Lib.hid h3
  clear h3
  obtain ⟨hrf, hro⟩ := hr
  obtain ⟨W, hW⟩ : ∃ W, W = ((w.alloc (.cells #[.slice A x.from_.length c, .slice B x.order.length d] 27)).alloc (.cells #[.slice none 0 0, .slice none 0 0] 27)) := ⟨_, rfl⟩
  have boxW : Own W w.heap.size 27 #[.slice A x.from_.length c, .slice B x.order.length d] := by rw [hW]; exact (Own.new _ _ _).alloc _
  have resW : Own W (w.heap.size + 1) 27 #[.slice none 0 0, .slice none 0 0] := by
    rw [hW]
    have h := Own.new (w.alloc (.cells #[.slice A x.from_.length c, .slice B x.order.length d] 27)) 27 #[.slice none 0 0, .slice none 0 0]
    simpa using h
  have hsW : W.heap.size = w.heap.size + 2 := by rw [hW]; simp
  have Hf : Hid (Ints W A c x.from_) := hrf.le (by rw [hW]; exact (Le.alloc _ _).to_alloc _)
  have Ho : Hid (Intss W B d x.order) := hro.le (by rw [hW]; exact (Le.alloc _ _).to_alloc _)
  have hBW : Below w.heap.size w W := by rw [hW]; exact ((Below.refl _ _).alloc (Nat.le_refl _) _).alloc (by simp) _
  have x0 := boxW.cell (i := 0) rfl
  have x1 := boxW.cell (i := 1) rfl
  have hl0 := boxW.lt
  go_enter Tryz.func163, Tryz.ntmps163
  go_wp2_with fail
  rw [← hW]
  have ResW := Lib.hid resW
  have BoxW := Lib.hid boxW
  clear hW hrf hro resW boxW
  have HK : Hid (∀ V : World, Le W V → V.cell? ⟨w.heap.size, 0, none⟩ = some (.slice A x.from_.length c) ∧ V.cell? ⟨w.heap.size, 1, none⟩ = some (.slice B x.order.length d)) := fun V hV => ⟨hV _ _ x0, hV _ _ x1⟩
  have HT0 : Hid (Own (W.drew.alloc (.cells #[.slice none 0 0, .slice none 0 0] 27)) W.heap.size 27 #[.slice none 0 0, .slice none 0 0]) := Own.new _ _ _
  have HT1 : Hid (∀ o : Obj, Own ((W.drew.alloc o).alloc (.cells #[.slice none 0 0, .slice none 0 0] 27)) (W.heap.size + 1) 27 #[.slice none 0 0, .slice none 0 0]) := fun o => by
    have h := Own.new (W.drew.alloc o) 27 #[.slice none 0 0, .slice none 0 0]
    rw [World.size_alloc] at h
    exact h
  have HT0 := HT0.out
  rw [hsW] at HT0
  have HT0 := Lib.hid HT0
  have HT1 := HT1.out
  rw [hsW] at HT1
  have HT1 := Lib.hid HT1
  have HM0 : Hid (∃ G, (W.drew.alloc (.cells (madeCells #[.slice none 0 0] x.order.length) 24)).rowIs (w.heap.size + 2) 24 x.order.length G) := by
    obtain ⟨G, hG⟩ := rowIs_made_any W.drew #[.slice none 0 0] x.order.length 24
    rw [show W.drew.heap.size = w.heap.size + 2 from hsW] at hG
    exact ⟨G, hG⟩
  have HM1 : Hid (∀ o : Obj, ∃ G, ((W.drew.alloc o).alloc (.cells (madeCells #[.slice none 0 0] x.order.length) 24)).rowIs (w.heap.size + 2 + 1) 24 x.order.length G) := fun o => by
    obtain ⟨G, hG⟩ := rowIs_made_any (W.drew.alloc o) #[.slice none 0 0] x.order.length 24
    rw [World.size_alloc, show W.drew.heap.size = w.heap.size + 2 from hsW] at hG
    exact ⟨G, hG⟩
  have HL : Hid (∀ V : World, Le W V → w.heap.size < V.heap.size) := fun V hV => World.block_lt_of_cell? _ _ (hV _ _ x0)
  refine Code.wp_mono (Q := ClQ w W x A c B d) ?post ?reg
  case post =>
    clear HT0 HT1 HM0 HM1 HK HL x0 x1 hl0 hmk
    rintro e a w3 hQ
    obtain ⟨rfl, T, M, A5, c5, rfl, hF⟩ := hQ.get
    clear hQ
    have hb3 := hF.below
    have hs3 := hb3.size
    have hB3 : Below w.heap.size w w3 := hBW.trans (hb3.mono hBW.size)
    have box3 := BoxW.out.below hb3 (by omega)
    have res3 := ResW.out.below hb3 (by omega)
    have x1 := box3.cell (i := 1) rfl
    have Box3 := Lib.hid box3
    have Res3 := Lib.hid res3
    obtain ⟨G0, hG0⟩ := hF.row
    have HF := Lib.hid hF
    have hT := hF.geT
    have hM := hF.geM
    have hne := hF.ne
    have hMl := hG0.lt
    have hTl := hF.box.lt
    clear box3 res3 BoxW ResW hF
    go_wp2_with fail
    have hox : Intss w3 B d x.order := Ho.out.le (Le.below hb3)
    have Hox := Lib.hid hox
    have hg5 : ∀ g, (Value.slice A5 x.from_.length c5).ownBlock = some g → g < w3.heap.size := fun g hg => (HF.out.from_.blk hg).2
    have Hrow0 : Hid (w3.rowIs M 24 x.order.length G0) := hG0
    clear hox x1 hG0
    go_loopg [17] x.order.length (fun g s17 wr => ∃ (i : Nat) (G : Nat → Value) (Fs : Nat → List Nat), i ≤ x.order.length ∧ g = x.order.length - i ∧ s17 = .int .i64 i ∧ Hid (wr.rowIs M 24 x.order.length G) ∧ Hid (Fill 1 PI1 wr w3.heap.size M G x.order i Fs) ∧ Mv M w3 wr)
    case atStart => exact ⟨0, G0, _, Nat.zero_le _, rfl, rfl, Hrow0.out, Fill.zero _ _ _ _ _ _, Mv.refl _ _⟩
    case round =>
      obtain ⟨i, G, Fs, hi, rfl, rfl, hrow, hfill, hmv⟩ := hrel
      have oT := HF.out.box.mv hmv hne
      have hsr := hmv.size
      by_cases hlt : i < x.order.length
      · obtain ⟨bi, oi, Ai, ci, rfl, hbi, k0, hq⟩ := (Ho.out).get hlt
        have hq3 := Hox.out
        have k1 : wr.cell? ⟨bi, oi + i, none⟩ = some (.slice Ai x.order[i].length ci) := hmv.cell (Le.below hb3 _ _ k0) (by show bi ≠ M; omega)
        have hq1 : Ints wr Ai ci x.order[i] := hq.le fun a u hc => hmv.cell (Le.below hb3 _ _ hc) (by have := World.block_lt_of_cell? _ _ hc; omega)
        have h1000 := H3.out _ (List.getElem_mem hlt)
        have Hq := Lib.hid hq1
        have t1 := oT.cell (i := 1) rfl
        have t1' : wr.cell? ⟨T, 1, none⟩ = some (.slice (some ⟨M, 0, none⟩) x.order.length x.order.length) := t1
        have hTr := oT.lt
        have hMr := hrow.out.lt
        clear hq3 hq hq1 k0 t1 oT
        go_wp2_with fail
        go_region_held3 (fun V => V.cell? ⟨T, 1, none⟩ = some (.slice (some ⟨M, 0, none⟩) x.order.length x.order.length))
          ((first | exact t1' | exact (hb6.cell (p := ⟨T, 1, none⟩) hTr).trans t1' | (rw [World.cell?_setCell_other _ _ _ _ (by first | exact fun e => hne (congrArg Addr.block e) | exact fun e => hne (congrArg Addr.block e).symm)]; exact (hb6.cell (p := ⟨T, 1, none⟩) hTr).trans t1')))
          (first
            | (go_at_call 69; ((with_reducible refine (cloneI_any x.order[i] _ _ _ (Hq.out.le (Le.drew _)) (by omega)).mono ?_); rintro e6 w6 ⟨A6, c6, rfl, hrow6, hb6'⟩; have hb6 : Below wr.heap.size wr w6 := below_of_drew hb6'; have hrM6 := hrow.out.of_block (hb6.block M hMr); have m0 := hrM6.cell hlt; have m1 := hrM6.frozen i)))
        obtain ⟨F6, ho6, hn6, hf6⟩ := RowOf.ow qint_congr hrow6
        have hmv6 : Mv M w3 (w6.setCell ⟨M, i, none⟩ (.slice A6 x.order[i].length c6)) := (hmv.trans (Mv.of_below hb6)).setR i _
        have hset6 := hrM6.set i (.slice A6 x.order[i].length c6)
        have hfill6 := Fill.step (P := PI1) (w2 := w6.setCell ⟨M, i, none⟩ (.slice A6 x.order[i].length c6)) (G' := fun j => if j = i then .slice A6 x.order[i].length c6 else G j) pi1_loc hfill.out hlt (cs := fun _ => .slice A6 x.order[i].length c6) hsr hMr hb6 ho6 hf6 hn6 (fun b hne _ => Below.heap_setCell _ _ _ _ hne) (fun j hj => if_pos (by omega)) (fun t j ht hj => if_neg (by omega))
        have Hset6 := Lib.hid hset6
        have Hfill6 := Lib.hid hfill6
        clear hset6 hfill6 ho6 hf6 hrM6 hrow6 hb6' m0 m1
        go_wp2_with fail
        go_roundg (x.order.length - (i + 1))
        case measure => omega
        case rel => exact ⟨i + 1, _, _, by omega, rfl, by go_num, Hset6.out, Hfill6.out, hmv6⟩
      · obtain rfl : i = x.order.length := by omega
        have oR := (Res3.out.mv hmv (by omega))
        have t0 := oT.cell (i := 0) rfl
        have t1 := oT.cell (i := 1) rfl
        have r2 := oR.frozen 0
        have r3 := oR.frozen 1
        have r0 := oR.cell (i := 0) rfl
        have r1 := oR.cell (i := 1) rfl
        have hlr := oR.lt
        have hTr := oT.lt
        have HoR := Lib.hid oR
        clear oT oR
        go_wp2_with fail
        have r0 := HoR.out.cell (i := 0) rfl
        have r1 := HoR.out.cell (i := 1) rfl
        obtain ⟨F2, h2, hn2, hF2⟩ := hfill.out.done' hrow.out (Nat.le_refl _) (by omega) (by omega)
        obtain ⟨F1, h1', hn1, hF1⟩ := RowOf.ow qint_congr HF.out.from_
        have hbk := ow_block h1'
        have hfar := HF.out.far
        have hRg : ∀ b, W.heap.size ≤ b → ∀ o : Nat, b ≠ (⟨w.heap.size + 1, o, none⟩ : Addr).block := fun b hb o => by show b ≠ w.heap.size + 1; omega
        refine bodyPost_ret (v := .agg #[.slice A5 x.from_.length c5, .slice (some ⟨M, 0, none⟩) x.order.length x.order.length]) (by simp [results, Tryz.results163, go_sem, r0, r1]) rfl ?_
        refine ⟨A5, c5, _, _, F1 ++ F2, rfl, ⟨F1, F2, ?_, ?_, rfl⟩, ?_, ?_, ?_⟩
        · refine OwRow.move (flat_loc qint_congr) h1' fun b hb => ?_
          have h3 := hF1 b hb
          exact ((Below.heap_setCell _ _ _ _ (hRg b h3 _)).trans (Below.heap_setCell _ _ _ _ (hRg b h3 _))).trans (hmv.block (hg5 b (hbk b hb)) (hfar b (hbk b hb)).2)
        · refine OwRow.move pi1_loc h2 fun b hb => ?_
          have h3 : W.heap.size ≤ b := by have := hF2 b hb; omega
          exact (Below.heap_setCell _ _ _ _ (hRg b h3 _)).trans (Below.heap_setCell _ _ _ _ (hRg b h3 _))
        · refine List.nodup_append.2 ⟨hn1, hn2, fun a ha b hb e => ?_⟩
          have h3 := hg5 a (hbk a ha)
          have h4 := (hfar a (hbk a ha)).2
          have := hF2 b hb
          omega
        · intro b hb
          rcases List.mem_append.1 hb with hb | hb
          · have := hF1 b hb; omega
          · have := hF2 b hb; omega
        · exact ((hB3.trans (hmv.below (by omega) hB3.size)).setCell (p := ⟨w.heap.size + 1, 0, none⟩) (by simp) _).setCell (p := ⟨w.heap.size + 1, 1, none⟩) (by simp) _
  case reg =>
    go_region_law (first | (go_simp; go_at_call 69; ((with_reducible refine (cloneI_any x.from_ _ _ _ (Hf.out.le (by repeat (first | with_reducible exact Le.refl _ | with_reducible refine Le.to_drew ?_ | with_reducible refine Le.to_alloc ?_ _ | with_reducible refine Le.to_below ?_ (by with_reducible assumption)))) (by omega)).mono ?_); rintro e5 w5 ⟨A5, c5, rfl, hrow5, hb5⟩; obtain ⟨k0, k1⟩ := HK.out w5 (by repeat (first | with_reducible exact Le.refl _ | with_reducible refine Le.to_drew ?_ | with_reducible refine Le.to_alloc ?_ _ | with_reducible refine Le.to_below ?_ (by with_reducible assumption))); have kl := HL.out w5 (by repeat (first | with_reducible exact Le.refl _ | with_reducible refine Le.to_drew ?_ | with_reducible refine Le.to_alloc ?_ _ | with_reducible refine Le.to_below ?_ (by with_reducible assumption))); try (first | (have oT := Own.under (HT0.out) hb5; obtain ⟨t0, t1, t2, t3, t4⟩ := Own.all2 oT) | (have oT := Own.under (Own.alloc HT0.out _) hb5; obtain ⟨t0, t1, t2, t3, t4⟩ := Own.all2 oT) | (have oT := Own.under (HT1.out _) hb5; obtain ⟨t0, t1, t2, t3, t4⟩ := Own.all2 oT))); go_wp2_with fail))
    all_goals refine (show ∃ _, _ from ⟨_, _, A5, c5, rfl, ?_⟩)
    all_goals first
      | exact clF_DM (by repeat (first | with_reducible exact Below.refl _ _ | with_reducible refine Below.drew ?_ | with_reducible refine Below.alloc ?_ (by simp <;> omega) _)) hb5 hrow5
      | exact clF_TM (by repeat (first | with_reducible exact Below.refl _ _ | with_reducible refine Below.drew ?_ | with_reducible refine Below.alloc ?_ (by simp <;> omega) _)) hb5 hrow5
      | exact clF_SM (by repeat (first | with_reducible exact Below.refl _ _ | with_reducible refine Below.drew ?_ | with_reducible refine Below.alloc ?_ (by simp <;> omega) _)) hb5 hrow5 HT0.out (by omega)
      | exact clF_T (by repeat (first | with_reducible exact Below.refl _ _ | with_reducible refine Below.drew ?_ | with_reducible refine Below.alloc ?_ (by simp <;> omega) _)) hb5 hrow5 HM0.out.choose_spec (by omega)
      | exact clF_S (by repeat (first | with_reducible exact Below.refl _ _ | with_reducible refine Below.drew ?_ | with_reducible refine Below.alloc ?_ (by simp <;> omega) _)) hb5 hrow5 (HT0.out.alloc _) (by omega) ((HM1.out _).choose_spec.of_block (hb5.block _ (by simp; omega))) (by omega) (by simp; omega) (by omega)
      | exact clF_S (by repeat (first | with_reducible exact Below.refl _ _ | with_reducible refine Below.drew ?_ | with_reducible refine Below.alloc ?_ (by simp <;> omega) _)) hb5 hrow5 (HT1.out _) (by omega) ((HM0.out.choose_spec.of_block (Go.Deep.blk_alloc_lt _ _ _ (by simp; omega))).of_block (hb5.block _ (by simp; omega))) (by omega) (by simp; omega) (by omega)

end Go.Proofs.YtfgpbnncdfcjjaaGreatDoor
