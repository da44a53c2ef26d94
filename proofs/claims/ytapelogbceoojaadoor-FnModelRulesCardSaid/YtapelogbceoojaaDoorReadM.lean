/-
  Reading a model, plainly: its text is cut into its rules' texts, and these into word and expression; two valid models with one text are one. No program in sight.
-/
import Derived.Test.YtapelogbceoojaaDoorCut
import Derived.Test.YtapelogbceoojaaDoorModT
import Derived.Test.YtapelogbceoojaaDoorPars
namespace Go.Proofs.YtapelogbceoojaaDoor
open Go.RowKit
set_option linter.unusedVariables false
set_option maxRecDepth 100000

theorem spl_noc {c : UInt8} : ∀ (a cur bs : List UInt8), (∀ x ∈ a, x ≠ c) → spl c cur (a ++ bs) = spl c (cur ++ a) bs := by
  intro a
  induction a with
  | nil => intro cur bs _; simp
  | cons x a ih =>
    intro cur bs h
    rw [List.cons_append, spl_ne (h x (by simp)), ih _ _ (fun y hy => h y (by simp [hy])), List.append_assoc]
    rfl
/-- What is joined by c is cut again. -/
theorem spl_join (c : UInt8) : ∀ (xs : List (List UInt8)) (x : List UInt8), (∀ y ∈ x :: xs, ∀ b ∈ y, b ≠ c) → spl c [] (Lib.join (x :: xs) [c]) = x :: xs := by
  intro xs
  induction xs with
  | nil =>
    intro x h
    have h1 := spl_noc x [] [] (h x (by simp))
    rw [List.append_nil] at h1
    rw [Lib.join_one, h1, spl_nil, List.nil_append]
  | cons y xs ih =>
    intro x h
    have h1 : Lib.join (x :: y :: xs) [c] = x ++ (c :: Lib.join (y :: xs) [c]) := by
      rw [Lib.join_cons, Lib.join_cons]
      simp [Lib.joinTail]
    rw [h1, spl_noc x [] _ (h x (by simp)), List.nil_append, spl_eq, ih y (fun z hz => h z (by simp only [List.mem_cons] at hz ⊢; rcases hz with rfl | hz <;> simp_all))]

/-- Neither the sign between rules nor the one behind a word. -/
def okc (c : UInt8) : Prop := c ≠ 47 ∧ c ≠ 32
instance (c : UInt8) : Decidable (okc c) := inferInstanceAs (Decidable (_ ∧ _))
theorem okc_wd (k : Int) : ∀ c ∈ (wd k).data.toList, okc c := by
  unfold wd
  split
  · decide
  · split
    · decide
    · split
      · decide
      · decide
theorem okc_nm {s : ByteArray} (h : s ∈ nm) : ∀ c ∈ s.data.toList, okc c := by
  simp only [nm, List.mem_cons, List.not_mem_nil, or_false] at h
  rcases h with rfl | rfl | rfl | rfl | rfl | rfl | rfl | rfl | rfl | rfl <;> decide
theorem okc_sgn {op : Int} (h : 2 ≤ op ∧ op ≤ 7) : ∀ c ∈ (sgn op).data.toList, okc c := by
  have h1 : op = 2 ∨ op = 3 ∨ op = 4 ∨ op = 5 ∨ op = 6 ∨ op = 7 := by omega
  rcases h1 with rfl | rfl | rfl | rfl | rfl | rfl <;> decide
theorem okc_app {a b : ByteArray} (ha : ∀ c ∈ a.data.toList, okc c) (hb : ∀ c ∈ b.data.toList, okc c) : ∀ c ∈ (a ++ b).data.toList, okc c := fun c hc => by
  rw [ByteArray.data_append, Array.toList_append, List.mem_append] at hc
  rcases hc with hc | hc
  · exact ha c hc
  · exact hb c hc
theorem okc_tx {e : RE} (h : ∀ c ∈ (ct e).data.toList, okc c) (l : Int) : ∀ c ∈ (tx e l).data.toList, okc c := by
  by_cases hl : l < lvl e.op
  · rw [tx_pos hl]
    exact okc_app (okc_app (by decide) h) (by decide)
  · rw [tx_neg hl]
    exact h
theorem okc_ct (m : Nat) : ∀ e : RE, Shp m e → ∀ c ∈ (ct e).data.toList, okc c := by
  induction m with
  | zero => intro e h; exact h.elim
  | succ m ih =>
    intro e h
    obtain ⟨op, name, kids⟩ := e
    obtain ⟨⟨h1, h2, h3⟩, h4⟩ := h
    simp only [RE.op, RE.name, RE.kids] at h1 h2 h3 h4
    match kids, h1, h4 with
    | [], h1, _ =>
      have ho : op = 1 := by rcases kidsI_cases h1 with ⟨h, _⟩ | ⟨_, h⟩ | ⟨_, h⟩ <;> first | exact h | simp at h
      subst ho
      exact okc_nm (h2.1 rfl)
    | [a], h1, h4 =>
      have ho : op = 6 ∨ op = 7 := by rcases kidsI_cases h1 with ⟨_, h⟩ | ⟨h, _⟩ | ⟨_, h⟩ <;> first | exact h | simp at h
      have e1 : ct (.mk op name [a]) = sgn op ++ tx a 0 := by rw [ct]; rfl
      rw [e1]
      exact okc_app (okc_sgn (by omega)) (okc_tx (ih a (h4 a (by simp))) 0)
    | [a, b], h1, h4 =>
      have ho : op = 2 ∨ op = 3 ∨ op = 4 ∨ op = 5 := by rcases kidsI_cases h1 with ⟨_, h⟩ | ⟨_, h⟩ | ⟨h, _⟩ <;> first | exact h | simp at h
      have e1 : ct (.mk op name [a, b]) = tx a (lvl op) ++ sgn op ++ tx b (lvl op - 1) := by rw [ct]; rfl
      rw [e1]
      exact okc_app (okc_app (okc_tx (ih a (h4 a (by simp))) _) (okc_sgn (by omega))) (okc_tx (ih b (h4 b (by simp))) _)
    | _ :: _ :: _ :: _, h1, _ =>
      simp only [List.length_cons] at h1
      rcases kidsI_cases h1 with ⟨_, h⟩ | ⟨_, h⟩ | ⟨_, h⟩ <;> omega

/-- The text of a model is cut into the texts of its rules. -/
theorem cut_mt {rs : List RU} (h : MOk rs) : cutB (mt rs) 47 = rs.map part := by
  obtain ⟨h1, _, h3⟩ := h
  match rs, h1 with
  | r :: rs, _ =>
    unfold cutB mt
    simp only [List.map_cons]
    rw [spl_join 47 _ _ ?_]
    · simp
    · intro y hy b hb
      have key : ∀ q ∈ r :: rs, ∀ b ∈ (part q).data.toList, b ≠ 47 := fun q hq b hb => by
        unfold part at hb
        rw [ByteArray.data_append, ByteArray.data_append, Array.toList_append, Array.toList_append, List.mem_append, List.mem_append] at hb
        rcases hb with (hb | hb) | hb
        · exact (okc_wd _ b hb).1
        · have : b = 32 := by simpa using hb
          subst this; decide
        · exact (okc_ct 12 _ (h3 q hq).2.2.1 b hb).1
      rcases List.mem_cons.1 hy with rfl | hy
      · exact key r (by simp) b hb
      · rw [List.map_map] at hy
        obtain ⟨q, hq, rfl⟩ := List.mem_map.1 hy
        exact key q (by simp [hq]) b hb
/-- .. and the text of a rule into word and expression. -/
theorem cut_part {r : RU} (h : UOk r) : cutB (part r) 32 = [wd r.kind, ct r.e] := by
  unfold cutB part
  rw [ByteArray.data_append, ByteArray.data_append, Array.toList_append, Array.toList_append, List.append_assoc, spl_noc _ _ _ (fun x hx => (okc_wd _ x hx).2)]
  rw [show (⟨#[32]⟩ : ByteArray).data.toList ++ (ct r.e).data.toList = 32 :: (ct r.e).data.toList from rfl, spl_eq]
  have h1 := spl_noc (c := 32) (ct r.e).data.toList [] [] (fun x hx => (okc_ct 12 _ h.2.2.1 x hx).2)
  rw [List.append_nil] at h1
  rw [h1, spl_nil]
  simp
theorem wd_inj {a b : Int} (ha : 1 ≤ a ∧ a ≤ 3) (hb : 1 ≤ b ∧ b ≤ 3) (h : wd a = wd b) : a = b := by
  rcases kind_cases ha.1 ha.2 with rfl | rfl | rfl <;> rcases kind_cases hb.1 hb.2 with rfl | rfl | rfl <;> first | rfl | (exact absurd h (by decide))
theorem part_inj {a b : RU} (ha : UOk a) (hb : UOk b) (h : part a = part b) : a = b := by
  have h1 := cut_part ha
  rw [h, cut_part hb] at h1
  simp only [List.cons.injEq, and_true] at h1
  obtain ⟨ka, ea⟩ := a
  obtain ⟨kb, eb⟩ := b
  have h2 := wd_inj ⟨ha.1, ha.2.1⟩ ⟨hb.1, hb.2.1⟩ h1.1.symm
  have h3 := ct_inj ha.2.2 hb.2.2 h1.2.symm
  simp only at h2 h3
  rw [h2, h3]
theorem map_part_inj : ∀ (rs qs : List RU), (∀ r ∈ rs, UOk r) → (∀ r ∈ qs, UOk r) → rs.map part = qs.map part → rs = qs := by
  intro rs
  induction rs with
  | nil => intro qs _ _ h; cases qs with
    | nil => rfl
    | cons => simp at h
  | cons r rs ih =>
    intro qs h1 h2 h
    cases qs with
    | nil => simp at h
    | cons q qs =>
      simp only [List.map_cons, List.cons.injEq] at h
      rw [part_inj (h1 r (by simp)) (h2 q (by simp)) h.1, ih qs (fun x hx => h1 x (by simp [hx])) (fun x hx => h2 x (by simp [hx])) h.2]
/-- Two valid models with one text are one. -/
theorem mt_inj {rs qs : List RU} (h : MOk rs) (k : MOk qs) (e : mt rs = mt qs) : rs = qs := by
  have h1 := cut_mt h
  rw [e, cut_mt k] at h1
  exact map_part_inj _ _ h.2.2 k.2.2 h1.symm

/-- What reading a model's text comes to. -/
def ReadM (t : ByteArray) (rs : List RU) (b : Bool) : Prop := (b = true ∧ MOk rs ∧ mt rs = t) ∨ (b = false ∧ rs = [] ∧ ∀ qs, MOk qs → mt qs ≠ t)
theorem ReadM.uniq {t : ByteArray} {x y : List RU} {a b : Bool} (h : ReadM t x a) (k : ReadM t y b) : x = y ∧ a = b := by
  rcases h with ⟨rfl, h1, h2⟩ | ⟨rfl, rfl, h2⟩ <;> rcases k with ⟨rfl, k1, k2⟩ | ⟨rfl, rfl, k2⟩
  · exact ⟨mt_inj h1 k1 (h2.trans k2.symm), rfl⟩
  · exact absurd h2 (k2 _ h1)
  · exact absurd k2 (h2 _ k1)
  · exact ⟨rfl, rfl⟩

end Go.Proofs.YtapelogbceoojaaDoor
