/-
  The walk of l17Cut: a text cut at every byte c. Reading a model, plainly: its text is cut into its rules' texts, and these into word and expression; two valid models with one text are one. No program in sight. Slices that a call has made and appends to, of elements that lead to memory: what they hold stays though the row itself is appended to. No program in sight. A row of rules that a call has made and appends to, each rule's operands in blocks of their own: which blocks they are. No program in sight. strings.Split at one byte and strings.Cut at a space, as the walks speak of them.
-/
import Derived.Test.YtfgpbnncdfcjjabGreatDoorOwA
import Derived.Test.YtfgpbnncdfcjjabGreatDoorWSp
import Derived.Test.YtfgpbnncdfcjjabGreatDoorDr
import Derived.Test.YtfgpbnncdfcjjabGreatDoorVal
import Derived.Test.YtfgpbnncdfcjjabGreatDoorWVal
import Derived.Test.YtfgpbnncdfcjjabGreatDoorRE
import Derived.Test.YtfgpbnncdfcjjabGreatDoorShelf
import Derived.Lib.SplitLaws
import Derived.Lib.CountLaws
import Derived.Shelf.Vars

/-! The walk of l17Cut: a text cut at every byte c. -/
namespace Go.Proofs.YtfgpbnncdfcjjabGreatDoor
open Go.RowKit
set_option linter.unusedVariables false
set_option maxRecDepth 100000

/-- Cutting a text at every c; what has been read of the piece at hand comes first. -/
def spl (c : UInt8) : List UInt8 → List UInt8 → List (List UInt8)
  | cur, [] => [cur]
  | cur, b :: bs => if b = c then cur :: spl c [] bs else spl c (cur ++ [b]) bs
def cutB (s : ByteArray) (c : UInt8) : List ByteArray := (spl c [] s.data.toList).map fun l => ⟨l.toArray⟩
theorem spl_nil (c : UInt8) (cur : List UInt8) : spl c cur [] = [cur] := rfl
theorem spl_eq (c : UInt8) (cur bs : List UInt8) : spl c cur (c :: bs) = cur :: spl c [] bs := by rw [spl, if_pos rfl]
theorem spl_ne {b c : UInt8} (h : b ≠ c) (cur bs : List UInt8) : spl c cur (b :: bs) = spl c (cur ++ [b]) bs := by rw [spl, if_neg h]
theorem spl_len (c : UInt8) : ∀ (bs cur : List UInt8), ∀ y ∈ spl c cur bs, y.length ≤ cur.length + bs.length := by
  intro bs
  induction bs with
  | nil => intro cur y hy; rw [spl_nil, List.mem_singleton] at hy; subst hy; simp
  | cons b bs ih =>
    intro cur y hy
    rw [List.length_cons]
    by_cases h : b = c
    · subst h
      rw [spl_eq] at hy
      rcases List.mem_cons.1 hy with rfl | hy
      · omega
      · have := ih [] y hy
        rw [List.length_nil] at this
        omega
    · rw [spl_ne h] at hy
      have := ih _ y hy
      rw [List.length_append, List.length_singleton] at this
      omega
theorem cut_size {s : ByteArray} {c : UInt8} {y : ByteArray} (h : y ∈ cutB s c) : y.size ≤ s.size := by
  unfold cutB at h
  obtain ⟨l, hl, rfl⟩ := List.mem_map.1 h
  have h1 := spl_len c _ _ l hl
  rw [ByteArray.size_mk']
  simpa using h1
/-- What is still to come, at offset i, the piece at hand having begun at f. -/
def tl (s : ByteArray) (c : UInt8) (f i : Nat) : List (List UInt8) := if i ≤ s.size then spl c (s.extract f i).data.toList (rest s i) else []
def CutAt (s : ByteArray) (c : UInt8) (f i : Nat) (P : List ByteArray) : Prop := spl c [] s.data.toList = P.map (·.data.toList) ++ tl s c f i
theorem ext_empty (s : ByteArray) (i : Nat) : (s.extract i i).data.toList = [] := by rw [ext_rest, Nat.sub_self, List.take_zero]
theorem ext_snoc {s : ByteArray} {f i : Nat} (h : f ≤ i) (hi : i < s.size) : (s.extract f (i + 1)).data.toList = (s.extract f i).data.toList ++ [s[i]] := by
  have hl : i - f < (rest s f).length := by unfold rest; simp; omega
  rw [ext_rest, ext_rest, show i + 1 - f = (i - f) + 1 by omega, List.take_succ_eq_append_getElem hl, rest_get h hi hl]
theorem CutAt.start (s : ByteArray) (c : UInt8) : CutAt s c 0 0 [] := by
  unfold CutAt tl
  rw [if_pos (Nat.zero_le _), ext_empty]
  unfold rest
  simp
theorem CutAt.piece {s : ByteArray} {c : UInt8} {f i : Nat} {P : List ByteArray} (h : CutAt s c f i P) (hi : i < s.size) (hc : s[i] = c) : CutAt s c (i + 1) (i + 1) (P ++ [s.extract f i]) := by
  unfold CutAt tl at h ⊢
  rw [if_pos (by omega), rest_lt hi, hc, spl_eq] at h
  rw [if_pos (by omega), ext_empty, h]
  simp
theorem CutAt.on {s : ByteArray} {c : UInt8} {f i : Nat} {P : List ByteArray} (h : CutAt s c f i P) (hf : f ≤ i) (hi : i < s.size) (hc : s[i] ≠ c) : CutAt s c f (i + 1) P := by
  unfold CutAt tl at h ⊢
  rw [if_pos (by omega), rest_lt hi, spl_ne hc] at h
  rw [if_pos (by omega), h, ext_snoc hf hi]
theorem CutAt.last {s : ByteArray} {c : UInt8} {f : Nat} {P : List ByteArray} (h : CutAt s c f s.size P) : CutAt s c (s.size + 1) (s.size + 1) (P ++ [s.extract f s.size]) := by
  unfold CutAt tl at h ⊢
  rw [if_pos (Nat.le_refl _), rest_ge (Nat.le_refl _), spl_nil] at h
  rw [if_neg (by omega), h]
  simp
theorem CutAt.done {s : ByteArray} {c : UInt8} {f i : Nat} {P : List ByteArray} (h : CutAt s c f i P) (hi : s.size < i) : P = cutB s c := by
  unfold CutAt tl at h
  rw [if_neg (by omega), List.append_nil] at h
  unfold cutB
  rw [h, List.map_map]
  conv => lhs; rw [← List.map_id P]
  refine List.map_congr_left fun x _ => ?_
  simp

theorem Tryz.infoStrC : (Tryz.prog.info? 9).map (fun i => (i.zero, i.size, i.bytes)) = some (some (.string ⟨#[]⟩), 1, 16) := by kernel_rfl
def QStrC (cs : Nat → Value) (s : ByteArray) : Prop := cs 0 = .string s
theorem qstrC_congr : ∀ (f g : Nat → Value) (x : ByteArray), (∀ j, j < 1 → f j = g j) → QStrC f x → QStrC g x := fun f g x h hq => (h 0 (by omega)).symm.trans hq

set_option maxHeartbeats 2000000 in
theorem cut_any (s : ByteArray) (c : UInt8) (w : World) (hs : s.size ≤ 2000000) : Calls Tryz.prog 134 #[.string s, .int .u8 c.toNat] w (RetStrs w (cutB s c)) := by
  obtain ⟨i0, hi0, hz0, hz1, hz2⟩ := info_parts Tryz.infoStrC
  go_enter Tryz.func134, Tryz.ntmps134
  go_wp2_with fail
  go_loopg [5, 6, 7] (s.size + 2) (fun g s5 s6 s7 wr => ∃ (i f : Nat) (P : List ByteArray) (v : Value), i ≤ s.size + 1 ∧ f ≤ i ∧ g = s.size + 2 - i ∧ v = s5 ∧ s6 = .int .i64 f ∧ s7 = .int .i64 i ∧ P.length ≤ i ∧ RowOf 1 QStrC wr w.heap.size 9 v P ∧ Hid (CutAt s c f i P) ∧ Below w.heap.size w wr)
  case atStart => exact ⟨0, 0, [], _, by omega, by omega, rfl, rfl, rfl, rfl, by simp, RowOf.made _ (Own.new _ _ _) (Nat.le_refl _), CutAt.start s c, (Below.refl _ _).alloc (Nat.le_refl _) _⟩
  case round =>
    obtain ⟨i, f, P, v, hi, hf, rfl, rfl, rfl, rfl, hP, hrow, hat, hb⟩ := hrel
    by_cases hle : i ≤ s.size
    · have bl : decide ((i : Int) ≤ (s.size : Int)) = true := by rw [decide_eq_true_iff]; omega
      obtain ⟨cs, hown, hq⟩ := hrow
      have hsb := hb.size
      have Hq := Lib.hid hq
      have Hown := Lib.hid hown
      clear hown hq
      by_cases hlt : i < s.size
      · have bne : ((i : Int) == (s.size : Int)) = false := by rw [beq_eq_false_iff_ne]; omega
        by_cases hc : s[i] = c
        · have hcb : ((s[i].toNat : Int) == (c.toNat : Int)) = true := by rw [hc]; simp
          have Hat := Lib.hid (hat.out.piece hlt hc)
          clear hc hat
          go_wp2_with (at_builtin; refine wpList_append_lies _ (by rfl) _ _ _ (by rfl) w.heap.size 9 i0 _ 1 16 Tryz.underlying123 hi0 hz0 hz1 hz2 rfl (by omega) v P.length cs (by rfl) (owns_alloc Hown.out _) ⟨wr.heap.size, 0, none⟩ 1 1 [.string (s.extract f i)] (by rfl) (by rfl) (World.news_of_block (cs := #[.string (s.extract f i)]) (t := 9) (fr := (0, 0)) (heap_alloc_new wr _)) (by simp [Value.oneCell']) (by omega) (by simp [maxLen]; omega) (by omega) (by simp; omega) (wr.heap.size + 1) (by simp) ?_; intro gg cap w1 hown1 hgrow hat1 hlt1)
          go_roundg (s.size + 2 - (i + 1))
          case measure => omega
          case rel =>
            exact ⟨i + 1, i + 1, P ++ [s.extract f i], _, by omega, by omega, rfl, rfl, by go_num, by go_num, by simp; omega, RowOf.snoc (news := [.string (s.extract f i)]) qstrC_congr Hown.out Hq.out rfl rfl hown1, Hat.out, below_grown (hb.alloc hsb _) hgrow (Nat.le_refl _) (fun g hg => owns_base' Hown.out hg)⟩
        · have hcb : ((s[i].toNat : Int) == (c.toNat : Int)) = false := by
            rw [beq_eq_false_iff_ne]
            intro e
            exact hc (UInt8.toNat_inj.1 (by omega))
          have Hat := Lib.hid (hat.out.on hf hlt hc)
          clear hc hat
          go_wp2_with fail
          go_roundg (s.size + 2 - (i + 1))
          case measure => omega
          case rel => exact ⟨i + 1, f, P, v, by omega, by omega, rfl, rfl, rfl, by go_num, by omega, ⟨cs, Hown.out, Hq.out⟩, Hat.out, hb⟩
      · obtain rfl : i = s.size := by omega
        have bne : ((s.size : Int) == (s.size : Int)) = true := by simp
        have Hat := Lib.hid hat.out.last
        clear hat
        go_wp2_with (at_builtin; refine wpList_append_lies _ (by rfl) _ _ _ (by rfl) w.heap.size 9 i0 _ 1 16 Tryz.underlying123 hi0 hz0 hz1 hz2 rfl (by omega) v P.length cs (by rfl) (owns_alloc Hown.out _) ⟨wr.heap.size, 0, none⟩ 1 1 [.string (s.extract f s.size)] (by rfl) (by rfl) (World.news_of_block (cs := #[.string (s.extract f s.size)]) (t := 9) (fr := (0, 0)) (heap_alloc_new wr _)) (by simp [Value.oneCell']) (by omega) (by simp [maxLen]; omega) (by omega) (by simp; omega) (wr.heap.size + 1) (by simp) ?_; intro gg cap w1 hown1 hgrow hat1 hlt1)
        go_roundg (s.size + 2 - (s.size + 1))
        case measure => omega
        case rel =>
          exact ⟨s.size + 1, s.size + 1, P ++ [s.extract f s.size], _, by omega, by omega, rfl, rfl, by go_num, by go_num, by simp; omega, RowOf.snoc (news := [.string (s.extract f s.size)]) qstrC_congr Hown.out Hq.out rfl rfl hown1, Hat.out, below_grown (hb.alloc hsb _) hgrow (Nat.le_refl _) (fun g hg => owns_base' Hown.out hg)⟩
    · have bl : decide ((i : Int) ≤ (s.size : Int)) = false := by rw [decide_eq_false_iff_not]; omega
      have hdone := hat.out.done (by omega)
      have hsl := hrow.slR (k := 1) (R := RStr) (by omega) (a := above w.heap.size wr) (fun cs x h => h) (Le.refl _)
      obtain ⟨A9, c9, rfl, _⟩ := hsl.slice
      subst hdone
      have Hsl := Lib.hid hsl
      clear hsl hrow hat
      go_wp2_with fail
      go_ret
      exact ⟨A9, c9, rfl, Hsl.out, hb⟩

end Go.Proofs.YtfgpbnncdfcjjabGreatDoor

/-! Reading a model, plainly: its text is cut into its rules' texts, and these into word and expression; two valid models with one text are one. No program in sight. -/
namespace Go.Proofs.YtfgpbnncdfcjjabGreatDoor
open Go.RowKit
set_option linter.unusedVariables false
set_option maxRecDepth 100000

theorem spl_noc {c : UInt8} : ∀ (a cur bs : List UInt8), (∀ x ∈ a, x ≠ c) → spl c cur (a ++ bs) = spl c (cur ++ a) bs := by
  intro a
  induction a with
  | nil => intro cur bs _; simp
  | cons x a ih =>
    intro cur bs h
    rw [List.cons_append, spl_ne (h x (by simp)), ih _ _ (fun y hy => h y (by simp [hy])), List.append_assoc]
    rfl
/-- What is joined by c is cut again. -/
theorem spl_join (c : UInt8) : ∀ (xs : List (List UInt8)) (x : List UInt8), (∀ y ∈ x :: xs, ∀ b ∈ y, b ≠ c) → spl c [] (Lib.join (x :: xs) [c]) = x :: xs := by
  intro xs
  induction xs with
  | nil =>
    intro x h
    have h1 := spl_noc x [] [] (h x (by simp))
    rw [List.append_nil] at h1
    rw [Lib.join_one, h1, spl_nil, List.nil_append]
  | cons y xs ih =>
    intro x h
    have h1 : Lib.join (x :: y :: xs) [c] = x ++ (c :: Lib.join (y :: xs) [c]) := by
      rw [Lib.join_cons, Lib.join_cons]
      simp [Lib.joinTail]
    rw [h1, spl_noc x [] _ (h x (by simp)), List.nil_append, spl_eq, ih y (fun z hz => h z (by simp only [List.mem_cons] at hz ⊢; rcases hz with rfl | hz <;> simp_all))]

/-- Neither the sign between rules nor the one behind a word. -/
def okc (c : UInt8) : Prop := c ≠ 47 ∧ c ≠ 32
instance (c : UInt8) : Decidable (okc c) := inferInstanceAs (Decidable (_ ∧ _))
theorem okc_wd (k : Int) : ∀ c ∈ (wd k).data.toList, okc c := by
  unfold wd
  split
  · decide
  · split
    · decide
    · split
      · decide
      · decide
theorem okc_nm {s : ByteArray} (h : s ∈ nm) : ∀ c ∈ s.data.toList, okc c := by
  simp only [nm, List.mem_cons, List.not_mem_nil, or_false] at h
  rcases h with rfl | rfl | rfl | rfl | rfl | rfl | rfl | rfl | rfl | rfl <;> decide
theorem okc_sgn {op : Int} (h : 2 ≤ op ∧ op ≤ 7) : ∀ c ∈ (sgn op).data.toList, okc c := by
  have h1 : op = 2 ∨ op = 3 ∨ op = 4 ∨ op = 5 ∨ op = 6 ∨ op = 7 := by omega
  rcases h1 with rfl | rfl | rfl | rfl | rfl | rfl <;> decide
theorem okc_app {a b : ByteArray} (ha : ∀ c ∈ a.data.toList, okc c) (hb : ∀ c ∈ b.data.toList, okc c) : ∀ c ∈ (a ++ b).data.toList, okc c := fun c hc => by
  rw [ByteArray.data_append, Array.toList_append, List.mem_append] at hc
  rcases hc with hc | hc
  · exact ha c hc
  · exact hb c hc
theorem okc_tx {e : RE} (h : ∀ c ∈ (ct e).data.toList, okc c) (l : Int) : ∀ c ∈ (tx e l).data.toList, okc c := by
  by_cases hl : l < lvl e.op
  · rw [tx_pos hl]
    exact okc_app (okc_app (by decide) h) (by decide)
  · rw [tx_neg hl]
    exact h
theorem okc_ct (m : Nat) : ∀ e : RE, Shp m e → ∀ c ∈ (ct e).data.toList, okc c := by
  induction m with
  | zero => intro e h; exact h.elim
  | succ m ih =>
    intro e h
    obtain ⟨op, name, kids⟩ := e
    obtain ⟨⟨h1, h2, h3⟩, h4⟩ := h
    simp only [RE.op, RE.name, RE.kids] at h1 h2 h3 h4
    match kids, h1, h4 with
    | [], h1, _ =>
      have ho : op = 1 := by rcases kidsI_cases h1 with ⟨h, _⟩ | ⟨_, h⟩ | ⟨_, h⟩ <;> first | exact h | simp at h
      subst ho
      exact okc_nm (h2.1 rfl)
    | [a], h1, h4 =>
      have ho : op = 6 ∨ op = 7 := by rcases kidsI_cases h1 with ⟨_, h⟩ | ⟨h, _⟩ | ⟨_, h⟩ <;> first | exact h | simp at h
      have e1 : ct (.mk op name [a]) = sgn op ++ tx a 0 := by rw [ct]; rfl
      rw [e1]
      exact okc_app (okc_sgn (by omega)) (okc_tx (ih a (h4 a (by simp))) 0)
    | [a, b], h1, h4 =>
      have ho : op = 2 ∨ op = 3 ∨ op = 4 ∨ op = 5 := by rcases kidsI_cases h1 with ⟨_, h⟩ | ⟨_, h⟩ | ⟨h, _⟩ <;> first | exact h | simp at h
      have e1 : ct (.mk op name [a, b]) = tx a (lvl op) ++ sgn op ++ tx b (lvl op - 1) := by rw [ct]; rfl
      rw [e1]
      exact okc_app (okc_app (okc_tx (ih a (h4 a (by simp))) _) (okc_sgn (by omega))) (okc_tx (ih b (h4 b (by simp))) _)
    | _ :: _ :: _ :: _, h1, _ =>
      simp only [List.length_cons] at h1
      rcases kidsI_cases h1 with ⟨_, h⟩ | ⟨_, h⟩ | ⟨_, h⟩ <;> omega

/-- The text of a model is cut into the texts of its rules. -/
theorem cut_mt {rs : List RU} (h : MOk rs) : cutB (mt rs) 47 = rs.map part := by
  obtain ⟨h1, _, h3⟩ := h
  match rs, h1 with
  | r :: rs, _ =>
    unfold cutB mt
    simp only [List.map_cons]
    rw [spl_join 47 _ _ ?_]
    · simp
    · intro y hy b hb
      have key : ∀ q ∈ r :: rs, ∀ b ∈ (part q).data.toList, b ≠ 47 := fun q hq b hb => by
        unfold part at hb
        rw [ByteArray.data_append, ByteArray.data_append, Array.toList_append, Array.toList_append, List.mem_append, List.mem_append] at hb
        rcases hb with (hb | hb) | hb
        · exact (okc_wd _ b hb).1
        · have : b = 32 := by simpa using hb
          subst this; decide
        · exact (okc_ct 12 _ (h3 q hq).2.2.1 b hb).1
      rcases List.mem_cons.1 hy with rfl | hy
      · exact key r (by simp) b hb
      · rw [List.map_map] at hy
        obtain ⟨q, hq, rfl⟩ := List.mem_map.1 hy
        exact key q (by simp [hq]) b hb
/-- .. and the text of a rule into word and expression. -/
theorem cut_part {r : RU} (h : UOk r) : cutB (part r) 32 = [wd r.kind, ct r.e] := by
  unfold cutB part
  rw [ByteArray.data_append, ByteArray.data_append, Array.toList_append, Array.toList_append, List.append_assoc, spl_noc _ _ _ (fun x hx => (okc_wd _ x hx).2)]
  rw [show (⟨#[32]⟩ : ByteArray).data.toList ++ (ct r.e).data.toList = 32 :: (ct r.e).data.toList from rfl, spl_eq]
  have h1 := spl_noc (c := 32) (ct r.e).data.toList [] [] (fun x hx => (okc_ct 12 _ h.2.2.1 x hx).2)
  rw [List.append_nil] at h1
  rw [h1, spl_nil]
  simp
theorem wd_inj {a b : Int} (ha : 1 ≤ a ∧ a ≤ 3) (hb : 1 ≤ b ∧ b ≤ 3) (h : wd a = wd b) : a = b := by
  rcases kind_cases ha.1 ha.2 with rfl | rfl | rfl <;> rcases kind_cases hb.1 hb.2 with rfl | rfl | rfl <;> first | rfl | (exact absurd h (by decide))
theorem part_inj {a b : RU} (ha : UOk a) (hb : UOk b) (h : part a = part b) : a = b := by
  have h1 := cut_part ha
  rw [h, cut_part hb] at h1
  simp only [List.cons.injEq, and_true] at h1
  obtain ⟨ka, ea⟩ := a
  obtain ⟨kb, eb⟩ := b
  have h2 := wd_inj ⟨ha.1, ha.2.1⟩ ⟨hb.1, hb.2.1⟩ h1.1.symm
  have h3 := ct_inj ha.2.2 hb.2.2 h1.2.symm
  simp only at h2 h3
  rw [h2, h3]
theorem map_part_inj : ∀ (rs qs : List RU), (∀ r ∈ rs, UOk r) → (∀ r ∈ qs, UOk r) → rs.map part = qs.map part → rs = qs := by
  intro rs
  induction rs with
  | nil => intro qs _ _ h; cases qs with
    | nil => rfl
    | cons => simp at h
  | cons r rs ih =>
    intro qs h1 h2 h
    cases qs with
    | nil => simp at h
    | cons q qs =>
      simp only [List.map_cons, List.cons.injEq] at h
      rw [part_inj (h1 r (by simp)) (h2 q (by simp)) h.1, ih qs (fun x hx => h1 x (by simp [hx])) (fun x hx => h2 x (by simp [hx])) h.2]
/-- Two valid models with one text are one. -/
theorem mt_inj {rs qs : List RU} (h : MOk rs) (k : MOk qs) (e : mt rs = mt qs) : rs = qs := by
  have h1 := cut_mt h
  rw [e, cut_mt k] at h1
  exact map_part_inj _ _ h.2.2 k.2.2 h1.symm

/-- What reading a model's text comes to. -/
def ReadM (t : ByteArray) (rs : List RU) (b : Bool) : Prop := (b = true ∧ MOk rs ∧ mt rs = t) ∨ (b = false ∧ rs = [] ∧ ∀ qs, MOk qs → mt qs ≠ t)
theorem ReadM.uniq {t : ByteArray} {x y : List RU} {a b : Bool} (h : ReadM t x a) (k : ReadM t y b) : x = y ∧ a = b := by
  rcases h with ⟨rfl, h1, h2⟩ | ⟨rfl, rfl, h2⟩ <;> rcases k with ⟨rfl, k1, k2⟩ | ⟨rfl, rfl, k2⟩
  · exact ⟨mt_inj h1 k1 (h2.trans k2.symm), rfl⟩
  · exact absurd h2 (k2 _ h1)
  · exact absurd k2 (h2 _ k1)
  · exact ⟨rfl, rfl⟩

end Go.Proofs.YtfgpbnncdfcjjabGreatDoor

/-! Slices that a call has made and appends to, of elements that lead to memory: what they hold stays though the row itself is appended to. No program in sight. -/
namespace Go.Proofs.YtfgpbnncdfcjjabGreatDoor
open Go.RowKit
set_option linter.unusedVariables false
set_option maxRecDepth 100000

end Go.Proofs.YtfgpbnncdfcjjabGreatDoor

/-! A row of rules that a call has made and appends to, each rule's operands in blocks of their own: which blocks they are. No program in sight. -/
namespace Go.Proofs.YtfgpbnncdfcjjabGreatDoor
open Go.RowKit
set_option linter.unusedVariables false
set_option maxRecDepth 100000

/-- The row's cells and, of each rule, the blocks of its operands. -/
structure RowU (w : World) (base : Nat) (v : Value) (ms : List RU) (cs : List Value) (Fs : Nat → List Nat) : Prop where
  own : w.ownsRow base 59 4 v ms.length cs
  el : ∀ i (h : i < ms.length), cs.getD (i * 4) undef = .int .i64 ms[i].kind ∧ cs.getD (i * 4 + 1) undef = .int .i64 ms[i].e.op ∧ cs.getD (i * 4 + 2) undef = .string ms[i].e.name ∧ ms[i].e.name.size ≤ 300 ∧ OwE w (cs.getD (i * 4 + 3) undef) ms[i].e.kids (Fs i)
  nd : ((List.range ms.length).map Fs).flatten.Nodup
  ge : ∀ i, i < ms.length → ∀ b ∈ Fs i, base ≤ b ∧ v.ownBlock ≠ some b
namespace RowU
variable {w w' : World} {base : Nat} {v : Value} {ms : List RU} {cs : List Value} {Fs : Nat → List Nat}
theorem nil (w : World) (base : Nat) (Fs : Nat → List Nat) : RowU w base (.slice none 0 0) [] [] Fs :=
  ⟨World.ownsRow_nil w base _ 4, fun i h => absurd h (Nat.not_lt_zero _), by simp, fun i h => absurd h (Nat.not_lt_zero _)⟩
theorem below (h : RowU w base v ms cs Fs) (hb : Below w.heap.size w w') : RowU w' base v ms cs Fs :=
  ⟨owns_of_block h.own fun g _ _ hlt => hb.block g hlt, fun i hi => by
    obtain ⟨h0, h1, h2, h3, h4⟩ := h.el i hi
    exact ⟨h0, h1, h2, h3, own_below h4 hb⟩, h.nd, h.ge⟩
theorem rowOf (h : RowU w base v ms cs Fs) : RowOf 4 (RepU w) w base 59 v ms := by
  refine ⟨cs, h.own, fun i hi => ?_⟩
  obtain ⟨h0, h1, h2, h3, h4⟩ := h.el i hi
  have hs := RepEs.le (h4.rep (B := 0) (fun b hb => Nat.zero_le _)) (Le.above _ _)
  obtain ⟨A, c, hv⟩ := h4.slice
  rw [hv] at hs
  exact repU_K.2 ⟨A, c, by simpa using h0, h1, h2, by rw [← hv], by omega, hs⟩
theorem slR (h : RowU w base v ms cs Fs) : SlR 4 RepU w v ms := RowOf.slR (R := RepU) (by omega) h.rowOf (fun cs x hx => hx) (Le.above _ _)
/-- One rule more. -/
theorem push (h : RowU w base v ms cs Fs) {X w1 : World} {gg cap H c : Nat} {A : Option Addr} {x : RU} {F : List Nat} (hX : Below w.heap.size w X) (hg : X.grownBy w1 v.ownBlock) (hx : OwE X (.slice A x.e.kids.length c) x.e.kids F) (hF : ∀ b ∈ F, w.heap.size ≤ b) (hFn : F.Nodup) (hnm : x.e.name.size ≤ 300)
    (hbw : base ≤ w.heap.size) (hown1 : w1.ownsRow base 59 4 (.slice (some ⟨gg, 0, none⟩) (ms.length + 1) cap) (ms.length + 1) (cs ++ [.int .i64 x.kind, .int .i64 x.e.op, .string x.e.name, .slice A x.e.kids.length c])) (hat : v.ownBlock = some gg ∨ gg = H) (hH : X.heap.size = H) :
    RowU w1 base (.slice (some ⟨gg, 0, none⟩) (ms.length + 1) cap) (ms ++ [x]) (cs ++ [.int .i64 x.kind, .int .i64 x.e.op, .string x.e.name, .slice A x.e.kids.length c]) (fun i => if i = ms.length then F else Fs i) := by
  have hlen : cs.length = ms.length * 4 := h.own.1
  have hlt : ∀ g, v.ownBlock = some g → base ≤ g ∧ g < w.heap.size := fun g hv => owns_base h.own hv
  have ne : ∀ b, v.ownBlock ≠ some b → b < X.heap.size → (Value.slice (some ⟨gg, 0, none⟩) (ms.length + 1) cap).ownBlock ≠ some b := fun b hn hl e => by
    simp only [Value.ownBlock, Option.some.injEq] at e
    rcases hat with h | h
    · exact hn (by rw [h, e])
    · omega
  have hold : ∀ i, i < ms.length → ∀ b ∈ Fs i, b < w.heap.size := fun i hi b hb => ((h.el i hi).2.2.2.2).lt b hb
  have hFne : ∀ b ∈ F, v.ownBlock ≠ some b := fun b hb e => by have := hlt _ e; have := hF b hb; omega
  refine ⟨by rw [List.length_append, List.length_singleton]; exact hown1, fun i hi => ?_, ?_, fun i hi b hb => ?_⟩
  · rw [List.length_append, List.length_singleton] at hi
    by_cases hlast : i = ms.length
    · subst hlast
      rw [List.getElem_append_right (Nat.le_refl _)]
      simp only [Nat.sub_self, List.getElem_cons_zero, if_pos]
      have g : ∀ j u, [Value.int .i64 x.kind, .int .i64 x.e.op, .string x.e.name, .slice A x.e.kids.length c][j]? = some u → (cs ++ [Value.int .i64 x.kind, .int .i64 x.e.op, .string x.e.name, .slice A x.e.kids.length c]).getD (ms.length * 4 + j) undef = u := fun j u hj => by
        rw [List.getD_eq_getElem?_getD, List.getElem?_append_right (by omega), hlen, Nat.add_sub_cancel_left, hj]
        rfl
      refine ⟨g 0 _ rfl, g 1 _ rfl, g 2 _ rfl, hnm, ?_⟩
      rw [g 3 _ rfl]
      exact hx.of_blocks fun b hb => World.grownBy.block hg b (hx.lt b hb) (fun e => hFne b hb e.symm)
    · have hi' : i < ms.length := by omega
      rw [List.getElem_append_left hi', if_neg hlast]
      have g : ∀ j, j < 4 → (cs ++ [Value.int .i64 x.kind, .int .i64 x.e.op, .string x.e.name, .slice A x.e.kids.length c]).getD (i * 4 + j) undef = cs.getD (i * 4 + j) undef := fun j hj => by
        rw [List.getD_eq_getElem?_getD, List.getD_eq_getElem?_getD, List.getElem?_append_left (by omega)]
      obtain ⟨h0, h1, h2, h3, h4⟩ := h.el i hi'
      have g0 := g 0 (by omega)
      rw [Nat.add_zero] at g0
      rw [g0, g 1 (by omega), g 2 (by omega), g 3 (by omega)]
      refine ⟨h0, h1, h2, h3, ?_⟩
      have h5 := own_below h4 hX
      exact h5.of_blocks fun b hb => World.grownBy.block hg b (h5.lt b hb) (fun e => (h.ge i hi' b hb).2 e.symm)
  · rw [List.length_append, List.length_singleton, List.range_succ, List.map_append, List.flatten_append]
    have e1 : (List.range ms.length).map (fun i => if i = ms.length then F else Fs i) = (List.range ms.length).map Fs := List.map_congr_left fun i hi => by
      have := List.mem_range.1 hi
      rw [if_neg (by omega)]
    rw [e1]
    simp only [List.map_cons, List.map_nil, if_true, List.flatten_cons, List.flatten_nil, List.append_nil]
    refine List.nodup_append.2 ⟨h.nd, hFn, fun a ha b hb e => ?_⟩
    obtain ⟨i, hi, hm⟩ := of_mem_foot ha
    have := hold i hi a hm
    have := hF b hb
    omega
  · rw [List.length_append, List.length_singleton] at hi
    have hb : b ∈ (if i = ms.length then F else Fs i) := hb
    by_cases hlast : i = ms.length
    · rw [if_pos hlast] at hb
      have := hF b hb
      exact ⟨by omega, ne b (hFne b hb) (hx.lt b hb)⟩
    · rw [if_neg hlast] at hb
      obtain ⟨h1, h2⟩ := h.ge i (by omega) b hb
      exact ⟨h1, ne b h2 (by have := hold i (by omega) b hb; have := hX.size; omega)⟩
end RowU

/-- Rules that are one's own, in just these blocks. -/
def OwU (w : World) (v : Value) (ms : List RU) (F : List Nat) : Prop :=
  (v = .slice none 0 0 ∧ ms = [] ∧ F = []) ∨ ∃ (g c N : Nat) (G : Nat → Value) (Fs : Nat → List Nat), v = .slice (some ⟨g, 0, none⟩) ms.length c ∧ w.rowIs g 59 N G ∧ ms.length * 4 ≤ N ∧ ms.length ≤ 9223372036854775807 ∧
    (∀ i (h : i < ms.length), G (i * 4) = .int .i64 ms[i].kind ∧ G (i * 4 + 1) = .int .i64 ms[i].e.op ∧ G (i * 4 + 2) = .string ms[i].e.name ∧ ms[i].e.name.size ≤ 9223372036854775807 ∧ OwE w (G (i * 4 + 3)) ms[i].e.kids (Fs i)) ∧
    F = g :: ((List.range ms.length).map Fs).flatten
theorem RowU.owU {w : World} {base : Nat} {v : Value} {ms : List RU} {cs : List Value} {Fs : Nat → List Nat} (h : RowU w base v ms cs Fs) : ∃ F, OwU w v ms F ∧ F.Nodup ∧ ∀ b ∈ F, base ≤ b := by
  obtain ⟨own, el, nd, ge⟩ := h
  obtain ⟨hl, h⟩ := own
  rcases h with ⟨rfl, h0⟩ | ⟨g, cap, cur, rfl, hbg, hg, hn, hm, hc, ht⟩
  · obtain rfl : ms = [] := List.length_eq_zero_iff.1 h0
    exact ⟨[], Or.inl ⟨rfl, rfl, rfl⟩, List.nodup_nil, fun b hb => by cases hb⟩
  · have hcap : ms.length * 4 ≤ cap * 4 := by omega
    have hml : ms.length ≤ 9223372036854775807 := by unfold maxLen at hm; omega
    have gg : ∀ j, j < ms.length * 4 → cur.getD j undef = cs.getD j undef := fun j hj => by
      rw [← ht, List.getD_eq_getElem?_getD, List.getElem?_take, if_pos hj, Array.getElem?_toList]
      simp [Array.getD, show j < cur.size by omega]
    refine ⟨g :: ((List.range ms.length).map Fs).flatten, Or.inr ⟨g, cap, cap * 4, fun j => cur.getD j undef, Fs, rfl, ⟨cur, hg, hc, fun i hi => getD_some (by omega)⟩, hcap, hml, fun i hi => ?_, rfl⟩, ?_, ?_⟩
    · obtain ⟨h0, h1, h2, h3, h4⟩ := el i hi
      simp only
      rw [gg _ (by omega), gg _ (by omega), gg _ (by omega), gg _ (by omega)]
      exact ⟨h0, h1, h2, by omega, h4⟩
    · rw [List.nodup_cons]
      refine ⟨fun hm => ?_, nd⟩
      obtain ⟨i, hi, hx⟩ := of_mem_foot hm
      exact (ge i hi g hx).2 rfl
    · intro b hb
      rcases List.mem_cons.1 hb with rfl | hb
      · exact hbg
      · obtain ⟨i, hi, hx⟩ := of_mem_foot hb
        exact (ge i hi b hx).1

end Go.Proofs.YtfgpbnncdfcjjabGreatDoor

/-! strings.Split at one byte and strings.Cut at a space, as the walks speak of them. -/
namespace Go.Proofs.YtfgpbnncdfcjjabGreatDoor
open Go.RowKit
set_option linter.unusedVariables false
set_option maxRecDepth 100000

theorem idx_none {c : UInt8} : ∀ {l : List UInt8}, c ∉ l → Lib.index l [c] = -1 := by
  intro l
  induction l with
  | nil => intro _; rfl
  | cons b l ih =>
    intro h
    have h1 : c ≠ b := fun e => h (by simp [e])
    have h2 := ih fun hm => h (by simp [hm])
    simp [Lib.index, h1, h2]
theorem idx_at {c : UInt8} {r : List UInt8} : ∀ {a : List UInt8}, c ∉ a → Lib.index (a ++ c :: r) [c] = a.length := by
  intro a
  induction a with
  | nil => intro _; simp [Lib.index]
  | cons b l ih =>
    intro h
    have h1 : c ≠ b := fun e => h (by simp [e])
    have h2 := ih fun hm => h (by simp [hm])
    have h4 : ((l.length : Int) == -1) = false := by rw [beq_eq_false_iff_ne]; omega
    simp [Lib.index, h1, h2, h4]
theorem split_spl (c : UInt8) : ∀ (n : Nat) (l : List UInt8), l.length ≤ n → Lib.splitK [c] 0 (Lib.count l [c]) l = spl c [] l := by
  intro n
  induction n with
  | zero =>
    intro l h
    obtain rfl : l = [] := List.length_eq_zero_iff.1 (by omega)
    rw [Lib.count_miss (idx_none (by simp))]
    rfl
  | succ n ih =>
    intro l h
    by_cases hm : c ∈ l
    · obtain ⟨a, r, rfl, hn⟩ := List.eq_append_cons_of_mem hm
      have hi := idx_at (r := r) hn
      have hc := Lib.count_hit (s := a ++ c :: r) (sub := [c]) (by simp) hi
      have hd : (a ++ c :: r).drop (a.length + [c].length) = r := by simp
      rw [hd] at hc
      rw [hc, Nat.add_comm, Lib.splitK, if_neg (by rw [hi, beq_iff_eq]; omega), hi]
      rw [show ((a.length : Int).toNat + [c].length) = a.length + [c].length by simp, hd, ih r (by simp at h; omega)]
      rw [spl_noc a [] _ (fun x hx e => hn (by rw [← e]; exact hx)), List.nil_append, spl_eq]
      simp
    · rw [Lib.count_miss (idx_none hm)]
      have h1 := spl_noc (c := c) l [] [] (fun x hx e => hm (by rw [← e]; exact hx))
      rw [List.append_nil] at h1
      rw [h1, spl_nil]
      rfl
theorem splitB_cut (c : UInt8) (s : ByteArray) : Lib.splitB ⟨#[c]⟩ 0 (Lib.countB s ⟨#[c]⟩) s = cutB s c := by
  have h1 := Lib.splitB_data ⟨#[c]⟩ 0 (Lib.countB s ⟨#[c]⟩) s
  rw [show (⟨#[c]⟩ : ByteArray).data.toList = [c] from rfl] at h1
  have h2 := split_spl c _ s.data.toList (Nat.le_refl _)
  unfold cutB
  rw [← h2, show Lib.count s.data.toList [c] = Lib.countB s ⟨#[c]⟩ from rfl, ← h1, List.map_map]
  conv => lhs; rw [← List.map_id (Lib.splitB _ _ _ _)]
  refine List.map_congr_left fun x _ => ?_
  simp
theorem cut_len (s : ByteArray) (c : UInt8) : (cutB s c).length = Lib.countB s ⟨#[c]⟩ + 1 := by
  rw [← splitB_cut]
  exact Lib.splitB_all ⟨#[c]⟩ (Nat.le_refl 1) 0 _ _ rfl
theorem cut_len_le (s : ByteArray) (c : UInt8) : (cutB s c).length ≤ s.size + 1 := by
  rw [cut_len]
  have := Lib.countB_le ⟨#[c]⟩ (Nat.le_refl 1) _ s (Nat.le_refl _)
  omega

/-- Cutting a text at the first byte c. -/
def cut2 (s : ByteArray) (c : UInt8) : ByteArray × ByteArray := (⟨(Lib.cut s.data.toList [c]).1.toArray⟩, ⟨(Lib.cut s.data.toList [c]).2.1.toArray⟩)
theorem cut2_part {r : RU} (h : UOk r) : cut2 (part r) 32 = (wd r.kind, ct r.e) := by
  unfold cut2 part
  rw [ByteArray.data_append, ByteArray.data_append, Array.toList_append, Array.toList_append, List.append_assoc]
  rw [show (⟨#[32]⟩ : ByteArray).data.toList ++ (ct r.e).data.toList = 32 :: (ct r.e).data.toList from rfl]
  have hi := idx_at (c := 32) (r := (ct r.e).data.toList) (a := (wd r.kind).data.toList) (fun hm => (okc_wd r.kind _ hm).2 rfl)
  unfold Lib.cut
  rw [hi, if_pos (Int.natCast_nonneg _), Int.toNat_natCast, List.take_left', List.drop_append, List.drop_of_length_le (by simp)]
  · simp
  · rfl
theorem cut2_nil (c : UInt8) : cut2 ⟨#[]⟩ c = (⟨#[]⟩, ⟨#[]⟩) := rfl
theorem cut2_size (s : ByteArray) (c : UInt8) : (cut2 s c).1.size ≤ s.size ∧ (cut2 s c).2.size ≤ s.size := by
  have hl : s.data.toList.length = s.size := by simp
  have key : (Lib.cut s.data.toList [c]).1.length ≤ s.data.toList.length ∧ (Lib.cut s.data.toList [c]).2.1.length ≤ s.data.toList.length := by
    unfold Lib.cut
    split
    · exact ⟨by rw [List.length_take]; omega, by rw [List.length_drop]; omega⟩
    · exact ⟨Nat.le_refl _, Nat.zero_le _⟩
  rw [hl] at key
  exact ⟨by show ByteArray.size ⟨_⟩ ≤ _; rw [ByteArray.size_mk', List.size_toArray]; exact key.1, by show ByteArray.size ⟨_⟩ ≤ _; rw [ByteArray.size_mk', List.size_toArray]; exact key.2⟩
def RetCut (w : World) (p : ByteArray × ByteArray) (e : Ending) (w' : World) : Prop := ∃ b, e = .returned (.tuple #[.string p.1, .string p.2, .bool b]) ∧ Below w.heap.size w w'
end Go.Proofs.YtfgpbnncdfcjjabGreatDoor
