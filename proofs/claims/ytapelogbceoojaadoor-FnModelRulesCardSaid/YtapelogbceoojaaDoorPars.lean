/-
  Reading an expression, plainly: which text is read as which expression (a relation of steps that succeed); a valid expression's text is read back, and reading is unique. No program in sight.
-/
import Derived.Test.YtapelogbceoojaaDoorText
namespace Go.Proofs.YtapelogbceoojaaDoor
open Go.RowKit
set_option linter.unusedVariables false
set_option maxRecDepth 100000

def isLet (c : UInt8) : Prop := 97 ≤ c ∧ c ≤ 122
instance (c : UInt8) : Decidable (isLet c) := inferInstanceAs (Decidable (_ ∧ _))
/-- The rest begins with a letter. -/
def letHead : List UInt8 → Prop
  | [] => False
  | c :: _ => isLet c
/-- The sign of an operation. -/
def sg (op : Int) : UInt8 := if op = 2 then 124 else if op = 3 then 38 else if op = 4 then 45 else if op = 5 then 59 else if op = 6 then 126 else 43

theorem toArray_data' (a : ByteArray) : (⟨a.data.toList.toArray⟩ : ByteArray) = a := by
  apply ByteArray.ext
  simp

inductive Cmd where
  | atom
  | lev (l : Nat)
  | loop (l : Nat) (e : RE)

/-- The command reads from the first list an expression and leaves the second. -/
inductive Ps : Cmd → List UInt8 → RE → List UInt8 → Prop
  | par {t e u} : Ps (.lev 3) t e (41 :: u) → Ps .atom (40 :: t) e u
  | pre {op t e u} : op = 6 ∨ op = 7 → Ps .atom t e u → Ps .atom (sg op :: t) (.mk op ⟨#[]⟩ [e]) u
  | name {n u} : n ≠ [] → (∀ c ∈ n, isLet c) → ¬ letHead u → Ps .atom (n ++ u) (.mk 1 ⟨n.toArray⟩ []) u
  | zero {t e u} : Ps .atom t e u → Ps (.lev 0) t e u
  | succ {l t e u e' u'} : Ps (.lev l) t e u → Ps (.loop (l + 1) e) u e' u' → Ps (.lev (l + 1)) t e' u'
  | done {l : Nat} {e : RE} {u : List UInt8} : (∀ op : Int, 2 ≤ op → op ≤ 5 → lvl op = (l : Int) → u.head? ≠ some (sg op)) → Ps (.loop l e) u e u
  | more {l : Nat} {e : RE} {op : Int} {t e2 u e' u'} : 2 ≤ op → op ≤ 5 → lvl op = (l + 1 : Nat) → Ps (.lev l) t e2 u → Ps (.loop (l + 1) (.mk op ⟨#[]⟩ [e, e2])) u e' u' → Ps (.loop (l + 1) e) (sg op :: t) e' u'

theorem sg_inj {a b : Int} (ha : 2 ≤ a ∧ a ≤ 7) (hb : 2 ≤ b ∧ b ≤ 7) (h : sg a = sg b) : a = b := by
  have h1 : a = 2 ∨ a = 3 ∨ a = 4 ∨ a = 5 ∨ a = 6 ∨ a = 7 := by omega
  have h2 : b = 2 ∨ b = 3 ∨ b = 4 ∨ b = 5 ∨ b = 6 ∨ b = 7 := by omega
  rcases h1 with rfl | rfl | rfl | rfl | rfl | rfl <;> rcases h2 with rfl | rfl | rfl | rfl | rfl | rfl <;> first | rfl | (exact absurd h (by decide))
theorem sg_let {a : Int} (ha : 2 ≤ a ∧ a ≤ 7) : ¬ isLet (sg a) ∧ sg a ≠ 40 ∧ sg a ≠ 41 := by
  have h1 : a = 2 ∨ a = 3 ∨ a = 4 ∨ a = 5 ∨ a = 6 ∨ a = 7 := by omega
  rcases h1 with rfl | rfl | rfl | rfl | rfl | rfl <;> decide

theorem name_inj {n n' u u' : List UInt8} (h : n ++ u = n' ++ u') (hn : ∀ c ∈ n, isLet c) (hn' : ∀ c ∈ n', isLet c) (hu : ¬ letHead u) (hu' : ¬ letHead u') : n = n' ∧ u = u' := by
  induction n generalizing n' with
  | nil =>
    cases n' with
    | nil => exact ⟨rfl, h⟩
    | cons c n' =>
      exfalso
      simp only [List.nil_append, List.cons_append] at h
      subst h
      exact hu (hn' c (by simp))
  | cons c n ih =>
    cases n' with
    | nil =>
      exfalso
      simp only [List.nil_append, List.cons_append] at h
      subst h
      exact hu' (hn c (by simp))
    | cons c' n' =>
      simp only [List.cons_append, List.cons.injEq] at h
      obtain ⟨rfl, h⟩ := h
      obtain ⟨rfl, rfl⟩ := ih h (fun d hd => hn d (by simp [hd])) (fun d hd => hn' d (by simp [hd]))
      exact ⟨rfl, rfl⟩

theorem isLet_ne {c : UInt8} (h : isLet c) : c ≠ 40 ∧ c ≠ sg 6 ∧ c ≠ sg 7 := by
  refine ⟨?_, ?_, ?_⟩ <;> (rintro rfl; exact absurd h (by decide))

theorem Ps.atom_par {t : List UInt8} {e : RE} {u : List UInt8} (h : Ps .atom (40 :: t) e u) : Ps (.lev 3) t e (41 :: u) := by
  generalize hs : 40 :: t = s at h
  cases h with
  | par h => injection hs with _ h2; subst h2; exact h
  | pre ho h =>
    injection hs with h1 _
    rcases ho with rfl | rfl <;> exact absurd h1 (by decide)
  | @name n u hn hl hu =>
    cases n with
    | nil => exact absurd rfl hn
    | cons c n =>
      injection hs with h1 _
      exact absurd h1.symm (isLet_ne (hl c (by simp))).1
theorem Ps.atom_pre {op : Int} (ho : op = 6 ∨ op = 7) {t : List UInt8} {e : RE} {u : List UInt8} (h : Ps .atom (sg op :: t) e u) : ∃ e1, Ps .atom t e1 u ∧ e = .mk op ⟨#[]⟩ [e1] := by
  generalize hs : sg op :: t = s at h
  cases h with
  | par h =>
    injection hs with h1 _
    rcases ho with rfl | rfl <;> exact absurd h1 (by decide)
  | @pre op' t' e' u ho' h =>
    injection hs with h1 h2
    have : op = op' := sg_inj (by omega) (by omega) h1
    subst this h2
    exact ⟨_, h, rfl⟩
  | @name n u hn hl hu =>
    cases n with
    | nil => exact absurd rfl hn
    | cons c n =>
      injection hs with h1 _
      have := isLet_ne (hl c (by simp))
      rcases ho with rfl | rfl
      · exact absurd h1.symm this.2.1
      · exact absurd h1.symm this.2.2
theorem Ps.atom_name {n t : List UInt8} (hn : n ≠ []) (hl : ∀ c ∈ n, isLet c) (ht : ¬ letHead t) {e : RE} {u : List UInt8} (h : Ps .atom (n ++ t) e u) : e = .mk 1 ⟨n.toArray⟩ [] ∧ u = t := by
  generalize hs : n ++ t = s at h
  cases h with
  | par h =>
    cases n with
    | nil => exact absurd rfl hn
    | cons c n =>
      injection hs with h1 _
      exact absurd h1 (isLet_ne (hl c (by simp))).1
  | pre ho h =>
    cases n with
    | nil => exact absurd rfl hn
    | cons c n =>
      injection hs with h1 _
      have := isLet_ne (hl c (by simp))
      rcases ho with rfl | rfl
      · exact absurd h1 this.2.1
      · exact absurd h1 this.2.2
  | @name n' u hn' hl' hu =>
    obtain ⟨rfl, rfl⟩ := name_inj hs hl hl' ht hu
    exact ⟨rfl, rfl⟩
/-- What begins otherwise is not read. -/
theorem Ps.atom_none {t : List UInt8} {e : RE} {u : List UInt8} (h : Ps .atom t e u) : ∃ c t', t = c :: t' ∧ (c = 40 ∨ c = sg 6 ∨ c = sg 7 ∨ isLet c) := by
  cases h with
  | par h => exact ⟨_, _, rfl, Or.inl rfl⟩
  | pre ho h =>
    rcases ho with rfl | rfl
    · exact ⟨_, _, rfl, Or.inr (Or.inl rfl)⟩
    · exact ⟨_, _, rfl, Or.inr (Or.inr (Or.inl rfl))⟩
  | @name n u hn hl hu =>
    cases n with
    | nil => exact absurd rfl hn
    | cons c n => exact ⟨c, n ++ u, rfl, Or.inr (Or.inr (Or.inr (hl c (by simp))))⟩
theorem Ps.lev_zero {t : List UInt8} {e : RE} {u : List UInt8} (h : Ps (.lev 0) t e u) : Ps .atom t e u := by cases h with | zero h => exact h
theorem Ps.lev_succ {l : Nat} {t : List UInt8} {e' : RE} {u' : List UInt8} (h : Ps (.lev (l + 1)) t e' u') : ∃ e u, Ps (.lev l) t e u ∧ Ps (.loop (l + 1) e) u e' u' := by cases h with | succ h k => exact ⟨_, _, h, k⟩
theorem Ps.loop_done {l : Nat} {e : RE} {t : List UInt8} {e' : RE} {u' : List UInt8} (h : Ps (.loop l e) t e' u') (hn : ∀ op : Int, 2 ≤ op → op ≤ 5 → lvl op = l → t.head? ≠ some (sg op)) : e' = e ∧ u' = t := by
  cases h with
  | done _ => exact ⟨rfl, rfl⟩
  | more h1 h2 h3 _ _ => exact absurd rfl (hn _ h1 h2 h3)
theorem Ps.loop_more {l : Nat} {e : RE} {op : Int} {t : List UInt8} {e' : RE} {u' : List UInt8} (h : Ps (.loop (l + 1) e) (sg op :: t) e' u') (h1 : 2 ≤ op) (h2 : op ≤ 5) (h3 : lvl op = (l + 1 : Nat)) :
    ∃ e2 u, Ps (.lev l) t e2 u ∧ Ps (.loop (l + 1) (.mk op ⟨#[]⟩ [e, e2])) u e' u' := by
  generalize hs : sg op :: t = s at h
  cases h with
  | done hn => subst hs; exact absurd rfl (hn op h1 h2 h3)
  | @more _ _ op' t' e2 u _ _ g1 g2 g3 g4 g5 =>
    injection hs with a b
    have : op = op' := sg_inj (by omega) (by omega) a
    subst this b
    exact ⟨_, _, g4, g5⟩

/-- Reading is unique. -/
theorem Ps.det {c : Cmd} {t : List UInt8} {e : RE} {u : List UInt8} (h : Ps c t e u) : ∀ {e' u'}, Ps c t e' u' → e = e' ∧ u = u' := by
  induction h with
  | par h ih =>
    intro e' u' k
    obtain ⟨rfl, h2⟩ := ih k.atom_par
    injection h2 with _ h3
    exact ⟨rfl, h3⟩
  | pre ho h ih =>
    intro e' u' k
    obtain ⟨e1, k1, rfl⟩ := k.atom_pre ho
    obtain ⟨rfl, rfl⟩ := ih k1
    exact ⟨rfl, rfl⟩
  | name hn hl hu =>
    intro e' u' k
    obtain ⟨rfl, rfl⟩ := k.atom_name hn hl hu
    exact ⟨rfl, rfl⟩
  | zero h ih => exact fun k => ih k.lev_zero
  | succ h k ih1 ih2 =>
    intro e' u' g
    obtain ⟨e1, u1, g1, g2⟩ := g.lev_succ
    obtain ⟨rfl, rfl⟩ := ih1 g1
    exact ih2 g2
  | done hn =>
    intro e' u' g
    obtain ⟨rfl, rfl⟩ := g.loop_done hn
    exact ⟨rfl, rfl⟩
  | more h1 h2 h3 g4 g5 ih1 ih2 =>
    intro e' u' g
    obtain ⟨e1, u1, k1, k2⟩ := g.loop_more h1 h2 h3
    obtain ⟨rfl, rfl⟩ := ih1 k1
    exact ih2 k2

/-! ### A valid expression's text is read back -/
def lt (e : RE) (l : Nat) : List UInt8 := (tx e l).data.toList
def stopAt (l : Nat) (t : List UInt8) : Prop := ¬ letHead t ∧ ∀ op : Int, 2 ≤ op → op ≤ 5 → lvl op ≤ l → t.head? ≠ some (sg op)
def DD (e : RE) (l : Nat) : Prop := ∀ t, stopAt l t → Ps (.lev l) (lt e l ++ t) e t
def CC (e : RE) (l : Nat) : Prop := ∀ t e' u', stopAt l t → Ps (.loop (l + 1) e) t e' u' → Ps (.lev (l + 1)) (lt e (l + 1) ++ t) e' u'
def AA (e : RE) : Prop := ∀ t, ¬ letHead t → Ps .atom (lt e 0 ++ t) e t
def PP (e : RE) : Prop := AA e ∧ CC e 0 ∧ CC e 1 ∧ CC e 2

theorem lt_le {e : RE} {l : Nat} (h : lvl e.op ≤ l) : lt e l = (ct e).data.toList := by unfold lt; rw [tx_neg (by omega)]
theorem lt_gt {e : RE} {l : Nat} (h : l < lvl e.op) : lt e l = 40 :: ((ct e).data.toList ++ [41]) := by
  unfold lt
  rw [tx_pos h]
  simp [ByteArray.data_append]
theorem lt_same {e : RE} {l : Nat} (h : lvl e.op ≠ (l + 1 : Nat)) : lt e (l + 1) = lt e l := by
  by_cases h1 : lvl e.op ≤ l
  · rw [lt_le h1, lt_le (by omega)]
  · rw [lt_gt (by omega), lt_gt (by omega)]
theorem CC_of_DD {e : RE} {l : Nat} (h : lvl e.op ≠ (l + 1 : Nat)) (hd : DD e l) : CC e l := fun t e' u' hs hl => by
  rw [lt_same h]
  exact .succ (hd t hs) hl
theorem DD_of_CC {e : RE} {l : Nat} (h : CC e l) : DD e (l + 1) := fun t hs =>
  h t e t ⟨hs.1, fun op h1 h2 h3 => hs.2 op h1 h2 (by omega)⟩ (.done fun op h1 h2 h3 => hs.2 op h1 h2 (by omega))
theorem DD_zero {e : RE} (h : AA e) : DD e 0 := fun t hs => .zero (h t hs.1)
theorem PP_of_atom {e : RE} (h0 : lvl e.op = 0) (h : AA e) : PP e := by
  have c0 : CC e 0 := CC_of_DD (by omega) (DD_zero h)
  have c1 : CC e 1 := CC_of_DD (by omega) (DD_of_CC c0)
  exact ⟨h, c0, c1, CC_of_DD (by omega) (DD_of_CC c1)⟩
theorem AA_of_DD {e : RE} (h0 : 0 < lvl e.op) (h : DD e 3) : AA e := fun t ht => by
  rw [lt_gt (by omega)]
  have h3 := h (41 :: t) ⟨by simp [letHead]; decide, fun op h1 h2 _ e => by
    simp only [List.head?_cons, Option.some.injEq] at e
    exact (sg_let (a := op) (by omega)).2.2 e.symm⟩
  rw [lt_le (lvl_bounds _).2] at h3
  simpa using Ps.par h3
theorem PP_of_bin {e : RE} {l : Nat} (hl : l ≤ 2) (h : lvl e.op = (l + 1 : Nat)) (hc : CC e l) : PP e := by
  match l, hl with
  | 0, _ =>
    have c1 := CC_of_DD (by omega) (DD_of_CC hc)
    have c2 := CC_of_DD (by omega) (DD_of_CC c1)
    exact ⟨AA_of_DD (by omega) (DD_of_CC c2), hc, c1, c2⟩
  | 1, _ =>
    have c2 := CC_of_DD (by omega) (DD_of_CC hc)
    have a := AA_of_DD (by omega) (DD_of_CC c2)
    exact ⟨a, CC_of_DD (by omega) (DD_zero a), hc, c2⟩
  | 2, _ =>
    have a := AA_of_DD (by omega) (DD_of_CC hc)
    have c0 : CC e 0 := CC_of_DD (by omega) (DD_zero a)
    exact ⟨a, c0, CC_of_DD (by omega) (DD_of_CC c0), hc⟩
theorem PP.dd {e : RE} (h : PP e) {l : Nat} (hl : l ≤ 3) : DD e l := by
  match l, hl with
  | 0, _ => exact DD_zero h.1
  | 1, _ => exact DD_of_CC h.2.1
  | 2, _ => exact DD_of_CC h.2.2.1
  | 3, _ => exact DD_of_CC h.2.2.2
theorem PP.cc {e : RE} (h : PP e) {l : Nat} (hl : l ≤ 2) : CC e l := by
  match l, hl with
  | 0, _ => exact h.2.1
  | 1, _ => exact h.2.2.1
  | 2, _ => exact h.2.2.2
theorem sgn_data {op : Int} (h : 2 ≤ op ∧ op ≤ 7) : (sgn op).data.toList = [sg op] := by
  have h1 : op = 2 ∨ op = 3 ∨ op = 4 ∨ op = 5 ∨ op = 6 ∨ op = 7 := by omega
  rcases h1 with rfl | rfl | rfl | rfl | rfl | rfl <;> rfl
theorem nm_let {s : ByteArray} (h : s ∈ nm) : s.data.toList ≠ [] ∧ ∀ c ∈ s.data.toList, isLet c := by
  simp only [nm, List.mem_cons, List.not_mem_nil, or_false] at h
  rcases h with rfl | rfl | rfl | rfl | rfl | rfl | rfl | rfl | rfl | rfl <;> decide

theorem PP_all (m : Nat) : ∀ e : RE, Shp m e → PP e := by
  induction m with
  | zero => intro e h; exact h.elim
  | succ m ih =>
    intro e h
    obtain ⟨op, name, kids⟩ := e
    obtain ⟨⟨h1, h2, h3⟩, h4⟩ := h
    simp only [RE.op, RE.name, RE.kids] at h1 h2 h3 h4
    match kids, h1, h4 with
    | [], h1, _ =>
      have ho : op = 1 := by rcases kidsI_cases h1 with ⟨h, _⟩ | ⟨_, h⟩ | ⟨_, h⟩ <;> first | exact h | simp at h
      subst ho
      have hn := nm_let (h2.1 rfl)
      refine PP_of_atom (by rfl) fun t ht => ?_
      rw [lt_le (by show lvl 1 ≤ _; decide)]
      show Ps .atom (name.data.toList ++ t) (.mk 1 name []) t
      have := Ps.name hn.1 hn.2 ht
      rwa [toArray_data'] at this
    | [a], h1, h4 =>
      have ho : op = 6 ∨ op = 7 := by rcases kidsI_cases h1 with ⟨_, h⟩ | ⟨h, _⟩ | ⟨_, h⟩ <;> first | exact h | simp at h
      have hn : name = ⟨#[]⟩ := h3 (by omega)
      subst hn
      have hl : lvl op = 0 := by rcases ho with rfl | rfl <;> rfl
      refine PP_of_atom hl fun t ht => ?_
      rw [lt_le (by show lvl op ≤ _; omega)]
      have e1 : ct (.mk op ⟨#[]⟩ [a]) = sgn op ++ tx a 0 := by rw [ct]; rfl
      rw [e1, ByteArray.data_append, Array.toList_append, sgn_data (by omega)]
      exact .pre ho ((ih a (h4 a (by simp))).1 t ht)
    | [a, b], h1, h4 =>
      have ho : op = 2 ∨ op = 3 ∨ op = 4 ∨ op = 5 := by rcases kidsI_cases h1 with ⟨_, h⟩ | ⟨_, h⟩ | ⟨h, _⟩ <;> first | exact h | simp at h
      have hn : name = ⟨#[]⟩ := h3 (by omega)
      subst hn
      obtain ⟨l, hl2, hl⟩ : ∃ l : Nat, l ≤ 2 ∧ lvl op = (l + 1 : Nat) := by
        rcases ho with rfl | rfl | rfl | rfl
        · exact ⟨2, by omega, rfl⟩
        · exact ⟨1, by omega, rfl⟩
        · exact ⟨1, by omega, rfl⟩
        · exact ⟨0, by omega, rfl⟩
      refine PP_of_bin hl2 hl fun t e' u' hs hk => ?_
      rw [lt_le (by show lvl op ≤ _; omega)]
      have e1 : ct (.mk op ⟨#[]⟩ [a, b]) = tx a (l + 1 : Nat) ++ sgn op ++ tx b (l : Nat) := by
        rw [ct, hl, show ((l + 1 : Nat) : Int) - 1 = (l : Nat) by omega]
        rfl
      rw [e1, ByteArray.data_append, ByteArray.data_append, Array.toList_append, Array.toList_append, sgn_data (by omega), List.append_assoc, List.append_assoc]
      refine (ih a (h4 a (by simp))).cc hl2 _ _ _ ⟨(sg_let (a := op) (by omega)).1, fun op' g1 g2 g3 e => ?_⟩ ?_
      · simp only [List.cons_append, List.head?_cons, Option.some.injEq] at e
        have : op = op' := sg_inj (by omega) (by omega) e
        subst this
        omega
      · exact .more (by omega) (by omega) hl ((ih b (h4 b (by simp))).dd (by omega) t hs) hk
    | _ :: _ :: _ :: _, h1, _ =>
      simp only [List.length_cons] at h1
      rcases kidsI_cases h1 with ⟨_, h⟩ | ⟨_, h⟩ | ⟨_, h⟩ <;> omega

/-- A valid expression's text is read as it. -/
theorem read_back {e : RE} (h : Val e) : Ps (.lev 3) (ct e).data.toList e [] := by
  have h3 := (PP_all 12 e h.1).dd (l := 3) (by omega) [] ⟨fun h => h, fun op _ _ _ e => by simp at e⟩
  rw [lt_le (lvl_bounds _).2, List.append_nil] at h3
  exact h3
/-- Two valid expressions with one text are one. -/
theorem ct_inj {a b : RE} (ha : Val a) (hb : Val b) (h : ct a = ct b) : a = b := by
  have h1 := read_back ha
  rw [h] at h1
  exact (h1.det (read_back hb)).1

end Go.Proofs.YtapelogbceoojaaDoor
