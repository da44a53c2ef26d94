/-
  From a walk that answers true and turns nothing that was there to the statement of a law that lists package-level variables; what a listed table of strings gives. No program in sight.
-/
import Derived.Test.YtfgpbnncdfcjjabGreatDoorShut
import Derived.Test.YtfgpbnncdfcjjabGreatDoorNm
import Derived.Deep.DeepHandedRow
import Derived.Lib.LaidTab
import Derived.Stop.LaidErr
namespace Go.Proofs.YtfgpbnncdfcjjabGreatDoor
open Go.RowKit Go.ChangeShapes Go.WideShapes Go.ChangeAt Go.Deep
set_option linter.unusedVariables false
set_option maxRecDepth 100000

section
variable {H : Type} {enc : TypeId × Value → H} {P : Program}

theorem lt_of_var {W : World} {n : String} {g : Nat} {cs : Array Value} (hg : P.globalNamed n = some g) (h : W.var? P n = some cs) : g < W.heap.size := by
  rcases Nat.lt_or_ge g W.heap.size with hlt | hge
  · exact hlt
  · simp only [World.var?, hg, Option.bind_some, Array.getElem?_eq_none hge] at h
    cases h

theorem trodVars_below (hl : laidOutB P = true) {W W' : World} (hb : Below W.heap.size W W') : ∀ (ns : List String)
    (hr : ∀ n ∈ ns, ∀ g t, P.globalNamed n = some g → (P.globals[g]?).map (·.type) = some t → P.readableRec t = true ∧ t < P.types.size) (gs : List (DataW H)) (ps : List MemPlace),
    DataW.TrodVars enc P W (fun _ => true) ns gs ps → (∀ x ∈ ps, x.block < W.heap.size) → DataW.TrodVars enc P W' (fun b => decide (b < W.heap.size)) ns gs ps := by
  intro ns
  induction ns with
  | nil =>
    intro _ gs ps h _
    cases gs with
    | nil => exact h
    | cons d gs => exact h.elim
  | cons n ns ih =>
    intro hr gs ps h hlt
    cases gs with
    | nil => exact h.elim
    | cons d gs =>
      obtain ⟨g, t, cs, fuel, p, q, h1, h2, h3, h4, hs, rfl⟩ := h
      obtain ⟨r1, r2⟩ := hr n (by simp) g t h1 h2
      refine ⟨g, t, cs, fuel, p, q, h1, h2, var?_below hb h1 (lt_of_var h1 h3) h3, ?_, ih (fun n' hn' => hr n' (by simp [hn'])) gs q hs fun x hx => hlt x (by simp [hx]), rfl⟩
      exact DataW.trod_stays (kids_book hl r1) (book_sized r1) (fun h => by cases h) ⟨r2, book_self t⟩ h4 (fun x hx => hb.same (hlt x (by simp [hx]))) (fun x hx => by simpa using hlt x (by simp [hx]))

theorem trodVars_length : ∀ (ns : List String) {w : World} {spare : Nat → Bool} (gs : List (DataW H)) (ps : List MemPlace), DataW.TrodVars enc P w spare ns gs ps → gs.length = ns.length := by
  intro ns
  induction ns with
  | nil =>
    intro w spare gs ps h
    cases gs with
    | nil => rfl
    | cons d gs => exact h.elim
  | cons n ns ih =>
    intro w spare gs ps h
    cases gs with
    | nil => exact h.elim
    | cons d gs =>
      obtain ⟨g, t, cs, fuel, p, q, h1, h2, h3, h4, hs, rfl⟩ := h
      simp [ih gs q hs]

/-- A LAW THAT NAMES VARIABLES: from the walk to what the statement's form asks. -/
theorem law_post_vars {f : FuncId} {fn : Func} {s : ChangeSpec} {tb : TypeId} (hl : laidOutB P = true) (hres : fn.resultTypes = #[tb]) (hbool : P.underlying tb = some .bool)
    (hfn : ∀ ds gs : List (DataW H), ds.length = fn.params.toList.length → gs.length = s.vars.length → s.fn H (ds ++ gs) = { results := [.lit (.bool true)], args := ds, vars := gs })
    (hr : ∀ t ∈ fn.params.toList, P.readableRec t = true ∧ t < P.types.size)
    (hrv : ∀ n ∈ s.vars, ∀ g t, P.globalNamed n = some g → (P.globals[g]?).map (·.type) = some t → P.readableRec t = true ∧ t < P.types.size)
    (W : World) (args : Array Value) (ds gs : List (DataW H)) (before : List MemPlace)
    (walk : ∀ (ps : List MemPlace), DataW.TrodAll enc P W 0 (fun _ => true) true fn.params.toList args.toList ds ps → Calls P f args W fun e W' => e = .returned (.bool true) ∧ Below W.heap.size W W')
    (hW : DataW.Whole enc P fn.params.toList s.vars false W args.toList ds gs before) :
    Calls P f args W fun e W' => ∃ v, e = .returned v ∧ s.post enc P fn false true false false W args v W' := by
  have hW' := hW
  obtain ⟨p, q, hA, hV, rfl, _, _⟩ := hW
  have hlt : ∀ x ∈ p ++ q, x.block < W.heap.size := fun x hx => hW'.lt x hx
  refine (walk p hA).mono fun e W' ⟨he, hb⟩ => ?_
  subst he
  have hfn' := hfn ds gs (trodAll_length _ _ _ _ hA).2 (trodVars_length _ _ _ hV)
  refine ⟨_, rfl, ds, gs, p ++ q, [], p, q, hW', ?_, ?_, ?_, hb.frame _, fun h => by cases h⟩
  · rw [hfn', hres]
    exact trodAll_mk1 (shut_bool hbool true)
  · rw [hfn']
    exact trodAll_below hl hb _ hr _ _ _ hA fun x hx => hlt x (by simp [hx])
  · rw [hfn']
    exact trodVars_below hl hb _ hrv _ _ hV fun x hx => hlt x (by simp [hx])
end

/-- An array of strings that reads as so many texts holds them, cell for cell. -/
theorem cells_of_strs {H : Type} {enc : TypeId × Value → H} {P : Program} {w : World} {base : Nat} {sp : Nat → Bool} {held : Bool} {fuel : Nat} {t e : TypeId} {n : Nat} {cs : List Value} {ss : List (List UInt8)} {p : List MemPlace}
    (ht : P.underlying t = some (.array n e)) (he : P.underlying e = some .string) (hce : P.cellsOf e = 1) (hct : P.cellsOf t = n)
    (h : DataW.trod enc P w base sp held fuel t cs = some (.agg (ss.map fun s => .lit (.string s)), p)) : cs = ss.map fun s => Value.string ⟨s.toArray⟩ := by
  cases fuel with
  | zero => simp [DataW.trod] at h
  | succ fuel =>
    simp only [DataW.trod, ht, hce, hct, Nat.mul_one] at h
    split at h
    · rename_i hl
      obtain ⟨xs, hm, hx⟩ := Option.map_eq_some_iff.1 h
      have hxs : xs.map (·.1) = ss.map fun s => (DataW.lit (.string s) : DataW H) := by
        have := congrArg Prod.fst hx
        simpa using this
      have hxl : xs.length = n := by simpa using Lib.mapM_length hm
      have hzl : ss.length = n := by
        have := congrArg List.length hxs
        simp at this
        omega
      apply List.ext_getElem?
      intro i
      by_cases hi : i < n
      · obtain ⟨b, hb, hf⟩ := Lib.mapM_at hm i i (by simp [hi])
        obtain ⟨z, hc, rfl, _⟩ := DataW.trod_string he hf
        have h1 : cs[i]? = some (.string z) := by
          have := congrArg (·[0]?) hc
          simpa [List.getElem?_take, List.getElem?_drop] using this
        have h2 : (xs.map (·.1))[i]? = some (DataW.lit (.string z.data.toList) : DataW H) := by simp [hb]
        rw [hxs] at h2
        simp only [List.getElem?_map, Option.map_eq_some_iff, DataW.lit.injEq, Lit.string.injEq] at h2
        obtain ⟨z', hz', rfl⟩ := h2
        simp [h1, hz']
      · rw [List.getElem?_eq_none (by omega), List.getElem?_eq_none (by simp; omega)]
    · cases h

/-- From the row's condition: the table of texts that stands first on the list. -/
theorem strs_of_head {P : Program} {W : World} {name : String} {ss : List (List UInt8)} {rest : List (String × DataW Unit)} {g : Nat} {t e : TypeId} {n : Nat}
    (hg : P.globalNamed name = some g) (hty : (P.globals[g]?).map (·.type) = some t) (ht : P.underlying t = some (.array n e)) (he : P.underlying e = some .string) (hce : P.cellsOf e = 1) (hct : P.cellsOf t = n)
    (hss : ss.length ≤ 9223372036854775807) (h : laidMet P ((name, .agg (ss.map fun s => .lit (.string s))) :: rest) W) : Strs W (some ⟨g, 0, none⟩) ss.length (ss.map fun s => ⟨s.toArray⟩) := by
  obtain ⟨ps, ⟨g', t', cs, fuel, p, q, hg', ht', hvar, hd, _, _⟩, _⟩ := h
  obtain rfl := Option.some.inj (hg.symm.trans hg')
  obtain rfl := Option.some.inj (hty.symm.trans ht')
  have hcs := cells_of_strs ht he hce hct hd
  refine Strs.mk (by simpa using hss) fun i hi => ?_
  have hi' : i < ss.length := by simpa using hi
  have := World.var?_cell hg hvar i
  rw [Nat.zero_add, this, ← Array.getElem?_toList, hcs]
  simp [hi']

end Go.Proofs.YtfgpbnncdfcjjabGreatDoor
