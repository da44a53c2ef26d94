/-
  The texts of candidates: l6List, spec.FormatExec, joinInts, formatExec, impl.FormatExec.
-/
import Derived.Test.YtfgpbnncdfcjjaaGreatDoorDpA
import Derived.Test.YtfgpbnncdfcjjaaGreatDoorImCV
import Derived.Test.YtfgpbnncdfcjjaaGreatDoorFmtX
namespace Go.Proofs.YtfgpbnncdfcjjaaGreatDoor
open Go.RowKit
set_option linter.unusedVariables false
set_option maxRecDepth 100000

theorem app_toArrayF (a b : List UInt8) : (⟨(a ++ b).toArray⟩ : ByteArray) = ⟨a.toArray⟩ ++ ⟨b.toArray⟩ := by
  apply ByteArray.ext
  simp
theorem toArray_dataF (a : ByteArray) : (⟨a.data.toList.toArray⟩ : ByteArray) = a := by
  apply ByteArray.ext
  simp
theorem nil_appF (x : ByteArray) : (⟨#[]⟩ : ByteArray) ++ x = x := by
  apply ByteArray.ext
  simp
/-- Texts with a sign between each and the next. -/
def joinB (ss : List ByteArray) (sep : ByteArray) : ByteArray := ⟨(Lib.join (ss.map (·.data.toList)) sep.data.toList).toArray⟩
theorem joinB_nil (sep : ByteArray) : joinB [] sep = ⟨#[]⟩ := rfl
theorem joinB_one (s sep : ByteArray) : joinB [s] sep = s := by
  unfold joinB
  rw [List.map_cons, List.map_nil, Lib.join_one, toArray_dataF]
theorem joinB_snoc (ss : List ByteArray) (s sep : ByteArray) (h : ss ≠ []) : joinB (ss ++ [s]) sep = joinB ss sep ++ sep ++ s := by
  match ss, h with
  | a :: ss, _ =>
    unfold joinB
    simp only [List.cons_append, List.map_cons, Lib.join_cons]
    rw [show Lib.joinTail sep.data.toList ((ss ++ [s]).map (·.data.toList)) = Lib.joinTail sep.data.toList (ss.map (·.data.toList)) ++ (sep.data.toList ++ s.data.toList) by simp [Lib.joinTail]]
    rw [← List.append_assoc, app_toArrayF, app_toArrayF sep.data.toList, ByteArray.append_assoc, toArray_dataF, toArray_dataF]
theorem joinB_take (ss : List ByteArray) (sep : ByteArray) {i : Nat} (hi : i < ss.length) : joinB (ss.take (i + 1)) sep = (if 0 < i then joinB (ss.take i) sep ++ sep else joinB (ss.take i) sep) ++ ss[i] := by
  rw [List.take_succ_eq_append_getElem hi]
  by_cases h0 : 0 < i
  · rw [if_pos h0, joinB_snoc _ _ _ (fun e => by have := congrArg List.length e; rw [List.length_take, List.length_nil] at this; omega)]
  · obtain rfl : i = 0 := by omega
    rw [if_neg h0, List.take_zero, List.nil_append, joinB_one, joinB_nil, nil_appF]
theorem joinB_size (ss : List ByteArray) (sep : ByteArray) (m : Nat) (h : ∀ s ∈ ss, s.size ≤ m) : ∀ k, k ≤ ss.length → (joinB (ss.take k) sep).size ≤ k * (m + sep.size)
  | 0, _ => by rw [List.take_zero, joinB_nil]; exact Nat.zero_le _
  | k + 1, hk => by
    have ih := joinB_size ss sep m h k (by omega)
    have h1 := h ss[k] (List.getElem_mem (by omega))
    rw [joinB_take ss sep (by omega), Nat.succ_mul]
    split
    · rw [ByteArray.size_append, ByteArray.size_append]; omega
    · rw [ByteArray.size_append]; omega
theorem joinB_all (ss : List ByteArray) (sep : ByteArray) : joinB (ss.take ss.length) sep = joinB ss sep := by rw [List.take_length]
theorem dec_digits : ∀ i, i < 100 → (⟨(Lib.decDigits i).toArray⟩ : ByteArray) = decS i := by decide +kernel
def listT (xs : List Int) : ByteArray := joinB (xs.map decS) ⟨#[44]⟩
theorem decs_size (xs : List Int) : ∀ s ∈ xs.map decS, s.size ≤ 2 := fun s hs => by
  obtain ⟨n, _, rfl⟩ := List.mem_map.1 hs
  exact decS_size n

set_option maxHeartbeats 800000 in
theorem l6List_any (xs : List Int) (hl : xs.length ≤ 100) (hx : ∀ a ∈ xs, 0 ≤ a ∧ a ≤ 99) (w : World) (A : Option Addr) (c : Nat) (hr : Ints w A c xs) :
    Calls Tryz.prog 105 #[.slice A xs.length c, .string ⟨#[44]⟩] w (RetS w (listT xs)) := by
  have Hx := Lib.hid hx
  clear hx
  go_enter Tryz.func105, Tryz.ntmps105
  go_wp2_with fail
  go_loopg [5, 6] xs.length (fun g s5 s6 wr => ∃ k : Nat, k ≤ xs.length ∧ g = xs.length - k ∧ s5 = .string (joinB ((xs.map decS).take k) ⟨#[44]⟩) ∧ s6 = .int .i64 k ∧ Below w.heap.size w wr)
  case atStart => exact ⟨0, Nat.zero_le _, rfl, rfl, rfl, Below.refl _ _⟩
  case round =>
    obtain ⟨k, hk, rfl, rfl, rfl, hb⟩ := hrel
    have hz := joinB_size (xs.map decS) ⟨#[44]⟩ 2 (decs_size xs) k (by rw [List.length_map]; exact hk)
    rw [show (⟨#[44]⟩ : ByteArray).size = 1 from rfl] at hz
    by_cases hlt : k < xs.length
    · obtain ⟨b, o, cs, rfl, k0, k1⟩ := SlR.get1 (Ints.le hr (Le.below hb)) hlt
      have k2 : cs 0 = .int .i64 xs[k] := k1
      rw [k2] at k0
      have hd := fun W => dec_any xs[k] W (Hx.out _ (List.getElem_mem hlt)).1 (Hx.out _ (List.getElem_mem hlt)).2
      have ht := Lib.hid (joinB_take (xs.map decS) ⟨#[44]⟩ (i := k) (by rw [List.length_map]; exact hlt))
      obtain ⟨T, hT⟩ : ∃ T, T = joinB ((xs.map decS).take k) ⟨#[44]⟩ := ⟨_, rfl⟩
      rw [← hT] at hz ht ⊢
      have hds := decS_size xs[k]
      have Hd := Lib.hid hd
      clear k1 k2 hT hd
      by_cases h0 : 0 < k
      · have d0 : decide ((k : Int) > 0) = true := by rw [decide_eq_true_iff]; omega
        have b1 : ¬ 9223372036854775807 < T.size + 1 := by omega
        have b2 : ¬ 9223372036854775807 < T.size + 1 + (decS xs[k]).size := by omega
        go_wp2_with fail
        refine (Hd.out _).mono ?_
        rintro e1 w1 ⟨rfl, hb1⟩
        have hb2 := hb.trans (hb1.mono hb.size)
        go_wp2_with fail
        go_roundg (xs.length - (k + 1))
        case measure => omega
        case rel => exact ⟨k + 1, by omega, rfl, by rw [ht.out, if_pos h0, List.getElem_map], by go_num, hb2⟩
      · have d0 : decide ((k : Int) > 0) = false := by rw [decide_eq_false_iff_not]; omega
        have b2 : ¬ 9223372036854775807 < T.size + (decS xs[k]).size := by omega
        go_wp2_with fail
        refine (Hd.out _).mono ?_
        rintro e1 w1 ⟨rfl, hb1⟩
        have hb2 := hb.trans (hb1.mono hb.size)
        go_wp2_with fail
        go_roundg (xs.length - (k + 1))
        case measure => omega
        case rel => exact ⟨k + 1, by omega, rfl, by rw [ht.out, if_neg h0, List.getElem_map], by go_num, hb2⟩
    · obtain rfl : k = xs.length := by omega
      have ht := Lib.hid (show joinB ((xs.map decS).take xs.length) ⟨#[44]⟩ = listT xs by unfold listT; rw [List.take_of_length_le (by rw [List.length_map]; omega)])
      go_wp2_with fail
      go_ret
      exact ⟨ret_str ht.out, hb⟩

theorem Tryz.infoSF : (Tryz.prog.info? 9).map (fun i => (i.zero, i.size, i.bytes)) = some (some (.string ByteArray.empty), 1, 16) := by kernel_rfl

set_option maxHeartbeats 800000 in
theorem joinInts_any (xs : List Int) (hl : xs.length ≤ 100) (hx : ∀ a ∈ xs, 0 ≤ a ∧ a ≤ 99) (w : World) (A : Option Addr) (c : Nat) (hr : Ints w A c xs) :
    Calls Tryz.prog 156 #[.slice A xs.length c, .string ⟨#[44]⟩] w (RetS w (listT xs)) := by
  have Hx := Lib.hid hx
  clear hx
  have hmk := run_make_any (P := Tryz.prog) 85 9 _ 1 16 Tryz.underlying85 Tryz.infoSF xs.length (by omega) (by omega)
  go_enter Tryz.func156, Tryz.ntmps156
  go_wp2_with fail
  clear hmk
  go_loopg [13] xs.length (fun g s13 wr => ∃ (k : Nat) (F : Nat → Value), k ≤ xs.length ∧ g = xs.length - k ∧ s13 = .int .i64 k ∧ Below w.heap.size w wr ∧
      wr.rowIs w.heap.size 9 xs.length F ∧ ∀ i (h : i < k) (h' : i < xs.length), F i = .string (decS xs[i]))
  case atStart =>
    obtain ⟨F, hF⟩ := rowIs_made_any w #[.string ByteArray.empty] xs.length 9
    exact ⟨0, F, Nat.zero_le _, rfl, rfl, (Below.refl _ _).alloc (Nat.le_refl _) _, hF, fun i h => absurd h (Nat.not_lt_zero _)⟩
  case round =>
    obtain ⟨k, F, hk, rfl, rfl, hb, hF, hall⟩ := hrel
    have Hall := Lib.hid hall
    clear hall
    by_cases hlt : k < xs.length
    · obtain ⟨b, o, cs, rfl, k0, k1⟩ := SlR.get1 (Ints.le hr (Le.below hb)) hlt
      have k2 : cs 0 = .int .i64 xs[k] := k1
      rw [k2] at k0
      have h99 := Hx.out _ (List.getElem_mem hlt)
      obtain ⟨n, hn⟩ : ∃ n : Nat, xs[k] = n := ⟨xs[k].toNat, by omega⟩
      have hit := Tryz.strconv_Itoa_small n (by omega) wr
      have hdd := Lib.hid (dec_digits n (by omega))
      have Hn := Lib.hid hn
      have f0 := hF.frozen k
      have f1 := hF.cell (i := k) (by omega)
      have f2 := hF.lt
      rw [hn] at k0
      clear k1 k2 hr h99 hn
      go_wp2_with fail
      refine hit.mono ?_
      rintro e1 w1 ⟨rfl, rfl⟩
      go_wp2_with fail
      go_roundg (xs.length - (k + 1))
      case measure => omega
      case rel =>
        refine ⟨k + 1, _, by omega, rfl, by go_num, hb.setCell (p := ⟨w.heap.size, k, none⟩) (Nat.le_refl _) _, hF.set k _, fun i hi hi' => ?_⟩
        by_cases e : i = k
        · subst e
          simp only [if_true]
          rw [hdd.out, Hn.out]
        · simp only [e, if_false]
          exact Hall.out i (by omega) hi'
    · obtain rfl : k = xs.length := by omega
      have hlen : (xs.map decS).length = xs.length := by simp
      have hjl := joinB_size (xs.map decS) ⟨#[44]⟩ 2 (decs_size xs) (xs.map decS).length (Nat.le_refl _)
      rw [joinB_all, hlen] at hjl
      have hj := Tryz.strings_Join w.heap.size 0 xs.length (xs.map decS) ⟨#[44]⟩ wr (fun j x hx => by
        obtain ⟨hj, rfl⟩ := List.getElem?_eq_some_iff.1 hx
        have hj' : j < xs.length := by simpa using hj
        rw [Nat.zero_add, hF.cell hj', Hall.out j hj' hj']
        simp) hF.lt (by simp; omega) (by simp) (by
          have h1 : (joinB (xs.map decS) ⟨#[44]⟩).size = (Lib.join ((xs.map decS).map (·.data.toList)) (⟨#[44]⟩ : ByteArray).data.toList).length := by unfold joinB; simp [ByteArray.size]
          rw [← h1]
          have : (⟨#[44]⟩ : ByteArray).size = 1 := rfl
          rw [this] at hjl
          omega)
      rw [hlen] at hj
      clear hr hF hjl
      go_wp2_with fail
      refine hj.mono ?_
      rintro e2 w2 ⟨rfl, hb2⟩
      have hb3 := hb.trans (hb2.mono hb.size)
      go_wp2_with fail
      go_ret
      exact ⟨ret_str (by unfold listT joinB; rw [List.map_map]), hb3⟩

/-- The reads' sources, of the first k events. -/
def frK (fs : List Int) : Nat → ByteArray
  | 0 => ⟨#[]⟩
  | k + 1 => if 0 ≤ fs.getD k 0 then frK fs k ++ decS k ++ ⟨#[60]⟩ ++ decS (fs.getD k 0) ++ ⟨#[32]⟩ else frK fs k
theorem frK_size (fs : List Int) : ∀ k, (frK fs k).size ≤ k * 6
  | 0 => Nat.le_refl _
  | k + 1 => by
    have ih := frK_size fs k
    have h1 := decS_size k
    have h2 := decS_size (fs.getD k 0)
    rw [frK]
    split
    · simp only [ByteArray.size_append]
      show _ + _ + 1 + _ + 1 ≤ _
      omega
    · omega
/-- The text of a candidate. -/
def fmtB (x : Ex) : ByteArray := frK x.from_ x.from_.length ++ joinB (x.order.map listT) ⟨#[47]⟩
noncomputable def fmtO (p : Prg) (x : Ex) : ByteArray := if candB p x = true then fmtB x else ⟨#[]⟩
theorem listT_size {xs : List Int} (h : xs.length ≤ 16) : (listT xs).size ≤ 48 := by
  have h1 := joinB_size (xs.map decS) ⟨#[44]⟩ 2 (decs_size xs) (xs.map decS).length (Nat.le_refl _)
  rw [joinB_all, List.length_map, show (⟨#[44]⟩ : ByteArray).size = 1 from rfl] at h1
  unfold listT
  omega
/-- What the texts ask of a candidate. -/
structure Sml (x : Ex) : Prop where
  fl : x.from_.length ≤ 16
  fb : ∀ a ∈ x.from_, -1 ≤ a ∧ a ≤ 99
  ol : x.order.length = 3
  oo : ∀ xs ∈ x.order, xs.length ≤ 16 ∧ ∀ a ∈ xs, 0 ≤ a ∧ a ≤ 99
theorem CandOk.sml {p : Prg} {x : Ex} (h : CandOk p x) : Sml x := by
  have h15 := (few3 h.1).len
  refine ⟨by rw [h.2.1.1]; omega, fun a ha => by have := cand_from_bd h a ha; omega, h.2.2.1, fun xs hxs => ?_⟩
  obtain ⟨l, hl, rfl⟩ := List.getElem_of_mem hxs
  have hl3 : l < 3 := by rw [← h.2.2.1]; exact hl
  obtain ⟨h1, h2⟩ := cand_ord_bd h l hl3
  rw [show x.order.getD l [] = x.order[l] by simp [hl]] at h1 h2
  have h3 := wrs_length (evs p) (l : Int)
  exact ⟨by omega, fun a ha => by have := h2 a ha; omega⟩

theorem frK_step {fs : List Int} {k : Nat} (hk : k < fs.length) (h : 0 ≤ fs[k]) : frK fs k ++ decS k ++ ⟨#[60]⟩ ++ decS fs[k] ++ ⟨#[32]⟩ = frK fs (k + 1) := by
  rw [frK, show fs.getD k 0 = fs[k] by simp [hk], if_pos h]
theorem frK_skip {fs : List Int} {k : Nat} (hk : k < fs.length) (h : ¬ 0 ≤ fs[k]) : frK fs k = frK fs (k + 1) := by
  rw [frK, show fs.getD k 0 = fs[k] by simp [hk], if_neg h]

set_option maxHeartbeats 1500000 in
theorem imFmt_any (x : Ex) (hs : Sml x) (w : World) (A B : Option Addr) (c d : Nat) (hx : RepX w A c B d x) :
    Calls Tryz.prog 103 #[.agg #[.slice A x.from_.length c, .slice B x.order.length d]] w (RetS w (fmtB x)) := by
  have hfl := hs.fl
  have hol := Lib.hid hs.ol
  obtain ⟨w0, hw0⟩ : ∃ w0, w0 = w.alloc (.cells #[.slice A x.from_.length c, .slice B x.order.length d] 27) := ⟨_, rfl⟩
  have bx0 : Box2 w0 w.heap.size (.slice A x.from_.length c) (.slice B x.order.length d) := by rw [hw0]; exact Box2.new _ _ _ _
  have hB0 : Below w.heap.size w w0 := by rw [hw0]; exact (Below.refl _ _).alloc (Nat.le_refl _) _
  have hx0 := hx.le (Le.below hB0)
  obtain ⟨q0, q1, _⟩ := bx0.all
  have Hs := Lib.hid hs
  have Hx := Lib.hid hx0
  clear hx hx0 hs
  go_enter Tryz.func103, Tryz.ntmps103
  go_wp2_with fail
  rw [← hw0]
  clear hw0
  go_loopg [3, 12] x.from_.length (fun g s3 s12 wr => ∃ k : Nat, k ≤ x.from_.length ∧ g = x.from_.length - k ∧ s3 = .string (frK x.from_ k) ∧ s12 = .int .i64 k ∧ wr = w0)
  case atStart => exact ⟨0, Nat.zero_le _, rfl, rfl, rfl, rfl⟩
  case round =>
    obtain ⟨k, hk, rfl, rfl, rfl, hwr⟩ := hrel
    subst hwr
    have hz := frK_size x.from_ k
    by_cases hlt : k < x.from_.length
    · obtain ⟨b, o, cs, rfl, k0, k1⟩ := SlR.get1 Hx.out.1 hlt
      have k2 : cs 0 = .int .i64 x.from_[k] := k1
      rw [k2] at k0
      have h99 := Hs.out.fb _ (List.getElem_mem hlt)
      have hu := frK_step hlt
      have hv := frK_skip hlt
      have Hu := Lib.hid hu
      have Hv := Lib.hid hv
      obtain ⟨T, hT⟩ : ∃ T, T = frK x.from_ k := ⟨_, rfl⟩
      rw [← hT] at hz Hu Hv ⊢
      clear k1 k2 hu hv hT
      by_cases h0 : 0 ≤ x.from_[k]
      · obtain ⟨n, hn⟩ : ∃ n : Nat, x.from_[k] = n := ⟨x.from_[k].toNat, by omega⟩
        have hu := Hu.out h0
        rw [hn] at k0 hu
        have Hu' := Lib.hid hu
        have d0 : decide ((n : Int) ≥ 0) = true := by rw [decide_eq_true_iff]; omega
        have hi1 := Tryz.strconv_Itoa_small k (by omega) wr
        have hi2 := Tryz.strconv_Itoa_small n (by omega) wr
        rw [dec_digits k (by omega)] at hi1
        rw [dec_digits n (by omega)] at hi2
        have z1 := decS_size k
        have z2 := decS_size n
        have b1 : ¬ 9223372036854775807 < (decS k).size + 1 := by omega
        have b2 : ¬ 9223372036854775807 < (decS k).size + 1 + (decS n).size := by omega
        have b3 : ¬ 9223372036854775807 < (decS k).size + 1 + (decS n).size + 1 := by omega
        have b4 : ¬ 9223372036854775807 < T.size + ((decS k).size + 1 + (decS n).size + 1) := by omega
        clear hu hn h0
        go_wp2_with fail
        refine hi1.mono ?_
        rintro e1 w1 ⟨rfl, rfl⟩
        go_wp2_with fail
        refine hi2.mono ?_
        rintro e2 w2 ⟨rfl, rfl⟩
        go_wp2_with fail
        go_roundg (x.from_.length - (k + 1))
        case measure => omega
        case rel => exact ⟨k + 1, by omega, rfl, by rw [← Hu'.out]; simp only [ByteArray.append_assoc], by go_num, rfl⟩
      · have hm : x.from_[k] = -1 := by omega
        have hv := Hv.out h0
        have Hv' := Lib.hid hv
        rw [hm] at k0
        clear hv hm h0
        go_wp2_with fail
        go_roundg (x.from_.length - (k + 1))
        case measure => omega
        case rel => exact ⟨k + 1, by omega, rfl, by rw [← Hv'.out], by go_num, rfl⟩
    · obtain rfl : k = x.from_.length := by omega
      have hmk := run_make_any (P := Tryz.prog) 85 9 _ 1 16 Tryz.underlying85 Tryz.infoSF x.order.length (by have := hol.out; omega) (by have := hol.out; omega)
      obtain ⟨T, hT⟩ : ∃ T, T = frK x.from_ x.from_.length := ⟨_, rfl⟩
      rw [← hT] at hz ⊢
      have HT := Lib.hid hT
      clear hT
      go_wp2_with fail
      clear hmk
      go_loopg [36] x.order.length (fun g s36 wr' => ∃ (k : Nat) (F : Nat → Value), k ≤ x.order.length ∧ g = x.order.length - k ∧ s36 = .int .i64 k ∧ Below wr.heap.size wr wr' ∧
        wr'.rowIs wr.heap.size 9 x.order.length F ∧ ∀ i (h : i < k) (h' : i < x.order.length), F i = .string (listT x.order[i]))
      case atStart =>
        obtain ⟨F, hF⟩ := rowIs_made_any wr #[.string ByteArray.empty] x.order.length 9
        exact ⟨0, F, Nat.zero_le _, rfl, rfl, (Below.refl _ _).alloc (Nat.le_refl _) _, hF, fun i h => absurd h (Nat.not_lt_zero _)⟩
      case round =>
        obtain ⟨k, F, hk', rfl, rfl, hb, hF, hall⟩ := hrel
        have Hall := Lib.hid hall
        clear hall
        by_cases hlt' : k < x.order.length
        · obtain ⟨b, o, cs, rfl, k0, k1⟩ := SlR.get1 (Hx.out.2.le (Le.below hb)) hlt'
          obtain ⟨A1, c1, k2, hr1⟩ := k1
          rw [k2] at k0
          have h99 := Hs.out.oo _ (List.getElem_mem hlt')
          have hj := fun W (h : Le _ W) => joinInts_any x.order[k] (by omega) h99.2 W A1 c1 (Ints.le hr1 h)
          have Hj := Lib.hid hj
          have f0 := hF.frozen k
          have f1 := hF.cell (i := k) (by omega)
          have f2 := hF.lt
          have hk3 : k < 3 := by have := hol.out; omega
          have hWs := Lib.hid hb.size
          clear k2 h99 hj
          go_wp2_with fail
          refine (Hj.out _ (Le.refl _)).mono ?_
          rintro e1 w1 ⟨rfl, hb1⟩
          have hF1 := hF.of_block (hb1.block _ hF.lt)
          have g0 := hF1.frozen k
          have g1 := hF1.cell (i := k) (by omega)
          have g2 := hF1.lt
          have hb2 := hb.trans (hb1.mono hb.size)
          clear f0 f1 f2 hF hb1 hr1 k0
          go_wp2_with fail
          go_roundg (x.order.length - (k + 1))
          case measure => omega
          case rel =>
            refine ⟨k + 1, _, by omega, rfl, by go_num, hb2.setCell (p := ⟨_, k, none⟩) (Nat.le_refl _) _, hF1.set k _, fun i hi hi' => ?_⟩
            by_cases e : i = k
            · subst e
              simp only [if_true]
            · simp only [e, if_false]
              exact Hall.out i (by omega) hi'
        · obtain rfl : k = x.order.length := by omega
          have hlen : (x.order.map listT).length = x.order.length := by simp
          have hss : ∀ s ∈ x.order.map listT, s.size ≤ 48 := fun s hs => by
            obtain ⟨o, ho, rfl⟩ := List.mem_map.1 hs
            exact listT_size (Hs.out.oo o ho).1
          have hjl := joinB_size (x.order.map listT) ⟨#[47]⟩ 48 hss (x.order.map listT).length (Nat.le_refl _)
          rw [joinB_all, hlen, hol.out, show (⟨#[47]⟩ : ByteArray).size = 1 from rfl] at hjl
          have hj := Tryz.strings_Join _ 0 x.order.length (x.order.map listT) ⟨#[47]⟩ wr (fun j y hy => by
            obtain ⟨hj, rfl⟩ := List.getElem?_eq_some_iff.1 hy
            have hj' : j < x.order.length := by simpa using hj
            rw [Nat.zero_add, hF.cell hj', Hall.out j hj' hj']
            simp) hF.lt (by simp; have := hol.out; omega) (by simp) (by
              have h1 : (joinB (x.order.map listT) ⟨#[47]⟩).size = (Lib.join ((x.order.map listT).map (·.data.toList)) (⟨#[47]⟩ : ByteArray).data.toList).length := by unfold joinB; simp [ByteArray.size]
              rw [← h1]
              omega)
          rw [hlen] at hj
          have hj2 : Calls Tryz.prog 157 _ _ (RetS wr (joinB (x.order.map listT) ⟨#[47]⟩)) := hj
          have hJ := Lib.hid (show T ++ joinB (x.order.map listT) ⟨#[47]⟩ = fmtB x by rw [HT.out]; rfl)
          obtain ⟨J, hJe⟩ : ∃ J, J = joinB (x.order.map listT) ⟨#[47]⟩ := ⟨_, rfl⟩
          rw [← hJe] at hj2 hJ hjl
          have b1 : ¬ 9223372036854775807 < T.size + J.size := by omega
          clear hF hjl hj hJe
          go_wp2_with fail
          refine hj2.mono ?_
          rintro e2 w2 ⟨rfl, hb2⟩
          have hb3 := hB0.trans ((hb.trans (hb2.mono hb.size)).mono hB0.size)
          go_wp2_with fail
          go_ret
          exact ⟨ret_str hJ.out, hb3⟩

set_option maxHeartbeats 400000 in
theorem implFmt_any (p : Prg) (hl : p.length ≤ 1048576) (hls : ∀ t ∈ p, t.length ≤ 1048576) (x : Ex) (hbig : wX x ≤ 1048576) (w : World) (vp : Value) (A B : Option Addr) (c d : Nat) (hp : PrgS w vp p) (hx : RepX w A c B d x) :
    Calls Tryz.prog 43 #[vp, .agg #[.slice A x.from_.length c, .slice B x.order.length d]] w (RetS w (fmtO p x)) := by
  obtain ⟨Ap, cp, rfl, _⟩ := SlR.slice hp
  obtain ⟨w0, hw0⟩ : ∃ w0, w0 = w.alloc (.cells #[.slice A x.from_.length c, .slice B x.order.length d] 27) := ⟨_, rfl⟩
  have bx0 : Box2 w0 w.heap.size (.slice A x.from_.length c) (.slice B x.order.length d) := by rw [hw0]; exact Box2.new _ _ _ _
  have hB0 : Below w.heap.size w w0 := by rw [hw0]; exact (Below.refl _ _).alloc (Nat.le_refl _) _
  have hlx := hx.1.len
  have hly := hx.2.len
  have hca := implCand_any p hl hls x w0 _ A B c d (PrgS.le hp (Le.below hB0)) (hx.le (Le.below hB0)) hbig
  obtain ⟨q0, q1, q2⟩ := bx0.all
  cases hc : candB p x
  · rw [hc] at hca
    have ho := Lib.hid (show (⟨#[]⟩ : ByteArray) = fmtO p x by unfold fmtO; rw [hc]; rfl)
    clear hc hp hx
    go_enter Tryz.func43, Tryz.ntmps43
    go_wp2_with fail
    try rw [← hw0]
    clear hw0
    refine hca.mono ?_
    rintro e1 w1 ⟨rfl, hb1⟩
    have hB1 := hB0.trans (hb1.mono hB0.size)
    go_wp2_with fail
    go_ret
    exact ⟨ret_str ho.out, hB1⟩
  · rw [hc] at hca
    have ho := Lib.hid (show fmtB x = fmtO p x by unfold fmtO; rw [hc]; rfl)
    have hS := Lib.hid (candB_iff.1 hc).sml
    have Hx := Lib.hid hx
    clear hc hp hx
    go_enter Tryz.func43, Tryz.ntmps43
    go_wp2_with fail
    try rw [← hw0]
    clear hw0
    refine hca.mono ?_
    rintro e1 w1 ⟨rfl, hb1⟩
    have hB1 := hB0.trans (hb1.mono hB0.size)
    have hf := imFmt_any x hS.out w1 A B c d (Hx.out.le (Le.below hB1))
    have bx1 := bx0.le (Le.below hb1)
    obtain ⟨r0, r1, r2⟩ := bx1.all
    clear q0 q1 q2 bx0 hb1
    go_wp2_with fail
    refine hf.mono ?_
    rintro e2 w2 ⟨rfl, hb2⟩
    have hB2 := hB1.trans (hb2.mono hB1.size)
    go_wp2_with fail
    go_ret
    exact ⟨ret_str ho.out, hB2⟩

set_option maxHeartbeats 2000000 in
theorem specFmt_any (p : Prg) (hl : p.length ≤ 1048576) (x : Ex) (w : World) (vp : Value) (A B : Option Addr) (c d : Nat) (hp : PrgS w vp p) (hx : RepX w A c B d x) :
    Calls Tryz.prog 44 #[vp, .agg #[.slice A x.from_.length c, .slice B x.order.length d]] w (RetS w (fmtO p x)) := by
  obtain ⟨Ap, cp, rfl, _⟩ := SlR.slice hp
  obtain ⟨w0, hw0⟩ : ∃ w0, w0 = w.alloc (.cells #[.slice A x.from_.length c, .slice B x.order.length d] 27) := ⟨_, rfl⟩
  have bx0 : Box2 w0 w.heap.size (.slice A x.from_.length c) (.slice B x.order.length d) := by rw [hw0]; exact Box2.new _ _ _ _
  have hB0 : Below w.heap.size w w0 := by rw [hw0]; exact (Below.refl _ _).alloc (Nat.le_refl _) _
  have hlx := hx.1.len
  have hly := hx.2.len
  have hca := specCand_any p hl x w0 _ A B c d (PrgS.le hp (Le.below hB0)) (hx.le (Le.below hB0))
  obtain ⟨q0, q1, q2⟩ := bx0.all
  cases hc : candB p x
  · rw [hc] at hca
    have ho := Lib.hid (show (⟨#[]⟩ : ByteArray) = fmtO p x by unfold fmtO; rw [hc]; rfl)
    clear hc hp hx
    go_enter Tryz.func44, Tryz.ntmps44
    go_wp2_with fail
    try rw [← hw0]
    clear hw0
    refine hca.mono ?_
    rintro e1 w1 ⟨rfl, hb1⟩
    have hB1 := hB0.trans (hb1.mono hB0.size)
    go_wp2_with fail
    go_ret
    exact ⟨ret_str ho.out, hB1⟩
  rw [hc] at hca
  have ho := Lib.hid (show fmtB x = fmtO p x by unfold fmtO; rw [hc]; rfl)
  have Hs := Lib.hid (candB_iff.1 hc).sml
  have hfl := Hs.out.fl
  have hol := Lib.hid Hs.out.ol
  have Hx := Lib.hid hx
  clear hc hp hx
  go_enter Tryz.func44, Tryz.ntmps44
  go_wp2_with fail
  try rw [← hw0]
  clear hw0
  refine hca.mono ?_
  rintro e1 w1 ⟨rfl, hb1⟩
  have hB1 := hB0.trans (hb1.mono hB0.size)
  have bx1 := bx0.le (Le.below hb1)
  have Hx1 := Lib.hid (Hx.out.le (Le.below hB1))
  clear q0 q1 q2 bx0 hb1 hca Hx
  go_wp2_with fail
  go_loopg [5, 6] x.from_.length (fun g s5 s6 wr => ∃ k : Nat, k ≤ x.from_.length ∧ g = x.from_.length - k ∧ s5 = .string (frK x.from_ k) ∧ s6 = .int .i64 k ∧ Below w1.heap.size w1 wr)
  case atStart => exact ⟨0, Nat.zero_le _, rfl, rfl, rfl, Below.refl _ _⟩
  case round =>
    obtain ⟨k, hk, rfl, rfl, rfl, hb⟩ := hrel
    obtain ⟨q0, q1, q2⟩ := (bx1.le (Le.below hb)).all
    have hz := frK_size x.from_ k
    by_cases hlt : k < x.from_.length
    · obtain ⟨b, o, cs, rfl, k0, k1⟩ := SlR.get1 (Hx1.out.1.le (Le.below hb)) hlt
      have k2 : cs 0 = .int .i64 x.from_[k] := k1
      rw [k2] at k0
      have h99 := Hs.out.fb _ (List.getElem_mem hlt)
      have hu := frK_step hlt
      have hv := frK_skip hlt
      have Hu := Lib.hid hu
      have Hv := Lib.hid hv
      obtain ⟨T, hT⟩ : ∃ T, T = frK x.from_ k := ⟨_, rfl⟩
      rw [← hT] at hz Hu Hv ⊢
      clear k1 k2 hu hv hT
      by_cases h0 : 0 ≤ x.from_[k]
      · obtain ⟨n, hn⟩ : ∃ n : Nat, x.from_[k] = n := ⟨x.from_[k].toNat, by omega⟩
        have hu := Hu.out h0
        rw [hn] at k0 hu
        have Hu' := Lib.hid hu
        have d0 : decide ((n : Int) ≥ 0) = true := by rw [decide_eq_true_iff]; omega
        have hd1 := fun W => dec_any (k : Int) W (by omega) (by omega)
        have hd2 := fun W => dec_any (n : Int) W (by omega) (by omega)
        have Hd1 := Lib.hid hd1
        have Hd2 := Lib.hid hd2
        have z1 := decS_size k
        have z2 := decS_size n
        have b1 : ¬ 9223372036854775807 < T.size + (decS k).size := by omega
        have b2 : ¬ 9223372036854775807 < T.size + (decS k).size + 1 := by omega
        have b3 : ¬ 9223372036854775807 < T.size + (decS k).size + 1 + (decS n).size := by omega
        have b4 : ¬ 9223372036854775807 < T.size + (decS k).size + 1 + (decS n).size + 1 := by omega
        have HF := Lib.hid (And.intro q0 (And.intro k0 trivial))
        clear hu hn h0 hd1 hd2
        go_wp2_with fail
        go_region_held3 (fun W => W.cell? ⟨w.heap.size, 0, none⟩ = some (.slice (some ⟨b, o, none⟩) x.from_.length c) ∧ W.cell? ⟨b, o + k, none⟩ = some (.int .i64 n) ∧ True)
          ((first | exact ⟨(Le.drew _) _ _ HF.out.1, (Le.drew _) _ _ HF.out.2.1, trivial⟩ | exact ⟨L1 _ _ HF.out.1, L1 _ _ HF.out.2.1, trivial⟩ | exact ⟨L2 _ _ HF.out.1, L2 _ _ HF.out.2.1, trivial⟩))
          (first
            | (go_at_call 104; ((with_reducible refine (Hd1.out _).mono ?_); rintro e1 w11 ⟨rfl, hb11⟩; have L1 := (Le.drew wr).to_below hb11))
            | (go_at_call 104; ((with_reducible refine (Hd2.out _).mono ?_); rintro e2 w12 ⟨rfl, hb12⟩; have L2 := L1.to_below hb12)))
        have h12 := (below_of_drew hb11).trans (hb12.mono (below_of_drew hb11).size)
        have hb3 := hb.trans (h12.mono hb.size)
        clear L1 L2 hb11 hb12 h12
        go_wp2_with fail
        go_roundg (x.from_.length - (k + 1))
        case measure => omega
        case rel => exact ⟨k + 1, by omega, rfl, by rw [← Hu'.out], by go_num, hb3⟩
      · have hm : x.from_[k] = -1 := by omega
        have hv := Hv.out h0
        have Hv' := Lib.hid hv
        rw [hm] at k0
        clear hv hm h0
        go_wp2_with fail
        go_roundg (x.from_.length - (k + 1))
        case measure => omega
        case rel => exact ⟨k + 1, by omega, rfl, by rw [← Hv'.out], by go_num, hb⟩
    · obtain rfl : k = x.from_.length := by omega
      have HB := Lib.hid hb
      obtain ⟨T, hT⟩ : ∃ T, T = frK x.from_ x.from_.length := ⟨_, rfl⟩
      have HT := Lib.hid hT
      rw [← hT] at hz ⊢
      clear hT
      go_wp2_with fail
      clear q0 q1 q2
      have hss : ∀ s ∈ x.order.map listT, s.size ≤ 48 := fun s hs => by
        obtain ⟨o, ho, rfl⟩ := List.mem_map.1 hs
        exact listT_size (Hs.out.oo o ho).1
      have Hss := Lib.hid hss
      clear hss
      go_loopg [5, 7] 3 (fun g s5 s7 wr => ∃ k : Nat, k ≤ 3 ∧ g = 3 - k ∧ s5 = .string (T ++ joinB ((x.order.map listT).take k) ⟨#[47]⟩) ∧ s7 = .int .i64 k ∧ Below w1.heap.size w1 wr)
      case atStart => exact ⟨0, Nat.zero_le _, rfl, by rw [List.take_zero, joinB_nil, app_nil], rfl, HB.out⟩
      case round =>
        obtain ⟨k, hk, rfl, rfl, rfl, hb⟩ := hrel
        obtain ⟨q0, q1, q2⟩ := (bx1.le (Le.below hb)).all
        have hz2 := joinB_size (x.order.map listT) ⟨#[47]⟩ 48 Hss.out k (by rw [List.length_map, hol.out]; exact hk)
        rw [show (⟨#[47]⟩ : ByteArray).size = 1 from rfl] at hz2
        by_cases hlt' : k < 3
        · have hlt2 : k < x.order.length := by rw [hol.out]; exact hlt'
          obtain ⟨b, o, cs, rfl, k0, k1⟩ := SlR.get1 (Hx1.out.2.le (Le.below hb)) hlt2
          obtain ⟨A1, c1, k2, hr1⟩ := k1
          rw [k2] at k0
          have h99 := Hs.out.oo _ (List.getElem_mem hlt2)
          have hj := fun W (h : Le _ W) => l6List_any x.order[k] (by omega) h99.2 W A1 c1 (Ints.le hr1 h)
          have Hj := Lib.hid hj
          have ht := Lib.hid (joinB_take (x.order.map listT) ⟨#[47]⟩ (i := k) (by rw [List.length_map]; exact hlt2))
          obtain ⟨J, hJ⟩ : ∃ J, J = joinB ((x.order.map listT).take k) ⟨#[47]⟩ := ⟨_, rfl⟩
          rw [← hJ] at hz2 ht ⊢
          have hds := listT_size h99.1
          have d3 : decide ((k : Int) ≤ 2) = true := by rw [decide_eq_true_iff]; omega
          clear k2 h99 hj hJ
          by_cases h0 : 0 < k
          · have d0 : decide ((k : Int) > 0) = true := by rw [decide_eq_true_iff]; omega
            have b0 : ¬ 9223372036854775807 < (T ++ J).size + 1 := by rw [ByteArray.size_append]; omega
            have b1 : ¬ 9223372036854775807 < T.size + J.size + 1 := by omega
            have b2 : ¬ 9223372036854775807 < T.size + J.size + 1 + (listT x.order[k]).size := by omega
            go_wp2_with fail
            refine (Hj.out _ (Le.refl _)).mono ?_
            rintro e3 w3 ⟨rfl, hb3⟩
            have hb4 := hb.trans (hb3.mono hb.size)
            go_wp2_with fail
            go_roundg (3 - (k + 1))
            case measure => omega
            case rel => exact ⟨k + 1, by omega, rfl, by rw [ht.out, if_pos h0, List.getElem_map]; simp only [ByteArray.append_assoc], by go_num, hb4⟩
          · have d0 : decide ((k : Int) > 0) = false := by rw [decide_eq_false_iff_not]; omega
            have b2 : ¬ 9223372036854775807 < T.size + J.size + (listT x.order[k]).size := by omega
            go_wp2_with fail
            refine (Hj.out _ (Le.refl _)).mono ?_
            rintro e3 w3 ⟨rfl, hb3⟩
            have hb4 := hb.trans (hb3.mono hb.size)
            go_wp2_with fail
            go_roundg (3 - (k + 1))
            case measure => omega
            case rel => exact ⟨k + 1, by omega, rfl, by rw [ht.out, if_neg h0, List.getElem_map]; simp only [ByteArray.append_assoc], by go_num, hb4⟩
        · obtain rfl : k = 3 := by omega
          have hJ := Lib.hid (show T ++ joinB ((x.order.map listT).take 3) ⟨#[47]⟩ = fmtO p x by rw [← ho.out, HT.out, List.take_of_length_le (by rw [List.length_map, hol.out]; exact Nat.le_refl _)]; rfl)
          go_wp2_with fail
          go_ret
          exact ⟨ret_str hJ.out, hB1.trans (hb.mono hB1.size)⟩

end Go.Proofs.YtfgpbnncdfcjjaaGreatDoor
