/-
  One thread, plainly: there is one state of each rank, and one outcome. Counting schedules: what the program's loop computes, and that it stays small. No program in sight. The program's CountSchedules. Counting schedules, plainly: binomials; the program's loop and the reference's loop compute one number. No program in sight. There are at most as many outcomes as schedules. No program in sight. The reference's CountSchedules: bounds (plain).
-/
import Derived.Test.YtahegjofooahkaaGreatRunSq
import Derived.Test.YtahegjofooahkaaGreatPlM

/-! One thread, plainly: there is one state of each rank, and one outcome. Counting schedules: what the program's loop computes, and that it stays small. No program in sight. -/
namespace Go.Proofs.YtahegjofooahkaaGreat
set_option linter.unusedVariables false

theorem one_move {p : Prg} (h1 : p.length = 1) {s : St} {t : Nat} (ht : t ∈ mvS p s) : t = 0 := by
  have := (mem_mvS.1 ht).1
  omega
theorem one_state {p : Prg} (hp : PrgOk p) (h1 : p.length = 1) : ∀ (k : Nat) (s u : St), Reach (sucS p) (st0 p) s → Reach (sucS p) (st0 p) u → rkS s = k → rkS u = k → s = u
  | 0, s, u, hs, hu, es, eu => by
    have key : ∀ s, Reach (sucS p) (st0 p) s → rkS s = 0 → s = st0 p := fun s hs e => by
      cases hs with
      | start => rfl
      | next h h2 =>
        obtain ⟨t, ht, rfl⟩ := List.mem_map.1 h2
        rw [rk_next (reach_ok hp h) ht] at e
        omega
    rw [key s hs es, key u hu eu]
  | k + 1, s, u, hs, hu, es, eu => by
    have key : ∀ s, Reach (sucS p) (st0 p) s → rkS s = k + 1 → ∃ a, Reach (sucS p) (st0 p) a ∧ rkS a = k ∧ s = nxS p a 0 := fun s hs e => by
      cases hs with
      | start => rw [rk0] at e; omega
      | @next a _ h h2 =>
        obtain ⟨t, ht, rfl⟩ := List.mem_map.1 h2
        rw [rk_next (reach_ok hp h) ht] at e
        obtain rfl := one_move h1 ht
        exact ⟨a, h, by omega, rfl⟩
    obtain ⟨a, ha, ea, rfl⟩ := key s hs es
    obtain ⟨b, hb, eb, rfl⟩ := key u hu eu
    rw [one_state hp h1 k a b ha hb ea eb]
theorem nodup_mapL {α β : Type} (f : α → β) : ∀ (l : List α), l.Nodup → (∀ a ∈ l, ∀ b ∈ l, f a = f b → a = b) → (l.map f).Nodup
  | [], _, _ => List.nodup_nil
  | a :: l, h, hf => by
    obtain ⟨h1, h2⟩ := List.nodup_cons.1 h
    refine List.nodup_cons.2 ⟨fun hm => ?_, nodup_mapL f l h2 fun x hx y hy => hf x (by simp [hx]) y (by simp [hy])⟩
    obtain ⟨b, hb, e⟩ := List.mem_map.1 hm
    have := hf b (by simp [hb]) a (by simp) e
    subst this
    exact h1 hb
theorem one_states {p : Prg} (hp : PrgOk p) (h1 : p.length = 1) {V : List St} (hV : Dfs (sucS p) (st0 p) V []) : V.length = 1 + wSum List.length p := by
  have h2 := states_many hp hV
  have h3 := nodup_le (V.map rkS) (List.range (wSum List.length p + 1)) (nodup_mapL _ _ hV.nd fun a ha b hb e => one_state hp h1 _ a b (hV.reach _ ha) (hV.reach _ hb) rfl e.symm) fun k hk => by
    obtain ⟨s, hs, rfl⟩ := List.mem_map.1 hk
    have := rk_most (reach_ok hp (hV.reach _ hs))
    rw [wSum_foldr] at this
    exact List.mem_range.2 (by omega)
  rw [List.length_map, List.length_range] at h3
  omega
theorem one_out {p : Prg} (hp : PrgOk p) (h1 : p.length = 1) {L : List (List Int)} (h : IsOut p L) : L.length = 1 := by
  have ha : Asc L := by
    rcases h with ⟨_, V, _, h3, _⟩ | ⟨h3, _⟩
    · exact h3
    · exact absurd hp h3
  have hi := h.iff hp
  obtain ⟨s, hs, hd⟩ := exists_done hp
  have hm : outS s ∈ L := (hi _).2 ⟨s, hs, hd, rfl⟩
  have hu : ∀ y ∈ L, y = outS s := fun y hy => by
    obtain ⟨u, hu, hdu, rfl⟩ := (hi _).1 hy
    have e1 : rkS s = wSum List.length p := by unfold rkS; rw [done_pc (reach_ok hp hs) hd, wSum_foldr]
    have e2 : rkS u = wSum List.length p := by unfold rkS; rw [done_pc (reach_ok hp hu) hdu, wSum_foldr]
    rw [one_state hp h1 _ u s hu hs e2 e1]
  have hn : L.Nodup := ha.imp fun h e => by rw [e, lexC_self] at h; omega
  have h2 := nodup_le L [outS s] hn fun y hy => by rw [hu y hy]; simp
  have h3 := List.length_pos_of_mem hm
  simp at h2
  omega
/-- One thread of m instructions, a instructions being counted already. -/
def wayT (a : Nat) : Nat → Nat → Nat
  | c, 0 => c
  | c, m + 1 => wayT a c m * (a + m + 1) / (m + 1)
def wayP : Nat → Nat → Prg → Nat
  | _, c, [] => c
  | a, c, t :: p => wayP (a + t.length) (wayT a c t.length) p
theorem wayT_le (a c : Nat) : ∀ m, wayT a c m ≤ c * (a + 1) ^ m
  | 0 => by simp [wayT]
  | m + 1 => by
    have ih := wayT_le a c m
    show wayT a c m * (a + m + 1) / (m + 1) ≤ _
    have h1 : wayT a c m * (a + m + 1) ≤ wayT a c m * (a + 1) * (m + 1) := by
      rw [Nat.mul_assoc]
      refine Nat.mul_le_mul_left _ ?_
      rw [Nat.add_mul, Nat.mul_add]
      have := Nat.zero_le (a * m)
      omega
    refine Nat.le_trans (Nat.div_le_div_right h1) ?_
    rw [Nat.mul_div_cancel _ (by omega), Nat.pow_succ, ← Nat.mul_assoc]
    exact Nat.mul_le_mul_right _ ih
theorem wayT_one : ∀ m, wayT 0 1 m = 1
  | 0 => rfl
  | m + 1 => by
    show wayT 0 1 m * (0 + m + 1) / (m + 1) = 1
    rw [wayT_one m, Nat.one_mul, Nat.zero_add]
    exact Nat.div_self (by omega)
theorem way_one {p : Prg} (h1 : p.length = 1) : wayP 0 1 p = 1 := by
  match p, h1 with
  | [t], _ => exact wayT_one _

end Go.Proofs.YtahegjofooahkaaGreat

/-! The program's CountSchedules. -/
namespace Go.Proofs.YtahegjofooahkaaGreat
open Go.RowKit
set_option linter.unusedVariables false
set_option maxRecDepth 100000

theorem wayP_snoc : ∀ (q : Prg) (t : List Ins) (a c : Nat), wayP a c (q ++ [t]) = wayT (a + wSum List.length q) (wayP a c q) t.length
  | [], t, a, c => by simp [wayP, wSum]
  | u :: q, t, a, c => by
    show wayP (a + u.length) (wayT a c u.length) (q ++ [t]) = _
    rw [wayP_snoc q t]
    show _ = wayT (a + (u.length + wSum List.length q)) _ _
    rw [Nat.add_assoc]
    rfl
theorem way_take {p : Prg} {i : Nat} (h : i < p.length) : wayP 0 1 (p.take (i + 1)) = wayT (wSum List.length (p.take i)) (wayP 0 1 (p.take i)) p[i].length := by
  rw [List.take_succ_eq_append_getElem h, wayP_snoc, Nat.zero_add]
def bdW : Nat → Nat
  | 0 => 1
  | 1 => 1
  | 2 => 2097152
  | _ => 358318080000000
theorem sum_bd {p : Prg} (hp : PrgOk p) : ∀ i, i ≤ p.length → wSum List.length (p.take i) ≤ 7 * i
  | 0, _ => by simp [wSum]
  | i + 1, h => by
    have := sum_bd hp i (by omega)
    rw [wSum_take_succ List.length p i (by omega)]
    have := (hp.1.2.1 _ (List.getElem_mem (show i < p.length by omega))).1
    omega
theorem wayT_bd {a c i : Nat} (hi : i < 3) (ha : a ≤ 7 * i) (hc : c ≤ bdW i) : ∀ j, j ≤ 7 → wayT a c j ≤ bdW (i + 1) := fun j hj => by
  have h1 := wayT_le a c j
  have h2 : (a + 1) ^ j ≤ (7 * i + 1) ^ 7 := Nat.le_trans (Nat.pow_le_pow_left (by omega) j) (Nat.pow_le_pow_right (by omega) hj)
  have h3 := Nat.mul_le_mul hc h2
  match i, hi with
  | 0, _ => simp [bdW] at *; omega
  | 1, _ => simp [bdW] at *; omega
  | 2, _ => simp [bdW] at *; omega
theorem way_bd {p : Prg} (hp : PrgOk p) : ∀ i, i ≤ p.length → wayP 0 1 (p.take i) ≤ bdW i
  | 0, _ => by simp [wayP, bdW]
  | i + 1, h => by
    rw [way_take (by omega)]
    have := hp.1.1
    exact wayT_bd (by omega) (sum_bd hp i (by omega)) (way_bd hp i (by omega)) _ (hp.1.2.1 _ (List.getElem_mem (show i < p.length by omega))).1
theorem bdW_le {i : Nat} : bdW i ≤ 358318080000000 := by
  match i with
  | 0 => decide
  | 1 => decide
  | 2 => decide
  | n + 3 => exact Nat.le_refl _
theorem way_step {a c j : Nat} (h1 : wayT a c j ≤ 358318080000000) (h2 : a + j + 1 ≤ 30) : wrap64 ((wrap64 ((wayT a c j : Int) * ((a : Int) + (j : Int) + 1))).tdiv ((j : Int) + 1)) = ((wayT a c (j + 1) : Nat) : Int) := by
  have h3 : wayT a c j * (a + j + 1) ≤ 358318080000000 * 30 := Nat.mul_le_mul h1 h2
  have e1 : (wayT a c j : Int) * ((a : Int) + (j : Int) + 1) = ((wayT a c j * (a + j + 1) : Nat) : Int) := by
    rw [Int.natCast_mul, Int.natCast_add, Int.natCast_add]
    rfl
  have e2 : ((j : Int) + 1) = ((j + 1 : Nat) : Int) := rfl
  have e3 : wayT a c (j + 1) = wayT a c j * (a + j + 1) / (j + 1) := rfl
  have h4 : wayT a c j * (a + j + 1) / (j + 1) ≤ wayT a c j * (a + j + 1) := Nat.div_le_self _ _
  rw [e1, e2, e3]
  generalize wayT a c j * (a + j + 1) = x at h3 h4
  rw [IntWalk.wrap64_in (x : Int) ⟨by omega, by omega⟩, ← Int.ofNat_tdiv]
  generalize x / (j + 1) = y at h4
  exact IntWalk.wrap64_in (y : Int) ⟨by omega, by omega⟩
noncomputable def wayO (p : Prg) : Nat := if prgB p = true then wayP 0 1 p else 0

end Go.Proofs.YtahegjofooahkaaGreat

/-! Counting schedules, plainly: binomials; the program's loop and the reference's loop compute one number. No program in sight. -/
namespace Go.Proofs.YtahegjofooahkaaGreat
set_option linter.unusedVariables false

/-- a + j over j. -/
def binW : Nat → Nat → Nat
  | _, 0 => 1
  | 0, _ + 1 => 1
  | a + 1, j + 1 => binW a (j + 1) + binW (a + 1) j
theorem bin0 (j : Nat) : binW 0 j = 1 := by cases j <;> simp [binW]
theorem binj0 (a : Nat) : binW a 0 = 1 := by cases a <;> simp [binW]
theorem binSS (a j : Nat) : binW (a + 1) (j + 1) = binW a (j + 1) + binW (a + 1) j := by simp [binW]
def facW : Nat → Nat
  | 0 => 1
  | n + 1 => (n + 1) * facW n
theorem fac_pos : ∀ n, 0 < facW n
  | 0 => by decide
  | n + 1 => Nat.mul_pos (Nat.succ_pos n) (fac_pos n)
theorem bin_fac : ∀ (n a j : Nat), a + j = n → binW a j * (facW a * facW j) = facW n
  | 0, a, j, h => by
    obtain rfl : a = 0 := by omega
    obtain rfl : j = 0 := by omega
    rw [bin0]; decide
  | n + 1, a, j, h => by
    match a, j, h with
    | 0, j, h =>
      obtain rfl : j = n + 1 := by omega
      rw [bin0]; simp [facW]
    | a + 1, 0, h =>
      obtain rfl : a = n := by omega
      rw [binj0]; simp [facW]
    | a + 1, j + 1, h =>
      have h1 := bin_fac n a (j + 1) (by omega)
      have h2 := bin_fac n (a + 1) j (by omega)
      rw [binSS, Nat.add_mul]
      have e1 : binW a (j + 1) * (facW (a + 1) * facW (j + 1)) = (a + 1) * facW n := by
        rw [← h1]
        show _ * (((a + 1) * facW a) * _) = _
        rw [Nat.mul_assoc (a + 1), Nat.mul_left_comm]
      have e2 : binW (a + 1) j * (facW (a + 1) * facW (j + 1)) = (j + 1) * facW n := by
        rw [← h2]
        show _ * (_ * ((j + 1) * facW j)) = _
        rw [Nat.mul_left_comm (facW (a + 1)), Nat.mul_left_comm]
      rw [e1, e2, ← Nat.add_mul]
      show _ = (n + 1) * facW n
      rw [show a + 1 + (j + 1) = n + 1 from h]
theorem bin_step (a j : Nat) : binW a (j + 1) * (j + 1) = binW a j * (a + j + 1) := by
  have h1 := bin_fac (a + j + 1) a (j + 1) (by omega)
  have h2 := bin_fac (a + j) a j rfl
  have hp : 0 < facW a * facW j := Nat.mul_pos (fac_pos a) (fac_pos j)
  refine Nat.eq_of_mul_eq_mul_right hp ?_
  have e1 : binW a (j + 1) * (j + 1) * (facW a * facW j) = facW (a + j + 1) := by
    rw [← h1]
    show _ = _ * (_ * ((j + 1) * facW j))
    rw [Nat.mul_assoc, Nat.mul_left_comm (j + 1) (facW a)]
  have e2 : binW a j * (a + j + 1) * (facW a * facW j) = facW (a + j + 1) := by
    show _ = (a + j + 1) * facW (a + j)
    rw [← h2, Nat.mul_right_comm, Nat.mul_comm]
  rw [e1, e2]
theorem wayT_bin (a c : Nat) : ∀ m, wayT a c m = c * binW a m
  | 0 => by simp [wayT, binj0]
  | m + 1 => by
    show wayT a c m * (a + m + 1) / (m + 1) = _
    rw [wayT_bin a c m, Nat.mul_assoc, ← bin_step, ← Nat.mul_assoc]
    exact Nat.mul_div_cancel _ (by omega)
theorem bin_le : ∀ (n a j : Nat), a + j = n → binW a j ≤ 2 ^ n
  | 0, a, j, h => by
    obtain rfl : a = 0 := by omega
    rw [bin0]; decide
  | n + 1, a, j, h => by
    match a, j, h with
    | 0, j, _ => rw [bin0]; exact Nat.one_le_two_pow
    | a + 1, 0, _ => rw [binj0]; exact Nat.one_le_two_pow
    | a + 1, j + 1, h =>
      have h1 := bin_le n a (j + 1) (by omega)
      have h2 := bin_le n (a + 1) j (by omega)
      rw [binSS, Nat.pow_succ]
      omega
/-- The factorials of the threads' lengths. -/
def facP : Prg → Nat
  | [] => 1
  | t :: p => facW t.length * facP p
theorem wayP_fac : ∀ (p : Prg) (a c : Nat), wayP a c p * facP p * facW a = c * facW (a + wSum List.length p)
  | [], a, c => by simp [wayP, facP, wSum]
  | t :: p, a, c => by
    show wayP (a + t.length) (wayT a c t.length) p * (facW t.length * facP p) * facW a = c * facW (a + (t.length + wSum List.length p))
    have h1 := wayP_fac p (a + t.length) (wayT a c t.length)
    rw [wayT_bin] at h1 ⊢
    have h2 := bin_fac (a + t.length) a t.length rfl
    have hp := fac_pos (a + t.length)
    refine Nat.eq_of_mul_eq_mul_right hp ?_
    rw [Nat.add_assoc] at h1
    generalize wayP (a + t.length) (c * binW a t.length) p = x at h1 ⊢
    generalize facW (a + (t.length + wSum List.length p)) = y at h1 ⊢
    have e1 : x * (facW t.length * facP p) * facW a * facW (a + t.length) = x * facP p * facW (a + t.length) * (facW a * facW t.length) := by
      simp only [Nat.mul_comm, Nat.mul_left_comm, Nat.mul_assoc]
    rw [e1, h1, ← h2]
    simp only [Nat.mul_comm, Nat.mul_left_comm, Nat.mul_assoc]
theorem bin_shift (a k : Nat) : binW (a + 1) k * (a + 1) = binW a (k + 1) * (k + 1) := by
  have h1 := bin_fac (a + k + 1) (a + 1) k (by omega)
  have h2 := bin_fac (a + k + 1) a (k + 1) (by omega)
  have hp : 0 < facW a * facW k := Nat.mul_pos (fac_pos a) (fac_pos k)
  refine Nat.eq_of_mul_eq_mul_right hp ?_
  have e1 : binW (a + 1) k * (a + 1) * (facW a * facW k) = facW (a + k + 1) := by
    rw [← h1]
    show _ = _ * (((a + 1) * facW a) * _)
    simp only [Nat.mul_assoc]
  have e2 : binW a (k + 1) * (k + 1) * (facW a * facW k) = facW (a + k + 1) := by
    rw [← h2]
    show _ = _ * (_ * ((k + 1) * facW k))
    rw [Nat.mul_assoc, Nat.mul_left_comm (k + 1) (facW a)]
  rw [e1, e2]
/-- The reference's loops: S instructions are left. -/
def wayU (S c : Nat) : Nat → Nat
  | 0 => c
  | k + 1 => wayU S c k * (S - k) / (k + 1)
def waysU : Nat → Nat → Prg → Nat
  | _, c, [] => c
  | S, c, t :: p => waysU (S - t.length) (wayU S c t.length) p
theorem wayU_bin (S c : Nat) : ∀ k, k ≤ S → wayU S c k = c * binW (S - k) k
  | 0, _ => by simp [wayU, binj0]
  | k + 1, h => by
    obtain ⟨a, ha⟩ : ∃ a, S - k = a + 1 := ⟨S - k - 1, by omega⟩
    have ha' : S - (k + 1) = a := by omega
    show wayU S c k * (S - k) / (k + 1) = _
    rw [wayU_bin S c k (by omega), ha, ha', Nat.mul_assoc, bin_shift, ← Nat.mul_assoc]
    exact Nat.mul_div_cancel _ (by omega)
theorem waysU_fac : ∀ (p : Prg) (S c : Nat), wSum List.length p ≤ S → waysU S c p * facP p * facW (S - wSum List.length p) = c * facW S
  | [], S, c, _ => by simp [waysU, facP, wSum]
  | t :: p, S, c, h => by
    have h0 : t.length + wSum List.length p ≤ S := h
    show waysU (S - t.length) (wayU S c t.length) p * (facW t.length * facP p) * facW (S - (t.length + wSum List.length p)) = c * facW S
    have h1 := waysU_fac p (S - t.length) (wayU S c t.length) (by omega)
    rw [wayU_bin S c _ (by omega)] at h1 ⊢
    have h2 := bin_fac S (S - t.length) t.length (by omega)
    rw [show S - t.length - wSum List.length p = S - (t.length + wSum List.length p) by omega] at h1
    generalize waysU (S - t.length) (c * binW (S - t.length) t.length) p = x at h1 ⊢
    generalize facW (S - (t.length + wSum List.length p)) = y at h1 ⊢
    have e1 : x * (facW t.length * facP p) * y = x * facP p * y * facW t.length := by
      simp only [Nat.mul_comm, Nat.mul_left_comm, Nat.mul_assoc]
    rw [e1, h1, ← h2]
    simp only [Nat.mul_comm, Nat.mul_left_comm, Nat.mul_assoc]
theorem facP_pos : ∀ p, 0 < facP p
  | [] => by decide
  | t :: p => Nat.mul_pos (fac_pos _) (facP_pos p)
/-- Both loops compute one number. -/
theorem ways_eq (p : Prg) : waysU (wSum List.length p) 1 p = wayP 0 1 p := by
  have h1 := waysU_fac p (wSum List.length p) 1 (Nat.le_refl _)
  have h2 := wayP_fac p 0 1
  rw [Nat.sub_self] at h1
  rw [Nat.zero_add] at h2
  have h3 : facW 0 = 1 := rfl
  rw [h3, Nat.mul_one] at h1 h2
  exact Nat.eq_of_mul_eq_mul_right (facP_pos p) (h1.trans h2.symm)

end Go.Proofs.YtahegjofooahkaaGreat

/-! There are at most as many outcomes as schedules. No program in sight. -/
namespace Go.Proofs.YtahegjofooahkaaGreat
set_option linter.unusedVariables false

def sumL : List Nat → Nat
  | [] => 0
  | m :: l => m + sumL l
def facL : List Nat → Nat
  | [] => 1
  | m :: l => facW m * facL l
def wayL : Nat → Nat → List Nat → Nat
  | _, c, [] => c
  | a, c, m :: l => wayL (a + m) (wayT a c m) l
theorem wayP_L : ∀ (p : Prg) (a c : Nat), wayP a c p = wayL a c (p.map List.length)
  | [], _, _ => rfl
  | t :: p, a, c => wayP_L p _ _
theorem facL_pos : ∀ l, 0 < facL l
  | [] => by decide
  | m :: l => Nat.mul_pos (fac_pos _) (facL_pos l)
theorem wayL_fac : ∀ (l : List Nat) (a c : Nat), wayL a c l * facL l * facW a = c * facW (a + sumL l)
  | [], a, c => by simp [wayL, facL, sumL]
  | m :: l, a, c => by
    show wayL (a + m) (wayT a c m) l * (facW m * facL l) * facW a = c * facW (a + (m + sumL l))
    have h1 := wayL_fac l (a + m) (wayT a c m)
    rw [wayT_bin] at h1 ⊢
    have h2 := bin_fac (a + m) a m rfl
    have hp := fac_pos (a + m)
    refine Nat.eq_of_mul_eq_mul_right hp ?_
    rw [Nat.add_assoc] at h1
    generalize wayL (a + m) (c * binW a m) l = x at h1 ⊢
    generalize facW (a + (m + sumL l)) = y at h1 ⊢
    have e1 : x * (facW m * facL l) * facW a * facW (a + m) = x * facL l * facW (a + m) * (facW a * facW m) := by
      simp only [Nat.mul_comm, Nat.mul_left_comm, Nat.mul_assoc]
    rw [e1, h1, ← h2]
    simp only [Nat.mul_comm, Nat.mul_left_comm, Nat.mul_assoc]
/-- The number of schedules of threads with so much left. -/
def mW (l : List Nat) : Nat := wayL 0 1 l
theorem mW_fac (l : List Nat) : mW l * facL l = facW (sumL l) := by
  have h := wayL_fac l 0 1
  have h3 : facW 0 = 1 := rfl
  rw [h3, Nat.mul_one, Nat.one_mul, Nat.zero_add] at h
  exact h
theorem sumL_set : ∀ (l : List Nat) (t v : Nat), t < l.length → sumL (l.set t v) + l.getD t 0 = sumL l + v
  | [], _, _, h => absurd h (Nat.not_lt_zero _)
  | a :: l, 0, v, _ => by simp [sumL]; omega
  | a :: l, t + 1, v, h => by
    have := sumL_set l t v (by simpa using h)
    simp only [List.set_cons_succ, sumL, List.getD_cons_succ]
    omega
theorem facL_set : ∀ (l : List Nat) (t v : Nat), t < l.length → l.getD t 0 = v + 1 → facL l = (v + 1) * facL (l.set t v)
  | [], _, _, h, _ => absurd h (Nat.not_lt_zero _)
  | a :: l, 0, v, _, e => by
    have e' : a = v + 1 := e
    subst e'
    show (v + 1) * facW v * facL l = (v + 1) * (facW v * facL l)
    rw [Nat.mul_assoc]
  | a :: l, t + 1, v, h, e => by
    have := facL_set l t v (by simpa using h) (by simpa using e)
    simp only [List.set_cons_succ, facL]
    rw [this, Nat.mul_left_comm]
/-- One step. -/
theorem mW_step {l : List Nat} {t v : Nat} (h : t < l.length) (e : l.getD t 0 = v + 1) : mW (l.set t v) * facL l = (v + 1) * facW (sumL l - 1) := by
  have h1 := sumL_set l t v h
  rw [facL_set l t v h e, Nat.mul_left_comm, mW_fac, show sumL (l.set t v) = sumL l - 1 by omega]
theorem sum_range (f : Nat → Nat) : ∀ (l : List Nat), (∀ t, t < l.length → f t = l.getD t 0) → sumL ((List.range l.length).map f) = sumL l := fun l hf => by
  have : (List.range l.length).map f = l := by
    refine List.ext_getElem (by simp) fun i h1 h2 => ?_
    rw [List.getElem_map, List.getElem_range, hf i h2, List.getD_eq_getElem?_getD, List.getElem?_eq_getElem h2]
    rfl
  rw [this]
theorem sumL_mul (k : Nat) : ∀ l : List Nat, sumL (l.map (· * k)) = sumL l * k
  | [] => by simp [sumL]
  | m :: l => by simp only [List.map_cons, sumL, sumL_mul k l, Nat.add_mul]
/-- All first steps together. -/
theorem mW_all {l : List Nat} (h : 0 < sumL l) : sumL ((List.range l.length).map fun t => if l.getD t 0 = 0 then 0 else mW (l.set t (l.getD t 0 - 1))) = mW l := by
  refine Nat.eq_of_mul_eq_mul_right (facL_pos l) ?_
  rw [← sumL_mul, List.map_map, mW_fac]
  have e : (List.range l.length).map ((· * facL l) ∘ fun t => if l.getD t 0 = 0 then 0 else mW (l.set t (l.getD t 0 - 1))) = ((List.range l.length).map (fun t => l.getD t 0)).map (· * facW (sumL l - 1)) := by
    rw [List.map_map]
    refine List.map_congr_left fun t ht => ?_
    have ht' := List.mem_range.1 ht
    show (if l.getD t 0 = 0 then 0 else mW (l.set t (l.getD t 0 - 1))) * facL l = l.getD t 0 * facW (sumL l - 1)
    by_cases hz : l.getD t 0 = 0
    · rw [if_pos hz, hz, Nat.zero_mul, Nat.zero_mul]
    · rw [if_neg hz]
      have := mW_step (v := l.getD t 0 - 1) ht' (by omega)
      rw [this, show l.getD t 0 - 1 + 1 = l.getD t 0 by omega]
  rw [e, sumL_mul, sum_range _ _ fun t _ => rfl]
  obtain ⟨n, hn⟩ : ∃ n, sumL l = n + 1 := ⟨sumL l - 1, by omega⟩
  rw [hn]
  rfl
theorem mW_pos (l : List Nat) : 0 < mW l := by
  have h := mW_fac l
  have h2 := fac_pos (sumL l)
  rcases Nat.eq_zero_or_pos (mW l) with e | e
  · rw [e, Nat.zero_mul] at h; omega
  · exact e
/-- What is left to each thread. -/
def remS (p : Prg) (s : St) : List Nat := (List.range p.length).map fun t => (thrP p t).length - pcS s t
theorem rem_len (p : Prg) (s : St) : (remS p s).length = p.length := by simp [remS]
theorem rem_get {p : Prg} {s : St} {t : Nat} (h : t < p.length) : (remS p s).getD t 0 = (thrP p t).length - pcS s t := by
  unfold remS
  rw [List.getD_eq_getElem?_getD, List.getElem?_map, List.getElem?_range h]
  rfl
theorem pc_start (p : Prg) (t : Nat) : pcS (st0 p) t = 0 := by
  unfold pcS st0
  rw [List.getD_eq_getElem?_getD]
  rcases Nat.lt_or_ge t p.length with ht | ht
  · simp [ht]
  · rw [List.getElem?_eq_none (by simpa using ht)]; rfl
theorem rem_start (p : Prg) : remS p (st0 p) = p.map List.length := by
  unfold remS
  refine List.ext_getElem (by simp) fun i h1 h2 => ?_
  have hi : i < p.length := by simpa using h2
  rw [List.getElem_map, List.getElem_range, List.getElem_map, pc_start, Nat.sub_zero]
  unfold thrP
  rw [List.getD_eq_getElem?_getD, List.getElem?_eq_getElem hi]
  rfl
theorem rem_el {p : Prg} {s : St} {i : Nat} (h : i < (remS p s).length) : (remS p s)[i] = (thrP p i).length - pcS s i := by
  unfold remS at h ⊢
  rw [List.getElem_map, List.getElem_range]
theorem rem_next {p : Prg} {s : St} (hs : StOk p s) {t : Nat} (ht : t ∈ mvS p s) : remS p (nxS p s t) = (remS p s).set t ((remS p s).getD t 0 - 1) := by
  obtain ⟨h1, h2⟩ := mem_mvS.1 ht
  rw [rem_get h1]
  refine List.ext_getElem (by simp [remS]) fun i h3 h4 => ?_
  rw [List.getElem_set, rem_el, rem_el]
  have h5 : pcS (nxS p s t) i = if i = t then pcS s t + 1 else pcS s i := pc_set hs h1 _ i
  rw [h5]
  by_cases e : t = i
  · subst e; rw [if_pos rfl, if_pos rfl]; omega
  · rw [if_neg e, if_neg (fun h => e h.symm)]
theorem sumL_map (p : Prg) : sumL (p.map List.length) = wSum List.length p := by
  induction p with
  | nil => rfl
  | cons t p ih => simp only [List.map_cons, sumL, ih, wSum]
theorem rem_sum {p : Prg} (hp : PrgOk p) {s : St} (h : Reach (sucS p) (st0 p) s) : sumL (remS p s) + rkS s = wSum List.length p := by
  induction h with
  | start => rw [rem_start, rk0, sumL_map]; rfl
  | @next s u hr hu ih =>
    obtain ⟨t, ht, rfl⟩ := List.mem_map.1 hu
    have hok := reach_ok hp hr
    obtain ⟨h1, h2⟩ := mem_mvS.1 ht
    rw [rem_next hok ht, rk_next hok ht]
    have h3 := sumL_set (remS p s) t ((remS p s).getD t 0 - 1) (by rw [rem_len]; exact h1)
    have h4 := rem_get (s := s) h1
    omega
theorem sumL_app : ∀ (a b : List Nat), sumL (a ++ b) = sumL a + sumL b
  | [], b => by simp [sumL]
  | x :: a, b => by simp only [List.cons_append, sumL, sumL_app a b, Nat.add_assoc]
theorem sumL_filter (q : Nat → Bool) (f : Nat → Nat) : ∀ (l : List Nat), sumL ((l.filter q).map f) = sumL (l.map fun t => if q t = true then f t else 0)
  | [] => rfl
  | x :: l => by
    rw [List.filter_cons]
    by_cases h : q x = true
    · rw [if_pos h]
      simp only [List.map_cons, sumL, if_pos h, sumL_filter q f l]
    · rw [if_neg h]
      simp only [List.map_cons, sumL, if_neg h, sumL_filter q f l, Nat.zero_add]
theorem suc_sum {p : Prg} (hp : PrgOk p) {s : St} (hr : Reach (sucS p) (st0 p) s) (hk : rkS s < wSum List.length p) : sumL ((sucS p s).map fun u => mW (remS p u)) = mW (remS p s) := by
  have hok := reach_ok hp hr
  have h1 := rem_sum hp hr
  rw [← mW_all (l := remS p s) (by omega), rem_len]
  unfold sucS mvS
  rw [List.map_map, sumL_filter]
  congr 1
  refine List.map_congr_left fun t ht => ?_
  have ht' := List.mem_range.1 ht
  have hg := rem_get (s := s) ht'
  by_cases h : onS p s t = true
  · have hm : t ∈ mvS p s := List.mem_filter.2 ⟨ht, h⟩
    have h2 := (mem_mvS.1 hm).2
    rw [if_pos h, if_neg (by omega)]
    show mW (remS p (nxS p s t)) = _
    rw [rem_next hok hm]
  · rw [if_neg h, if_pos]
    have h3 : ¬ pcS s t < (thrP p t).length := by simpa [onS] using h
    omega
theorem lvl_reach {p : Prg} (hp : PrgOk p) : ∀ i s, s ∈ lvl (sucS p) (st0 p) i → Reach (sucS p) (st0 p) s ∧ rkS s = i
  | 0, s, h => by
    obtain rfl := List.mem_singleton.1 h
    exact ⟨.start, rk0 p⟩
  | i + 1, s, h => by
    obtain ⟨a, h1, h2⟩ := List.mem_flatMap.1 h
    obtain ⟨h3, h4⟩ := lvl_reach hp i a h1
    obtain ⟨t, ht, rfl⟩ := List.mem_map.1 h2
    exact ⟨.next h3 h2, by rw [rk_next (reach_ok hp h3) ht, h4]⟩
theorem reach_lvl {p : Prg} (hp : PrgOk p) {s : St} (h : Reach (sucS p) (st0 p) s) : s ∈ lvl (sucS p) (st0 p) (rkS s) := by
  induction h with
  | start => rw [rk0]; simp [lvl]
  | next h hu ih =>
    obtain ⟨t, ht, rfl⟩ := List.mem_map.1 hu
    rw [rk_next (reach_ok hp h) ht, lvl]
    exact List.mem_flatMap.2 ⟨_, ih, hu⟩
theorem flat_sum (p : Prg) : ∀ (l : List St), (∀ s ∈ l, sumL ((sucS p s).map fun u => mW (remS p u)) = mW (remS p s)) → sumL ((l.flatMap (sucS p)).map fun u => mW (remS p u)) = sumL (l.map fun u => mW (remS p u))
  | [], _ => rfl
  | a :: l, h => by
    rw [List.flatMap_cons, List.map_append, sumL_app, h a (by simp), flat_sum p l fun s hs => h s (by simp [hs])]
    rfl
theorem lvl_sum {p : Prg} (hp : PrgOk p) : ∀ i, i ≤ wSum List.length p → sumL ((lvl (sucS p) (st0 p) i).map fun u => mW (remS p u)) = mW (p.map List.length)
  | 0, _ => by simp [lvl, sumL, rem_start]
  | i + 1, h => by
    rw [lvl, flat_sum p _ fun s hs => ?_, lvl_sum hp i (by omega)]
    obtain ⟨h1, h2⟩ := lvl_reach hp i s hs
    exact suc_sum hp h1 (by omega)
theorem len_le_sum (f : St → Nat) (hf : ∀ s, 0 < f s) : ∀ l : List St, l.length ≤ sumL (l.map f)
  | [] => Nat.le_refl _
  | a :: l => by
    have := len_le_sum f hf l
    have := hf a
    simp only [List.length_cons, List.map_cons, sumL]
    omega
/-- At most as many outcomes as schedules. -/
theorem outs_few {p : Prg} (hp : PrgOk p) {L : List (List Int)} (h : IsOut p L) : L.length ≤ wayP 0 1 p := by
  have ha : Asc L := by
    rcases h with ⟨_, V, _, h3, _⟩ | ⟨h3, _⟩
    · exact h3
    · exact absurd hp h3
  have hi := h.iff hp
  have hn : L.Nodup := ha.imp fun h e => by rw [e, lexC_self] at h; omega
  have h2 := nodup_le L ((lvl (sucS p) (st0 p) (wSum List.length p)).map outS) hn fun y hy => by
    obtain ⟨u, hu, hdu, rfl⟩ := (hi _).1 hy
    have e2 : rkS u = wSum List.length p := by unfold rkS; rw [done_pc (reach_ok hp hu) hdu, wSum_foldr]
    refine List.mem_map.2 ⟨u, ?_, rfl⟩
    rw [← e2]
    exact reach_lvl hp hu
  rw [List.length_map] at h2
  have h3 := len_le_sum (fun u => mW (remS p u)) (fun s => mW_pos _) (lvl (sucS p) (st0 p) (wSum List.length p))
  rw [lvl_sum hp _ (Nat.le_refl _)] at h3
  rw [wayP_L]
  exact Nat.le_trans h2 h3

end Go.Proofs.YtahegjofooahkaaGreat

/-! The reference's CountSchedules: bounds (plain). -/
namespace Go.Proofs.YtahegjofooahkaaGreat
open Go.RowKit
set_option linter.unusedVariables false
set_option maxRecDepth 100000

theorem waysU_snoc : ∀ (q : Prg) (t : List Ins) (S c : Nat), waysU S c (q ++ [t]) = wayU (S - wSum List.length q) (waysU S c q) t.length
  | [], t, S, c => by simp [waysU, wSum]
  | u :: q, t, S, c => by
    show waysU (S - u.length) (wayU S c u.length) (q ++ [t]) = _
    rw [waysU_snoc q t]
    show _ = wayU (S - (u.length + wSum List.length q)) _ _
    rw [Nat.sub_add_eq]
    rfl
theorem waysU_take {p : Prg} {i S : Nat} (h : i < p.length) : waysU S 1 (p.take (i + 1)) = wayU (S - wSum List.length (p.take i)) (waysU S 1 (p.take i)) p[i].length := by
  rw [List.take_succ_eq_append_getElem h, waysU_snoc]
def bdU : Nat → Nat
  | 0 => 1
  | 1 => 2097152
  | 2 => 34359738368
  | _ => 4398046511104
theorem wayU_bd {S c i : Nat} (hi : i < 3) (hS : S ≤ 7 * (3 - i)) (hc : c ≤ bdU i) : ∀ k, k ≤ S → wayU S c k ≤ bdU (i + 1) := fun k hk => by
  rw [wayU_bin S c k hk]
  have h1 := bin_le S (S - k) k (by omega)
  have h2 : 2 ^ S ≤ 2 ^ (7 * (3 - i)) := Nat.pow_le_pow_right (by omega) hS
  have h3 := Nat.mul_le_mul hc (Nat.le_trans h1 h2)
  match i, hi with
  | 0, _ => simp [bdU] at *; omega
  | 1, _ => simp [bdU] at *; omega
  | 2, _ => simp [bdU] at *; omega
theorem bdU_le {i : Nat} : bdU i ≤ 4398046511104 := by
  match i with
  | 0 => decide
  | 1 => decide
  | 2 => decide
  | n + 3 => exact Nat.le_refl _
/-- What is left when i threads have been counted. -/
theorem left_bd {p : Prg} (hp : PrgOk p) : ∀ (n i : Nat), n + i = p.length → wSum List.length p - wSum List.length (p.take i) ≤ 7 * n
  | 0, i, h => by
    obtain rfl : i = p.length := by omega
    rw [List.take_length]; omega
  | n + 1, i, h => by
    have h1 := left_bd hp n (i + 1) (by omega)
    rw [wSum_take_succ List.length p i (by omega)] at h1
    have := (hp.1.2.1 _ (List.getElem_mem (show i < p.length by omega))).1
    omega
theorem waysU_bd {p : Prg} (hp : PrgOk p) : ∀ i, i ≤ p.length → waysU (wSum List.length p) 1 (p.take i) ≤ bdU i
  | 0, _ => by simp [waysU, bdU]
  | i + 1, h => by
    rw [waysU_take (by omega)]
    have h3 := hp.1.1
    have h4 := left_bd hp (p.length - i) i (by omega)
    have h5 := wSum_take_le List.length p (i + 1)
    rw [wSum_take_succ List.length p i (by omega)] at h5
    exact wayU_bd (by omega) (by omega) (waysU_bd hp i (by omega)) _ (by omega)
theorem wayU_step {S c k : Nat} (h1 : wayU S c k ≤ 4398046511104) (h2 : S ≤ 30) (hk : k ≤ S) : wrap64 ((wrap64 ((wayU S c k : Int) * ((S - k : Nat) : Int))).tdiv ((k : Int) + 1)) = ((wayU S c (k + 1) : Nat) : Int) := by
  have h3 : wayU S c k * (S - k) ≤ 4398046511104 * 30 := Nat.mul_le_mul h1 (by omega)
  have e1 : (wayU S c k : Int) * ((S - k : Nat) : Int) = ((wayU S c k * (S - k) : Nat) : Int) := by
    rw [Int.natCast_mul]
  have e2 : ((k : Int) + 1) = ((k + 1 : Nat) : Int) := rfl
  have e3 : wayU S c (k + 1) = wayU S c k * (S - k) / (k + 1) := rfl
  have h4 : wayU S c k * (S - k) / (k + 1) ≤ wayU S c k * (S - k) := Nat.div_le_self _ _
  rw [e1, e2, e3]
  generalize wayU S c k * (S - k) = x at h3 h4
  rw [IntWalk.wrap64_in (x : Int) ⟨by omega, by omega⟩, ← Int.ofNat_tdiv]
  generalize x / (k + 1) = y at h4
  exact IntWalk.wrap64_in (y : Int) ⟨by omega, by omega⟩

end Go.Proofs.YtahegjofooahkaaGreat
