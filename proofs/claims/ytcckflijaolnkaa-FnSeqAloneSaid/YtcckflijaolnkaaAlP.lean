/-
  One thread, plainly: there is one state of each rank, and one outcome. Counting schedules: what the program's loop computes, and that it stays small. No program in sight.
-/
import Derived.Test.YtcckflijaolnkaaRunSq
import Derived.Test.YtcckflijaolnkaaStP
namespace Go.Proofs.Ytcckflijaolnkaa
set_option linter.unusedVariables false

theorem one_move {p : Prg} (h1 : p.length = 1) {s : St} {t : Nat} (ht : t ∈ mvS p s) : t = 0 := by
  have := (mem_mvS.1 ht).1
  omega
theorem one_state {p : Prg} (hp : PrgOk p) (h1 : p.length = 1) : ∀ (k : Nat) (s u : St), Reach (sucS p) (st0 p) s → Reach (sucS p) (st0 p) u → rkS s = k → rkS u = k → s = u
  | 0, s, u, hs, hu, es, eu => by
    have key : ∀ s, Reach (sucS p) (st0 p) s → rkS s = 0 → s = st0 p := fun s hs e => by
      cases hs with
      | start => rfl
      | next h h2 =>
        obtain ⟨t, ht, rfl⟩ := List.mem_map.1 h2
        rw [rk_next (reach_ok hp h) ht] at e
        omega
    rw [key s hs es, key u hu eu]
  | k + 1, s, u, hs, hu, es, eu => by
    have key : ∀ s, Reach (sucS p) (st0 p) s → rkS s = k + 1 → ∃ a, Reach (sucS p) (st0 p) a ∧ rkS a = k ∧ s = nxS p a 0 := fun s hs e => by
      cases hs with
      | start => rw [rk0] at e; omega
      | @next a _ h h2 =>
        obtain ⟨t, ht, rfl⟩ := List.mem_map.1 h2
        rw [rk_next (reach_ok hp h) ht] at e
        obtain rfl := one_move h1 ht
        exact ⟨a, h, by omega, rfl⟩
    obtain ⟨a, ha, ea, rfl⟩ := key s hs es
    obtain ⟨b, hb, eb, rfl⟩ := key u hu eu
    rw [one_state hp h1 k a b ha hb ea eb]
theorem nodup_mapL {α β : Type} (f : α → β) : ∀ (l : List α), l.Nodup → (∀ a ∈ l, ∀ b ∈ l, f a = f b → a = b) → (l.map f).Nodup
  | [], _, _ => List.nodup_nil
  | a :: l, h, hf => by
    obtain ⟨h1, h2⟩ := List.nodup_cons.1 h
    refine List.nodup_cons.2 ⟨fun hm => ?_, nodup_mapL f l h2 fun x hx y hy => hf x (by simp [hx]) y (by simp [hy])⟩
    obtain ⟨b, hb, e⟩ := List.mem_map.1 hm
    have := hf b (by simp [hb]) a (by simp) e
    subst this
    exact h1 hb
theorem one_states {p : Prg} (hp : PrgOk p) (h1 : p.length = 1) {V : List St} (hV : Dfs (sucS p) (st0 p) V []) : V.length = 1 + wSum List.length p := by
  have h2 := states_many hp hV
  have h3 := nodup_le (V.map rkS) (List.range (wSum List.length p + 1)) (nodup_mapL _ _ hV.nd fun a ha b hb e => one_state hp h1 _ a b (hV.reach _ ha) (hV.reach _ hb) rfl e.symm) fun k hk => by
    obtain ⟨s, hs, rfl⟩ := List.mem_map.1 hk
    have := rk_most (reach_ok hp (hV.reach _ hs))
    rw [wSum_foldr] at this
    exact List.mem_range.2 (by omega)
  rw [List.length_map, List.length_range] at h3
  omega
theorem one_out {p : Prg} (hp : PrgOk p) (h1 : p.length = 1) {L : List (List Int)} (h : IsOut p L) : L.length = 1 := by
  have ha : Asc L := by
    rcases h with ⟨_, V, _, h3, _⟩ | ⟨h3, _⟩
    · exact h3
    · exact absurd hp h3
  have hi := h.iff hp
  obtain ⟨s, hs, hd⟩ := exists_done hp
  have hm : outS s ∈ L := (hi _).2 ⟨s, hs, hd, rfl⟩
  have hu : ∀ y ∈ L, y = outS s := fun y hy => by
    obtain ⟨u, hu, hdu, rfl⟩ := (hi _).1 hy
    have e1 : rkS s = wSum List.length p := by unfold rkS; rw [done_pc (reach_ok hp hs) hd, wSum_foldr]
    have e2 : rkS u = wSum List.length p := by unfold rkS; rw [done_pc (reach_ok hp hu) hdu, wSum_foldr]
    rw [one_state hp h1 _ u s hu hs e2 e1]
  have hn : L.Nodup := ha.imp fun h e => by rw [e, lexC_self] at h; omega
  have h2 := nodup_le L [outS s] hn fun y hy => by rw [hu y hy]; simp
  have h3 := List.length_pos_of_mem hm
  simp at h2
  omega
/-- One thread of m instructions, a instructions being counted already. -/
def wayT (a : Nat) : Nat → Nat → Nat
  | c, 0 => c
  | c, m + 1 => wayT a c m * (a + m + 1) / (m + 1)
def wayP : Nat → Nat → Prg → Nat
  | _, c, [] => c
  | a, c, t :: p => wayP (a + t.length) (wayT a c t.length) p
theorem wayT_le (a c : Nat) : ∀ m, wayT a c m ≤ c * (a + 1) ^ m
  | 0 => by simp [wayT]
  | m + 1 => by
    have ih := wayT_le a c m
    show wayT a c m * (a + m + 1) / (m + 1) ≤ _
    have h1 : wayT a c m * (a + m + 1) ≤ wayT a c m * (a + 1) * (m + 1) := by
      rw [Nat.mul_assoc]
      refine Nat.mul_le_mul_left _ ?_
      rw [Nat.add_mul, Nat.mul_add]
      have := Nat.zero_le (a * m)
      omega
    refine Nat.le_trans (Nat.div_le_div_right h1) ?_
    rw [Nat.mul_div_cancel _ (by omega), Nat.pow_succ, ← Nat.mul_assoc]
    exact Nat.mul_le_mul_right _ ih
theorem wayT_one : ∀ m, wayT 0 1 m = 1
  | 0 => rfl
  | m + 1 => by
    show wayT 0 1 m * (0 + m + 1) / (m + 1) = 1
    rw [wayT_one m, Nat.one_mul, Nat.zero_add]
    exact Nat.div_self (by omega)
theorem way_one {p : Prg} (h1 : p.length = 1) : wayP 0 1 p = 1 := by
  match p, h1 with
  | [t], _ => exact wayT_one _

end Go.Proofs.Ytcckflijaolnkaa
