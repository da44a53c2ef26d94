/-
  The texts that tell states apart. No program in sight.
-/
import Derived.Test.YtcckflijaolnkaaSeqP
namespace Go.Proofs.Ytcckflijaolnkaa
set_option linter.unusedVariables false

def byt (xs : List Nat) : ByteArray := ⟨(xs.map UInt8.ofNat).toArray⟩
theorem byt_inj {xs ys : List Nat} (hx : ∀ n ∈ xs, n < 256) (hy : ∀ n ∈ ys, n < 256) (h : byt xs = byt ys) : xs = ys := by
  have h1 : xs.map UInt8.ofNat = ys.map UInt8.ofNat := by
    have h2 := congrArg (fun b : ByteArray => b.data.toList) h
    simpa [byt] using h2
  have h3 := congrArg (List.map UInt8.toNat) h1
  have key : ∀ l : List Nat, (∀ n ∈ l, n < 256) → (l.map UInt8.ofNat).map UInt8.toNat = l := fun l hl => by
    rw [List.map_map]
    refine (List.map_congr_left (g := id) fun n hn => ?_).trans (List.map_id _)
    have := hl n hn
    simp only [Function.comp, UInt8.toNat_ofNat', id]
    omega
  rwa [key xs hx, key ys hy] at h3
/-- The program's. -/
def kI (s : St) : List Nat := (List.range 3).map (pcS s) ++ ((List.range 9).map (fun i => (s.regs.getD i 0).toNat) ++ (List.range 3).map (fun i => (s.mem.getD i 0).toNat))
/-- The reference's. -/
def kS (s : St) : List Nat := s.pc ++ (s.regs.map Int.toNat ++ s.mem.map Int.toNat)
theorem map_range_inj {α : Type} {n : Nat} {f g : Nat → α} (h : (List.range n).map f = (List.range n).map g) : ∀ i, i < n → f i = g i := fun i hi => by
  have := congrArg (fun l => l[i]?) h
  simpa [hi] using this
theorem list_getD {α : Type} {d : α} {xs ys : List α} (hl : xs.length = ys.length) (h : ∀ i, i < xs.length → xs.getD i d = ys.getD i d) : xs = ys := by
  refine List.ext_getElem hl fun i h1 h2 => ?_
  have := h i h1
  simpa [List.getD_eq_getElem?_getD, h1, h2] using this
theorem toNat_03 {a b : Int} (ha : In03 a) (hb : In03 b) (h : a.toNat = b.toNat) : a = b := by
  obtain ⟨a1, _⟩ := ha
  obtain ⟨b1, _⟩ := hb
  omega
theorem kI_inj {p : Prg} (hp : PrgOk p) {s t : St} (hs : StOk p s) (ht : StOk p t) (h : kI s = kI t) : s = t := by
  have h3 := hp.1.1
  unfold kI at h
  obtain ⟨e1, h⟩ := List.append_inj h (by simp)
  obtain ⟨e2, e3⟩ := List.append_inj h (by simp)
  have p1 := map_range_inj e1
  have p2 := map_range_inj e2
  have p3 := map_range_inj e3
  have l1 : s.pc = t.pc := list_getD (d := 0) (by rw [hs.pcl, ht.pcl]) fun i hi => p1 i (by rw [hs.pcl] at hi; omega)
  have l2 : s.regs = t.regs := list_getD (d := 0) (by rw [hs.regl, ht.regl]) fun i hi => toNat_03 (getD_03 hs.regb i) (getD_03 ht.regb i) (p2 i (by rw [hs.regl] at hi; omega))
  have l3 : s.mem = t.mem := list_getD (d := 0) (by rw [hs.meml, ht.meml]) fun i hi => toNat_03 (getD_03 hs.memb i) (getD_03 ht.memb i) (p3 i (by rw [hs.meml] at hi; omega))
  cases s
  cases t
  simp only at l1 l2 l3
  subst l1 l2 l3
  rfl
theorem map_toNat_inj : ∀ {xs ys : List Int}, (∀ v ∈ xs, In03 v) → (∀ v ∈ ys, In03 v) → xs.map Int.toNat = ys.map Int.toNat → xs = ys
  | [], [], _, _, _ => rfl
  | [], _ :: _, _, _, h => by simp at h
  | _ :: _, [], _, _, h => by simp at h
  | a :: xs, b :: ys, hx, hy, h => by
    simp only [List.map_cons, List.cons.injEq] at h
    rw [toNat_03 (hx a (by simp)) (hy b (by simp)) h.1, map_toNat_inj (fun v hv => hx v (List.mem_cons_of_mem _ hv)) (fun v hv => hy v (List.mem_cons_of_mem _ hv)) h.2]
theorem kS_inj {p : Prg} {s t : St} (hs : StOk p s) (ht : StOk p t) (h : kS s = kS t) : s = t := by
  unfold kS at h
  obtain ⟨l1, h⟩ := List.append_inj h (by rw [hs.pcl, ht.pcl])
  obtain ⟨e2, e3⟩ := List.append_inj h (by simp [hs.regl, ht.regl])
  have l2 := map_toNat_inj hs.regb ht.regb e2
  have l3 := map_toNat_inj hs.memb ht.memb e3
  cases s
  cases t
  simp only at l1 l2 l3
  subst l1 l2 l3
  rfl
theorem kI_lt {p : Prg} (hp : PrgOk p) {s : St} (hs : StOk p s) : ∀ n ∈ kI s, n < 256 := fun n hn => by
  unfold kI at hn
  rcases List.mem_append.1 hn with hn | hn
  · obtain ⟨t, _, rfl⟩ := List.mem_map.1 hn
    have := hs.pcb t
    have := (thr_ok hp t).1
    omega
  · rcases List.mem_append.1 hn with hn | hn
    · obtain ⟨t, _, rfl⟩ := List.mem_map.1 hn
      have := (getD_03 hs.regb t).2
      omega
    · obtain ⟨t, _, rfl⟩ := List.mem_map.1 hn
      have := (getD_03 hs.memb t).2
      omega
theorem kS_lt {p : Prg} (hp : PrgOk p) {s : St} (hs : StOk p s) : ∀ n ∈ kS s, n < 256 := fun n hn => by
  unfold kS at hn
  rcases List.mem_append.1 hn with hn | hn
  · obtain ⟨i, hi, rfl⟩ := List.getElem_of_mem hn
    have h1 := hs.pcb i
    have h2 := (thr_ok hp i).1
    unfold pcS at h1
    rw [List.getD_eq_getElem?_getD, List.getElem?_eq_getElem hi] at h1
    simp only [Option.getD_some] at h1
    omega
  · rcases List.mem_append.1 hn with hn | hn
    · obtain ⟨v, hv, rfl⟩ := List.mem_map.1 hn
      have := (hs.regb v hv).2
      omega
    · obtain ⟨v, hv, rfl⟩ := List.mem_map.1 hn
      have := (hs.memb v hv).2
      omega
def keyI (s : St) : ByteArray := byt (kI s)
def keyS (s : St) : ByteArray := byt (kS s)
theorem keyI_inj {p : Prg} (hp : PrgOk p) {s t : St} (hs : StOk p s) (ht : StOk p t) (h : keyI s = keyI t) : s = t := kI_inj hp hs ht (byt_inj (kI_lt hp hs) (kI_lt hp ht) h)
theorem keyS_inj {p : Prg} (hp : PrgOk p) {s t : St} (hs : StOk p s) (ht : StOk p t) (h : keyS s = keyS t) : s = t := kS_inj hs ht (byt_inj (kS_lt hp hs) (kS_lt hp ht) h)

end Go.Proofs.Ytcckflijaolnkaa
