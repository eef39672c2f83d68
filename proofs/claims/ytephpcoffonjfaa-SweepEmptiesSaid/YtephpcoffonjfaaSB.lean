/- Sweep: runs, what comes before what, what was swept. No condition. -/
import Derived.Test.YtephpcoffonjfaaSA
namespace Go.Proofs.Ytephpcoffonjfaa.Am
open Go

structure Sw where
  run : Int
  who : Int
  at_ : Int
  found : Int
abbrev eSw (w : Sw) : List Cell := [I w.run, I w.who, I w.at_, I w.found]
structure Sp where
  runs : List Int
  swept : List Sw
  begun : Int
abbrev eSp (s : Sp) : List Cell := [.ro 1 (s.runs.map e1), .ro 4 (s.swept.map eSw), I s.begun]
theorem any_true {α : Type} {p : α → Bool} {l : List α} {k : Nat} {a : α} (h : l[k]? = some a) (hp : p a = true) : l.any p = true := List.any_eq_true.2 ⟨a, List.mem_of_getElem? h, hp⟩
theorem any_false {α : Type} {p : α → Bool} {l : List α} {k : Nat} (h : ∀ (j : Nat) b, j < k → l[j]? = some b → p b = false) (hk : l.length ≤ k) : l.any p = false := by
  rw [List.any_eq_false]
  intro x hx
  obtain ⟨j, hj⟩ := List.getElem?_of_mem hx
  have := h j x (by have := (List.getElem?_eq_some_iff.1 hj).1; omega) hj
  simp [this]
theorem more_false {α : Type} {p : α → Bool} {l : List α} {k : Nat} {n : α} (h : ∀ (j : Nat) b, j < k → l[j]? = some b → p b = false) (hg : l[k]? = some n) (hp : p n = false) : ∀ (j : Nat) b, j < k + 1 → l[j]? = some b → p b = false := by
  intro j b hj hb
  by_cases hjk : j = k
  · subst hjk; rw [hg] at hb; injection hb with hb; subst hb; exact hp
  · exact h j b (by omega) hb
theorem f46 (n lo hi : Int) (K : List Vl → Prop) : FC F 46 [vI n, vI lo, vI hi] K ↔ K [.c (B (inn n lo hi))] := by
  rw [fc_run F46]
  by_cases h : lo ≤ n <;> simp [b46, h, inn]
theorem f72 (m : Mp) (id : Int) (h : Okm m) (K : List Vl → Prop) : FC F 72 [.v (.agg (eM m)), vI id] K ↔ K [.agg (eRn (findRn m id))] := by
  rw [fc_run F72]
  have h1 := f71 m id h.r
  simp [b72, h1]
theorem f73 (m : Mp) (n : Int) (h : Okm m) (K : List Vl → Prop) : FC F 73 [.v (.agg (eM m)), vI n] K ↔ K [.c (B (m.bases.contains n))] := by
  rw [fc_run F73]
  have h1 := f41 m.bases n h.b
  rw [show m.bases.contains n = m.bases.contains n from rfl] at h1
  simp [b73, h1]
def bef (m : Mp) (a b : Int) : Bool := hasRn m a && hasRn m b && ((findRn m a).to == (findRn m b).fr)
theorem f80 (m : Mp) (a b : Int) (h : Okm m) (K : List Vl → Prop) : FC F 80 [.v (.agg (eM m)), vI a, vI b] K ↔ K [.c (B (bef m a b))] := by
  rw [fc_run F80]
  have h1 := f66 m a h.r
  have h2 := f66 m b h.r
  by_cases c1 : hasRn m a = true <;> by_cases c2 : hasRn m b = true <;> simp [b80, h1, h2, c1, c2, bef]
def outB (m : Mp) (a : Int) : Bool := hasRn m a && m.bases.contains (findRn m a).to
theorem f78 (m : Mp) (a : Int) (h : Okm m) (K : List Vl → Prop) : FC F 78 [.v (.agg (eM m)), vI a] K ↔ K [.c (B (outB m a))] := by
  rw [fc_run F78]
  have h1 := f66 m a h.r
  have h2 := f33 m.bases (findRn m a).to h.b
  by_cases c1 : hasRn m a = true <;> simp [b78, h1, h2, c1, outB]
theorem f79 (m : Mp) (l : List Int) (a : Int) (h : Okm m) (hl : l.length ≤ 9223372036854775807) (K : List Vl → Prop) : FC F 79 [.v (.agg (eM m)), .v (.c (.ro 1 (l.map e1))), vI a] K ↔ K [.c (I (idxI (fun b => bef m a b) l))] := by
  refine FC.rule ?_ K
  rw [fc_run F79]
  simp [b79]
  refine run_loop (fun q s => ∃ k, k ≤ l.length ∧ q = l.length - k ∧ s.fr 1 = .v (.c (.ro 1 (l.map e1))) ∧ s.fr 2 = vI a ∧ s.fr 3 = .ptr (0, 3) 0 ∧ s.mu.box (0, 3) = some (eM m) ∧ s.fr 7 = vI k ∧ ∀ (j : Nat) x, j < k → l[j]? = some x → bef m a x = false) l.length ⟨0, by omega, by omega, by simp, by simp, by simp, by simp, by simp, by simp⟩ ?_
  rintro J hJ q ⟨fr, μ⟩ ⟨k, hk, rfl, h1, h2, h3, hb, h7, hn⟩
  simp only at h1 h2 h3 hb h7
  by_cases hkl : k < l.length
  · obtain ⟨x, hn'⟩ : ∃ x, l[k] = x := ⟨_, rfl⟩
    have hget : l[k]? = some x := by rw [← hn']; exact List.getElem?_eq_getElem hkl
    have hc := f80 m a x h
    by_cases hp : bef m a x = true
    · have : idxI (fun b => bef m a b) l = k := by simp only [idxI, idx_at hget hp hn]
      simp [h1, h2, h3, hb, h7, hkl, hn', hc, hp, this]
    · have hp' : bef m a x = false := by simpa using hp
      have hw := wrapS (n := k) (by omega)
      simp [h1, h2, h3, hb, h7, hkl, hn', hc, hp', hw]
      exact ⟨l.length - (k + 1), by omega, hJ _ _ ⟨k + 1, by omega, rfl, by simp [h1], by simp [h2], by simp [h3], by simp [hb], by simp, more_false hn hget hp'⟩⟩
  · have : idxI (fun b => bef m a b) l = -1 := by
      simp only [idxI]
      rw [idx_none fun j b hb => hn j b (by have := (List.getElem?_eq_some_iff.1 hb).1; omega) hb]
    simp [h1, h2, h3, hb, h7, hkl, this]
def swB (l : List Sw) (id : Int) : Bool := l.any fun w => w.run == id
theorem f47 (l : List Sw) (id : Int) (hl : l.length ≤ 9223372036854775807) (K : List Vl → Prop) : FC F 47 [.v (.c (.ro 4 (l.map eSw))), vI id] K ↔ K [.c (B (swB l id))] := by
  refine FC.rule ?_ K
  rw [fc_run F47]
  simp [b47]
  refine run_loop (fun q s => ∃ k, k ≤ l.length ∧ q = l.length - k ∧ s.fr 0 = .v (.c (.ro 4 (l.map eSw))) ∧ s.fr 1 = vI id ∧ s.fr 5 = vI k ∧ ∀ (j : Nat) x, j < k → l[j]? = some x → (x.run == id) = false) l.length ⟨0, by omega, by omega, by simp, by simp, by simp, by simp⟩ ?_
  rintro J hJ q ⟨fr, μ⟩ ⟨k, hk, rfl, h0, h1, h5, hn⟩
  simp only at h0 h1 h5
  by_cases hkl : k < l.length
  · obtain ⟨x, hn'⟩ : ∃ x, l[k] = x := ⟨_, rfl⟩
    have hget : l[k]? = some x := by rw [← hn']; exact List.getElem?_eq_getElem hkl
    by_cases hp : x.run = id
    · have : swB l id = true := any_true hget (by simp [hp])
      simp [h0, h1, h5, hkl, hn', hp, this]
    · have hp' : (x.run == id) = false := by simpa using hp
      have hw := wrapS (n := k) (by omega)
      simp [h0, h1, h5, hkl, hn', hp, hw]
      exact ⟨l.length - (k + 1), by omega, hJ _ _ ⟨k + 1, by omega, rfl, by simp [h0], by simp [h1], by simp, more_false hn hget hp'⟩⟩
  · have : swB l id = false := any_false hn (by omega)
    simp [h0, h5, hkl, this]
theorem f76 (n : Sw) (id : Int) (K : List Vl → Prop) : FC F 76 [.v (.agg (eSw n)), .cptr [I id] 0] K ↔ K [.c (B (n.run == id))] := by
  rw [fc_run F76]
  simp [b76]
theorem f85 (l : List Sw) (id : Int) (hl : l.length ≤ 9223372036854775807) (K : List Vl → Prop) : FC F 85 [.v (.c (.ro 4 (l.map eSw))), .v (.c (.clo 76 [[I id]]))] K ↔ K [.c (I (idxI (fun n => n.run == id) l))] := by
  refine FC.rule ?_ K
  rw [fc_run F85]
  simp [b85]
  refine run_loop (fun m s => ∃ k, k ≤ l.length ∧ m = l.length - k ∧ s.fr 0 = .v (.c (.ro 4 (l.map eSw))) ∧ s.fr 1 = .v (.c (.clo 76 [[I id]])) ∧ s.fr 7 = vI l.length ∧ s.fr 8 = vI k ∧ ∀ (j : Nat) n, j < k → l[j]? = some n → (n.run == id) = false) l.length ⟨0, by omega, by omega, by simp, by simp, by simp, by simp, by simp⟩ ?_
  rintro J hJ m ⟨fr, μ⟩ ⟨k, hk, rfl, h0, h1, h7, h8, hn⟩
  simp only at h0 h1 h7 h8
  by_cases hkl : k < l.length
  · obtain ⟨n, hn'⟩ : ∃ n, l[k] = n := ⟨_, rfl⟩
    have hget : l[k]? = some n := by rw [← hn']; exact List.getElem?_eq_getElem hkl
    have hc := f76 n id
    by_cases hp : (n.run == id) = true
    · have : idxI (fun n => n.run == id) l = k := by simp only [idxI, idx_at hget hp hn]
      simp [h0, h1, h7, h8, hkl, hn', hc, hp, this]
    · have hp' : (n.run == id) = false := by simpa using hp
      have hw := wrapS (n := k) (by omega)
      simp [h0, h1, h7, h8, hkl, hn', hc, hp', hw]
      exact ⟨l.length - (k + 1), by omega, hJ _ _ ⟨k + 1, by omega, rfl, by simp [h0], by simp [h1], by simp [h7], by simp, more_false hn hget hp'⟩⟩
  · have : idxI (fun n => n.run == id) l = -1 := by
      simp only [idxI]
      rw [idx_none fun j b hb => hn j b (by have := (List.getElem?_eq_some_iff.1 hb).1; omega) hb]
    simp [h0, h1, h7, h8, hkl, this]
theorem idxI_any {α : Type} (p : α → Bool) (l : List α) : decide (0 ≤ idxI p l) = l.any p := by
  unfold idxI
  cases h : idx p l with
  | some k =>
    obtain ⟨a, h1, h2⟩ := idx_some h
    rw [any_true h1 h2]; simp
  | none =>
    have : l.any p = false := by
      cases hb : l.any p with
      | false => rfl
      | true =>
        exfalso
        obtain ⟨a, ha, hp⟩ := List.any_eq_true.1 hb
        clear hb
        induction l with
        | nil => simp at ha
        | cons x l ih =>
          simp only [idx] at h
          split at h
          · cases h
          · rename_i hx
            rcases List.mem_cons.1 ha with rfl | ha
            · exact hx hp
            · cases hk : idx p l with
              | none => exact ih hk ha
              | some k => rw [hk] at h; cases h
    rw [this]; rfl
theorem f75 (l : List Sw) (id : Int) (hl : l.length ≤ 9223372036854775807) (K : List Vl → Prop) : FC F 75 [.v (.c (.ro 4 (l.map eSw))), .v (.c (.clo 76 [[I id]]))] K ↔ K [.c (B (swB l id))] := by
  rw [fc_run F75]
  have h := f85 l id hl
  unfold swB
  rw [← idxI_any]
  simp [b75, h]
theorem f42 (l : List Sw) (id : Int) (hl : l.length ≤ 9223372036854775807) (K : List Vl → Prop) : FC F 42 [.v (.c (.ro 4 (l.map eSw))), vI id] K ↔ K [.c (B (swB l id))] := by
  rw [fc_run F42]
  have h := f75 l id hl
  simp [b42, h]
def freeB (m : Mp) (runs : List Int) (l : List Sw) (id : Int) : Bool := !runs.any fun a => bef m a id && !swB l a
theorem f48 (m : Mp) (runs : List Int) (l : List Sw) (id : Int) (h : Okm m) (hr : runs.length ≤ 9223372036854775807) (hl : l.length ≤ 9223372036854775807) (K : List Vl → Prop) : FC F 48 [.v (.agg (eM m)), .v (.c (.ro 1 (runs.map e1))), .v (.c (.ro 4 (l.map eSw))), vI id] K ↔ K [.c (B (freeB m runs l id))] := by
  refine FC.rule ?_ K
  rw [fc_run F48]
  simp [b48]
  refine run_loop (fun q s => ∃ k, k ≤ runs.length ∧ q = runs.length - k ∧ s.fr 1 = .v (.c (.ro 1 (runs.map e1))) ∧ s.fr 2 = .v (.c (.ro 4 (l.map eSw))) ∧ s.fr 3 = vI id ∧ s.fr 4 = .ptr (0, 4) 0 ∧ s.mu.box (0, 4) = some (eM m) ∧ s.fr 9 = vI k ∧ ∀ (j : Nat) x, j < k → runs[j]? = some x → (bef m x id && !swB l x) = false) runs.length ⟨0, by omega, by omega, by simp, by simp, by simp, by simp, by simp, by simp, by simp⟩ ?_
  rintro J hJ q ⟨fr, μ⟩ ⟨k, hk, rfl, h1, h2, h3, h4, hb, h9, hn⟩
  simp only at h1 h2 h3 h4 hb h9
  by_cases hkl : k < runs.length
  · obtain ⟨x, hn'⟩ : ∃ x, runs[k] = x := ⟨_, rfl⟩
    have hget : runs[k]? = some x := by rw [← hn']; exact List.getElem?_eq_getElem hkl
    have hc := f80 m x id h
    have hd := f47 l x hl
    have hw := wrapS (n := k) (by omega)
    by_cases c1 : bef m x id = true
    · by_cases c2 : swB l x = true
      · simp [h1, h2, h3, h4, hb, h9, hkl, hn', hc, hd, c1, c2, hw]
        exact ⟨runs.length - (k + 1), by omega, hJ _ _ ⟨k + 1, by omega, rfl, by simp [h1], by simp [h2], by simp [h3], by simp [h4], by simp [hb], by simp, more_false hn hget (by simp [c2])⟩⟩
      · have c2' : swB l x = false := by simpa using c2
        have : freeB m runs l id = false := by unfold freeB; rw [any_true hget (by simp [c1, c2'])]; rfl
        simp [h1, h2, h3, h4, hb, h9, hkl, hn', hc, hd, c1, c2', hw, this]
    · have c1' : bef m x id = false := by simpa using c1
      simp [h1, h3, h4, hb, h9, hkl, hn', hc, c1', hw]
      exact ⟨runs.length - (k + 1), by omega, hJ _ _ ⟨k + 1, by omega, rfl, by simp [h1], by simp [h2], by simp [h3], by simp [h4], by simp [hb], by simp, more_false hn hget (by simp [c1'])⟩⟩
  · have : freeB m runs l id = true := by unfold freeB; rw [any_false hn (by omega)]; rfl
    simp [h1, h4, hb, h9, hkl, this]
end Go.Proofs.Ytephpcoffonjfaa.Am
