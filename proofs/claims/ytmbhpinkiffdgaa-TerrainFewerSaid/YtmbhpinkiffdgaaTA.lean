/- Terrain: searching. No condition. -/
import Derived.Test.YtmbhpinkiffdgaaWalk
import Derived.Test.YtmbhpinkiffdgaaExec
namespace Go.Proofs.Ytmbhpinkiffdgaa.Am
open Go

structure Nd where
  id : Int
  alt : Int
abbrev eNd (n : Nd) : List Cell := [I n.id, I n.alt]
def zNd : Nd := ⟨0, 0⟩
structure Lf where
  id : Int
  op : Int
  fr : Int
  to : Int
  len : Int
  speed : Int
  seats : Int
  spac : Int
abbrev eLf (n : Lf) : List Cell := [I n.id, I n.op, I n.fr, I n.to, I n.len, I n.speed, I n.seats, I n.spac]
def zLf : Lf := ⟨0, 0, 0, 0, 0, 0, 0, 0⟩
structure Rn where
  id : Int
  op : Int
  fr : Int
  to : Int
  grade : Int
  zone : Int
  len : Int
abbrev eRn (n : Rn) : List Cell := [I n.id, I n.op, I n.fr, I n.to, I n.grade, I n.zone, I n.len]
def zRn : Rn := ⟨0, 0, 0, 0, 0, 0, 0⟩
structure Mp where
  nodes : List Nd
  lifts : List Lf
  runs : List Rn
  bases : List Int
abbrev e1 (n : Int) : List Cell := [I n]
abbrev eM (m : Mp) : List Cell := [.ro 2 (m.nodes.map eNd), .ro 8 (m.lifts.map eLf), .ro 7 (m.runs.map eRn), .ro 1 (m.bases.map e1)]
def R64 (n : Int) : Prop := -9223372036854775808 ≤ n ∧ n ≤ 9223372036854775807
theorem wrap64 {n : Int} (h : R64 n) : IntKind.i64.wrap n = n := by
  unfold IntKind.wrap
  simp only [R64] at h
  simp [IntKind.bits, IntKind.signed]
  omega
theorem wrapS {n : Nat} (h : n < 9223372036854775807) : IntKind.i64.wrap ((n : Int) + 1) = ((n + 1 : Nat) : Int) := by
  have := wrap64 (n := (n : Int) + 1) ⟨by omega, by omega⟩
  rw [this]; omega
/-- The first place at which a test holds. -/
def idx {α : Type} (p : α → Bool) : List α → Option Nat
  | [] => none
  | a :: r => if p a = true then some 0 else (idx p r).map (· + 1)
theorem idx_at {α : Type} {p : α → Bool} : ∀ {l : List α} {k : Nat} {a : α}, l[k]? = some a → p a = true → (∀ j b, j < k → l[j]? = some b → p b = false) → idx p l = some k
  | [], k, a, h, _, _ => by simp at h
  | x :: l, 0, a, h, hp, _ => by simp at h; subst h; simp [idx, hp]
  | x :: l, k + 1, a, h, hp, hn => by
    have h0 := hn 0 x (by omega) rfl
    simp only [idx, h0, Bool.false_eq_true, if_false]
    rw [idx_at (l := l) (k := k) (by simpa using h) hp fun j b hj hb => hn (j + 1) b (by omega) (by simpa using hb)]
    rfl
theorem idx_none {α : Type} {p : α → Bool} : ∀ {l : List α}, (∀ (j : Nat) b, l[j]? = some b → p b = false) → idx p l = none
  | [], _ => rfl
  | x :: l, hn => by
    simp only [idx, hn 0 x rfl, Bool.false_eq_true, if_false]
    rw [idx_none fun j b hb => hn (j + 1) b (by simpa using hb)]; rfl
theorem idx_some {α : Type} {p : α → Bool} : ∀ {l : List α} {k : Nat}, idx p l = some k → ∃ a, l[k]? = some a ∧ p a = true
  | [], k, h => by cases h
  | x :: l, k, h => by
    simp only [idx] at h
    split at h
    · rename_i hp; injection h with h; subst h; exact ⟨x, rfl, hp⟩
    · cases hk : idx p l with
      | none => rw [hk] at h; cases h
      | some j => rw [hk] at h; injection h with h; subst h; obtain ⟨a, h1, h2⟩ := idx_some hk; exact ⟨a, by simpa using h1, h2⟩
def idxI {α : Type} (p : α → Bool) (l : List α) : Int := match idx p l with | some k => k | none => -1
theorem idx_lt {α : Type} {p : α → Bool} {l : List α} {k : Nat} (h : idx p l = some k) : k < l.length := by
  obtain ⟨a, h1, _⟩ := idx_some h
  exact (List.getElem?_eq_some_iff.1 h1).1
/-- The first element at which a test holds, or the zero. -/
def fnd {α : Type} (p : α → Bool) (z : α) (l : List α) : α := match idx p l with | some k => (l[k]?).getD z | none => z
theorem f54 (n lo hi : Int) (K : List Vl → Prop) : FC F 54 [vI n, vI lo, vI hi] K ↔ K [.c (B (decide (lo ≤ n) && decide (n ≤ hi)))] := by
  rw [fc_run F54]
  by_cases h : lo ≤ n <;> simp [b54, h]
theorem f55 (n lo hi : Int) (K : List Vl → Prop) : FC F 55 [vI n, vI lo, vI hi] K ↔ K [.c (B (decide (lo ≤ n) && decide (n ≤ hi)))] := by
  rw [fc_run F55]
  by_cases h : lo ≤ n <;> simp [b55, h]

theorem f44 (n : Nd) (id : Int) (K : List Vl → Prop) : FC F 44 [.v (.agg (eNd n)), .cptr [I id] 0] K ↔ K [.c (B (n.id == id))] := by
  rw [fc_run F44]
  simp [b44]
theorem f43 (l : List Nd) (id : Int) (hl : l.length ≤ 9223372036854775807) (K : List Vl → Prop) : FC F 43 [.v (.c (.ro 2 (l.map eNd))), .v (.c (.clo 44 [[I id]]))] K ↔ K [.c (I (idxI (fun n => n.id == id) l))] := by
  refine FC.rule ?_ K
  rw [fc_run F43]
  simp [b43]
  refine run_loop (fun m s => ∃ k, k ≤ l.length ∧ m = l.length - k ∧ s.fr 0 = .v (.c (.ro 2 (l.map eNd))) ∧ s.fr 1 = .v (.c (.clo 44 [[I id]])) ∧ s.fr 7 = vI l.length ∧ s.fr 8 = vI k ∧ ∀ (j : Nat) n, j < k → l[j]? = some n → (n.id == id) = false) l.length ⟨0, by omega, by omega, by simp, by simp, by simp, by simp, by simp⟩ ?_
  rintro J hJ m ⟨fr, μ⟩ ⟨k, hk, rfl, h0, h1, h7, h8, hn⟩
  simp only at h0 h1 h7 h8
  by_cases hkl : k < l.length
  · obtain ⟨n, hn'⟩ : ∃ n, l[k] = n := ⟨_, rfl⟩
    have hget : l[k]? = some n := by rw [← hn']; exact List.getElem?_eq_getElem hkl
    have hc := f44 n id
    by_cases hp : (n.id == id) = true
    · have : idxI (fun n => n.id == id) l = k := by simp only [idxI, idx_at hget hp hn]
      simp [h0, h1, h7, h8, hkl, hn', hc, hp, this]
    · have hp' : (n.id == id) = false := by simpa using hp
      have hw := wrapS (n := k) (by omega)
      simp [h0, h1, h7, h8, hkl, hn', hc, hp', hw]
      refine ⟨l.length - (k + 1), by omega, hJ _ _ ⟨k + 1, by omega, rfl, by simp [h0], by simp [h1], by simp [h7], by simp, fun j m hj hm => ?_⟩⟩
      by_cases hjk : j = k
      · subst hjk; rw [hget] at hm; injection hm with hm; subst hm; exact hp'
      · exact hn j m (by omega) hm
  · have : idxI (fun n => n.id == id) l = -1 := by
      simp only [idxI]
      rw [idx_none fun j b hb => hn j b (by have := (List.getElem?_eq_some_iff.1 hb).1; omega) hb]
    simp [h0, h1, h7, h8, hkl, this]
def findNd (m : Mp) (id : Int) : Nd := fnd (fun n => n.id == id) zNd m.nodes
def hasNd (m : Mp) (id : Int) : Bool := (idx (fun n => n.id == id) m.nodes).isSome
theorem f15 (m : Mp) (id : Int) (hl : m.nodes.length ≤ 9223372036854775807) (K : List Vl → Prop) : FC F 15 [.v (.agg (eM m)), vI id] K ↔ K [.agg (eNd (findNd m id)), .c (B (hasNd m id))] := by
  rw [fc_run F15]
  have hc := f43 m.nodes id hl
  cases hi : idx (fun n => n.id == id) m.nodes with
  | none =>
    have h1 : idxI (fun n => n.id == id) m.nodes = -1 := by simp only [idxI, hi]
    simp [b15, hc, h1, findNd, hasNd, fnd, hi, zNd]
  | some k =>
    have h1 : idxI (fun n => n.id == id) m.nodes = k := by simp only [idxI, hi]
    have hlt := idx_lt hi
    have hneg : ¬ ((k : Int) < 0) := by omega
    simp [b15, hc, h1, findNd, hasNd, fnd, hi, hlt, hneg]
theorem f16 (m : Mp) (id : Int) (hl : m.nodes.length ≤ 9223372036854775807) (K : List Vl → Prop) : FC F 16 [.v (.agg (eM m)), vI id] K ↔ K [.agg (eNd (findNd m id)), .c (B (hasNd m id))] := by
  refine FC.rule ?_ K
  rw [fc_run F16]
  simp [b16]
  refine run_loop (fun n s => ∃ k, k ≤ m.nodes.length ∧ n = m.nodes.length - k ∧ s.fr 1 = vI id ∧ s.fr 2 = .ptr (0, 2) 0 ∧ s.fr 4 = .ptr (0, 4) 0 ∧ s.fr 6 = vI k ∧ s.mu.box (0, 2) = some (eM m) ∧ s.mu.box (0, 4) = some (eNd zNd) ∧ ∀ (j : Nat) n, j < k → m.nodes[j]? = some n → (n.id == id) = false) m.nodes.length ⟨0, by omega, by omega, by simp, by simp, by simp, by simp, by simp, by simp [zNd], by simp⟩ ?_
  rintro J hJ n ⟨fr, μ⟩ ⟨k, hk, rfl, h1, h2, h4, h6, m2, m4, hn⟩
  simp only at h1 h2 h4 h6 m2 m4
  by_cases hkl : k < m.nodes.length
  · obtain ⟨n, hn'⟩ : ∃ n, m.nodes[k] = n := ⟨_, rfl⟩
    have hget : m.nodes[k]? = some n := by rw [← hn']; exact List.getElem?_eq_getElem hkl
    by_cases hp : n.id = id
    · have hi : idx (fun n => n.id == id) m.nodes = some k := idx_at hget (by simpa using hp) hn
      simp [h1, h2, h4, h6, m2, m4, hkl, hn', hp, findNd, hasNd, fnd, hi, hget]
    · have hw := wrapS (n := k) (by omega)
      simp [h1, h2, h4, h6, m2, m4, hkl, hn', hp, hw]
      refine ⟨m.nodes.length - (k + 1), by omega, hJ _ _ ⟨k + 1, by omega, rfl, by simp [h1], by simp [h2], by simp [h4], by simp, by simp [m2], by simp [m4], fun j x hj hm => ?_⟩⟩
      by_cases hjk : j = k
      · subst hjk; rw [hget] at hm; injection hm with hm; subst hm; simpa using hp
      · exact hn j x (by omega) hm
  · have hi : idx (fun n => n.id == id) m.nodes = none := idx_none fun j b hb => hn j b (by have := (List.getElem?_eq_some_iff.1 hb).1; omega) hb
    simp [h1, h2, h4, h6, m2, m4, hkl, findNd, hasNd, fnd, hi, zNd]

theorem f46 (n : Lf) (id : Int) (K : List Vl → Prop) : FC F 46 [.v (.agg (eLf n)), .cptr [I id] 0] K ↔ K [.c (B (n.id == id))] := by
  rw [fc_run F46]
  simp [b46]
theorem f45 (l : List Lf) (id : Int) (hl : l.length ≤ 9223372036854775807) (K : List Vl → Prop) : FC F 45 [.v (.c (.ro 8 (l.map eLf))), .v (.c (.clo 46 [[I id]]))] K ↔ K [.c (I (idxI (fun n => n.id == id) l))] := by
  refine FC.rule ?_ K
  rw [fc_run F45]
  simp [b45]
  refine run_loop (fun m s => ∃ k, k ≤ l.length ∧ m = l.length - k ∧ s.fr 0 = .v (.c (.ro 8 (l.map eLf))) ∧ s.fr 1 = .v (.c (.clo 46 [[I id]])) ∧ s.fr 7 = vI l.length ∧ s.fr 8 = vI k ∧ ∀ (j : Nat) n, j < k → l[j]? = some n → (n.id == id) = false) l.length ⟨0, by omega, by omega, by simp, by simp, by simp, by simp, by simp⟩ ?_
  rintro J hJ m ⟨fr, μ⟩ ⟨k, hk, rfl, h0, h1, h7, h8, hn⟩
  simp only at h0 h1 h7 h8
  by_cases hkl : k < l.length
  · obtain ⟨n, hn'⟩ : ∃ n, l[k] = n := ⟨_, rfl⟩
    have hget : l[k]? = some n := by rw [← hn']; exact List.getElem?_eq_getElem hkl
    have hc := f46 n id
    by_cases hp : (n.id == id) = true
    · have : idxI (fun n => n.id == id) l = k := by simp only [idxI, idx_at hget hp hn]
      simp [h0, h1, h7, h8, hkl, hn', hc, hp, this]
    · have hp' : (n.id == id) = false := by simpa using hp
      have hw := wrapS (n := k) (by omega)
      simp [h0, h1, h7, h8, hkl, hn', hc, hp', hw]
      refine ⟨l.length - (k + 1), by omega, hJ _ _ ⟨k + 1, by omega, rfl, by simp [h0], by simp [h1], by simp [h7], by simp, fun j m hj hm => ?_⟩⟩
      by_cases hjk : j = k
      · subst hjk; rw [hget] at hm; injection hm with hm; subst hm; exact hp'
      · exact hn j m (by omega) hm
  · have : idxI (fun n => n.id == id) l = -1 := by
      simp only [idxI]
      rw [idx_none fun j b hb => hn j b (by have := (List.getElem?_eq_some_iff.1 hb).1; omega) hb]
    simp [h0, h1, h7, h8, hkl, this]
def findLf (m : Mp) (id : Int) : Lf := fnd (fun n => n.id == id) zLf m.lifts
def hasLf (m : Mp) (id : Int) : Bool := (idx (fun n => n.id == id) m.lifts).isSome
theorem f17 (m : Mp) (id : Int) (hl : m.lifts.length ≤ 9223372036854775807) (K : List Vl → Prop) : FC F 17 [.v (.agg (eM m)), vI id] K ↔ K [.agg (eLf (findLf m id)), .c (B (hasLf m id))] := by
  rw [fc_run F17]
  have hc := f45 m.lifts id hl
  cases hi : idx (fun n => n.id == id) m.lifts with
  | none =>
    have h1 : idxI (fun n => n.id == id) m.lifts = -1 := by simp only [idxI, hi]
    simp [b17, hc, h1, findLf, hasLf, fnd, hi, zLf]
  | some k =>
    have h1 : idxI (fun n => n.id == id) m.lifts = k := by simp only [idxI, hi]
    have hlt := idx_lt hi
    have hneg : ¬ ((k : Int) < 0) := by omega
    simp [b17, hc, h1, findLf, hasLf, fnd, hi, hlt, hneg]
theorem f18 (m : Mp) (id : Int) (hl : m.lifts.length ≤ 9223372036854775807) (K : List Vl → Prop) : FC F 18 [.v (.agg (eM m)), vI id] K ↔ K [.agg (eLf (findLf m id)), .c (B (hasLf m id))] := by
  refine FC.rule ?_ K
  rw [fc_run F18]
  simp [b18]
  refine run_loop (fun n s => ∃ k, k ≤ m.lifts.length ∧ n = m.lifts.length - k ∧ s.fr 1 = vI id ∧ s.fr 2 = .ptr (0, 2) 0 ∧ s.fr 4 = .ptr (0, 4) 0 ∧ s.fr 6 = vI k ∧ s.mu.box (0, 2) = some (eM m) ∧ s.mu.box (0, 4) = some (eLf zLf) ∧ ∀ (j : Nat) n, j < k → m.lifts[j]? = some n → (n.id == id) = false) m.lifts.length ⟨0, by omega, by omega, by simp, by simp, by simp, by simp, by simp, by simp [zLf], by simp⟩ ?_
  rintro J hJ n ⟨fr, μ⟩ ⟨k, hk, rfl, h1, h2, h4, h6, m2, m4, hn⟩
  simp only at h1 h2 h4 h6 m2 m4
  by_cases hkl : k < m.lifts.length
  · obtain ⟨n, hn'⟩ : ∃ n, m.lifts[k] = n := ⟨_, rfl⟩
    have hget : m.lifts[k]? = some n := by rw [← hn']; exact List.getElem?_eq_getElem hkl
    by_cases hp : n.id = id
    · have hi : idx (fun n => n.id == id) m.lifts = some k := idx_at hget (by simpa using hp) hn
      simp [h1, h2, h4, h6, m2, m4, hkl, hn', hp, findLf, hasLf, fnd, hi, hget]
    · have hw := wrapS (n := k) (by omega)
      simp [h1, h2, h4, h6, m2, m4, hkl, hn', hp, hw]
      refine ⟨m.lifts.length - (k + 1), by omega, hJ _ _ ⟨k + 1, by omega, rfl, by simp [h1], by simp [h2], by simp [h4], by simp, by simp [m2], by simp [m4], fun j x hj hm => ?_⟩⟩
      by_cases hjk : j = k
      · subst hjk; rw [hget] at hm; injection hm with hm; subst hm; simpa using hp
      · exact hn j x (by omega) hm
  · have hi : idx (fun n => n.id == id) m.lifts = none := idx_none fun j b hb => hn j b (by have := (List.getElem?_eq_some_iff.1 hb).1; omega) hb
    simp [h1, h2, h4, h6, m2, m4, hkl, findLf, hasLf, fnd, hi, zLf]

theorem f48 (n : Rn) (id : Int) (K : List Vl → Prop) : FC F 48 [.v (.agg (eRn n)), .cptr [I id] 0] K ↔ K [.c (B (n.id == id))] := by
  rw [fc_run F48]
  simp [b48]
theorem f47 (l : List Rn) (id : Int) (hl : l.length ≤ 9223372036854775807) (K : List Vl → Prop) : FC F 47 [.v (.c (.ro 7 (l.map eRn))), .v (.c (.clo 48 [[I id]]))] K ↔ K [.c (I (idxI (fun n => n.id == id) l))] := by
  refine FC.rule ?_ K
  rw [fc_run F47]
  simp [b47]
  refine run_loop (fun m s => ∃ k, k ≤ l.length ∧ m = l.length - k ∧ s.fr 0 = .v (.c (.ro 7 (l.map eRn))) ∧ s.fr 1 = .v (.c (.clo 48 [[I id]])) ∧ s.fr 7 = vI l.length ∧ s.fr 8 = vI k ∧ ∀ (j : Nat) n, j < k → l[j]? = some n → (n.id == id) = false) l.length ⟨0, by omega, by omega, by simp, by simp, by simp, by simp, by simp⟩ ?_
  rintro J hJ m ⟨fr, μ⟩ ⟨k, hk, rfl, h0, h1, h7, h8, hn⟩
  simp only at h0 h1 h7 h8
  by_cases hkl : k < l.length
  · obtain ⟨n, hn'⟩ : ∃ n, l[k] = n := ⟨_, rfl⟩
    have hget : l[k]? = some n := by rw [← hn']; exact List.getElem?_eq_getElem hkl
    have hc := f48 n id
    by_cases hp : (n.id == id) = true
    · have : idxI (fun n => n.id == id) l = k := by simp only [idxI, idx_at hget hp hn]
      simp [h0, h1, h7, h8, hkl, hn', hc, hp, this]
    · have hp' : (n.id == id) = false := by simpa using hp
      have hw := wrapS (n := k) (by omega)
      simp [h0, h1, h7, h8, hkl, hn', hc, hp', hw]
      refine ⟨l.length - (k + 1), by omega, hJ _ _ ⟨k + 1, by omega, rfl, by simp [h0], by simp [h1], by simp [h7], by simp, fun j m hj hm => ?_⟩⟩
      by_cases hjk : j = k
      · subst hjk; rw [hget] at hm; injection hm with hm; subst hm; exact hp'
      · exact hn j m (by omega) hm
  · have : idxI (fun n => n.id == id) l = -1 := by
      simp only [idxI]
      rw [idx_none fun j b hb => hn j b (by have := (List.getElem?_eq_some_iff.1 hb).1; omega) hb]
    simp [h0, h1, h7, h8, hkl, this]
def findRn (m : Mp) (id : Int) : Rn := fnd (fun n => n.id == id) zRn m.runs
def hasRn (m : Mp) (id : Int) : Bool := (idx (fun n => n.id == id) m.runs).isSome
theorem f19 (m : Mp) (id : Int) (hl : m.runs.length ≤ 9223372036854775807) (K : List Vl → Prop) : FC F 19 [.v (.agg (eM m)), vI id] K ↔ K [.agg (eRn (findRn m id)), .c (B (hasRn m id))] := by
  rw [fc_run F19]
  have hc := f47 m.runs id hl
  cases hi : idx (fun n => n.id == id) m.runs with
  | none =>
    have h1 : idxI (fun n => n.id == id) m.runs = -1 := by simp only [idxI, hi]
    simp [b19, hc, h1, findRn, hasRn, fnd, hi, zRn]
  | some k =>
    have h1 : idxI (fun n => n.id == id) m.runs = k := by simp only [idxI, hi]
    have hlt := idx_lt hi
    have hneg : ¬ ((k : Int) < 0) := by omega
    simp [b19, hc, h1, findRn, hasRn, fnd, hi, hlt, hneg]
theorem f20 (m : Mp) (id : Int) (hl : m.runs.length ≤ 9223372036854775807) (K : List Vl → Prop) : FC F 20 [.v (.agg (eM m)), vI id] K ↔ K [.agg (eRn (findRn m id)), .c (B (hasRn m id))] := by
  refine FC.rule ?_ K
  rw [fc_run F20]
  simp [b20]
  refine run_loop (fun n s => ∃ k, k ≤ m.runs.length ∧ n = m.runs.length - k ∧ s.fr 1 = vI id ∧ s.fr 2 = .ptr (0, 2) 0 ∧ s.fr 4 = .ptr (0, 4) 0 ∧ s.fr 6 = vI k ∧ s.mu.box (0, 2) = some (eM m) ∧ s.mu.box (0, 4) = some (eRn zRn) ∧ ∀ (j : Nat) n, j < k → m.runs[j]? = some n → (n.id == id) = false) m.runs.length ⟨0, by omega, by omega, by simp, by simp, by simp, by simp, by simp, by simp [zRn], by simp⟩ ?_
  rintro J hJ n ⟨fr, μ⟩ ⟨k, hk, rfl, h1, h2, h4, h6, m2, m4, hn⟩
  simp only at h1 h2 h4 h6 m2 m4
  by_cases hkl : k < m.runs.length
  · obtain ⟨n, hn'⟩ : ∃ n, m.runs[k] = n := ⟨_, rfl⟩
    have hget : m.runs[k]? = some n := by rw [← hn']; exact List.getElem?_eq_getElem hkl
    by_cases hp : n.id = id
    · have hi : idx (fun n => n.id == id) m.runs = some k := idx_at hget (by simpa using hp) hn
      simp [h1, h2, h4, h6, m2, m4, hkl, hn', hp, findRn, hasRn, fnd, hi, hget]
    · have hw := wrapS (n := k) (by omega)
      simp [h1, h2, h4, h6, m2, m4, hkl, hn', hp, hw]
      refine ⟨m.runs.length - (k + 1), by omega, hJ _ _ ⟨k + 1, by omega, rfl, by simp [h1], by simp [h2], by simp [h4], by simp, by simp [m2], by simp [m4], fun j x hj hm => ?_⟩⟩
      by_cases hjk : j = k
      · subst hjk; rw [hget] at hm; injection hm with hm; subst hm; simpa using hp
      · exact hn j x (by omega) hm
  · have hi : idx (fun n => n.id == id) m.runs = none := idx_none fun j b hb => hn j b (by have := (List.getElem?_eq_some_iff.1 hb).1; omega) hb
    simp [h1, h2, h4, h6, m2, m4, hkl, findRn, hasRn, fnd, hi, zRn]

end Go.Proofs.Ytmbhpinkiffdgaa.Am
