/- What is shared with the terrain texts: maps, searching, the checks as specified. No condition. -/
import Derived.Test.YtkoickoceggimaaWalk
import Derived.Test.YtkoickoceggimaaExec
import Derived.Test.YtkoickoceggimaaRow
namespace Go.Proofs.Ytkoickoceggimaa.Am
open Go


structure Nd where
  id : Int
  alt : Int
abbrev eNd (n : Nd) : List Cell := [I n.id, I n.alt]
def zNd : Nd := ⟨0, 0⟩
structure Lf where
  id : Int
  op : Int
  fr : Int
  to : Int
  len : Int
  speed : Int
  seats : Int
  spac : Int
abbrev eLf (n : Lf) : List Cell := [I n.id, I n.op, I n.fr, I n.to, I n.len, I n.speed, I n.seats, I n.spac]
def zLf : Lf := ⟨0, 0, 0, 0, 0, 0, 0, 0⟩
structure Rn where
  id : Int
  op : Int
  fr : Int
  to : Int
  grade : Int
  zone : Int
  len : Int
abbrev eRn (n : Rn) : List Cell := [I n.id, I n.op, I n.fr, I n.to, I n.grade, I n.zone, I n.len]
def zRn : Rn := ⟨0, 0, 0, 0, 0, 0, 0⟩
structure Mp where
  nodes : List Nd
  lifts : List Lf
  runs : List Rn
  bases : List Int
abbrev e1 (n : Int) : List Cell := [I n]
abbrev eM (m : Mp) : List Cell := [.ro 2 (m.nodes.map eNd), .ro 8 (m.lifts.map eLf), .ro 7 (m.runs.map eRn), .ro 1 (m.bases.map e1)]
def R64 (n : Int) : Prop := -9223372036854775808 ≤ n ∧ n ≤ 9223372036854775807
theorem wrap64 {n : Int} (h : R64 n) : IntKind.i64.wrap n = n := by
  unfold IntKind.wrap
  simp only [R64] at h
  simp [IntKind.bits, IntKind.signed]
  omega
theorem wrapS {n : Nat} (h : n < 9223372036854775807) : IntKind.i64.wrap ((n : Int) + 1) = ((n + 1 : Nat) : Int) := by
  have := wrap64 (n := (n : Int) + 1) ⟨by omega, by omega⟩
  rw [this]; omega
/-- The first place at which a test holds. -/
def idx {α : Type} (p : α → Bool) : List α → Option Nat
  | [] => none
  | a :: r => if p a = true then some 0 else (idx p r).map (· + 1)
theorem idx_at {α : Type} {p : α → Bool} : ∀ {l : List α} {k : Nat} {a : α}, l[k]? = some a → p a = true → (∀ j b, j < k → l[j]? = some b → p b = false) → idx p l = some k
  | [], k, a, h, _, _ => by simp at h
  | x :: l, 0, a, h, hp, _ => by simp at h; subst h; simp [idx, hp]
  | x :: l, k + 1, a, h, hp, hn => by
    have h0 := hn 0 x (by omega) rfl
    simp only [idx, h0, Bool.false_eq_true, if_false]
    rw [idx_at (l := l) (k := k) (by simpa using h) hp fun j b hj hb => hn (j + 1) b (by omega) (by simpa using hb)]
    rfl
theorem idx_none {α : Type} {p : α → Bool} : ∀ {l : List α}, (∀ (j : Nat) b, l[j]? = some b → p b = false) → idx p l = none
  | [], _ => rfl
  | x :: l, hn => by
    simp only [idx, hn 0 x rfl, Bool.false_eq_true, if_false]
    rw [idx_none fun j b hb => hn (j + 1) b (by simpa using hb)]; rfl
theorem idx_some {α : Type} {p : α → Bool} : ∀ {l : List α} {k : Nat}, idx p l = some k → ∃ a, l[k]? = some a ∧ p a = true
  | [], k, h => by cases h
  | x :: l, k, h => by
    simp only [idx] at h
    split at h
    · rename_i hp; injection h with h; subst h; exact ⟨x, rfl, hp⟩
    · cases hk : idx p l with
      | none => rw [hk] at h; cases h
      | some j => rw [hk] at h; injection h with h; subst h; obtain ⟨a, h1, h2⟩ := idx_some hk; exact ⟨a, by simpa using h1, h2⟩
def idxI {α : Type} (p : α → Bool) (l : List α) : Int := match idx p l with | some k => k | none => -1
theorem idx_lt {α : Type} {p : α → Bool} {l : List α} {k : Nat} (h : idx p l = some k) : k < l.length := by
  obtain ⟨a, h1, _⟩ := idx_some h
  exact (List.getElem?_eq_some_iff.1 h1).1
/-- The first element at which a test holds, or the zero. -/
def fnd {α : Type} (p : α → Bool) (z : α) (l : List α) : α := match idx p l with | some k => (l[k]?).getD z | none => z
theorem f56 (n lo hi : Int) (K : List Vl → Prop) : FC F 56 [vI n, vI lo, vI hi] K ↔ K [.c (B (decide (lo ≤ n) && decide (n ≤ hi)))] := by
  rw [fc_run F56]
  by_cases h : lo ≤ n <;> simp [b56, h]

theorem f61 (n : Nd) (id : Int) (K : List Vl → Prop) : FC F 61 [.v (.agg (eNd n)), .cptr [I id] 0] K ↔ K [.c (B (n.id == id))] := by
  rw [fc_run F61]
  simp [b61]
theorem f60 (l : List Nd) (id : Int) (hl : l.length ≤ 9223372036854775807) (K : List Vl → Prop) : FC F 60 [.v (.c (.ro 2 (l.map eNd))), .v (.c (.clo 61 [[I id]]))] K ↔ K [.c (I (idxI (fun n => n.id == id) l))] := by
  refine FC.rule ?_ K
  rw [fc_run F60]
  simp [b60]
  refine run_loop (fun m s => ∃ k, k ≤ l.length ∧ m = l.length - k ∧ s.fr 0 = .v (.c (.ro 2 (l.map eNd))) ∧ s.fr 1 = .v (.c (.clo 61 [[I id]])) ∧ s.fr 7 = vI l.length ∧ s.fr 8 = vI k ∧ ∀ (j : Nat) n, j < k → l[j]? = some n → (n.id == id) = false) l.length ⟨0, by omega, by omega, by simp, by simp, by simp, by simp, by simp⟩ ?_
  rintro J hJ m ⟨fr, μ⟩ ⟨k, hk, rfl, h0, h1, h7, h8, hn⟩
  simp only at h0 h1 h7 h8
  by_cases hkl : k < l.length
  · obtain ⟨n, hn'⟩ : ∃ n, l[k] = n := ⟨_, rfl⟩
    have hget : l[k]? = some n := by rw [← hn']; exact List.getElem?_eq_getElem hkl
    have hc := f61 n id
    by_cases hp : (n.id == id) = true
    · have : idxI (fun n => n.id == id) l = k := by simp only [idxI, idx_at hget hp hn]
      simp [h0, h1, h7, h8, hkl, hn', hc, hp, this]
    · have hp' : (n.id == id) = false := by simpa using hp
      have hw := wrapS (n := k) (by omega)
      simp [h0, h1, h7, h8, hkl, hn', hc, hp', hw]
      refine ⟨l.length - (k + 1), by omega, hJ _ _ ⟨k + 1, by omega, rfl, by simp [h0], by simp [h1], by simp [h7], by simp, fun j m hj hm => ?_⟩⟩
      by_cases hjk : j = k
      · subst hjk; rw [hget] at hm; injection hm with hm; subst hm; exact hp'
      · exact hn j m (by omega) hm
  · have : idxI (fun n => n.id == id) l = -1 := by
      simp only [idxI]
      rw [idx_none fun j b hb => hn j b (by have := (List.getElem?_eq_some_iff.1 hb).1; omega) hb]
    simp [h0, h1, h7, h8, hkl, this]
def findNd (m : Mp) (id : Int) : Nd := fnd (fun n => n.id == id) zNd m.nodes
def hasNd (m : Mp) (id : Int) : Bool := (idx (fun n => n.id == id) m.nodes).isSome
theorem f40 (m : Mp) (id : Int) (hl : m.nodes.length ≤ 9223372036854775807) (K : List Vl → Prop) : FC F 40 [.v (.agg (eM m)), vI id] K ↔ K [.agg (eNd (findNd m id)), .c (B (hasNd m id))] := by
  rw [fc_run F40]
  have hc := f60 m.nodes id hl
  cases hi : idx (fun n => n.id == id) m.nodes with
  | none =>
    have h1 : idxI (fun n => n.id == id) m.nodes = -1 := by simp only [idxI, hi]
    simp [b40, hc, h1, findNd, hasNd, fnd, hi, zNd]
  | some k =>
    have h1 : idxI (fun n => n.id == id) m.nodes = k := by simp only [idxI, hi]
    have hlt := idx_lt hi
    have hneg : ¬ ((k : Int) < 0) := by omega
    simp [b40, hc, h1, findNd, hasNd, fnd, hi, hlt, hneg]
theorem f59 (m : Mp) (id : Int) (hl : m.nodes.length ≤ 9223372036854775807) (K : List Vl → Prop) : FC F 59 [.v (.agg (eM m)), vI id] K ↔ K [.agg (eNd (findNd m id)), .c (B (hasNd m id))] := by
  refine FC.rule ?_ K
  rw [fc_run F59]
  simp [b59]
  refine run_loop (fun n s => ∃ k, k ≤ m.nodes.length ∧ n = m.nodes.length - k ∧ s.fr 1 = vI id ∧ s.fr 2 = .ptr (0, 2) 0 ∧ s.fr 4 = .ptr (0, 4) 0 ∧ s.fr 6 = vI k ∧ s.mu.box (0, 2) = some (eM m) ∧ s.mu.box (0, 4) = some (eNd zNd) ∧ ∀ (j : Nat) n, j < k → m.nodes[j]? = some n → (n.id == id) = false) m.nodes.length ⟨0, by omega, by omega, by simp, by simp, by simp, by simp, by simp, by simp [zNd], by simp⟩ ?_
  rintro J hJ n ⟨fr, μ⟩ ⟨k, hk, rfl, h1, h2, h4, h6, m2, m4, hn⟩
  simp only at h1 h2 h4 h6 m2 m4
  by_cases hkl : k < m.nodes.length
  · obtain ⟨n, hn'⟩ : ∃ n, m.nodes[k] = n := ⟨_, rfl⟩
    have hget : m.nodes[k]? = some n := by rw [← hn']; exact List.getElem?_eq_getElem hkl
    by_cases hp : n.id = id
    · have hi : idx (fun n => n.id == id) m.nodes = some k := idx_at hget (by simpa using hp) hn
      simp [h1, h2, h4, h6, m2, m4, hkl, hn', hp, findNd, hasNd, fnd, hi]
    · have hw := wrapS (n := k) (by omega)
      simp [h1, h2, h4, h6, m2, m4, hkl, hn', hp, hw]
      refine ⟨m.nodes.length - (k + 1), by omega, hJ _ _ ⟨k + 1, by omega, rfl, by simp [h1], by simp [h2], by simp [h4], by simp, by simp [m2], by simp [m4], fun j x hj hm => ?_⟩⟩
      by_cases hjk : j = k
      · subst hjk; rw [hget] at hm; injection hm with hm; subst hm; simpa using hp
      · exact hn j x (by omega) hm
  · have hi : idx (fun n => n.id == id) m.nodes = none := idx_none fun j b hb => hn j b (by have := (List.getElem?_eq_some_iff.1 hb).1; omega) hb
    simp [h2, h4, h6, m2, m4, hkl, findNd, hasNd, fnd, hi, zNd]

def findLf (m : Mp) (id : Int) : Lf := fnd (fun n => n.id == id) zLf m.lifts
def hasLf (m : Mp) (id : Int) : Bool := (idx (fun n => n.id == id) m.lifts).isSome
theorem f66 (n : Rn) (id : Int) (K : List Vl → Prop) : FC F 66 [.v (.agg (eRn n)), .cptr [I id] 0] K ↔ K [.c (B (n.id == id))] := by
  rw [fc_run F66]
  simp [b66]
theorem f65 (l : List Rn) (id : Int) (hl : l.length ≤ 9223372036854775807) (K : List Vl → Prop) : FC F 65 [.v (.c (.ro 7 (l.map eRn))), .v (.c (.clo 66 [[I id]]))] K ↔ K [.c (I (idxI (fun n => n.id == id) l))] := by
  refine FC.rule ?_ K
  rw [fc_run F65]
  simp [b65]
  refine run_loop (fun m s => ∃ k, k ≤ l.length ∧ m = l.length - k ∧ s.fr 0 = .v (.c (.ro 7 (l.map eRn))) ∧ s.fr 1 = .v (.c (.clo 66 [[I id]])) ∧ s.fr 7 = vI l.length ∧ s.fr 8 = vI k ∧ ∀ (j : Nat) n, j < k → l[j]? = some n → (n.id == id) = false) l.length ⟨0, by omega, by omega, by simp, by simp, by simp, by simp, by simp⟩ ?_
  rintro J hJ m ⟨fr, μ⟩ ⟨k, hk, rfl, h0, h1, h7, h8, hn⟩
  simp only at h0 h1 h7 h8
  by_cases hkl : k < l.length
  · obtain ⟨n, hn'⟩ : ∃ n, l[k] = n := ⟨_, rfl⟩
    have hget : l[k]? = some n := by rw [← hn']; exact List.getElem?_eq_getElem hkl
    have hc := f66 n id
    by_cases hp : (n.id == id) = true
    · have : idxI (fun n => n.id == id) l = k := by simp only [idxI, idx_at hget hp hn]
      simp [h0, h1, h7, h8, hkl, hn', hc, hp, this]
    · have hp' : (n.id == id) = false := by simpa using hp
      have hw := wrapS (n := k) (by omega)
      simp [h0, h1, h7, h8, hkl, hn', hc, hp', hw]
      refine ⟨l.length - (k + 1), by omega, hJ _ _ ⟨k + 1, by omega, rfl, by simp [h0], by simp [h1], by simp [h7], by simp, fun j m hj hm => ?_⟩⟩
      by_cases hjk : j = k
      · subst hjk; rw [hget] at hm; injection hm with hm; subst hm; exact hp'
      · exact hn j m (by omega) hm
  · have : idxI (fun n => n.id == id) l = -1 := by
      simp only [idxI]
      rw [idx_none fun j b hb => hn j b (by have := (List.getElem?_eq_some_iff.1 hb).1; omega) hb]
    simp [h0, h1, h7, h8, hkl, this]
def findRn (m : Mp) (id : Int) : Rn := fnd (fun n => n.id == id) zRn m.runs
def hasRn (m : Mp) (id : Int) : Bool := (idx (fun n => n.id == id) m.runs).isSome
theorem f48 (m : Mp) (id : Int) (hl : m.runs.length ≤ 9223372036854775807) (K : List Vl → Prop) : FC F 48 [.v (.agg (eM m)), vI id] K ↔ K [.agg (eRn (findRn m id)), .c (B (hasRn m id))] := by
  rw [fc_run F48]
  have hc := f65 m.runs id hl
  cases hi : idx (fun n => n.id == id) m.runs with
  | none =>
    have h1 : idxI (fun n => n.id == id) m.runs = -1 := by simp only [idxI, hi]
    simp [b48, hc, h1, findRn, hasRn, fnd, hi, zRn]
  | some k =>
    have h1 : idxI (fun n => n.id == id) m.runs = k := by simp only [idxI, hi]
    have hlt := idx_lt hi
    have hneg : ¬ ((k : Int) < 0) := by omega
    simp [b48, hc, h1, findRn, hasRn, fnd, hi, hlt, hneg]
theorem f30 (m : Mp) (id : Int) (hl : m.runs.length ≤ 9223372036854775807) (K : List Vl → Prop) : FC F 30 [.v (.agg (eM m)), vI id] K ↔ K [.agg (eRn (findRn m id)), .c (B (hasRn m id))] := by
  refine FC.rule ?_ K
  rw [fc_run F30]
  simp [b30]
  refine run_loop (fun n s => ∃ k, k ≤ m.runs.length ∧ n = m.runs.length - k ∧ s.fr 1 = vI id ∧ s.fr 2 = .ptr (0, 2) 0 ∧ s.fr 4 = .ptr (0, 4) 0 ∧ s.fr 6 = vI k ∧ s.mu.box (0, 2) = some (eM m) ∧ s.mu.box (0, 4) = some (eRn zRn) ∧ ∀ (j : Nat) n, j < k → m.runs[j]? = some n → (n.id == id) = false) m.runs.length ⟨0, by omega, by omega, by simp, by simp, by simp, by simp, by simp, by simp [zRn], by simp⟩ ?_
  rintro J hJ n ⟨fr, μ⟩ ⟨k, hk, rfl, h1, h2, h4, h6, m2, m4, hn⟩
  simp only at h1 h2 h4 h6 m2 m4
  by_cases hkl : k < m.runs.length
  · obtain ⟨n, hn'⟩ : ∃ n, m.runs[k] = n := ⟨_, rfl⟩
    have hget : m.runs[k]? = some n := by rw [← hn']; exact List.getElem?_eq_getElem hkl
    by_cases hp : n.id = id
    · have hi : idx (fun n => n.id == id) m.runs = some k := idx_at hget (by simpa using hp) hn
      simp [h1, h2, h4, h6, m2, m4, hkl, hn', hp, findRn, hasRn, fnd, hi]
    · have hw := wrapS (n := k) (by omega)
      simp [h1, h2, h4, h6, m2, m4, hkl, hn', hp, hw]
      refine ⟨m.runs.length - (k + 1), by omega, hJ _ _ ⟨k + 1, by omega, rfl, by simp [h1], by simp [h2], by simp [h4], by simp, by simp [m2], by simp [m4], fun j x hj hm => ?_⟩⟩
      by_cases hjk : j = k
      · subst hjk; rw [hget] at hm; injection hm with hm; subst hm; simpa using hp
      · exact hn j x (by omega) hm
  · have hi : idx (fun n => n.id == id) m.runs = none := idx_none fun j b hb => hn j b (by have := (List.getElem?_eq_some_iff.1 hb).1; omega) hb
    simp [h2, h4, h6, m2, m4, hkl, findRn, hasRn, fnd, hi, zRn]


def light (m : Mp) : Bool := decide ((m.nodes.length : Int) ≤ 70) && decide ((m.lifts.length : Int) ≤ 70) && decide ((m.runs.length : Int) ≤ 70) && decide ((m.bases.length : Int) ≤ 70)
/-- A map's lengths, as an argument's are. -/
structure Okm (m : Mp) : Prop where
  n : m.nodes.length ≤ 9223372036854775807
  l : m.lifts.length ≤ 9223372036854775807
  r : m.runs.length ≤ 9223372036854775807
  b : m.bases.length ≤ 9223372036854775807

abbrev ti : Ty := .i .i64
theorem fit_int {c : Cell} (h : Fit ti c) : ∃ n, c = I n ∧ R64 n := by
  cases h with
  | i h1 h2 => exact ⟨_, rfl, by simpa [IntKind.min, IntKind.bits, IntKind.signed] using h1, by simpa [IntKind.max, IntKind.bits, IntKind.signed] using h2⟩
theorem row_ints : ∀ {n : Nat} {r : List Cell}, r.length = n → (∀ c ∈ r, Fit ti c) → ∃ l : List Int, r = l.map I ∧ l.length = n ∧ ∀ x ∈ l, R64 x
  | _, [], h, _ => ⟨[], rfl, h, by simp⟩
  | 0, _ :: _, h, _ => by simp at h
  | n + 1, c :: r, h, hf => by
    obtain ⟨x, rfl, hx⟩ := fit_int (hf c (List.mem_cons_self ..))
    obtain ⟨l, h1, h2, h3⟩ := row_ints (n := n) (r := r) (by simpa using h) fun c hc => hf c (by simp [hc])
    exact ⟨x :: l, by rw [h1]; rfl, by simp [h2], by simp [hx]; exact h3⟩
theorem fit_row {es : List Ty} {c : Cell} (h : Fit (.s es) c) : ∃ xs, c = .ro es.length xs ∧ xs.length ≤ maxLen ∧ (∀ r ∈ xs, r.length = es.length) ∧ ∀ r ∈ xs, ∀ (j : Nat) (t : Ty) (c : Cell), es[j]? = some t → r[j]? = some c → Fit t c := by
  cases h with
  | s h1 h2 h3 => exact ⟨_, rfl, h1, h2, h3⟩
theorem fit_ints {n : Nat} {c : Cell} (h : Fit (.s (List.replicate n ti)) c) : ∃ xs : List (List Int), c = .ro n (xs.map fun l => l.map I) ∧ xs.length ≤ maxLen ∧ ∀ l ∈ xs, l.length = n ∧ ∀ x ∈ l, R64 x := by
  obtain ⟨xs, rfl, h1, h2, h3⟩ := fit_row h
  have : ∀ xs : List (List Cell), (∀ r ∈ xs, r.length = n ∧ ∀ c ∈ r, Fit ti c) → ∃ ys : List (List Int), xs = ys.map (fun l => l.map I) ∧ ∀ l ∈ ys, l.length = n ∧ ∀ x ∈ l, R64 x := by
    intro xs
    induction xs with
    | nil => intro _; exact ⟨[], rfl, by simp⟩
    | cons r xs ih =>
      intro h
      obtain ⟨ys, k1, k2⟩ := ih fun r hr => h r (by simp [hr])
      obtain ⟨l, g1, g2, g3⟩ := row_ints (h r (by simp)).1 (h r (by simp)).2
      exact ⟨l :: ys, by rw [k1, g1]; rfl, by
        intro q hq
        rcases List.mem_cons.1 hq with rfl | hq
        · exact ⟨g2, g3⟩
        · exact k2 q hq⟩
  obtain ⟨ys, k1, k2⟩ := this xs fun r hr => by
    have hl := h2 r hr
    rw [List.length_replicate] at hl
    refine ⟨hl, fun c hc => ?_⟩
    obtain ⟨j, hj⟩ := List.getElem?_of_mem hc
    have hjn : j < n := by have := (List.getElem?_eq_some_iff.1 hj).1; omega
    exact h3 r hr j ti c (by simp [hjn]) hj
  exact ⟨ys, by rw [List.length_replicate, k1], by rw [k1] at h1; simpa using h1, k2⟩
theorem rows_as {α : Type} {e : α → List Cell} {n : Nat} {Q : α → Prop} (hd : ∀ l : List Int, l.length = n → (∀ x ∈ l, R64 x) → ∃ a, l.map I = e a ∧ Q a) : ∀ {xs : List (List Int)}, (∀ l ∈ xs, l.length = n ∧ ∀ x ∈ l, R64 x) → ∃ ys : List α, xs.map (fun l => l.map I) = ys.map e ∧ ∀ a ∈ ys, Q a
  | [], _ => ⟨[], rfl, by simp⟩
  | l :: xs, h => by
    obtain ⟨a, h1, h2⟩ := hd l (h l (by simp)).1 (h l (by simp)).2
    obtain ⟨ys, k1, k2⟩ := rows_as (xs := xs) hd fun l hl => h l (by simp [hl])
    exact ⟨a :: ys, by simp only [List.map_cons, k1, h1], by
      intro b hb
      rcases List.mem_cons.1 hb with rfl | hb
      · exact h2
      · exact k2 b hb⟩
structure Rg (m : Mp) : Prop where
  n : ∀ x ∈ m.nodes, R64 x.id ∧ R64 x.alt
  l : ∀ x ∈ m.lifts, R64 x.id ∧ R64 x.op ∧ R64 x.fr ∧ R64 x.to ∧ R64 x.len ∧ R64 x.speed ∧ R64 x.seats ∧ R64 x.spac
  r : ∀ x ∈ m.runs, R64 x.id ∧ R64 x.op ∧ R64 x.fr ∧ R64 x.to ∧ R64 x.grade ∧ R64 x.zone ∧ R64 x.len
  b : ∀ x ∈ m.bases, R64 x
abbrev tyM : Bool × List Ty := (true, [.s [ti, ti], .s [ti, ti, ti, ti, ti, ti, ti, ti], .s [ti, ti, ti, ti, ti, ti, ti], .s [ti]])
theorem open_map {x : FV} (h : FitA tyM x) : ∃ m, x = .v (.agg (eM m)) ∧ Okm m ∧ Rg m := by
  cases x with
  | v x =>
    cases x with
    | c x => exact h.elim
    | agg cs =>
      obtain ⟨hl, hf⟩ := h
      match cs, hl with
      | [c1, c2, c3, c4], _ =>
        obtain ⟨x1, rfl, a1, b1⟩ := fit_ints (n := 2) (hf 0 _ c1 rfl rfl)
        obtain ⟨x2, rfl, a2, b2⟩ := fit_ints (n := 8) (hf 1 _ c2 rfl rfl)
        obtain ⟨x3, rfl, a3, b3⟩ := fit_ints (n := 7) (hf 2 _ c3 rfl rfl)
        obtain ⟨x4, rfl, a4, b4⟩ := fit_ints (n := 1) (hf 3 _ c4 rfl rfl)
        obtain ⟨y1, e1', q1⟩ := rows_as (e := eNd) (Q := fun x => R64 x.id ∧ R64 x.alt) (fun l hl hr => by
          match l, hl with
          | [a, b], _ => simp only [List.forall_mem_cons] at hr; exact ⟨⟨a, b⟩, rfl, hr.1, hr.2.1⟩) b1
        obtain ⟨y2, e2', q2⟩ := rows_as (e := eLf) (Q := fun x => R64 x.id ∧ R64 x.op ∧ R64 x.fr ∧ R64 x.to ∧ R64 x.len ∧ R64 x.speed ∧ R64 x.seats ∧ R64 x.spac) (fun l hl hr => by
          match l, hl with
          | [a, b, c, d, e, f, g, k], _ => simp only [List.forall_mem_cons] at hr; exact ⟨⟨a, b, c, d, e, f, g, k⟩, rfl, hr.1, hr.2.1, hr.2.2.1, hr.2.2.2.1, hr.2.2.2.2.1, hr.2.2.2.2.2.1, hr.2.2.2.2.2.2.1, hr.2.2.2.2.2.2.2.1⟩) b2
        obtain ⟨y3, e3', q3⟩ := rows_as (e := eRn) (Q := fun x => R64 x.id ∧ R64 x.op ∧ R64 x.fr ∧ R64 x.to ∧ R64 x.grade ∧ R64 x.zone ∧ R64 x.len) (fun l hl hr => by
          match l, hl with
          | [a, b, c, d, e, f, g], _ => simp only [List.forall_mem_cons] at hr; exact ⟨⟨a, b, c, d, e, f, g⟩, rfl, hr.1, hr.2.1, hr.2.2.1, hr.2.2.2.1, hr.2.2.2.2.1, hr.2.2.2.2.2.1, hr.2.2.2.2.2.2.1⟩) b3
        obtain ⟨y4, e4', q4⟩ := rows_as (e := e1) (Q := R64) (fun l hl hr => by
          match l, hl with
          | [a], _ => simp only [List.forall_mem_cons] at hr; exact ⟨a, rfl, hr.1⟩) b4
        have l1 := congrArg List.length e1'
        have l2 := congrArg List.length e2'
        have l3 := congrArg List.length e3'
        have l4 := congrArg List.length e4'
        simp only [List.length_map, maxLen] at l1 l2 l3 l4 a1 a2 a3 a4
        exact ⟨⟨y1, y2, y3, y4⟩, by simp only [eM, e1', e2', e3', e4'], ⟨by show y1.length ≤ _; omega, by show y2.length ≤ _; omega, by show y3.length ≤ _; omega, by show y4.length ≤ _; omega⟩, ⟨q1, q2, q3, q4⟩⟩
  | _ => exact h.elim
theorem open_int {x : FV} (h : FitA (false, [ti]) x) : ∃ n, x = vI n ∧ R64 n := by
  cases x with
  | v x =>
    cases x with
    | c x => obtain ⟨n, rfl, hn⟩ := fit_int h; exact ⟨n, rfl, hn⟩
    | agg cs => exact h.elim
  | _ => exact h.elim

def inn (n lo hi : Int) : Bool := decide (lo ≤ n) && decide (n ≤ hi)
def leO (n : Int) : Option Int → Bool
  | none => false
  | some p => decide (n ≤ p)
def nodesE : Option Int → List Nd → Int
  | _, [] => 0
  | p, x :: r => if (!inn x.id 1 9999 || !inn x.alt 0 5000) = true then 2 else if leO x.id p = true then 7 else nodesE (some x.id) r
def pvO {α : Type} (g : α → Int) (l : List α) : Nat → Option Int
  | 0 => none
  | k + 1 => (l[k]?).map g
theorem drop_cons {α : Type} {l : List α} {k : Nat} {n : α} (h : l[k]? = some n) : l.drop k = n :: l.drop (k + 1) := by
  have hl := (List.getElem?_eq_some_iff.1 h)
  rw [List.drop_eq_getElem_cons hl.1, hl.2]
theorem wrap1 : IntKind.i64.wrap 1 = 1 := wrap64 ⟨by omega, by omega⟩
theorem wrapJ {j : Nat} (h : j ≤ 9223372036854775807) : IntKind.i64.wrap (j : Int) = j := wrap64 ⟨by omega, by omega⟩
theorem f36 (l : List Nd) (hl : l.length ≤ 9223372036854775807) (K : List Vl → Prop) : FC F 36 [.v (.c (.ro 2 (l.map eNd)))] K ↔ K [.c (I (nodesE none l))] := by
  refine FC.rule ?_ K
  rw [fc_run F36]
  simp [b36]
  refine run_loop (fun m s => ∃ k, k ≤ l.length ∧ m = l.length - k ∧ s.fr 0 = .v (.c (.ro 2 (l.map eNd))) ∧ s.fr 3 = vI k ∧ nodesE none l = nodesE (pvO Nd.id l k) (l.drop k)) l.length ⟨0, by omega, by omega, by simp, by simp, rfl⟩ ?_
  rintro J hJ m ⟨fr, μ⟩ ⟨k, hk, rfl, h0, h3, hn⟩
  simp only at h0 h3
  by_cases hkl : k < l.length
  · obtain ⟨n, hn'⟩ : ∃ n, l[k] = n := ⟨_, rfl⟩
    have hget : l[k]? = some n := by rw [← hn']; exact List.getElem?_eq_getElem hkl
    rw [drop_cons hget] at hn
    simp only [nodesE] at hn
    have hw := wrapS (n := k) (by omega)
    have next : nodesE none l = nodesE (some n.id) (l.drop (k + 1)) → ∀ fr' μ', fr' 0 = .v (.c (.ro 2 (l.map eNd))) → fr' 3 = vI ((k + 1 : Nat) : Int) → ∃ m', m' < l.length - k ∧ J m' ⟨fr', μ'⟩ := fun h fr' μ' g0 g3 =>
      ⟨l.length - (k + 1), by omega, hJ _ _ ⟨k + 1, by omega, rfl, g0, g3, by rw [h]; simp only [pvO, hget, Option.map_some]⟩⟩
    by_cases c1 : inn n.id 1 9999 = true <;> by_cases c2 : inn n.alt 0 5000 = true
    · simp only [c1, c2, Bool.not_true, Bool.or_self, Bool.false_eq_true, if_false] at hn
      simp only [inn] at c1 c2
      cases k with
      | zero =>
        simp only [pvO, leO, Bool.false_eq_true, if_false] at hn
        simp [h0, h3, hkl, hn', f56, c1, c2]
        exact next hn _ _ (by simp [h0]) (by simp [wrap1])
      | succ j =>
        obtain ⟨n2, hn2⟩ : ∃ n, l[j]'(by omega) = n := ⟨_, rfl⟩
        have hget2 : l[j]? = some n2 := by rw [← hn2]; exact List.getElem?_eq_getElem _
        have hpos : (0 : Int) < (j : Int) + 1 := by omega
        have hjl : j < l.length := by omega
        have hge : ¬ ((j : Int) + 1 < 0) := by omega
        have hw2 := wrapJ (j := j) (by omega)
        have hI : (j : Int) + 1 < l.length := by omega
        have h0I : (0 : Int) ≤ (j : Int) + 1 := by omega
        simp only [pvO, hget2, Option.map_some, leO] at hn
        by_cases c3 : n.id ≤ n2.id
        · simp [h0, h3, hkl, hn', f56, c1, c2, hpos, hI, h0I, hw2, hjl, hn2, c3, hn]
        · simp [h0, h3, hkl, hn', f56, c1, c2, hpos, hI, h0I, hw2, hjl, hn2, c3]
          exact next (by simpa [c3] using hn) _ _ (by simp [h0]) (by simpa using hw)
    all_goals
      simp only [c1, c2] at hn
      simp only [inn] at c1 c2
      simp [h0, h3, hkl, hn', f56, c1, c2, hn]
  · have : l.drop k = [] := List.drop_eq_nil_of_le (by omega)
    rw [this] at hn
    simp [h0, h3, hkl, hn, nodesE]

def risesE (m : Mp) (fr to : Int) : Int := if (hasNd m fr && hasNd m to) = true then (if (findNd m to).alt ≤ (findNd m fr).alt then 11 else 0) else 8
theorem f57 (m : Mp) (fr to : Int) (h : Okm m) (K : List Vl → Prop) : FC F 57 [.v (.agg (eM m)), vI fr, vI to] K ↔ K [.c (I (risesE m fr to))] := by
  rw [fc_run F57]
  have h1 := f59 m fr h.n
  have h2 := f59 m to h.n
  by_cases c1 : hasNd m fr = true <;> by_cases c2 : hasNd m to = true <;> by_cases c3 : (findNd m to).alt ≤ (findNd m fr).alt <;> simp [b57, h1, h2, c1, c2, c3, risesE]
def carr (x : Lf) : Bool := ((IntKind.i64.wrap (2 * x.len)).tmod x.spac == 0) && inn (IntKind.i64.wrap ((IntKind.i64.wrap (2 * x.len)).tdiv x.spac)) 1 200
theorem f58 (x : Lf) (h : x.spac ≠ 0) (K : List Vl → Prop) : FC F 58 [.v (.agg (eLf x))] K ↔ K [.c (B (carr x))] := by
  rw [fc_run F58]
  by_cases c1 : (IntKind.i64.wrap (2 * x.len)).tmod x.spac = 0
  · simp [b58, h, c1, carr, inn, f56]
  · have c1' : ((IntKind.i64.wrap (2 * x.len)).tmod x.spac == 0) = false := by simpa using c1
    simp [b58, h, c1', carr]

def rngLf (x : Lf) : Bool := inn x.id 1 9999 && inn x.op 1 8 && inn x.len 10 6000 && inn x.speed 500 12000 && inn x.seats 1 16 && inn x.spac 5 1000
def rngRn (x : Rn) : Bool := inn x.id 1 9999 && inn x.op 1 8 && inn x.grade 1 4 && inn x.zone 1 32 && inn x.len 10 20000
def liftE (m : Mp) (p : Option Int) (x : Lf) : Int := if rngLf x = true then (if leO x.id p = true then 7 else if risesE m x.fr x.to ≠ 0 then risesE m x.fr x.to else if carr x = true then 0 else 1) else 2
def runE (m : Mp) (p : Option Int) (x : Rn) : Int := if rngRn x = true then (if leO x.id p = true then 7 else if risesE m x.to x.fr ≠ 0 then risesE m x.to x.fr else 0) else 2
def liftsE (m : Mp) : Option Int → List Lf → Int
  | _, [] => 0
  | p, x :: r => if liftE m p x ≠ 0 then liftE m p x else liftsE m (some x.id) r
def runsE (m : Mp) : Option Int → List Rn → Int
  | _, [] => 0
  | p, x :: r => if runE m p x ≠ 0 then runE m p x else runsE m (some x.id) r

set_option maxHeartbeats 4000000 in
theorem f37 (m : Mp) (hm : Okm m) (K : List Vl → Prop) : FC F 37 [.v (.agg (eM m))] K ↔ K [.c (I (liftsE m none m.lifts))] := by
  refine FC.rule ?_ K
  rw [fc_run F37]
  simp [b37]
  have hL := hm.l
  refine run_loop (fun q s => ∃ k, k ≤ m.lifts.length ∧ q = m.lifts.length - k ∧ s.fr 1 = .ptr (0, 1) 0 ∧ s.fr 3 = vI k ∧ s.mu.box (0, 1) = some (eM m) ∧ liftsE m none m.lifts = liftsE m (pvO Lf.id m.lifts k) (m.lifts.drop k)) m.lifts.length ⟨0, by omega, by omega, by simp, by simp, by simp, rfl⟩ ?_
  rintro J hJ q ⟨fr, μ⟩ ⟨k, hk, rfl, h1, h3, mb, hn⟩
  simp only at h1 h3 mb
  by_cases hkl : k < m.lifts.length
  case neg =>
    have : m.lifts.drop k = [] := List.drop_eq_nil_of_le (by omega)
    rw [this] at hn
    simp [h1, h3, mb, hkl, hn, liftsE]
  obtain ⟨n, hn'⟩ : ∃ n, m.lifts[k] = n := ⟨_, rfl⟩
  have hget : m.lifts[k]? = some n := by rw [← hn']; exact List.getElem?_eq_getElem hkl
  rw [drop_cons hget] at hn
  simp only [liftsE] at hn
  have next : liftsE m none m.lifts = liftsE m (some n.id) (m.lifts.drop (k + 1)) → ∀ fr' μ', fr' 1 = .ptr (0, 1) 0 → fr' 3 = vI ((k + 1 : Nat) : Int) → μ'.box (0, 1) = some (eM m) → ∃ q', q' < m.lifts.length - k ∧ J q' ⟨fr', μ'⟩ := fun h fr' μ' g1 g3 gb =>
    ⟨m.lifts.length - (k + 1), by omega, hJ _ _ ⟨k + 1, by omega, rfl, g1, g3, gb, by rw [h]; simp only [pvO, hget, Option.map_some]⟩⟩
  have hr0 := f57 m n.fr n.to hm
  by_cases c1 : inn n.id 1 9999 = true
  case neg =>
    have hE : liftE m (pvO Lf.id m.lifts k) n = 2 := by simp [liftE, rngLf, c1]
    rw [hE] at hn
    simp only [inn] at c1
    simp [h1, h3, mb, hkl, hn', f56, c1, hn]
  by_cases c2 : inn n.op 1 8 = true
  case neg =>
    have hE : liftE m (pvO Lf.id m.lifts k) n = 2 := by simp [liftE, rngLf, c1, c2]
    rw [hE] at hn
    simp only [inn] at c1 c2
    simp [h1, h3, mb, hkl, hn', f56, c1, c2, hn]
  by_cases c3 : inn n.len 10 6000 = true
  case neg =>
    have hE : liftE m (pvO Lf.id m.lifts k) n = 2 := by simp [liftE, rngLf, c1, c2, c3]
    rw [hE] at hn
    simp only [inn] at c1 c2 c3
    simp [h1, h3, mb, hkl, hn', f56, c1, c2, c3, hn]
  by_cases c4 : inn n.speed 500 12000 = true
  case neg =>
    have hE : liftE m (pvO Lf.id m.lifts k) n = 2 := by simp [liftE, rngLf, c1, c2, c3, c4]
    rw [hE] at hn
    simp only [inn] at c1 c2 c3 c4
    simp [h1, h3, mb, hkl, hn', f56, c1, c2, c3, c4, hn]
  by_cases c5 : inn n.seats 1 16 = true
  case neg =>
    have hE : liftE m (pvO Lf.id m.lifts k) n = 2 := by simp [liftE, rngLf, c1, c2, c3, c4, c5]
    rw [hE] at hn
    simp only [inn] at c1 c2 c3 c4 c5
    simp [h1, h3, mb, hkl, hn', f56, c1, c2, c3, c4, c5, hn]
  by_cases c6 : inn n.spac 5 1000 = true
  case neg =>
    have hE : liftE m (pvO Lf.id m.lifts k) n = 2 := by simp [liftE, rngLf, c1, c2, c3, c4, c5, c6]
    rw [hE] at hn
    simp only [inn] at c1 c2 c3 c4 c5 c6
    simp [h1, h3, mb, hkl, hn', f56, c1, c2, c3, c4, c5, c6, hn]
  have hrg : rngLf n = true := by simp [rngLf, c1, c2, c3, c4, c5, c6]
  have hca := f58 n (by simp only [inn, Bool.and_eq_true, decide_eq_true_eq] at c6; omega)
  simp only [inn] at c1 c2 c3 c4 c5 c6
  have last : leO n.id (pvO Lf.id m.lifts k) = false → liftE m (pvO Lf.id m.lifts k) n = (if risesE m n.fr n.to ≠ 0 then risesE m n.fr n.to else if carr n = true then 0 else 1) := fun h => by simp [liftE, hrg, h]
  have bad : leO n.id (pvO Lf.id m.lifts k) = true → liftE m (pvO Lf.id m.lifts k) n = 7 := fun h => by simp [liftE, hrg, h]
  cases k with
  | zero =>
    have hl0 := last (by simp [pvO, leO])
    rw [hl0] at hn
    by_cases r0 : risesE m n.fr n.to = 0
    case neg => simp [h1, h3, mb, hkl, hn', f56, c1, c2, c3, c4, c5, c6, hr0, r0] at hn ⊢; simp [hn]
    by_cases r1 : carr n = true
    case neg => simp [h1, h3, mb, hkl, hn', f56, c1, c2, c3, c4, c5, c6, wrap1, hr0, r0, hca, r1] at hn ⊢; simp [hn]
    simp [h1, h3, mb, hkl, hn', f56, c1, c2, c3, c4, c5, c6, wrap1, hr0, r0, hca, r1] at hn ⊢
    exact next (by simpa using hn) _ _ (by simp [h1]) (by simp) (by simp [mb])
  | succ j =>
    obtain ⟨n2, hn2⟩ : ∃ n, m.lifts[j]'(by omega) = n := ⟨_, rfl⟩
    have hget2 : m.lifts[j]? = some n2 := by rw [← hn2]; exact List.getElem?_eq_getElem _
    have hpos : (0 : Int) < (j : Int) + 1 := by omega
    have hjl : j < m.lifts.length := by omega
    have hI : (j : Int) + 1 < m.lifts.length := by omega
    have h0I : (0 : Int) ≤ (j : Int) + 1 := by omega
    have hw2 := wrapJ (j := j) (by omega)
    have hw : IntKind.i64.wrap ((j : Int) + 1 + 1) = (j : Int) + 1 + 1 := wrap64 ⟨by omega, by omega⟩
    by_cases cp : n.id ≤ n2.id
    · have hb := bad (by simp [pvO, hget2, leO, cp])
      rw [hb] at hn
      simp [h1, h3, mb, hkl, hn', f56, c1, c2, c3, c4, c5, c6, hpos, hI, h0I, hw2, hjl, hn2, cp] at hn ⊢
      simp [hn]
    · have hl0 := last (by simp [pvO, hget2, leO, cp])
      rw [hl0] at hn
      by_cases r0 : risesE m n.fr n.to = 0
      case neg => simp [h1, h3, mb, hkl, hn', f56, c1, c2, c3, c4, c5, c6, hpos, hI, h0I, hw2, hjl, hn2, cp, hr0, r0] at hn ⊢; simp [hn]
      by_cases r1 : carr n = true
      case neg => simp [h1, h3, mb, hkl, hn', f56, c1, c2, c3, c4, c5, c6, hpos, hI, h0I, hw2, hjl, hn2, cp, hw, hr0, r0, hca, r1] at hn ⊢; simp [hn]
      simp [h1, h3, mb, hkl, hn', f56, c1, c2, c3, c4, c5, c6, hpos, hI, h0I, hw2, hjl, hn2, cp, hw, hr0, r0, hca, r1] at hn ⊢
      exact next (by simpa using hn) _ _ (by simp [h1]) (by simp) (by simp [mb])

set_option maxHeartbeats 4000000 in
theorem f38 (m : Mp) (hm : Okm m) (K : List Vl → Prop) : FC F 38 [.v (.agg (eM m))] K ↔ K [.c (I (runsE m none m.runs))] := by
  refine FC.rule ?_ K
  rw [fc_run F38]
  simp [b38]
  have hL := hm.r
  refine run_loop (fun q s => ∃ k, k ≤ m.runs.length ∧ q = m.runs.length - k ∧ s.fr 1 = .ptr (0, 1) 0 ∧ s.fr 3 = vI k ∧ s.mu.box (0, 1) = some (eM m) ∧ runsE m none m.runs = runsE m (pvO Rn.id m.runs k) (m.runs.drop k)) m.runs.length ⟨0, by omega, by omega, by simp, by simp, by simp, rfl⟩ ?_
  rintro J hJ q ⟨fr, μ⟩ ⟨k, hk, rfl, h1, h3, mb, hn⟩
  simp only at h1 h3 mb
  by_cases hkl : k < m.runs.length
  case neg =>
    have : m.runs.drop k = [] := List.drop_eq_nil_of_le (by omega)
    rw [this] at hn
    simp [h1, h3, mb, hkl, hn, runsE]
  obtain ⟨n, hn'⟩ : ∃ n, m.runs[k] = n := ⟨_, rfl⟩
  have hget : m.runs[k]? = some n := by rw [← hn']; exact List.getElem?_eq_getElem hkl
  rw [drop_cons hget] at hn
  simp only [runsE] at hn
  have next : runsE m none m.runs = runsE m (some n.id) (m.runs.drop (k + 1)) → ∀ fr' μ', fr' 1 = .ptr (0, 1) 0 → fr' 3 = vI ((k + 1 : Nat) : Int) → μ'.box (0, 1) = some (eM m) → ∃ q', q' < m.runs.length - k ∧ J q' ⟨fr', μ'⟩ := fun h fr' μ' g1 g3 gb =>
    ⟨m.runs.length - (k + 1), by omega, hJ _ _ ⟨k + 1, by omega, rfl, g1, g3, gb, by rw [h]; simp only [pvO, hget, Option.map_some]⟩⟩
  have hr0 := f57 m n.to n.fr hm
  by_cases c1 : inn n.id 1 9999 = true
  case neg =>
    have hE : runE m (pvO Rn.id m.runs k) n = 2 := by simp [runE, rngRn, c1]
    rw [hE] at hn
    simp only [inn] at c1
    simp [h1, h3, mb, hkl, hn', f56, c1, hn]
  by_cases c2 : inn n.op 1 8 = true
  case neg =>
    have hE : runE m (pvO Rn.id m.runs k) n = 2 := by simp [runE, rngRn, c1, c2]
    rw [hE] at hn
    simp only [inn] at c1 c2
    simp [h1, h3, mb, hkl, hn', f56, c1, c2, hn]
  by_cases c3 : inn n.grade 1 4 = true
  case neg =>
    have hE : runE m (pvO Rn.id m.runs k) n = 2 := by simp [runE, rngRn, c1, c2, c3]
    rw [hE] at hn
    simp only [inn] at c1 c2 c3
    simp [h1, h3, mb, hkl, hn', f56, c1, c2, c3, hn]
  by_cases c4 : inn n.zone 1 32 = true
  case neg =>
    have hE : runE m (pvO Rn.id m.runs k) n = 2 := by simp [runE, rngRn, c1, c2, c3, c4]
    rw [hE] at hn
    simp only [inn] at c1 c2 c3 c4
    simp [h1, h3, mb, hkl, hn', f56, c1, c2, c3, c4, hn]
  by_cases c5 : inn n.len 10 20000 = true
  case neg =>
    have hE : runE m (pvO Rn.id m.runs k) n = 2 := by simp [runE, rngRn, c1, c2, c3, c4, c5]
    rw [hE] at hn
    simp only [inn] at c1 c2 c3 c4 c5
    simp [h1, h3, mb, hkl, hn', f56, c1, c2, c3, c4, c5, hn]
  have hrg : rngRn n = true := by simp [rngRn, c1, c2, c3, c4, c5]
  simp only [inn] at c1 c2 c3 c4 c5
  have last : leO n.id (pvO Rn.id m.runs k) = false → runE m (pvO Rn.id m.runs k) n = (if risesE m n.to n.fr ≠ 0 then risesE m n.to n.fr else 0) := fun h => by simp [runE, hrg, h]
  have bad : leO n.id (pvO Rn.id m.runs k) = true → runE m (pvO Rn.id m.runs k) n = 7 := fun h => by simp [runE, hrg, h]
  cases k with
  | zero =>
    have hl0 := last (by simp [pvO, leO])
    rw [hl0] at hn
    by_cases r0 : risesE m n.to n.fr = 0
    case neg => simp [h1, h3, mb, hkl, hn', f56, c1, c2, c3, c4, c5, wrap1, hr0, r0] at hn ⊢; simp [hn]
    simp [h1, h3, mb, hkl, hn', f56, c1, c2, c3, c4, c5, wrap1, hr0, r0] at hn ⊢
    exact next (by simpa using hn) _ _ (by simp [h1]) (by simp) (by simp [mb])
  | succ j =>
    obtain ⟨n2, hn2⟩ : ∃ n, m.runs[j]'(by omega) = n := ⟨_, rfl⟩
    have hget2 : m.runs[j]? = some n2 := by rw [← hn2]; exact List.getElem?_eq_getElem _
    have hpos : (0 : Int) < (j : Int) + 1 := by omega
    have hjl : j < m.runs.length := by omega
    have hI : (j : Int) + 1 < m.runs.length := by omega
    have h0I : (0 : Int) ≤ (j : Int) + 1 := by omega
    have hw2 := wrapJ (j := j) (by omega)
    have hw : IntKind.i64.wrap ((j : Int) + 1 + 1) = (j : Int) + 1 + 1 := wrap64 ⟨by omega, by omega⟩
    by_cases cp : n.id ≤ n2.id
    · have hb := bad (by simp [pvO, hget2, leO, cp])
      rw [hb] at hn
      simp [h1, h3, mb, hkl, hn', f56, c1, c2, c3, c4, c5, hpos, hI, h0I, hw2, hjl, hn2, cp] at hn ⊢
      simp [hn]
    · have hl0 := last (by simp [pvO, hget2, leO, cp])
      rw [hl0] at hn
      by_cases r0 : risesE m n.to n.fr = 0
      case neg => simp [h1, h3, mb, hkl, hn', f56, c1, c2, c3, c4, c5, hpos, hI, h0I, hw2, hjl, hn2, cp, hw, hr0, r0] at hn ⊢; simp [hn]
      simp [h1, h3, mb, hkl, hn', f56, c1, c2, c3, c4, c5, hpos, hI, h0I, hw2, hjl, hn2, cp, hw, hr0, r0] at hn ⊢
      exact next (by simpa using hn) _ _ (by simp [h1]) (by simp) (by simp [mb])


def incr : Option Int → List Int → Bool
  | _, [] => true
  | p, x :: r => !leO x p && incr (some x) r
def basesE (m : Mp) : Int := if m.bases = [] then 8 else if m.bases.all (hasNd m) = true then (if incr none m.bases = true then 0 else 7) else 8
theorem f39 (m : Mp) (hm : Okm m) (K : List Vl → Prop) : FC F 39 [.v (.agg (eM m))] K ↔ K [.c (I (basesE m))] := by
  refine FC.rule ?_ K
  rw [fc_run F39]
  have hL := hm.b
  by_cases hne : m.bases = []
  · simp [b39, hne, basesE]
  have hpos : 0 < m.bases.length := List.length_pos_iff.2 hne
  have hp0 : ¬ (m.bases.length = 0) := by omega
  have hp1 : ¬ ((m.bases.length : Int) = 0) := by omega
  simp [b39, hp0]
  refine run_loop (fun q s => ∃ k, k ≤ m.bases.length ∧ q = m.bases.length - k ∧ s.fr 1 = .ptr (0, 1) 0 ∧ s.fr 3 = vI k ∧ s.mu.box (0, 1) = some (eM m) ∧ m.bases.all (hasNd m) = (m.bases.drop k).all (hasNd m)) m.bases.length ⟨0, by omega, by omega, by simp, by simp, by simp, rfl⟩ ?_
  rintro J hJ q ⟨fr, μ⟩ ⟨k, hk, rfl, h1, h3, mb, hn⟩
  simp only at h1 h3 mb
  by_cases hkl : k < m.bases.length
  · obtain ⟨n, hn'⟩ : ∃ n, m.bases[k] = n := ⟨_, rfl⟩
    have hget : m.bases[k]? = some n := by rw [← hn']; exact List.getElem?_eq_getElem hkl
    rw [drop_cons hget, List.all_cons] at hn
    have hc := f59 m n hm.n
    have hw := wrapS (n := k) (by omega)
    by_cases c1 : hasNd m n = true
    · simp only [c1, Bool.true_and] at hn
      simp [h1, h3, mb, hkl, hn', hc, c1, hw]
      exact ⟨m.bases.length - (k + 1), by omega, hJ _ _ ⟨k + 1, by omega, rfl, by simp [h1], by simp, by simp [mb], hn⟩⟩
    · have c1' : hasNd m n = false := by simpa using c1
      simp only [c1', Bool.false_and] at hn
      simp [h1, h3, mb, hkl, hn', hc, c1', basesE, hne, hn]
  · have : m.bases.drop k = [] := List.drop_eq_nil_of_le (by omega)
    rw [this] at hn
    simp only [List.all_nil] at hn
    simp [h1, h3, mb, hkl]
    refine run_loop (fun q s => ∃ k, 1 ≤ k ∧ k ≤ m.bases.length ∧ q = m.bases.length - k ∧ s.fr 1 = .ptr (0, 1) 0 ∧ s.fr 6 = vI k ∧ s.mu.box (0, 1) = some (eM m) ∧ incr none m.bases = incr (pvO id m.bases k) (m.bases.drop k)) (m.bases.length - 1) ⟨1, by omega, by omega, rfl, by simp [h1], by simp, by simp [mb], ?_⟩ ?_
    · cases hb : m.bases with
      | nil => exact absurd hb hne
      | cons x r => simp [incr, leO, pvO]
    · rintro J2 hJ2 q2 ⟨fr2, μ2⟩ ⟨k2, hk1, hk2, rfl, g1, g6, gb, gn⟩
      simp only at g1 g6 gb
      by_cases hkl2 : k2 < m.bases.length
      · obtain ⟨j, rfl⟩ : ∃ j, k2 = j + 1 := ⟨k2 - 1, by omega⟩
        obtain ⟨n, hn'⟩ : ∃ n, m.bases[j + 1] = n := ⟨_, rfl⟩
        have hget : m.bases[j + 1]? = some n := by rw [← hn']; exact List.getElem?_eq_getElem hkl2
        obtain ⟨n2, hn2⟩ : ∃ n, m.bases[j]'(by omega) = n := ⟨_, rfl⟩
        have hget2 : m.bases[j]? = some n2 := by rw [← hn2]; exact List.getElem?_eq_getElem _
        rw [drop_cons hget] at gn
        simp only [pvO, hget2, Option.map_some, id, incr, leO] at gn
        have hpos' : (0 : Int) < (j : Int) + 1 := by omega
        have hjl : j < m.bases.length := by omega
        have hI : (j : Int) + 1 < m.bases.length := by omega
        have h0I : (0 : Int) ≤ (j : Int) + 1 := by omega
        have hw2 := wrapJ (j := j) (by omega)
        have hw : IntKind.i64.wrap ((j : Int) + 1 + 1) = (j : Int) + 1 + 1 := wrap64 ⟨by omega, by omega⟩
        by_cases cp : n ≤ n2
        · simp [cp] at gn
          simp [g1, g6, gb, hkl2, hn', hI, h0I, hw2, hjl, hn2, cp, basesE, hne, hn, gn]
        · simp [cp] at gn
          simp [g1, g6, gb, hkl2, hn', hI, h0I, hw2, hjl, hn2, cp, hw]
          exact ⟨m.bases.length - (j + 1 + 1), by omega, hJ2 _ _ ⟨j + 1 + 1, by omega, by omega, rfl, by simp [g1], by simp, by simp [gb], by simpa [pvO, hget] using gn⟩⟩
      · have : m.bases.drop k2 = [] := List.drop_eq_nil_of_le (by omega)
        rw [this] at gn
        simp only [incr] at gn
        simp [g1, g6, gb, hkl2, basesE, hne, hn, gn]
def tooLong (m : Mp) : Bool := decide (64 < m.nodes.length) || decide (32 < m.lifts.length) || decide (64 < m.runs.length) || decide (64 < m.bases.length)
def rightE (m : Mp) : Int := if tooLong m = true then 4 else if nodesE none m.nodes ≠ 0 then nodesE none m.nodes else if liftsE m none m.lifts ≠ 0 then liftsE m none m.lifts else if runsE m none m.runs ≠ 0 then runsE m none m.runs else basesE m
theorem f14 (m : Mp) (hm : Okm m) (K : List Vl → Prop) : FC F 14 [.v (.agg (eM m))] K ↔ K [.c (I (rightE m))] := by
  rw [fc_run F14]
  have h1 := f36 m.nodes hm.n
  have h2 := f37 m hm
  have h3 := f38 m hm
  have h4 := f39 m hm
  by_cases c1 : 64 < m.nodes.length
  case pos =>
    have e1 : (64 : Int) < m.nodes.length := by omega
    have g1 : ¬ ((m.nodes.length : Int) ≤ 64) := by omega
    simp [b14, rightE, tooLong, c1, e1]
  have e1 : ¬ ((64 : Int) < m.nodes.length) := by omega
  have g1 : (m.nodes.length : Int) ≤ 64 := by omega
  by_cases c2 : 32 < m.lifts.length
  case pos =>
    have e2 : (32 : Int) < m.lifts.length := by omega
    have g2 : ¬ ((m.lifts.length : Int) ≤ 32) := by omega
    simp [b14, rightE, tooLong, c1, e1, c2, e2]
  have e2 : ¬ ((32 : Int) < m.lifts.length) := by omega
  have g2 : (m.lifts.length : Int) ≤ 32 := by omega
  by_cases c3 : 64 < m.runs.length
  case pos =>
    have e3 : (64 : Int) < m.runs.length := by omega
    have g3 : ¬ ((m.runs.length : Int) ≤ 64) := by omega
    simp [b14, rightE, tooLong, c1, e1, c2, e2, c3, e3]
  have e3 : ¬ ((64 : Int) < m.runs.length) := by omega
  have g3 : (m.runs.length : Int) ≤ 64 := by omega
  by_cases c4 : 64 < m.bases.length
  case pos =>
    have e4 : (64 : Int) < m.bases.length := by omega
    have g4 : ¬ ((m.bases.length : Int) ≤ 64) := by omega
    simp [b14, rightE, tooLong, c1, e1, c2, e2, c3, e3, c4, e4]
  have e4 : ¬ ((64 : Int) < m.bases.length) := by omega
  have g4 : (m.bases.length : Int) ≤ 64 := by omega
  by_cases d1 : nodesE none m.nodes = 0
  case neg => simp [b14, c1, e1, c2, e2, c3, e3, c4, e4, rightE, tooLong, h1, d1]
  by_cases d2 : liftsE m none m.lifts = 0
  case neg => simp [b14, c1, e1, c2, e2, c3, e3, c4, e4, rightE, tooLong, h1, h2, d1, d2]
  by_cases d3 : runsE m none m.runs = 0
  case neg => simp [b14, c1, e1, c2, e2, c3, e3, c4, e4, rightE, tooLong, h1, h2, h3, d1, d2, d3]
  simp [b14, c1, e1, c2, e2, c3, e3, c4, e4, rightE, tooLong, h1, h2, h3, h4, d1, d2, d3]

def upI (m : Mp) (fr to : Int) : Int := IntKind.i64.wrap ((findNd m to).alt - (findNd m fr).alt)
def vertE (m : Mp) (id : Int) : Int := if hasLf m id = true then upI m (findLf m id).fr (findLf m id).to else 0
theorem nodes_ok : ∀ {l : List Nd} {p : Option Int}, nodesE p l = 0 → ∀ x ∈ l, inn x.id 1 9999 = true ∧ inn x.alt 0 5000 = true
  | [], _, _, x, hx => by simp at hx
  | y :: l, p, h, x, hx => by
    simp only [nodesE] at h
    split at h
    · cases h
    · rename_i hr
      split at h
      · cases h
      · rcases List.mem_cons.1 hx with rfl | hx
        · simpa using hr
        · exact nodes_ok h x hx
theorem lifts_ok {m : Mp} : ∀ {l : List Lf} {p : Option Int}, liftsE m p l = 0 → ∀ x ∈ l, risesE m x.fr x.to = 0
  | [], _, _, x, hx => by simp at hx
  | y :: l, p, h, x, hx => by
    simp only [liftsE] at h
    by_cases h0 : liftE m p y = 0
    · rw [if_neg (by simpa using h0)] at h
      rcases List.mem_cons.1 hx with rfl | hx
      · simp only [liftE] at h0
        split at h0
        · split at h0
          · cases h0
          · split at h0
            · exact h0
            · rename_i hr; simpa using hr
        · cases h0
      · exact lifts_ok h x hx
    · rw [if_pos h0] at h; exact absurd h h0
theorem fnd_mem {α : Type} {p : α → Bool} {z : α} {l : List α} (h : (idx p l).isSome = true) : fnd p z l ∈ l := by
  obtain ⟨k, hk⟩ := Option.isSome_iff_exists.1 h
  obtain ⟨a, ha, _⟩ := idx_some hk
  simp only [fnd, hk, ha, Option.getD_some]
  exact List.mem_of_getElem? ha
theorem right_parts {m : Mp} (h : rightE m = 0) : tooLong m = false ∧ nodesE none m.nodes = 0 ∧ liftsE m none m.lifts = 0 ∧ runsE m none m.runs = 0 ∧ basesE m = 0 := by
  unfold rightE at h
  split at h
  · cases h
  · rename_i h1
    split at h
    · rename_i h2; exact absurd h h2
    · rename_i h2
      split at h
      · rename_i h3; exact absurd h h3
      · rename_i h3
        split at h
        · rename_i h4; exact absurd h h4
        · rename_i h4
          exact ⟨by simpa using h1, by simpa using h2, by simpa using h3, by simpa using h4, h⟩
theorem rises_parts {m : Mp} {fr to : Int} (h : risesE m fr to = 0) : hasNd m fr = true ∧ hasNd m to = true ∧ (findNd m fr).alt < (findNd m to).alt := by
  unfold risesE at h
  split at h
  · rename_i hb
    simp only [Bool.and_eq_true] at hb
    split at h
    · cases h
    · rename_i hc; exact ⟨hb.1, hb.2, by omega⟩
  · cases h
theorem alt_in {m : Mp} (h : nodesE none m.nodes = 0) {id : Int} (hh : hasNd m id = true) : 0 ≤ (findNd m id).alt ∧ (findNd m id).alt ≤ 5000 := by
  have := (nodes_ok h _ (fnd_mem (z := zNd) hh)).2
  simp only [inn, Bool.and_eq_true, decide_eq_true_eq] at this
  exact this
theorem vert_pos {m : Mp} (h : rightE m = 0) (id : Int) : decide (0 < vertE m id) = hasLf m id := by
  obtain ⟨_, h1, h2, _⟩ := right_parts h
  unfold vertE
  by_cases c : hasLf m id = true
  · obtain ⟨r1, r2, r3⟩ := rises_parts (lifts_ok h2 _ (fnd_mem (z := zLf) c))
    have a1 := alt_in h1 r1
    have a2 := alt_in h1 r2
    have hw : upI m (findLf m id).fr (findLf m id).to = (findNd m (findLf m id).to).alt - (findNd m (findLf m id).fr).alt := wrap64 (by constructor <;> (simp only [findLf] at *; omega))
    rw [if_pos c, hw, c]
    simp only [findLf] at *
    exact decide_eq_true (by omega)
  · simp [c]

/-- A row of one's own at a slot, or nil. -/
def Rw (s : St) (k : Nat) (e z d : Nat) (xs : List (List Cell)) : Prop :=
  (s.fr k = .v (.c .nil) ∧ xs = []) ∨ ∃ t, s.fr k = .v (.c (.own (t, d))) ∧ s.mu.arr (t, d) = some ⟨e, z, xs⟩ ∧ s.mu.app (t, d) = true
def zoneL (m : Mp) (z : Int) (k : Nat) : List Int := ((m.runs.take k).filter fun x => x.zone == z).map fun x => x.id
theorem zone_step {m : Mp} {z : Int} {k : Nat} {x : Rn} (h : m.runs[k]? = some x) : zoneL m z (k + 1) = if x.zone = z then zoneL m z k ++ [x.id] else zoneL m z k := by
  have hk := (List.getElem?_eq_some_iff.1 h)
  unfold zoneL
  rw [List.take_succ_eq_append_getElem hk.1, hk.2, List.filter_append, List.map_append]
  by_cases hz : x.zone = z <;> simp [hz]
theorem zone_len {m : Mp} {z : Int} {k : Nat} : (zoneL m z k).length ≤ k := by
  unfold zoneL
  rw [List.length_map]
  exact Nat.le_trans (List.length_filter_le ..) (by simp; omega)
theorem f25 (l : List Int) (hl : l.length ≤ 9223372036854775807) (K : List Vl → Prop) : FC F 25 [.v (.c (.ro 1 (l.map e1))), .v (.c (.ro 1 (l.map e1)))] K ↔ K [.c (B true)] := by
  refine FC.rule ?_ K
  rw [fc_run F25]
  simp [b25]
  refine run_loop (fun q s => ∃ k, k ≤ l.length ∧ q = l.length - k ∧ s.fr 0 = .v (.c (.ro 1 (l.map e1))) ∧ s.fr 1 = .v (.c (.ro 1 (l.map e1))) ∧ s.fr 5 = vI k) l.length ⟨0, by omega, by omega, by simp, by simp, by simp⟩ ?_
  rintro J hJ q ⟨fr, μ⟩ ⟨k, hk, rfl, h0, h1, h5⟩
  simp only at h0 h1 h5
  by_cases hkl : k < l.length
  · have hws := wrapS (n := k) (by omega)
    simp [h0, h1, h5, hkl, hws]
    exact ⟨l.length - (k + 1), by omega, hJ _ _ ⟨k + 1, by omega, rfl, by simp [h0], by simp [h1], by simp⟩⟩
  · simp [h0, h5, hkl]

theorem runE_parts {m : Mp} {p : Option Int} {x : Rn} (h : runE m p x = 0) : rngRn x = true ∧ leO x.id p = false ∧ risesE m x.to x.fr = 0 := by
  unfold runE at h
  split at h
  · rename_i h1
    split at h
    · cases h
    · rename_i h2
      split at h
      · rename_i h3; exact absurd h h3
      · rename_i h3; exact ⟨h1, by simpa using h2, by simpa using h3⟩
  · cases h
theorem liftE_parts {m : Mp} {p : Option Int} {x : Lf} (h : liftE m p x = 0) : rngLf x = true ∧ leO x.id p = false ∧ risesE m x.fr x.to = 0 ∧ carr x = true := by
  unfold liftE at h
  split at h
  · rename_i h1
    split at h
    · cases h
    · rename_i h2
      split at h
      · rename_i h3; exact absurd h h3
      · rename_i h3
        split at h
        · rename_i h4; exact ⟨h1, by simpa using h2, by simpa using h3, h4⟩
        · cases h
  · cases h
theorem leO_some {n : Int} {p : Option Int} (h : leO n p = false) : ∀ q, p = some q → q < n := by
  intro q hq; subst hq; simp [leO] at h; exact h
theorem runs_sorted {m : Mp} : ∀ {l : List Rn} {p : Option Int}, runsE m p l = 0 → l.Pairwise (fun a b => a.id < b.id) ∧ (∀ q, p = some q → ∀ x ∈ l, q < x.id) ∧ ∀ x ∈ l, rngRn x = true
  | [], _, _ => ⟨.nil, by simp, by simp⟩
  | y :: l, p, h => by
    simp only [runsE] at h
    by_cases h0 : runE m p y = 0
    · rw [if_neg (by simpa using h0)] at h
      obtain ⟨h1, h2, _⟩ := runE_parts h0
      obtain ⟨k1, k2, k3⟩ := runs_sorted h
      refine ⟨List.pairwise_cons.2 ⟨fun x hx => k2 _ rfl x hx, k1⟩, fun q hq x hx => ?_, fun x hx => ?_⟩
      · have := leO_some h2 q hq
        rcases List.mem_cons.1 hx with rfl | hx
        · exact this
        · have := k2 _ rfl x hx; omega
      · rcases List.mem_cons.1 hx with rfl | hx
        · exact h1
        · exact k3 x hx
    · rw [if_pos h0] at h; exact absurd h h0
theorem lifts_sorted {m : Mp} : ∀ {l : List Lf} {p : Option Int}, liftsE m p l = 0 → l.Pairwise (fun a b => a.id < b.id) ∧ (∀ q, p = some q → ∀ x ∈ l, q < x.id) ∧ ∀ x ∈ l, rngLf x = true
  | [], _, _ => ⟨.nil, by simp, by simp⟩
  | y :: l, p, h => by
    simp only [liftsE] at h
    by_cases h0 : liftE m p y = 0
    · rw [if_neg (by simpa using h0)] at h
      obtain ⟨h1, h2, _⟩ := liftE_parts h0
      obtain ⟨k1, k2, k3⟩ := lifts_sorted h
      refine ⟨List.pairwise_cons.2 ⟨fun x hx => k2 _ rfl x hx, k1⟩, fun q hq x hx => ?_, fun x hx => ?_⟩
      · have := leO_some h2 q hq
        rcases List.mem_cons.1 hx with rfl | hx
        · exact this
        · have := k2 _ rfl x hx; omega
      · rcases List.mem_cons.1 hx with rfl | hx
        · exact h1
        · exact k3 x hx
    · rw [if_pos h0] at h; exact absurd h h0
theorem find_run {m : Mp} (h : m.runs.Pairwise (fun a b => a.id < b.id)) {x : Rn} (hx : x ∈ m.runs) : findRn m x.id = x ∧ hasRn m x.id = true := by
  obtain ⟨k, hk⟩ := List.getElem?_of_mem hx
  have hi : idx (fun n : Rn => n.id == x.id) m.runs = some k := idx_at hk (by simp) fun j b hj hb => by
    obtain ⟨h1, h2⟩ := List.getElem?_eq_some_iff.1 hk
    obtain ⟨g1, g2⟩ := List.getElem?_eq_some_iff.1 hb
    have := (List.pairwise_iff_getElem.1 h) j k g1 h1 hj
    rw [h2, g2] at this
    simp; omega
  simp [findRn, hasRn, fnd, hi, hk]
theorem zone_pw {m : Mp} (h : m.runs.Pairwise (fun a b => a.id < b.id)) (z : Int) (k : Nat) : (zoneL m z k).Pairwise (· < ·) := by
  unfold zoneL
  rw [List.pairwise_map]
  exact (h.sublist (List.take_sublist ..)).filter _
theorem zone_mem {m : Mp} {z y : Int} {k : Nat} (h : y ∈ zoneL m z k) : ∃ x ∈ m.runs, x.zone = z ∧ x.id = y := by
  unfold zoneL at h
  obtain ⟨x, hx, rfl⟩ := List.mem_map.1 h
  obtain ⟨h1, h2⟩ := List.mem_filter.1 hx
  exact ⟨x, List.mem_of_mem_take h1, by simpa using h2, rfl⟩
def cz (m : Mp) (k : Nat) : Nat := (m.runs.filter fun x => decide (x.zone ≤ (k : Int))).length
theorem cz_step (m : Mp) (k : Nat) : cz m (k + 1) = cz m k + (zoneL m ((k + 1 : Nat) : Int) m.runs.length).length := by
  have : ∀ l : List Rn, (l.filter fun x => decide (x.zone ≤ ((k + 1 : Nat) : Int))).length = (l.filter fun x => decide (x.zone ≤ (k : Int))).length + (l.filter fun x => x.zone == ((k + 1 : Nat) : Int)).length := by
    intro l
    induction l with
    | nil => rfl
    | cons y l ih =>
      simp only [List.filter_cons]
      by_cases h1 : y.zone ≤ (k : Int)
      · have h2 : y.zone ≤ ((k + 1 : Nat) : Int) := by omega
        have h3 : (y.zone == ((k + 1 : Nat) : Int)) = false := by simp; omega
        simp only [h1, h2, h3, decide_true, if_true, List.length_cons, ih]; simp; omega
      · by_cases h2 : y.zone ≤ ((k + 1 : Nat) : Int)
        · have h3 : (y.zone == ((k + 1 : Nat) : Int)) = true := by simp; omega
          simp only [h1, h2, h3, decide_true, decide_false, if_true, List.length_cons, ih]; simp; omega
        · have h3 : (y.zone == ((k + 1 : Nat) : Int)) = false := by simp; omega
          simp only [h1, h2, h3, decide_false]; simpa using ih
  unfold cz zoneL
  rw [List.length_map, List.take_length]
  exact this _
theorem run_zone {x : Rn} (h : rngRn x = true) : 1 ≤ x.zone ∧ x.zone ≤ 32 := by
  simp only [rngRn, inn, Bool.and_eq_true, decide_eq_true_eq] at h
  exact ⟨h.1.2.1, h.1.2.2⟩
theorem cz_zero {m : Mp} (h : ∀ x ∈ m.runs, rngRn x = true) : cz m 0 = 0 := by
  unfold cz
  rw [List.length_eq_zero_iff, List.filter_eq_nil_iff]
  intro x hx
  have := run_zone (h x hx)
  simp; omega
theorem cz_all {m : Mp} (h : ∀ x ∈ m.runs, rngRn x = true) : cz m 32 = m.runs.length := by
  unfold cz
  rw [List.filter_eq_self.2]
  intro x hx
  have := run_zone (h x hx)
  simp; omega
theorem cz_le (m : Mp) (k : Nat) : cz m k ≤ m.runs.length := List.length_filter_le ..

structure Ed where
  a : Int
  b : Int
  c : Int
  d : Int
abbrev eEd (x : Ed) : List Cell := [I x.a, I x.b, I x.c, I x.d]
theorem idxI_contains (l : List Int) (n : Int) : decide (0 ≤ idxI (fun a => a == n) l) = l.contains n := by
  unfold idxI
  cases h : idx (fun a => a == n) l with
  | some k =>
    obtain ⟨a, h1, h2⟩ := idx_some h
    have : n ∈ l := by rw [← eq_of_beq h2]; exact List.mem_of_getElem? h1
    simpa using this
  | none =>
    have hc : l.contains n = false := by
      cases hb : l.contains n with
      | false => rfl
      | true =>
        have hm := List.contains_iff_mem.1 hb
        clear hb
        exfalso
        induction l with
        | nil => simp at hm
        | cons x l ih =>
          simp only [idx] at h
          split at h
          · cases h
          · rename_i hx
            rcases List.mem_cons.1 hm with rfl | hm
            · simp at hx
            · cases hk : idx (fun a => a == n) l with
              | none => exact ih hk hm
              | some k => rw [hk] at h; cases h
    rw [hc]; rfl
theorem contains_at {l : List Int} {k : Nat} {n : Int} (hn : ∀ (j : Nat) x, j < k → l[j]? = some x → (x == n) = false) (h : l.length ≤ k) : l.contains n = false := by
  cases hb : l.contains n with
  | false => rfl
  | true =>
    obtain ⟨j, hj⟩ := List.getElem?_of_mem (List.contains_iff_mem.1 hb)
    have := hn j n (by have := (List.getElem?_eq_some_iff.1 hj).1; omega) hj
    simp at this
def edRn (x : Rn) : Ed := ⟨x.id, x.fr, x.to, x.len⟩
def selRn (m : Mp) (l : List Int) (k : Nat) : List Ed := ((m.runs.take k).filter fun x => l.contains x.id).map edRn
theorem selRn_step {m : Mp} {l : List Int} {k : Nat} {x : Rn} (h : m.runs[k]? = some x) : selRn m l (k + 1) = if l.contains x.id = true then selRn m l k ++ [edRn x] else selRn m l k := by
  have hk := (List.getElem?_eq_some_iff.1 h)
  unfold selRn
  rw [List.take_succ_eq_append_getElem hk.1, hk.2, List.filter_append, List.map_append]
  by_cases hz : l.contains x.id = true
  · rw [if_pos hz]; simp only [List.filter_cons, hz, if_true, List.filter_nil, List.map_cons, List.map_nil]
  · rw [if_neg hz]; simp only [List.filter_cons, hz, List.filter_nil]; simp
theorem selRn_len {m : Mp} {l : List Int} {k : Nat} : (selRn m l k).length ≤ k := by
  unfold selRn
  rw [List.length_map]
  exact Nat.le_trans (List.length_filter_le ..) (by simp; omega)

def edLf (x : Lf) : Ed := ⟨x.id, x.fr, x.to, x.len⟩
def selLf (m : Mp) (l : List Int) (k : Nat) : List Ed := ((m.lifts.take k).filter fun x => l.contains x.id).map edLf
theorem selLf_step {m : Mp} {l : List Int} {k : Nat} {x : Lf} (h : m.lifts[k]? = some x) : selLf m l (k + 1) = if l.contains x.id = true then selLf m l k ++ [edLf x] else selLf m l k := by
  have hk := (List.getElem?_eq_some_iff.1 h)
  unfold selLf
  rw [List.take_succ_eq_append_getElem hk.1, hk.2, List.filter_append, List.map_append]
  by_cases hz : l.contains x.id = true
  · rw [if_pos hz]; simp only [List.filter_cons, hz, if_true, List.filter_nil, List.map_cons, List.map_nil]
  · rw [if_neg hz]; simp only [List.filter_cons, hz, List.filter_nil]; simp
theorem selLf_len {m : Mp} {l : List Int} {k : Nat} : (selLf m l k).length ≤ k := by
  unfold selLf
  rw [List.length_map]
  exact Nat.le_trans (List.length_filter_le ..) (by simp; omega)

theorem open_ints {x : FV} (h : FitA (false, [.s [ti]]) x) : ∃ l : List Int, x = .v (.c (.ro 1 (l.map e1))) ∧ l.length ≤ 9223372036854775807 ∧ ∀ n ∈ l, R64 n := by
  cases x with
  | v x =>
    cases x with
    | c x =>
      obtain ⟨xs, rfl, a1, b1⟩ := fit_ints (n := 1) h
      obtain ⟨y, e', q⟩ := rows_as (e := e1) (Q := R64) (fun l hl hr => by
        match l, hl with
        | [a], _ => simp only [List.forall_mem_cons] at hr; exact ⟨a, rfl, hr.1⟩) b1
      have l1 := congrArg List.length e'
      simp only [List.length_map, maxLen] at l1 a1
      exact ⟨y, by rw [e'], by omega, q⟩
    | agg cs => exact h.elim
  | _ => exact h.elim
end Go.Proofs.Ytkoickoceggimaa.Am
