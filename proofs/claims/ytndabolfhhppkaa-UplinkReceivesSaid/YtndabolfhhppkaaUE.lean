/- Rides and boxes: what the small functions on them come to. No condition. -/
import Derived.Test.YtndabolfhhppkaaUD
import Derived.Test.YtndabolfhhppkaaWalk
import Derived.Test.YtndabolfhhppkaaExec
import Derived.Test.YtndabolfhhppkaaRow
namespace Go.Proofs.Ytndabolfhhppkaa.Am
open Go

structure Rd where
  gate : Int
  seq : Int
  ser : Int
  cnt : Int
  prod : Int
  lift : Int
  at_ : Int
deriving DecidableEq
abbrev eRd (r : Rd) : List Cell := [I r.gate, I r.seq, I r.ser, I r.cnt, I r.prod, I r.lift, I r.at_]
abbrev rR (l : List Rd) : FV := .v (.c (.ro 7 (l.map eRd)))
structure Ob where
  gate : Int
  next : Int
  mail : List Rd
structure Ib where
  gate : Int
  next : Int
  got : List Rd
  early : List Rd
abbrev eO (o : Ob) : List Cell := [I o.gate, I o.next, .ro 7 (o.mail.map eRd)]
abbrev eI (i : Ib) : List Cell := [I i.gate, I i.next, .ro 7 (i.got.map eRd), .ro 7 (i.early.map eRd)]
def R64 (n : Int) : Prop := -9223372036854775808 ≤ n ∧ n ≤ 9223372036854775807
theorem wrap64 {n : Int} (h : R64 n) : IntKind.i64.wrap n = n := by
  obtain ⟨h1, h2⟩ := h
  rw [IntKind.wrap_i64]; omega
theorem wrapS {n : Nat} (h : n < 9223372036854775807) : IntKind.i64.wrap ((n : Int) + 1) = ((n + 1 : Nat) : Int) := by
  rw [wrap64 ⟨by omega, by omega⟩]; omega
theorem f9 (K : List Vl → Prop) : FC F 9 [] K ↔ K [.c (B true)] := fc_ev (n := 5000) (by kernel_rfl) K
theorem f10 (l : List Rd) (K : List Vl → Prop) : FC F 10 [rR l] K ↔ K [.c (B (decide ((l.length : Int) ≤ 200)))] := by
  rw [fc_run F10]
  simp [b10]
def sucB (gate first : Int) : Nat → List Rd → Bool
  | _, [] => true
  | k, r :: l => (r.gate == gate) && (r.seq == IntKind.i64.wrap (first + k)) && sucB gate first (k + 1) l
def idx {α : Type} (p : α → Bool) : List α → Option Nat
  | [] => none
  | a :: r => if p a = true then some 0 else (idx p r).map (· + 1)

theorem idx_at {α : Type} {p : α → Bool} : ∀ {l : List α} {k : Nat} {a : α}, l[k]? = some a → p a = true → (∀ j b, j < k → l[j]? = some b → p b = false) → idx p l = some k
  | [], k, a, h, _, _ => by simp at h
  | x :: l, 0, a, h, hp, _ => by simp at h; subst h; simp [idx, hp]
  | x :: l, k + 1, a, h, hp, hn => by
    have h0 := hn 0 x (by omega) rfl
    simp only [idx, h0, Bool.false_eq_true, if_false]
    rw [idx_at (l := l) (k := k) (by simpa using h) hp fun j b hj hb => hn (j + 1) b (by omega) (by simpa using hb)]
    rfl

theorem idx_none {α : Type} {p : α → Bool} : ∀ {l : List α}, (∀ (j : Nat) b, l[j]? = some b → p b = false) → idx p l = none
  | [], _ => rfl
  | x :: l, hn => by
    simp only [idx, hn 0 x rfl, Bool.false_eq_true, if_false]
    rw [idx_none fun j b hb => hn (j + 1) b (by simpa using hb)]; rfl

theorem idx_some {α : Type} {p : α → Bool} : ∀ {l : List α} {k : Nat}, idx p l = some k → ∃ a, l[k]? = some a ∧ p a = true
  | [], k, h => by cases h
  | x :: l, k, h => by
    simp only [idx] at h
    split at h
    · rename_i hp; injection h with h; subst h; exact ⟨x, rfl, hp⟩
    · cases hk : idx p l with
      | none => rw [hk] at h; cases h
      | some j => rw [hk] at h; injection h with h; subst h; obtain ⟨a, h1, h2⟩ := idx_some hk; exact ⟨a, by simpa using h1, h2⟩

def idxI {α : Type} (p : α → Bool) (l : List α) : Int := match idx p l with | some k => k | none => -1

theorem idx_lt {α : Type} {p : α → Bool} {l : List α} {k : Nat} (h : idx p l = some k) : k < l.length := by
  obtain ⟨a, h1, _⟩ := idx_some h
  exact (List.getElem?_eq_some_iff.1 h1).1

theorem idx_any {α : Type} {p : α → Bool} : ∀ {l : List α}, (idx p l).isSome = l.any p
  | [] => rfl
  | x :: l => by
    have ih := idx_any (p := p) (l := l)
    simp only [idx, List.any_cons]
    by_cases h : p x = true
    · simp [h]
    · have h' : p x = false := by simpa using h
      rw [if_neg h, h', Bool.false_or, ← ih]
      cases idx p l <;> rfl

theorem idxI_any {α : Type} {p : α → Bool} {l : List α} : decide (idxI p l ≥ 0) = l.any p := by
  rw [← idx_any]
  unfold idxI
  cases h : idx p l <;> simp
theorem drop_cons {α : Type} {l : List α} {k : Nat} {n : α} (h : l[k]? = some n) : l.drop k = n :: l.drop (k + 1) := by
  have h1 := (List.getElem?_eq_some_iff.1 h).1
  have h2 := (List.getElem?_eq_some_iff.1 h).2
  rw [List.drop_eq_getElem_cons h1, h2]
theorem f38 (l : List Rd) (gate first : Int) (hl : l.length ≤ 9223372036854775807) (K : List Vl → Prop) : FC F 38 [rR l, vI gate, vI first] K ↔ K [.c (B (sucB gate first 0 l))] := by
  refine FC.rule ?_ K
  rw [fc_run F38]
  simp [b38]
  refine run_loop (fun q s => ∃ k, k ≤ l.length ∧ q = l.length - k ∧ s.fr 1 = vI gate ∧ s.fr 2 = vI first ∧ s.fr 9 = rR l ∧ s.fr 10 = vI l.length ∧ s.fr 11 = vI k ∧ sucB gate first 0 l = sucB gate first k (l.drop k)) l.length ⟨0, by omega, by omega, by simp, by simp, by simp, by simp, by simp, rfl⟩ ?_
  rintro J hJ q ⟨fr, μ⟩ ⟨k, hk, rfl, h1, h2, h9, h10, h11, hn⟩
  simp only at h1 h2 h9 h10 h11
  by_cases hkl : k < l.length
  · obtain ⟨r, hr⟩ : ∃ r, l[k] = r := ⟨_, rfl⟩
    have hget : l[k]? = some r := by rw [← hr]; exact List.getElem?_eq_getElem hkl
    rw [drop_cons hget] at hn
    simp only [sucB] at hn
    have hws := wrapS (n := k) (by omega)
    by_cases c1 : r.gate = gate
    · by_cases c2 : r.seq = IntKind.i64.wrap (first + k)
      · rw [show (r.gate == gate) = true by simp [c1], show (r.seq == IntKind.i64.wrap (first + k)) = true by rw [c2]; simp, Bool.true_and, Bool.true_and] at hn
        simp [h1, h2, h9, h10, h11, hkl, hr, c1, c2, hws]
        exact ⟨l.length - (k + 1), by omega, hJ _ _ ⟨k + 1, by omega, rfl, by simp [h1], by simp [h2], by simp [h9], by simp [h10], by simp, hn⟩⟩
      · have c2' : (r.seq == IntKind.i64.wrap (first + k)) = false := by simpa using c2
        rw [c2', Bool.and_false, Bool.false_and] at hn
        simp [h1, h2, h9, h10, h11, hkl, hr, c1, c2, hn]
    · have c1' : (r.gate == gate) = false := by simpa using c1
      rw [c1', Bool.false_and, Bool.false_and] at hn
      simp [h1, h9, h10, h11, hkl, hr, c1, hn]
  · have : l.drop k = [] := List.drop_eq_nil_of_le (by omega)
    rw [this] at hn
    simp [h10, h11, hkl, hn, sucB]
theorem eqv (a b : Rd) : eqCells [true, true, true, true, true, true, true] (eRd a) (eRd b) = some (decide (a = b)) := by
  have h : eqCells [true, true, true, true, true, true, true] (eRd a) (eRd b) = some ((a.gate == b.gate) && ((a.seq == b.seq) && ((a.ser == b.ser) && ((a.cnt == b.cnt) && ((a.prod == b.prod) && ((a.lift == b.lift) && ((a.at_ == b.at_) && true))))))) := rfl
  rw [h]
  congr 1
  by_cases e : a = b
  · subst e; simp
  · rw [decide_eq_false e]
    cases h2 : ((a.gate == b.gate) && ((a.seq == b.seq) && ((a.ser == b.ser) && ((a.cnt == b.cnt) && ((a.prod == b.prod) && ((a.lift == b.lift) && ((a.at_ == b.at_) && true))))))) with
    | false => rfl
    | true =>
      exfalso
      simp only [Bool.and_eq_true, beq_iff_eq] at h2
      obtain ⟨h1, h2, h3, h4, h5, h6, h7, _⟩ := h2
      apply e
      cases a; cases b
      simp only at h1 h2 h3 h4 h5 h6 h7
      subst h1 h2 h3 h4 h5 h6 h7
      rfl
def isR (r : Rd) : Rd → Bool := fun x => decide (x = r)
def hasB (l : List Rd) (r : Rd) : Bool := l.any (isR r)
theorem f45 (l : List Rd) (r : Rd) (hl : l.length ≤ 9223372036854775807) (K : List Vl → Prop) : FC F 45 [rR l, .v (.agg (eRd r))] K ↔ K [.c (I (idxI (isR r) l))] := by
  refine FC.rule ?_ K
  rw [fc_run F45]
  simp [b45]
  refine run_loop (fun q s => ∃ k, k ≤ l.length ∧ q = l.length - k ∧ s.fr 0 = rR l ∧ s.fr 3 = .ptr (0, 3) 0 ∧ s.mu.box (0, 3) = some (eRd r) ∧ s.fr 7 = vI l.length ∧ s.fr 8 = vI k ∧ ∀ (j : Nat) x, j < k → l[j]? = some x → isR r x = false) l.length ⟨0, by omega, by omega, by simp, by simp, by simp, by simp, by simp, fun j n h => absurd h (Nat.not_lt_zero _)⟩ ?_
  rintro J hJ q ⟨fr, μ⟩ ⟨k, hk, rfl, h0, h3, hb, h7, h8, hn⟩
  simp only at h0 h3 hb h7 h8
  by_cases hkl : k < l.length
  · obtain ⟨x, hx⟩ : ∃ x, l[k] = x := ⟨_, rfl⟩
    have hget : l[k]? = some x := by rw [← hx]; exact List.getElem?_eq_getElem hkl
    have hws := wrapS (n := k) (by omega)
    have he := eqv r x
    by_cases hp : x = r
    · have : idxI (isR r) l = k := by simp only [idxI, idx_at hget (show isR r x = true by simp [isR, hp]) hn]
      rw [show decide (r = x) = true by simp [hp]] at he
      simp [-eqCells, he, h0, h3, hb, h7, h8, hkl, hx, this]
    · have hf : isR r x = false := by simp [isR, hp]
      rw [show decide (r = x) = false by simpa using fun e => hp e.symm] at he
      simp [-eqCells, he, h0, h3, hb, h7, h8, hkl, hx, hws]
      refine ⟨l.length - (k + 1), by omega, hJ _ _ ⟨k + 1, by omega, rfl, by simp [h0], by simp [h3], by simp [hb], by simp [h7], by simp, fun j m hj hm => ?_⟩⟩
      by_cases hjk : j = k
      · subst hjk; rw [hget] at hm; injection hm with hm; subst hm; exact hf
      · exact hn j m (by omega) hm
  · have : idxI (isR r) l = -1 := by
      simp only [idxI]
      rw [idx_none fun j b hb => hn j b (by have := (List.getElem?_eq_some_iff.1 hb).1; omega) hb]
    simp [h7, h8, hkl, this]
theorem f39 (l : List Rd) (r : Rd) (hl : l.length ≤ 9223372036854775807) (K : List Vl → Prop) : FC F 39 [rR l, .v (.agg (eRd r))] K ↔ K [.c (B (hasB l r))] := by
  rw [fc_run F39]
  have h1 := f45 l r hl
  unfold hasB
  rw [← idxI_any]
  simp [b39, h1]
theorem f40 (l : List Rd) (r : Rd) (hl : l.length ≤ 9223372036854775807) (K : List Vl → Prop) : FC F 40 [rR l, .v (.agg (eRd r))] K ↔ K [.c (B (hasB l r))] := by
  refine FC.rule ?_ K
  rw [fc_run F40]
  simp [b40]
  refine run_loop (fun q s => ∃ k, k ≤ l.length ∧ q = l.length - k ∧ s.fr 0 = rR l ∧ s.fr 3 = .ptr (0, 3) 0 ∧ s.mu.box (0, 3) = some (eRd r) ∧ s.fr 5 = vI k ∧ hasB l r = (l.drop k).any (isR r)) l.length ⟨0, by omega, by omega, by simp, by simp, by simp, by simp, rfl⟩ ?_
  rintro J hJ q ⟨fr, μ⟩ ⟨k, hk, rfl, h0, h3, hb, h5, hn⟩
  simp only at h0 h3 hb h5
  by_cases hkl : k < l.length
  · obtain ⟨x, hx⟩ : ∃ x, l[k] = x := ⟨_, rfl⟩
    have hget : l[k]? = some x := by rw [← hx]; exact List.getElem?_eq_getElem hkl
    rw [drop_cons hget, List.any_cons] at hn
    have hws := wrapS (n := k) (by omega)
    have he := eqv x r
    by_cases hp : x = r
    · have hf : isR r x = true := by simp [isR, hp]
      rw [hf, Bool.true_or] at hn
      rw [show decide (x = r) = true by simp [hp]] at he
      simp [-eqCells, he, h0, h3, hb, h5, hkl, hx, hn]
    · have hf : isR r x = false := by simp [isR, hp]
      rw [hf, Bool.false_or] at hn
      rw [show decide (x = r) = false by simp [hp]] at he
      simp [-eqCells, he, h0, h3, hb, h5, hkl, hx, hws]
      exact ⟨l.length - (k + 1), by omega, hJ _ _ ⟨k + 1, by omega, rfl, by simp [h0], by simp [h3], by simp [hb], by simp, hn⟩⟩
  · have : l.drop k = [] := List.drop_eq_nil_of_le (by omega)
    rw [this] at hn
    simp [h0, h5, hkl, hn]
end Go.Proofs.Ytndabolfhhppkaa.Am
