/- The edges of a map, both ways. No condition. -/
import Derived.Test.YtkoickoceggimaaGP
namespace Go.Proofs.Ytkoickoceggimaa.Am
open Go

def both (l : List Ed) (a b d : Int) : List Ed := l ++ [⟨l.length, a, b, d⟩, ⟨l.length + 1, b, a, d⟩]
def foldE {α : Type} (g : α → Int × Int × Int) : List Ed → List α → List Ed
  | l, [] => l
  | l, x :: r => foldE g (both l (g x).1 (g x).2.1 (g x).2.2) r
theorem foldE_app {α : Type} (g : α → Int × Int × Int) : ∀ (l : List Ed) (xs ys : List α), foldE g l (xs ++ ys) = foldE g (foldE g l xs) ys
  | _, [], _ => rfl
  | _, _ :: r, ys => foldE_app g _ r ys
theorem foldE_step {α : Type} (g : α → Int × Int × Int) (l : List Ed) {xs : List α} {k : Nat} {x : α} (h : xs[k]? = some x) :
    foldE g l (xs.take (k + 1)) = both (foldE g l (xs.take k)) (g x).1 (g x).2.1 (g x).2.2 := by
  rw [← take_app h, foldE_app]; rfl
theorem foldE_len {α : Type} (g : α → Int × Int × Int) : ∀ (l : List Ed) (xs : List α), (foldE g l xs).length = l.length + 2 * xs.length
  | _, [] => rfl
  | _, _ :: r => by rw [foldE, foldE_len]; simp only [both, List.length_append, List.length_cons, List.length_nil]; omega
def joins (p : Int × Int × Int) (a b d : Int) : Prop := (p.1 = a ∧ p.2.1 = b ∧ p.2.2 = d) ∨ (p.1 = b ∧ p.2.1 = a ∧ p.2.2 = d)
theorem se_both {l : List Ed} {x y z a b d : Int} : Se (both l x y z) a b d ↔ Se l a b d ∨ joins (x, y, z) a b d := by
  unfold Se both joins
  constructor
  · rintro ⟨e, he, h1, h2, h3⟩
    rcases List.mem_append.1 he with he | he
    · exact .inl ⟨e, he, h1, h2, h3⟩
    · simp only [List.mem_cons, List.not_mem_nil, or_false] at he
      rcases he with rfl | rfl
      · exact .inr (.inl ⟨h1, h2, h3⟩)
      · exact .inr (.inr ⟨h2, h1, h3⟩)
  · rintro (⟨e, he, h1, h2, h3⟩ | ⟨h1, h2, h3⟩ | ⟨h1, h2, h3⟩)
    · exact ⟨e, List.mem_append_left _ he, h1, h2, h3⟩
    · exact ⟨_, List.mem_append_right _ (List.mem_cons_self ..), h1, h2, h3⟩
    · exact ⟨_, List.mem_append_right _ (List.mem_cons_of_mem _ (List.mem_cons_self ..)), h2, h1, h3⟩
theorem se_fold {α : Type} {g : α → Int × Int × Int} {a b d : Int} : ∀ {xs : List α} {l : List Ed}, Se (foldE g l xs) a b d ↔ Se l a b d ∨ ∃ x ∈ xs, joins (g x) a b d
  | [], _ => by simp [foldE]
  | x :: r, _ => by
    rw [foldE, se_fold (xs := r), se_both]
    simp only [List.mem_cons]
    constructor
    · rintro ((h | h) | ⟨y, hy, h⟩)
      · exact .inl h
      · exact .inr ⟨x, .inl rfl, h⟩
      · exact .inr ⟨y, .inr hy, h⟩
    · rintro (h | ⟨y, rfl | hy, h⟩)
      · exact .inl (.inl h)
      · exact .inl (.inr h)
      · exact .inr ⟨y, hy, h⟩
def gL (x : Lf) : Int × Int × Int := (x.fr, x.to, x.len)
def gR (x : Rn) : Int × Int × Int := (x.fr, x.to, x.len)
def steps (m : Mp) : List (Int × Int × Int) := m.runs.map gR ++ m.lifts.map gL
def Sm (m : Mp) : Gph := fun a b d => ∃ p ∈ steps m, joins p a b d
def edges (m : Mp) : List Ed := foldE gR (foldE gL [] m.lifts) m.runs
theorem joins_sym {p : Int × Int × Int} {a b d : Int} (h : joins p a b d) : joins p b a d := h.elim .inr .inl
theorem sm_sym {m : Mp} : ∀ a b d, Sm m a b d → Sm m b a d := fun _ _ _ ⟨p, hp, h⟩ => ⟨p, hp, joins_sym h⟩
theorem se_edges (m : Mp) : Se (edges m) = Sm m := by
  funext a b d
  refine propext ?_
  unfold edges Sm steps
  rw [se_fold, se_fold]
  constructor
  · rintro ((⟨e, he, _⟩ | ⟨x, hx, h⟩) | ⟨x, hx, h⟩)
    · cases he
    · exact ⟨_, List.mem_append_right _ (List.mem_map.2 ⟨x, hx, rfl⟩), h⟩
    · exact ⟨_, List.mem_append_left _ (List.mem_map.2 ⟨x, hx, rfl⟩), h⟩
  · rintro ⟨p, hp, h⟩
    rcases List.mem_append.1 hp with hp | hp
    · obtain ⟨x, hx, rfl⟩ := List.mem_map.1 hp; exact .inr ⟨x, hx, h⟩
    · obtain ⟨x, hx, rfl⟩ := List.mem_map.1 hp; exact .inl (.inr ⟨x, hx, h⟩)
theorem tooLong_parts {m : Mp} (h : tooLong m = false) : m.nodes.length ≤ 64 ∧ m.lifts.length ≤ 32 ∧ m.runs.length ≤ 64 ∧ m.bases.length ≤ 64 := by
  simp only [tooLong, Bool.or_eq_false_iff, decide_eq_false_iff_not] at h
  omega
theorem step_parts {m : Mp} (h : rightE m = 0) {p : Int × Int × Int} (hp : p ∈ steps m) : hasNd m p.1 = true ∧ hasNd m p.2.1 = true ∧ 10 ≤ p.2.2 ∧ p.2.2 ≤ 20000 := by
  obtain ⟨_, _, hl, hr, _⟩ := right_parts h
  rcases List.mem_append.1 hp with hp | hp
  · obtain ⟨x, hx, rfl⟩ := List.mem_map.1 hp
    have hrg := (runs_sorted hr).2.2 x hx
    simp only [rngRn, inn, Bool.and_eq_true, decide_eq_true_eq] at hrg
    have hrise : risesE m x.to x.fr = 0 := by
      have : ∀ {l : List Rn} {p : Option Int}, runsE m p l = 0 → ∀ x ∈ l, risesE m x.to x.fr = 0 := by
        intro l
        induction l with
        | nil => intro p _ x hx; cases hx
        | cons y r ih =>
          intro p h x hx
          simp only [runsE] at h
          split at h
          · rename_i h0
            exact absurd h h0
          · rename_i h0
            rcases List.mem_cons.1 hx with rfl | hx
            · exact (runE_parts (Decidable.not_not.1 h0)).2.2
            · exact ih h x hx
      exact this hr x hx
    obtain ⟨h1, h2, _⟩ := rises_parts hrise
    exact ⟨h2, h1, by simp only [gR]; omega, by simp only [gR]; omega⟩
  · obtain ⟨x, hx, rfl⟩ := List.mem_map.1 hp
    have hrg := (lifts_sorted hl).2.2 x hx
    simp only [rngLf, inn, Bool.and_eq_true, decide_eq_true_eq] at hrg
    obtain ⟨h1, h2, _⟩ := rises_parts (lifts_ok hl x hx)
    exact ⟨h1, h2, by simp only [gL]; omega, by simp only [gL]; omega⟩
theorem edges_ok {m : Mp} (h : rightE m = 0) : EOk (edges m) where
  len := by
    have := tooLong_parts (right_parts h).1
    unfold edges
    rw [foldE_len, foldE_len, List.length_nil]
    omega
  cost := fun e he => by
    have : Sm m e.b e.c e.d := by rw [← se_edges]; exact ⟨e, he, rfl, rfl, rfl⟩
    obtain ⟨p, hp, hj⟩ := this
    have := step_parts h hp
    rcases hj with ⟨_, _, h3⟩ | ⟨_, _, h3⟩ <;> omega
noncomputable def wayO (m : Mp) (fm to : Int) : Option Int := if (hasNd m fm && hasNd m to) = true then dist (Sm m) fm to else none
end Go.Proofs.Ytkoickoceggimaa.Am
