/- Shortest ways, in plain words: walks, tables of costs, and why a table that no edge betters is least. No condition. -/
import Derived.Test.YtkoickoceggimaaGK
namespace Go.Proofs.Ytkoickoceggimaa.Am
open Go

/-! ### Walks -/
abbrev Gph := Int → Int → Int → Prop
inductive Wt (S : Gph) : Int → Int → Int → Nat → Prop
  | nil (v : Int) : Wt S v v 0 0
  | cons {a b d w c : Int} {n : Nat} : S a b d → Wt S b w c n → Wt S a w (c + d) (n + 1)
theorem Wt.cast {S : Gph} {a b c c' : Int} {n n' : Nat} (h : Wt S a b c n) (hc : c = c') (hn : n = n') : Wt S a b c' n' := by subst hc hn; exact h
theorem Wt.snoc {S : Gph} {a b x c d : Int} {n : Nat} (h : Wt S a b c n) (hs : S b x d) : Wt S a x (c + d) (n + 1) := by
  induction h with
  | nil v => exact (Wt.cons hs (.nil x)).cast (by omega) rfl
  | cons h1 h2 ih => exact (Wt.cons h1 (ih hs)).cast (by omega) rfl
theorem Wt.rev {S : Gph} (sym : ∀ a b d, S a b d → S b a d) {a b c : Int} {n : Nat} (h : Wt S a b c n) : Wt S b a c n := by
  induction h with
  | nil v => exact .nil v
  | cons h1 _ ih => exact ih.snoc (sym _ _ _ h1)
theorem Wt.app {S : Gph} {a b x c d : Int} {n k : Nat} (h : Wt S a b c n) (hs : Wt S b x d k) : Wt S a x (c + d) (n + k) := by
  induction h with
  | nil v => exact hs.cast (by omega) (by omega)
  | cons h1 _ ih => exact (Wt.cons h1 (ih hs)).cast (by omega) (by omega)
theorem Wt.cost {S : Gph} (pos : ∀ a b d, S a b d → 10 ≤ d) {a b c : Int} {n : Nat} (h : Wt S a b c n) : 10 * (n : Int) ≤ c := by
  induction h with
  | nil v => omega
  | cons h1 _ ih => have := pos _ _ _ h1; omega
/-- The least length of a walk. -/
def IsDist (S : Gph) (a b : Int) : Option Int → Prop
  | some c => (∃ n, Wt S a b c n) ∧ ∀ c' n, Wt S a b c' n → c ≤ c'
  | none => ∀ c n, ¬ Wt S a b c n
theorem isDist_unique {S : Gph} {a b : Int} {o o' : Option Int} (h : IsDist S a b o) (h' : IsDist S a b o') : o = o' := by
  cases o with
  | none =>
    cases o' with
    | none => rfl
    | some c => obtain ⟨⟨n, hn⟩, _⟩ := h'; exact absurd hn (h c n)
  | some c =>
    obtain ⟨⟨n, hn⟩, hl⟩ := h
    cases o' with
    | none => exact absurd hn (h' c n)
    | some c' =>
      obtain ⟨⟨n', hn'⟩, hl'⟩ := h'
      have h1 := hl _ _ hn'
      have h2 := hl' _ _ hn
      rw [show c = c' by omega]
open Classical in
noncomputable def dist (S : Gph) (a b : Int) : Option Int := if h : ∃ o, IsDist S a b o then h.choose else none
theorem dist_eq {S : Gph} {a b : Int} {o : Option Int} (h : IsDist S a b o) : dist S a b = o := by
  have hx : ∃ o, IsDist S a b o := ⟨o, h⟩
  unfold dist
  rw [dif_pos hx]
  exact isDist_unique hx.choose_spec h
theorem dist_is {S : Gph} {a b : Int} {o : Option Int} (h : IsDist S a b o) : IsDist S a b (dist S a b) := by rw [dist_eq h]; exact h
theorem isDist_sym {S : Gph} (sym : ∀ a b d, S a b d → S b a d) {a b : Int} {o : Option Int} (h : IsDist S a b o) : IsDist S b a o := by
  cases o with
  | none => exact fun c n w => h c n (w.rev sym)
  | some c =>
    obtain ⟨⟨n, hn⟩, hl⟩ := h
    exact ⟨⟨n, hn.rev sym⟩, fun c' n' w => hl c' n' (w.rev sym)⟩
/-! ### Tables of costs -/
abbrev Tab := Int → Option (Int × Nat)
/-- No worse: by the total, then by the number of edges. -/
def nb (c : Int) (n : Nat) (c' : Int) (n' : Nat) : Prop := c < c' ∨ c = c' ∧ n ≤ n'
def stab (T : Tab) (a b d : Int) : Prop := ∀ c n, T b = some (c, n) → ∃ c' n', T a = some (c', n') ∧ nb c' n' (c + d) (n + 1)
structure Good (S : Gph) (to : Int) (T : Tab) : Prop where
  zero : T to = some (0, 0)
  snd : ∀ v c n, T v = some (c, n) → Wt S v to c n
  fix : ∀ a b d, S a b d → stab T a b d
theorem Good.least {S : Gph} {to : Int} {T : Tab} (h : Good S to T) {v c : Int} {n : Nat} (w : Wt S v to c n) : ∃ c' n', T v = some (c', n') ∧ nb c' n' c n := by
  revert h
  induction w with
  | nil v => intro h; exact ⟨0, 0, h.zero, .inr ⟨rfl, Nat.le_refl _⟩⟩
  | cons h1 _ ih =>
    intro h
    obtain ⟨c1, n1, e1, k1⟩ := ih h
    obtain ⟨c2, n2, e2, k2⟩ := h.fix _ _ _ h1 _ _ e1
    refine ⟨c2, n2, e2, ?_⟩
    unfold nb at *
    omega
theorem Good.next {S : Gph} {to : Int} {T : Tab} (h : Good S to T) {v c : Int} {n : Nat} (e : T v = some (c, n)) (hv : v ≠ to) : ∃ u d n', S v u d ∧ n = n' + 1 ∧ T u = some (c - d, n') := by
  have w := h.snd _ _ _ e
  cases w with
  | nil => exact absurd rfl hv
  | cons h1 w =>
    rename_i b d c0 n0
    obtain ⟨c1, n1, e1, k1⟩ := h.least w
    obtain ⟨c2, n2, e2, k2⟩ := h.fix _ _ _ h1 _ _ e1
    rw [e] at e2
    injection e2 with e2
    injection e2 with a1 a2
    subst a1 a2
    refine ⟨b, d, n0, h1, rfl, ?_⟩
    unfold nb at k1 k2
    rw [e1]
    have x1 : c1 = c0 := by omega
    have x2 : n1 = n0 := by omega
    rw [x1, x2, show c0 + d - d = c0 by omega]
theorem Good.dist {S : Gph} {to : Int} {T : Tab} (h : Good S to T) (v : Int) : IsDist S v to ((T v).map Prod.fst) := by
  cases e : T v with
  | none =>
    intro c n w
    obtain ⟨c', n', e', _⟩ := h.least w
    rw [e] at e'; cases e'
  | some p =>
    obtain ⟨c, n⟩ := p
    refine ⟨⟨n, h.snd _ _ _ e⟩, fun c' n' w => ?_⟩
    obtain ⟨c2, n2, e2, k⟩ := h.least w
    rw [e] at e2
    injection e2 with e2
    injection e2 with a1 a2
    subst a1 a2
    unfold nb at k
    omega
/-- A best walk's nodes: each has a lesser number of edges than the one before it. -/
theorem Good.chain {S : Gph} {to : Int} {T : Tab} (h : Good S to T) : ∀ {n : Nat} {v c : Int}, T v = some (c, n) → ∃ l : List Int, l.length = n + 1 ∧ (∀ x ∈ l, x = to ∨ ∃ b d, S x b d) ∧ (∀ x ∈ l, ∃ c' n', T x = some (c', n') ∧ n' ≤ n) ∧ l.Nodup
  | n, v, c, e => by
    by_cases hv : v = to
    · subst hv
      rw [h.zero] at e
      injection e with e
      injection e with a1 a2
      subst a1 a2
      exact ⟨[v], rfl, fun x hx => .inl (by simpa using hx), fun x hx => ⟨0, 0, by rw [List.mem_singleton.1 hx]; exact h.zero, Nat.le_refl _⟩, by simp⟩
    · obtain ⟨u, d, n', hs, rfl, hu⟩ := h.next e hv
      obtain ⟨l, h1, h2, h3, h4⟩ := h.chain hu
      refine ⟨v :: l, by rw [List.length_cons, h1], fun x hx => ?_, fun x hx => ?_, List.nodup_cons.2 ⟨fun hm => ?_, h4⟩⟩
      · rcases List.mem_cons.1 hx with rfl | hx
        · exact .inr ⟨u, d, hs⟩
        · exact h2 x hx
      · rcases List.mem_cons.1 hx with rfl | hx
        · exact ⟨c, n' + 1, e, Nat.le_refl _⟩
        · obtain ⟨c', n2, q1, q2⟩ := h3 x hx; exact ⟨c', n2, q1, by omega⟩
      · obtain ⟨c', n2, q1, q2⟩ := h3 v hm
        rw [e] at q1
        injection q1 with q1
        injection q1 with a1 a2
        omega
end Go.Proofs.Ytkoickoceggimaa.Am
