/- Sweep: a sweep that is handed over, read as one; the law SweepChecks over the abstract machine. No condition. -/
import Derived.Test.YtephpcoffonjfaaSG
namespace Go.Proofs.Ytephpcoffonjfaa.Am
open Go

theorem f11 (K : List Vl → Prop) : FC F 11 [] K ↔ K [.c (B true)] := fc_ev (n := 3000) (by kernel_rfl) K
structure Rgs (s : Sp) : Prop where
  r : ∀ x ∈ s.runs, R64 x
  w : ∀ x ∈ s.swept, R64 x.run ∧ R64 x.who ∧ R64 x.at_ ∧ R64 x.found
  b : R64 s.begun
abbrev tyS : Bool × List Ty := (true, [.s [ti], .s [ti, ti, ti, ti], ti])
theorem open_sweep {x : FV} (h : FitA tyS x) : ∃ s, x = .v (.agg (eSp s)) ∧ Oks s ∧ Rgs s := by
  cases x with
  | v x =>
    cases x with
    | c x => exact h.elim
    | agg cs =>
      obtain ⟨hl, hf⟩ := h
      match cs, hl with
      | [c1, c2, c3], _ =>
        obtain ⟨x1, rfl, a1, b1⟩ := fit_ints (n := 1) (hf 0 _ c1 rfl rfl)
        obtain ⟨x2, rfl, a2, b2⟩ := fit_ints (n := 4) (hf 1 _ c2 rfl rfl)
        obtain ⟨x3, rfl, b3⟩ := fit_int (hf 2 _ c3 rfl rfl)
        obtain ⟨y1, e1', q1⟩ := rows_as (e := e1) (Q := R64) (fun l hl hr => by
          match l, hl with
          | [a], _ => simp only [List.forall_mem_cons] at hr; exact ⟨a, rfl, hr.1⟩) b1
        obtain ⟨y2, e2', q2⟩ := rows_as (e := eSw) (Q := fun x => R64 x.run ∧ R64 x.who ∧ R64 x.at_ ∧ R64 x.found) (fun l hl hr => by
          match l, hl with
          | [a, b, c, d], _ => simp only [List.forall_mem_cons] at hr; exact ⟨⟨a, b, c, d⟩, rfl, hr.1, hr.2.1, hr.2.2.1, hr.2.2.2.1⟩) b2
        have l1 := congrArg List.length e1'
        have l2 := congrArg List.length e2'
        simp only [List.length_map, maxLen] at l1 l2 a1 a2
        exact ⟨⟨y1, y2, x3⟩, by simp only [eSp, e1', e2'], ⟨by show y1.length ≤ _; omega, by show y2.length ≤ _; omega⟩, ⟨q1, q2, b3⟩⟩
  | _ => exact h.elim
theorem f3 (m : Mp) (s : Sp) (h : Okm m) (hs : Oks s) (K : List Vl → Prop) : FC F 3 [.v (.agg (eM m)), .v (.agg (eSp s))] K ↔ K [.c (B true)] := by
  rw [fc_run F3]
  have h1 := f12 m h
  have h2 := f13 m s h hs
  have h3 := f14 m s h hs
  by_cases c : rightE m = 0
  · by_cases c1 : (80 : Int) < s.runs.length
    · simp [b3, f11, h1, c, c1]
    · by_cases c2 : (80 : Int) < s.swept.length
      · simp [b3, f11, h1, c, c1, c2]
      · simp [b3, f11, h1, h2, h3, c, c1, c2]
  · simp [b3, f11, h1, c]
theorem law3 (xs : List FV) (h : FitAll [tyM, tyS] xs) : FC F 3 xs (· = [.c (B true)]) := by
  match xs, h with
  | [x, y], ⟨hx, hy, _⟩ =>
    obtain ⟨m, rfl, hm, _⟩ := open_map hx
    obtain ⟨s, rfl, hs, _⟩ := open_sweep hy
    exact (f3 m s hm hs _).2 rfl
end Go.Proofs.Ytephpcoffonjfaa.Am
