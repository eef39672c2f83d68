/- Terrain: a map that is handed over, read as one. No condition. -/
import Derived.Test.YtmbhpinkiffdgaaTB
namespace Go.Proofs.Ytmbhpinkiffdgaa.Am
open Go

abbrev ti : Ty := .i .i64
theorem fit_int {c : Cell} (h : Fit ti c) : ∃ n, c = I n ∧ R64 n := by
  cases h with
  | i h1 h2 => exact ⟨_, rfl, by simpa [IntKind.min, IntKind.bits, IntKind.signed] using h1, by simpa [IntKind.max, IntKind.bits, IntKind.signed] using h2⟩
theorem row_ints : ∀ {n : Nat} {r : List Cell}, r.length = n → (∀ c ∈ r, Fit ti c) → ∃ l : List Int, r = l.map I ∧ l.length = n ∧ ∀ x ∈ l, R64 x
  | _, [], h, _ => ⟨[], rfl, h, by simp⟩
  | 0, _ :: _, h, _ => by simp at h
  | n + 1, c :: r, h, hf => by
    obtain ⟨x, rfl, hx⟩ := fit_int (hf c (List.mem_cons_self ..))
    obtain ⟨l, h1, h2, h3⟩ := row_ints (n := n) (r := r) (by simpa using h) fun c hc => hf c (by simp [hc])
    exact ⟨x :: l, by rw [h1]; rfl, by simp [h2], by simp [hx]; exact h3⟩
theorem fit_row {es : List Ty} {c : Cell} (h : Fit (.s es) c) : ∃ xs, c = .ro es.length xs ∧ xs.length ≤ maxLen ∧ (∀ r ∈ xs, r.length = es.length) ∧ ∀ r ∈ xs, ∀ (j : Nat) (t : Ty) (c : Cell), es[j]? = some t → r[j]? = some c → Fit t c := by
  cases h with
  | s h1 h2 h3 => exact ⟨_, rfl, h1, h2, h3⟩
theorem fit_ints {n : Nat} {c : Cell} (h : Fit (.s (List.replicate n ti)) c) : ∃ xs : List (List Int), c = .ro n (xs.map fun l => l.map I) ∧ xs.length ≤ maxLen ∧ ∀ l ∈ xs, l.length = n ∧ ∀ x ∈ l, R64 x := by
  obtain ⟨xs, rfl, h1, h2, h3⟩ := fit_row h
  have : ∀ xs : List (List Cell), (∀ r ∈ xs, r.length = n ∧ ∀ c ∈ r, Fit ti c) → ∃ ys : List (List Int), xs = ys.map (fun l => l.map I) ∧ ∀ l ∈ ys, l.length = n ∧ ∀ x ∈ l, R64 x := by
    intro xs
    induction xs with
    | nil => intro _; exact ⟨[], rfl, by simp⟩
    | cons r xs ih =>
      intro h
      obtain ⟨ys, k1, k2⟩ := ih fun r hr => h r (by simp [hr])
      obtain ⟨l, g1, g2, g3⟩ := row_ints (h r (by simp)).1 (h r (by simp)).2
      exact ⟨l :: ys, by rw [k1, g1]; rfl, by
        intro q hq
        rcases List.mem_cons.1 hq with rfl | hq
        · exact ⟨g2, g3⟩
        · exact k2 q hq⟩
  obtain ⟨ys, k1, k2⟩ := this xs fun r hr => by
    have hl := h2 r hr
    rw [List.length_replicate] at hl
    refine ⟨hl, fun c hc => ?_⟩
    obtain ⟨j, hj⟩ := List.getElem?_of_mem hc
    have hjn : j < n := by have := (List.getElem?_eq_some_iff.1 hj).1; omega
    exact h3 r hr j ti c (by simp [List.getElem?_replicate, hjn]) hj
  exact ⟨ys, by rw [List.length_replicate, k1], by rw [k1] at h1; simpa using h1, k2⟩
theorem rows_as {α : Type} {e : α → List Cell} {n : Nat} {Q : α → Prop} (hd : ∀ l : List Int, l.length = n → (∀ x ∈ l, R64 x) → ∃ a, l.map I = e a ∧ Q a) : ∀ {xs : List (List Int)}, (∀ l ∈ xs, l.length = n ∧ ∀ x ∈ l, R64 x) → ∃ ys : List α, xs.map (fun l => l.map I) = ys.map e ∧ ∀ a ∈ ys, Q a
  | [], _ => ⟨[], rfl, by simp⟩
  | l :: xs, h => by
    obtain ⟨a, h1, h2⟩ := hd l (h l (by simp)).1 (h l (by simp)).2
    obtain ⟨ys, k1, k2⟩ := rows_as (xs := xs) hd fun l hl => h l (by simp [hl])
    exact ⟨a :: ys, by simp only [List.map_cons, k1, h1], by
      intro b hb
      rcases List.mem_cons.1 hb with rfl | hb
      · exact h2
      · exact k2 b hb⟩
structure Rg (m : Mp) : Prop where
  n : ∀ x ∈ m.nodes, R64 x.id ∧ R64 x.alt
  l : ∀ x ∈ m.lifts, R64 x.id ∧ R64 x.op ∧ R64 x.fr ∧ R64 x.to ∧ R64 x.len ∧ R64 x.speed ∧ R64 x.seats ∧ R64 x.spac
  r : ∀ x ∈ m.runs, R64 x.id ∧ R64 x.op ∧ R64 x.fr ∧ R64 x.to ∧ R64 x.grade ∧ R64 x.zone ∧ R64 x.len
  b : ∀ x ∈ m.bases, R64 x
abbrev tyM : Bool × List Ty := (true, [.s [ti, ti], .s [ti, ti, ti, ti, ti, ti, ti, ti], .s [ti, ti, ti, ti, ti, ti, ti], .s [ti]])
theorem open_map {x : FV} (h : FitA tyM x) : ∃ m, x = .v (.agg (eM m)) ∧ Okm m ∧ Rg m := by
  cases x with
  | v x =>
    cases x with
    | c x => exact h.elim
    | agg cs =>
      obtain ⟨hl, hf⟩ := h
      match cs, hl with
      | [c1, c2, c3, c4], _ =>
        obtain ⟨x1, rfl, a1, b1⟩ := fit_ints (n := 2) (hf 0 _ c1 rfl rfl)
        obtain ⟨x2, rfl, a2, b2⟩ := fit_ints (n := 8) (hf 1 _ c2 rfl rfl)
        obtain ⟨x3, rfl, a3, b3⟩ := fit_ints (n := 7) (hf 2 _ c3 rfl rfl)
        obtain ⟨x4, rfl, a4, b4⟩ := fit_ints (n := 1) (hf 3 _ c4 rfl rfl)
        obtain ⟨y1, e1', q1⟩ := rows_as (e := eNd) (Q := fun x => R64 x.id ∧ R64 x.alt) (fun l hl hr => by
          match l, hl with
          | [a, b], _ => simp only [List.forall_mem_cons] at hr; exact ⟨⟨a, b⟩, rfl, hr.1, hr.2.1⟩) b1
        obtain ⟨y2, e2', q2⟩ := rows_as (e := eLf) (Q := fun x => R64 x.id ∧ R64 x.op ∧ R64 x.fr ∧ R64 x.to ∧ R64 x.len ∧ R64 x.speed ∧ R64 x.seats ∧ R64 x.spac) (fun l hl hr => by
          match l, hl with
          | [a, b, c, d, e, f, g, k], _ => simp only [List.forall_mem_cons] at hr; exact ⟨⟨a, b, c, d, e, f, g, k⟩, rfl, hr.1, hr.2.1, hr.2.2.1, hr.2.2.2.1, hr.2.2.2.2.1, hr.2.2.2.2.2.1, hr.2.2.2.2.2.2.1, hr.2.2.2.2.2.2.2.1⟩) b2
        obtain ⟨y3, e3', q3⟩ := rows_as (e := eRn) (Q := fun x => R64 x.id ∧ R64 x.op ∧ R64 x.fr ∧ R64 x.to ∧ R64 x.grade ∧ R64 x.zone ∧ R64 x.len) (fun l hl hr => by
          match l, hl with
          | [a, b, c, d, e, f, g], _ => simp only [List.forall_mem_cons] at hr; exact ⟨⟨a, b, c, d, e, f, g⟩, rfl, hr.1, hr.2.1, hr.2.2.1, hr.2.2.2.1, hr.2.2.2.2.1, hr.2.2.2.2.2.1, hr.2.2.2.2.2.2.1⟩) b3
        obtain ⟨y4, e4', q4⟩ := rows_as (e := e1) (Q := R64) (fun l hl hr => by
          match l, hl with
          | [a], _ => simp only [List.forall_mem_cons] at hr; exact ⟨a, rfl, hr.1⟩) b4
        have l1 := congrArg List.length e1'
        have l2 := congrArg List.length e2'
        have l3 := congrArg List.length e3'
        have l4 := congrArg List.length e4'
        simp only [List.length_map, maxLen] at l1 l2 l3 l4 a1 a2 a3 a4
        exact ⟨⟨y1, y2, y3, y4⟩, by simp only [eM, e1', e2', e3', e4'], ⟨by show y1.length ≤ _; omega, by show y2.length ≤ _; omega, by show y3.length ≤ _; omega, by show y4.length ≤ _; omega⟩, ⟨q1, q2, q3, q4⟩⟩
  | _ => exact h.elim
theorem open_int {x : FV} (h : FitA (false, [ti]) x) : ∃ n, x = vI n ∧ R64 n := by
  cases x with
  | v x =>
    cases x with
    | c x => obtain ⟨n, rfl, hn⟩ := fit_int h; exact ⟨n, rfl, hn⟩
    | agg cs => exact h.elim
  | _ => exact h.elim
theorem law4 (xs : List FV) (h : FitAll [tyM, (false, [ti])] xs) : FC F 4 xs (· = [.c (B true)]) := by
  match xs, h with
  | [x, y], ⟨hx, hy, _⟩ =>
    obtain ⟨m, rfl, hm, _⟩ := open_map hx
    obtain ⟨n, rfl, _⟩ := open_int hy
    exact (f4 m n hm _).2 rfl
end Go.Proofs.Ytmbhpinkiffdgaa.Am
