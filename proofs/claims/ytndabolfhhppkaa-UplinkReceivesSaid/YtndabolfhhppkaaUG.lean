/- Arguments that read as data; the law of boxes that belong together. No condition. -/
import Derived.Test.YtndabolfhhppkaaUF
namespace Go.Proofs.Ytndabolfhhppkaa.Am
open Go

abbrev ti : Ty := .i .i64
theorem fit_int {c : Cell} (h : Fit ti c) : ∃ n, c = I n ∧ R64 n := by
  cases h with
  | i h1 h2 => exact ⟨_, rfl, by simpa [IntKind.min, IntKind.bits, IntKind.signed] using h1, by simpa [IntKind.max, IntKind.bits, IntKind.signed] using h2⟩
theorem row_ints : ∀ {n : Nat} {r : List Cell}, r.length = n → (∀ c ∈ r, Fit ti c) → ∃ l : List Int, r = l.map I ∧ l.length = n ∧ ∀ x ∈ l, R64 x
  | _, [], h, _ => ⟨[], rfl, h, by simp⟩
  | 0, _ :: _, h, _ => by simp at h
  | n + 1, c :: r, h, hf => by
    obtain ⟨x, rfl, hx⟩ := fit_int (hf c (List.mem_cons_self ..))
    obtain ⟨l, h1, h2, h3⟩ := row_ints (n := n) (r := r) (by simpa using h) fun c hc => hf c (by simp [hc])
    exact ⟨x :: l, by rw [h1]; rfl, by simp [h2], by simp [hx]; exact h3⟩
theorem fit_row {es : List Ty} {c : Cell} (h : Fit (.s es) c) : ∃ xs, c = .ro es.length xs ∧ xs.length ≤ maxLen ∧ (∀ r ∈ xs, r.length = es.length) ∧ ∀ r ∈ xs, ∀ (j : Nat) (t : Ty) (c : Cell), es[j]? = some t → r[j]? = some c → Fit t c := by
  cases h with
  | s h1 h2 h3 => exact ⟨_, rfl, h1, h2, h3⟩
theorem fit_ints {n : Nat} {c : Cell} (h : Fit (.s (List.replicate n ti)) c) : ∃ xs : List (List Int), c = .ro n (xs.map fun l => l.map I) ∧ xs.length ≤ maxLen ∧ ∀ l ∈ xs, l.length = n ∧ ∀ x ∈ l, R64 x := by
  obtain ⟨xs, rfl, h1, h2, h3⟩ := fit_row h
  have : ∀ xs : List (List Cell), (∀ r ∈ xs, r.length = n ∧ ∀ c ∈ r, Fit ti c) → ∃ ys : List (List Int), xs = ys.map (fun l => l.map I) ∧ ∀ l ∈ ys, l.length = n ∧ ∀ x ∈ l, R64 x := by
    intro xs
    induction xs with
    | nil => intro _; exact ⟨[], rfl, by simp⟩
    | cons r xs ih =>
      intro h
      obtain ⟨ys, k1, k2⟩ := ih fun r hr => h r (by simp [hr])
      obtain ⟨l, g1, g2, g3⟩ := row_ints (h r (by simp)).1 (h r (by simp)).2
      exact ⟨l :: ys, by rw [k1, g1]; rfl, by
        intro q hq
        rcases List.mem_cons.1 hq with rfl | hq
        · exact ⟨g2, g3⟩
        · exact k2 q hq⟩
  obtain ⟨ys, k1, k2⟩ := this xs fun r hr => by
    have hl := h2 r hr
    rw [List.length_replicate] at hl
    refine ⟨hl, fun c hc => ?_⟩
    obtain ⟨j, hj⟩ := List.getElem?_of_mem hc
    have hjn : j < n := by have := (List.getElem?_eq_some_iff.1 hj).1; omega
    exact h3 r hr j ti c (by simp [hjn]) hj
  exact ⟨ys, by rw [List.length_replicate, k1], by rw [k1] at h1; simpa using h1, k2⟩
theorem rows_as {α : Type} {e : α → List Cell} {n : Nat} {Q : α → Prop} (hd : ∀ l : List Int, l.length = n → (∀ x ∈ l, R64 x) → ∃ a, l.map I = e a ∧ Q a) : ∀ {xs : List (List Int)}, (∀ l ∈ xs, l.length = n ∧ ∀ x ∈ l, R64 x) → ∃ ys : List α, xs.map (fun l => l.map I) = ys.map e ∧ ∀ a ∈ ys, Q a
  | [], _ => ⟨[], rfl, by simp⟩
  | l :: xs, h => by
    obtain ⟨a, h1, h2⟩ := hd l (h l (by simp)).1 (h l (by simp)).2
    obtain ⟨ys, k1, k2⟩ := rows_as (xs := xs) hd fun l hl => h l (by simp [hl])
    exact ⟨a :: ys, by simp only [List.map_cons, k1, h1], by
      intro b hb
      rcases List.mem_cons.1 hb with rfl | hb
      · exact h2
      · exact k2 b hb⟩
theorem open_int {x : FV} (h : FitA (false, [ti]) x) : ∃ n, x = vI n ∧ R64 n := by
  cases x with
  | v x =>
    cases x with
    | c x => obtain ⟨n, rfl, hn⟩ := fit_int h; exact ⟨n, rfl, hn⟩
    | agg cs => exact h.elim
  | _ => exact h.elim

abbrev tyR : Ty := .s [ti, ti, ti, ti, ti, ti, ti]
structure RgR (r : Rd) : Prop where
  gate : R64 r.gate
  seq : R64 r.seq
theorem rides_of {c : Cell} (h : Fit tyR c) : ∃ l : List Rd, c = .ro 7 (l.map eRd) ∧ l.length ≤ 9223372036854775807 ∧ ∀ r ∈ l, RgR r := by
  obtain ⟨xs, rfl, a, b⟩ := fit_ints (n := 7) h
  obtain ⟨y, e, q⟩ := rows_as (e := eRd) (Q := RgR) (fun l hl hr => by
    match l, hl with
    | [a, b, c, d, e, f, g], _ => simp only [List.forall_mem_cons] at hr; exact ⟨⟨a, b, c, d, e, f, g⟩, rfl, ⟨hr.1, hr.2.1⟩⟩) b
  refine ⟨y, by rw [e], ?_, q⟩
  have := congrArg List.length e
  simp only [List.length_map] at this
  rw [← this]
  simpa [maxLen] using a
abbrev tyO : Bool × List Ty := (true, [ti, ti, tyR])
abbrev tyI : Bool × List Ty := (true, [ti, ti, tyR, tyR])
theorem open_out {x : FV} (h : FitA tyO x) : ∃ o : Ob, x = .v (.agg (eO o)) ∧ R64 o.gate ∧ R64 o.next ∧ o.mail.length ≤ 9223372036854775807 ∧ ∀ r ∈ o.mail, RgR r := by
  cases x with
  | v x =>
    cases x with
    | c x => exact h.elim
    | agg cs =>
      obtain ⟨hl, hf⟩ := h
      match cs, hl with
      | [c1, c2, c3], _ =>
        obtain ⟨a, rfl, ra⟩ := fit_int (hf 0 _ c1 rfl rfl)
        obtain ⟨b, rfl, rb⟩ := fit_int (hf 1 _ c2 rfl rfl)
        obtain ⟨l, rfl, rl, rq⟩ := rides_of (hf 2 _ c3 rfl rfl)
        exact ⟨⟨a, b, l⟩, rfl, ra, rb, rl, rq⟩
  | _ => exact h.elim
theorem open_in {x : FV} (h : FitA tyI x) : ∃ i : Ib, x = .v (.agg (eI i)) ∧ R64 i.gate ∧ R64 i.next ∧ i.got.length ≤ 9223372036854775807 ∧ i.early.length ≤ 9223372036854775807 ∧ (∀ r ∈ i.got, RgR r) ∧ ∀ r ∈ i.early, RgR r := by
  cases x with
  | v x =>
    cases x with
    | c x => exact h.elim
    | agg cs =>
      obtain ⟨hl, hf⟩ := h
      match cs, hl with
      | [c1, c2, c3, c4], _ =>
        obtain ⟨a, rfl, ra⟩ := fit_int (hf 0 _ c1 rfl rfl)
        obtain ⟨b, rfl, rb⟩ := fit_int (hf 1 _ c2 rfl rfl)
        obtain ⟨l, rfl, rl, rq⟩ := rides_of (hf 2 _ c3 rfl rfl)
        obtain ⟨k, rfl, rk, rp⟩ := rides_of (hf 3 _ c4 rfl rfl)
        exact ⟨⟨a, b, l, k⟩, rfl, ra, rb, rl, rk, rq, rp⟩
  | _ => exact h.elim
theorem f5 (o : Ob) (i : Ib) (hn : R64 o.next) (hn2 : R64 i.next) (K : List Vl → Prop) : FC F 5 [.v (.agg (eO o)), .v (.agg (eI i))] K ↔ K [.c (B true)] := by
  rw [fc_run F5]
  have h1 := f10 o.mail
  have h2 := f10 i.got
  have h3 := f10 i.early
  by_cases c1 : (o.mail.length : Int) ≤ 200
  case neg =>
    rw [decide_eq_false c1] at h1
    simp [b5, f9, h1]
  rw [decide_eq_true c1] at h1
  by_cases c2 : (i.got.length : Int) ≤ 200
  case neg =>
    rw [decide_eq_false c2] at h2
    simp [b5, f9, h1, h2]
  rw [decide_eq_true c2] at h2
  by_cases c3 : (i.early.length : Int) ≤ 200
  case neg =>
    rw [decide_eq_false c3] at h3
    simp [b5, f9, h1, h2, h3]
  rw [decide_eq_true c3] at h3
  have h4 := f23 o i ⟨by omega, hn⟩ ⟨by omega, by omega, hn2⟩
  have h5 := f24 o i ⟨by omega, hn⟩ ⟨by omega, by omega, hn2⟩
  obtain ⟨b, hb⟩ : ∃ b, rightB o i = b := ⟨_, rfl⟩
  rw [hb] at h4 h5
  simp [b5, f9, h1, h2, h3, h4, h5]
theorem law5 (xs : List FV) (h : FitAll [tyO, tyI] xs) : FC F 5 xs (· = [.c (B true)]) := by
  match xs, h with
  | [x, y], ⟨hx, hy, _⟩ =>
    obtain ⟨o, rfl, _, hn, _, _⟩ := open_out hx
    obtain ⟨i, rfl, _, hn2, _, _, _, _⟩ := open_in hy
    exact (f5 o i hn hn2 _).2 rfl
end Go.Proofs.Ytndabolfhhppkaa.Am
