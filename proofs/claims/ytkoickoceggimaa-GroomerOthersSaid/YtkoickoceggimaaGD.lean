/- The checks as specified, and the law of the checks. No condition. -/
import Derived.Test.YtkoickoceggimaaGC
namespace Go.Proofs.Ytkoickoceggimaa.Am
open Go

theorem beqD (a b : Int) : (a == b) = decide (a = b) := by by_cases h : a = b <;> simp [h]
theorem bneD (a b : Int) : (a != b) = !decide (a = b) := by rw [bne, beqD]
set_option maxHeartbeats 4000000 in
theorem f13 (l : List Gr) (hl : l.length ≤ 9223372036854775807) (K : List Vl → Prop) : FC F 13 [rG l] K ↔ K [.c (I (rightG l))] := by
  refine FC.rule ?_ K
  rw [fc_run F13]
  by_cases h16 : 16 < l.length
  · have : (16 : Int) < l.length := by omega
    simp [b13, this, rightG, h16]
  have h16' : ¬ ((16 : Int) < l.length) := by omega
  simp [b13, h16', rightG, h16]
  refine run_loop (fun m s => ∃ k, k ≤ l.length ∧ m = l.length - k ∧ s.fr 0 = rG l ∧ s.fr 3 = vI k ∧ grE [] l = grE (l.take k) (l.drop k)) l.length ⟨0, by omega, by omega, by simp, by simp, rfl⟩ ?_
  rintro J hJ m ⟨fr, μ⟩ ⟨k, hk, rfl, h0, h3, hn⟩
  simp only at h0 h3
  by_cases hkl : k < l.length
  case neg =>
    have : l.drop k = [] := List.drop_eq_nil_of_le (by omega)
    rw [this] at hn
    simp [h0, h3, hkl, hn, grE]
  obtain ⟨n, hn'⟩ : ∃ n, l[k] = n := ⟨_, rfl⟩
  have hget : l[k]? = some n := by rw [← hn']; exact List.getElem?_eq_getElem hkl
  rw [drop_cons hget] at hn
  simp only [grE] at hn
  have hw := wrapS (n := k) (by omega)
  have hf := f35 (l.take k) n.id (by rw [List.length_take]; omega)
  simp only [rG, List.map_take] at hf
  have hd := idxI_any (p := byId n.id) (l := l.take k)
  have bad : rangeG n = false → grE [] l = 2 := fun h => by rw [hn, if_pos h]
  cases c1 : inn n.id 1 9999 with
  | false => have := bad (by simp [rangeG, c1]); simp [h0, h3, hkl, hn', f34, c1, this]
  | true =>
  cases c2 : inn n.node 1 9999 with
  | false => have := bad (by simp [rangeG, c2]); simp [h0, h3, hkl, hn', f34, c1, c2, this]
  | true =>
  cases c3 : inn n.fuel 0 1000000 with
  | false => have := bad (by simp [rangeG, c3]); simp [h0, h3, hkl, hn', f34, c1, c2, c3, this]
  | true =>
  cases c4 : inn n.state 0 2 with
  | false => have := bad (by simp [rangeG, c4]); simp [h0, h3, hkl, hn', f34, c1, c2, c3, c4, this]
  | true =>
  cases c5 : inn n.till 0 20000000 with
  | false => have := bad (by simp [rangeG, c5]); simp [h0, h3, hkl, hn', f34, c1, c2, c3, c4, c5, this]
  | true =>
  cases c6 : inn n.to 0 9999 with
  | false => have := bad (by simp [rangeG, c6]); simp [h0, h3, hkl, hn', f34, c1, c2, c3, c4, c5, c6, this]
  | true =>
  cases c7 : inn n.run 0 9999 with
  | false => have := bad (by simp [rangeG, c7]); simp [h0, h3, hkl, hn', f34, c1, c2, c3, c4, c5, c6, c7, this]
  | true =>
  have hr : rangeG n = true := by simp [rangeG, c1, c2, c3, c4, c5, c6, c7]
  rw [if_neg (by rw [hr]; simp)] at hn
  have q34 : ∀ (n lo hi : Int) (b : Bool), inn n lo hi = b → ∀ K : List Vl → Prop, FC F 34 [vI n, vI lo, vI hi] K ↔ K [.c (B b)] := fun n lo hi b h K => by rw [f34, h]
  have g1 := q34 _ _ _ _ c1
  have g2 := q34 _ _ _ _ c2
  have g3 := q34 _ _ _ _ c3
  have g4 := q34 _ _ _ _ c4
  have g5 := q34 _ _ _ _ c5
  have g6 := q34 _ _ _ _ c6
  have g7 := q34 _ _ _ _ c7
  clear q34 bad
  cases hc : (l.take k).any (byId n.id) with
  | true =>
    rw [hc] at hd hn
    have hge : (0 : Int) ≤ idxI (byId n.id) (l.take k) := by simpa using hd
    simp [h0, h3, hkl, hn', g1, g2, g3, g4, g5, g6, g7, hf, hge, hn, Nat.le_of_lt hkl]
  | false =>
    rw [hc] at hd hn
    have hge : ¬ (0 : Int) ≤ idxI (byId n.id) (l.take k) := by simpa using hd
    simp only [Bool.false_eq_true, if_false] at hn
    have more : stateG n = true → ∀ fr' μ', fr' 0 = rG l → fr' 3 = vI ((k + 1 : Nat) : Int) → ∃ m', m' < l.length - k ∧ J m' ⟨fr', μ'⟩ := fun h fr' μ' g0 g3 =>
      ⟨l.length - (k + 1), by omega, hJ _ _ ⟨k + 1, by omega, rfl, g0, g3, by rw [hn, if_neg (by rw [h]; simp), take_app hget]⟩⟩
    have less : stateG n = false → grE [] l = 10 := fun h => by rw [hn, if_pos h]
    clear hn
    by_cases d1 : n.to = 0 <;> by_cases d2 : n.state = 1 <;> by_cases d3 : n.run = 0 <;> by_cases d4 : n.state = 2 <;> first
      | (exfalso; omega)
      | (have hs := less (by simp [stateG, d1, d2, d3, d4])
         simp (config := { failIfUnchanged := false }) only [d1, d2, d3, d4] at g4 g6 g7
         simp [h0, h3, hkl, hn', g1, g2, g3, g4, g5, g6, g7, hf, hge, hs, Nat.le_of_lt hkl, beqD, bneD, d1, d2, d3, d4]
         done)
      | (have hs := more (by simp [stateG, d1, d2, d3, d4])
         simp (config := { failIfUnchanged := false }) only [d1, d2, d3, d4] at g4 g6 g7
         simp [h0, h3, hkl, hn', g1, g2, g3, g4, g5, g6, g7, hf, hge, Nat.le_of_lt hkl, beqD, bneD, d1, d2, d3, d4, hw]
         exact hs _ _ (by simp [h0]) (by simp))
/-! ### The law of the checks -/
abbrev tyG : Bool × List Ty := (false, [.s [ti, ti, ti, ti, ti, ti, ti, .b]])
structure RgG (g : Gr) : Prop where
  id : R64 g.id
  node : R64 g.node
  fuel : R64 g.fuel
  state : R64 g.state
  to : R64 g.to
  run : R64 g.run
  till : R64 g.till
theorem fit_bool {c : Cell} (h : Fit .b c) : ∃ b, c = B b := by
  cases h with
  | b => exact ⟨_, rfl⟩
theorem rows_gr : ∀ {xs : List (List Cell)}, (∀ r ∈ xs, r.length = 8) → (∀ r ∈ xs, ∀ (j : Nat) (t : Ty) (c : Cell), [ti, ti, ti, ti, ti, ti, ti, .b][j]? = some t → r[j]? = some c → Fit t c) →
    ∃ l : List Gr, xs = l.map eGr ∧ ∀ g ∈ l, RgG g
  | [], _, _ => ⟨[], rfl, by simp⟩
  | r :: xs, h1, h2 => by
    obtain ⟨l, rfl, hl⟩ := rows_gr (xs := xs) (fun r hr => h1 r (List.mem_cons_of_mem _ hr)) fun r hr => h2 r (List.mem_cons_of_mem _ hr)
    have hr := h1 r (List.mem_cons_self ..)
    have hf := h2 r (List.mem_cons_self ..)
    match r, hr with
    | [a, b, c, d, e, f, g, w], _ =>
      obtain ⟨a, rfl, ra⟩ := fit_int (hf 0 _ _ rfl rfl)
      obtain ⟨b, rfl, rb⟩ := fit_int (hf 1 _ _ rfl rfl)
      obtain ⟨c, rfl, rc⟩ := fit_int (hf 2 _ _ rfl rfl)
      obtain ⟨d, rfl, rd⟩ := fit_int (hf 3 _ _ rfl rfl)
      obtain ⟨e, rfl, re⟩ := fit_int (hf 4 _ _ rfl rfl)
      obtain ⟨f, rfl, rf⟩ := fit_int (hf 5 _ _ rfl rfl)
      obtain ⟨g, rfl, rg⟩ := fit_int (hf 6 _ _ rfl rfl)
      obtain ⟨w, rfl⟩ := fit_bool (hf 7 _ _ rfl rfl)
      refine ⟨⟨a, b, c, d, e, f, g, w⟩ :: l, rfl, fun x hx => ?_⟩
      rcases List.mem_cons.1 hx with rfl | hx
      · exact ⟨ra, rb, rc, rd, re, rf, rg⟩
      · exact hl x hx
theorem open_grs {x : FV} (h : FitA tyG x) : ∃ l, x = rG l ∧ l.length ≤ 9223372036854775807 ∧ ∀ g ∈ l, RgG g := by
  cases x with
  | v x =>
    cases x with
    | c x =>
      obtain ⟨xs, rfl, h1, h2, h3⟩ := fit_row h
      obtain ⟨l, rfl, hl⟩ := rows_gr h2 h3
      exact ⟨l, rfl, by simpa [maxLen] using h1, hl⟩
    | agg cs => exact h.elim
  | _ => exact h.elim
theorem law3 (xs : List FV) (h : FitAll [tyG] xs) : FC F 3 xs (· = [.c (B true)]) := by
  match xs, h with
  | [x], ⟨hx, _⟩ =>
    obtain ⟨l, rfl, hl, _⟩ := open_grs hx
    rw [fc_run F3]
    have h1 := f12 l hl
    have h2 := f13 l hl
    by_cases c : (30 : Int) < l.length
    · simp [b3, f11, c]
    · simp [b3, f11, h1, h2, c]
end Go.Proofs.Ytkoickoceggimaa.Am
