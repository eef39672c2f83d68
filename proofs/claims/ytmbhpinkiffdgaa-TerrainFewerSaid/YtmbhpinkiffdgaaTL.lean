/- Terrain: what a valid map's runs are: sorted by their numbers, in zones; plain. No condition. -/
import Derived.Test.YtmbhpinkiffdgaaTH
namespace Go.Proofs.Ytmbhpinkiffdgaa.Am
open Go

theorem runE_parts {m : Mp} {p : Option Int} {x : Rn} (h : runE m p x = 0) : rngRn x = true ∧ leO x.id p = false ∧ risesE m x.to x.fr = 0 := by
  unfold runE at h
  split at h
  · rename_i h1
    split at h
    · cases h
    · rename_i h2
      split at h
      · rename_i h3; exact absurd h h3
      · rename_i h3; exact ⟨h1, by simpa using h2, by simpa using h3⟩
  · cases h
theorem liftE_parts {m : Mp} {p : Option Int} {x : Lf} (h : liftE m p x = 0) : rngLf x = true ∧ leO x.id p = false ∧ risesE m x.fr x.to = 0 ∧ carr x = true := by
  unfold liftE at h
  split at h
  · rename_i h1
    split at h
    · cases h
    · rename_i h2
      split at h
      · rename_i h3; exact absurd h h3
      · rename_i h3
        split at h
        · rename_i h4; exact ⟨h1, by simpa using h2, by simpa using h3, h4⟩
        · cases h
  · cases h
theorem leO_some {n : Int} {p : Option Int} (h : leO n p = false) : ∀ q, p = some q → q < n := by
  intro q hq; subst hq; simp [leO] at h; exact h
theorem runs_sorted {m : Mp} : ∀ {l : List Rn} {p : Option Int}, runsE m p l = 0 → l.Pairwise (fun a b => a.id < b.id) ∧ (∀ q, p = some q → ∀ x ∈ l, q < x.id) ∧ ∀ x ∈ l, rngRn x = true
  | [], _, _ => ⟨.nil, by simp, by simp⟩
  | y :: l, p, h => by
    simp only [runsE] at h
    by_cases h0 : runE m p y = 0
    · rw [if_neg (by simpa using h0)] at h
      obtain ⟨h1, h2, _⟩ := runE_parts h0
      obtain ⟨k1, k2, k3⟩ := runs_sorted h
      refine ⟨List.pairwise_cons.2 ⟨fun x hx => k2 _ rfl x hx, k1⟩, fun q hq x hx => ?_, fun x hx => ?_⟩
      · have := leO_some h2 q hq
        rcases List.mem_cons.1 hx with rfl | hx
        · exact this
        · have := k2 _ rfl x hx; omega
      · rcases List.mem_cons.1 hx with rfl | hx
        · exact h1
        · exact k3 x hx
    · rw [if_pos h0] at h; exact absurd h h0
theorem lifts_sorted {m : Mp} : ∀ {l : List Lf} {p : Option Int}, liftsE m p l = 0 → l.Pairwise (fun a b => a.id < b.id) ∧ (∀ q, p = some q → ∀ x ∈ l, q < x.id) ∧ ∀ x ∈ l, rngLf x = true
  | [], _, _ => ⟨.nil, by simp, by simp⟩
  | y :: l, p, h => by
    simp only [liftsE] at h
    by_cases h0 : liftE m p y = 0
    · rw [if_neg (by simpa using h0)] at h
      obtain ⟨h1, h2, _⟩ := liftE_parts h0
      obtain ⟨k1, k2, k3⟩ := lifts_sorted h
      refine ⟨List.pairwise_cons.2 ⟨fun x hx => k2 _ rfl x hx, k1⟩, fun q hq x hx => ?_, fun x hx => ?_⟩
      · have := leO_some h2 q hq
        rcases List.mem_cons.1 hx with rfl | hx
        · exact this
        · have := k2 _ rfl x hx; omega
      · rcases List.mem_cons.1 hx with rfl | hx
        · exact h1
        · exact k3 x hx
    · rw [if_pos h0] at h; exact absurd h h0
theorem find_run {m : Mp} (h : m.runs.Pairwise (fun a b => a.id < b.id)) {x : Rn} (hx : x ∈ m.runs) : findRn m x.id = x ∧ hasRn m x.id = true := by
  obtain ⟨k, hk⟩ := List.getElem?_of_mem hx
  have hi : idx (fun n : Rn => n.id == x.id) m.runs = some k := idx_at hk (by simp) fun j b hj hb => by
    obtain ⟨h1, h2⟩ := List.getElem?_eq_some_iff.1 hk
    obtain ⟨g1, g2⟩ := List.getElem?_eq_some_iff.1 hb
    have := (List.pairwise_iff_getElem.1 h) j k g1 h1 hj
    rw [h2, g2] at this
    simp; omega
  simp [findRn, hasRn, fnd, hi, hk]
theorem zone_pw {m : Mp} (h : m.runs.Pairwise (fun a b => a.id < b.id)) (z : Int) (k : Nat) : (zoneL m z k).Pairwise (· < ·) := by
  unfold zoneL
  rw [List.pairwise_map]
  exact (h.sublist (List.take_sublist ..)).filter _
theorem zone_mem {m : Mp} {z y : Int} {k : Nat} (h : y ∈ zoneL m z k) : ∃ x ∈ m.runs, x.zone = z ∧ x.id = y := by
  unfold zoneL at h
  obtain ⟨x, hx, rfl⟩ := List.mem_map.1 h
  obtain ⟨h1, h2⟩ := List.mem_filter.1 hx
  exact ⟨x, List.mem_of_mem_take h1, by simpa using h2, rfl⟩
def cz (m : Mp) (k : Nat) : Nat := (m.runs.filter fun x => decide (x.zone ≤ (k : Int))).length
theorem cz_step (m : Mp) (k : Nat) : cz m (k + 1) = cz m k + (zoneL m ((k + 1 : Nat) : Int) m.runs.length).length := by
  have : ∀ l : List Rn, (l.filter fun x => decide (x.zone ≤ ((k + 1 : Nat) : Int))).length = (l.filter fun x => decide (x.zone ≤ (k : Int))).length + (l.filter fun x => x.zone == ((k + 1 : Nat) : Int)).length := by
    intro l
    induction l with
    | nil => rfl
    | cons y l ih =>
      simp only [List.filter_cons]
      by_cases h1 : y.zone ≤ (k : Int)
      · have h2 : y.zone ≤ ((k + 1 : Nat) : Int) := by omega
        have h3 : (y.zone == ((k + 1 : Nat) : Int)) = false := by simp; omega
        simp only [h1, h2, h3, decide_true, if_true, List.length_cons, ih]; simp; omega
      · by_cases h2 : y.zone ≤ ((k + 1 : Nat) : Int)
        · have h3 : (y.zone == ((k + 1 : Nat) : Int)) = true := by simp; omega
          simp only [h1, h2, h3, decide_true, decide_false, if_true, List.length_cons, ih]; simp; omega
        · have h3 : (y.zone == ((k + 1 : Nat) : Int)) = false := by simp; omega
          simp only [h1, h2, h3, decide_false]; simpa using ih
  unfold cz zoneL
  rw [List.length_map, List.take_length]
  exact this _
theorem run_zone {x : Rn} (h : rngRn x = true) : 1 ≤ x.zone ∧ x.zone ≤ 32 := by
  simp only [rngRn, inn, Bool.and_eq_true, decide_eq_true_eq] at h
  exact ⟨h.1.2.1, h.1.2.2⟩
theorem cz_zero {m : Mp} (h : ∀ x ∈ m.runs, rngRn x = true) : cz m 0 = 0 := by
  unfold cz
  rw [List.length_eq_zero_iff, List.filter_eq_nil_iff]
  intro x hx
  have := run_zone (h x hx)
  simp; omega
theorem cz_all {m : Mp} (h : ∀ x ∈ m.runs, rngRn x = true) : cz m 32 = m.runs.length := by
  unfold cz
  rw [List.filter_eq_self.2]
  intro x hx
  have := run_zone (h x hx)
  simp; omega
theorem cz_le (m : Mp) (k : Nat) : cz m k ≤ m.runs.length := List.length_filter_le ..
end Go.Proofs.Ytmbhpinkiffdgaa.Am
