/- Terrain: the runs of a zone; the law TerrainRuns over the abstract machine. No condition. -/
import Derived.Test.YtmbhpinkiffdgaaTG
namespace Go.Proofs.Ytmbhpinkiffdgaa.Am
open Go

/-- A row of one's own at a slot, or nil. -/
def Rw (s : St) (k : Nat) (e z d : Nat) (xs : List (List Cell)) : Prop :=
  (s.fr k = .v (.c .nil) ∧ xs = []) ∨ ∃ t, s.fr k = .v (.c (.own (t, d))) ∧ s.mu.arr (t, d) = some ⟨e, z, xs⟩ ∧ s.mu.app (t, d) = true
def zoneL (m : Mp) (z : Int) (k : Nat) : List Int := ((m.runs.take k).filter fun x => x.zone == z).map fun x => x.id
theorem zone_step {m : Mp} {z : Int} {k : Nat} {x : Rn} (h : m.runs[k]? = some x) : zoneL m z (k + 1) = if x.zone = z then zoneL m z k ++ [x.id] else zoneL m z k := by
  have hk := (List.getElem?_eq_some_iff.1 h)
  unfold zoneL
  rw [List.take_succ_eq_append_getElem hk.1, hk.2, List.filter_append, List.map_append]
  by_cases hz : x.zone = z <;> simp [hz]
theorem zone_len {m : Mp} {z : Int} {k : Nat} : (zoneL m z k).length ≤ k := by
  unfold zoneL
  rw [List.length_map]
  exact Nat.le_trans (List.length_filter_le ..) (by simp; omega)
theorem f24 (m : Mp) (z : Int) (hr : m.runs.length ≤ 64) (K : List Vl → Prop) : FC F 24 [.v (.agg (eM m)), vI z] K ↔ K [.c (.ro 1 ((zoneL m z m.runs.length).map e1))] := by
  refine FC.rule ?_ K
  rw [fc_run F24]
  simp [b24]
  refine run_loop (fun q s => ∃ k, k ≤ m.runs.length ∧ q = m.runs.length - k ∧ s.fr 1 = vI z ∧ s.fr 9 = .v (.c (.ro 7 (m.runs.map eRn))) ∧ s.fr 10 = vI m.runs.length ∧ s.fr 11 = vI k ∧ Rw s 5 3 1 23 ((zoneL m z k).map e1)) m.runs.length ⟨0, by omega, by omega, by simp, by simp, by simp, by simp, .inl ⟨by simp, rfl⟩⟩ ?_
  rintro J hJ q ⟨fr, μ⟩ ⟨k, hk, rfl, h1, h9, h10, h11, hw⟩
  simp only at h1 h9 h10 h11
  by_cases hkl : k < m.runs.length
  · obtain ⟨n, hn'⟩ : ∃ n, m.runs[k] = n := ⟨_, rfl⟩
    have hget : m.runs[k]? = some n := by rw [← hn']; exact List.getElem?_eq_getElem hkl
    have hws := wrapS (n := k) (by omega)
    have hz := zone_step (z := z) hget
    have hlen := zone_len (m := m) (z := z) (k := k)
    have hlim : (zoneL m z k).length + 1 ≤ lim := by simp only [lim]; omega
    have hlim0 : 1 ≤ lim := by simp [lim]
    by_cases c : n.zone = z
    · rw [if_pos c] at hz
      rcases hw with ⟨h5, hx⟩ | ⟨t, h5, ha, hp⟩
      · simp only at h5
        have hx' : zoneL m z k = [] := by simpa using hx
        simp [h1, h9, h10, h11, h5, hkl, hn', c, hws, hlim0]
        exact ⟨m.runs.length - (k + 1), by omega, hJ _ _ ⟨k + 1, by omega, rfl, by simp [h1], by simp [h9], by simp [h10], by simp, .inr ⟨_, rfl, by simp [hz, hx'], by simp⟩⟩⟩
      · simp only at h5 ha hp
        simp [h1, h9, h10, h11, h5, ha, hp, hkl, hn', c, hws, hlim]
        exact ⟨m.runs.length - (k + 1), by omega, hJ _ _ ⟨k + 1, by omega, rfl, by simp [h1], by simp [h9], by simp [h10], by simp, .inr ⟨_, rfl, by simp [hz], by simp⟩⟩⟩
    · rw [if_neg c] at hz
      simp [h1, h9, h10, h11, hkl, hn', c, hws]
      refine ⟨m.runs.length - (k + 1), by omega, hJ _ _ ⟨k + 1, by omega, rfl, by simp [h1], by simp [h9], by simp [h10], by simp, ?_⟩⟩
      rw [hz]
      rcases hw with ⟨h5, hx⟩ | ⟨t, h5, ha, hp⟩
      · simp only at h5; exact .inl ⟨by simp [h5], hx⟩
      · simp only at h5 ha hp; exact .inr ⟨t, by simp [h5], by simp [ha], by simp [hp]⟩
  · have hke : k = m.runs.length := by omega
    subst hke
    rcases hw with ⟨h5, hx⟩ | ⟨t, h5, ha, hp⟩
    · simp only at h5
      have hx' : zoneL m z m.runs.length = [] := by simpa using hx
      simp [h1, h9, h10, h11, h5, hx']
    · simp only at h5 ha hp
      simp [h1, h9, h10, h11, h5, ha]
theorem f25 (m : Mp) (z : Int) (hr : m.runs.length ≤ 64) (K : List Vl → Prop) : FC F 25 [.v (.agg (eM m)), vI z] K ↔ K [.c (.ro 1 ((zoneL m z m.runs.length).map e1))] := by
  refine FC.rule ?_ K
  rw [fc_run F25]
  simp [b25]
  refine run_loop (fun q s => ∃ k, k ≤ m.runs.length ∧ q = m.runs.length - k ∧ s.fr 1 = vI z ∧ s.fr 2 = .ptr (0, 2) 0 ∧ s.mu.box (0, 2) = some (eM m) ∧ s.fr 6 = vI k ∧ Rw s 5 3 1 30 ((zoneL m z k).map e1)) m.runs.length ⟨0, by omega, by omega, by simp, by simp, by simp, by simp, .inl ⟨by simp, rfl⟩⟩ ?_
  rintro J hJ q ⟨fr, μ⟩ ⟨k, hk, rfl, h1, h9, h10, h11, hw⟩
  simp only at h1 h9 h10 h11
  by_cases hkl : k < m.runs.length
  · obtain ⟨n, hn'⟩ : ∃ n, m.runs[k] = n := ⟨_, rfl⟩
    have hget : m.runs[k]? = some n := by rw [← hn']; exact List.getElem?_eq_getElem hkl
    have hws := wrapS (n := k) (by omega)
    have hz := zone_step (z := z) hget
    have hlen := zone_len (m := m) (z := z) (k := k)
    have hlim : (zoneL m z k).length + 1 ≤ lim := by simp only [lim]; omega
    have hlim0 : 1 ≤ lim := by simp [lim]
    by_cases c : n.zone = z
    · rw [if_pos c] at hz
      rcases hw with ⟨h5, hx⟩ | ⟨t, h5, ha, hp⟩
      · simp only at h5
        have hx' : zoneL m z k = [] := by simpa using hx
        simp [h1, h9, h10, h11, h5, hkl, hn', c, hws, hlim0]
        exact ⟨m.runs.length - (k + 1), by omega, hJ _ _ ⟨k + 1, by omega, rfl, by simp [h1], by simp [h9], by simp [h10], by simp, .inr ⟨_, rfl, by simp [hz, hx'], by simp⟩⟩⟩
      · simp only at h5 ha hp
        simp [h1, h9, h10, h11, h5, ha, hp, hkl, hn', c, hws, hlim]
        exact ⟨m.runs.length - (k + 1), by omega, hJ _ _ ⟨k + 1, by omega, rfl, by simp [h1], by simp [h9], by simp [h10], by simp, .inr ⟨_, rfl, by simp [hz], by simp⟩⟩⟩
    · rw [if_neg c] at hz
      simp [h1, h9, h10, h11, hkl, hn', c, hws]
      refine ⟨m.runs.length - (k + 1), by omega, hJ _ _ ⟨k + 1, by omega, rfl, by simp [h1], by simp [h9], by simp [h10], by simp, ?_⟩⟩
      rw [hz]
      rcases hw with ⟨h5, hx⟩ | ⟨t, h5, ha, hp⟩
      · simp only at h5; exact .inl ⟨by simp [h5], hx⟩
      · simp only at h5 ha hp; exact .inr ⟨t, by simp [h5], by simp [ha], by simp [hp]⟩
  · have hke : k = m.runs.length := by omega
    subst hke
    rcases hw with ⟨h5, hx⟩ | ⟨t, h5, ha, hp⟩
    · simp only at h5
      have hx' : zoneL m z m.runs.length = [] := by simpa using hx
      simp [h1, h9, h10, h11, h5, hx']
    · simp only at h5 ha hp
      simp [h1, h9, h10, h11, h5, ha]
theorem f23 (l : List Int) (hl : l.length ≤ 9223372036854775807) (K : List Vl → Prop) : FC F 23 [.v (.c (.ro 1 (l.map e1))), .v (.c (.ro 1 (l.map e1)))] K ↔ K [.c (B true)] := by
  refine FC.rule ?_ K
  rw [fc_run F23]
  simp [b23]
  refine run_loop (fun q s => ∃ k, k ≤ l.length ∧ q = l.length - k ∧ s.fr 0 = .v (.c (.ro 1 (l.map e1))) ∧ s.fr 1 = .v (.c (.ro 1 (l.map e1))) ∧ s.fr 5 = vI k) l.length ⟨0, by omega, by omega, by simp, by simp, by simp⟩ ?_
  rintro J hJ q ⟨fr, μ⟩ ⟨k, hk, rfl, h0, h1, h5⟩
  simp only at h0 h1 h5
  by_cases hkl : k < l.length
  · have hws := wrapS (n := k) (by omega)
    simp [h0, h1, h5, hkl, hws]
    exact ⟨l.length - (k + 1), by omega, hJ _ _ ⟨k + 1, by omega, rfl, by simp [h0], by simp [h1], by simp⟩⟩
  · simp [h0, h1, h5, hkl]
theorem f6 (m : Mp) (z : Int) (h : Okm m) (K : List Vl → Prop) : FC F 6 [.v (.agg (eM m)), vI z] K ↔ K [.c (B true)] := by
  rw [fc_run F6]
  have h1 := f14 m h
  by_cases c : rightE m = 0
  · have ht := (right_parts c).1
    simp only [tooLong, Bool.or_eq_false_iff, decide_eq_false_iff_not] at ht
    have hr : m.runs.length ≤ 64 := by omega
    have h2 := f24 m z hr
    have h3 := f25 m z hr
    have h4 := f23 (zoneL m z m.runs.length) (by have := zone_len (m := m) (z := z) (k := m.runs.length); omega)
    simp [b6, f11, h1, h2, h3, h4, c]
  · simp [b6, f11, h1, c]
theorem law6 (xs : List FV) (h : FitAll [tyM, (false, [ti])] xs) : FC F 6 xs (· = [.c (B true)]) := by
  match xs, h with
  | [x, y], ⟨hx, hy, _⟩ =>
    obtain ⟨m, rfl, hm, _⟩ := open_map hx
    obtain ⟨n, rfl, _⟩ := open_int hy
    exact (f6 m n hm _).2 rfl
end Go.Proofs.Ytmbhpinkiffdgaa.Am
