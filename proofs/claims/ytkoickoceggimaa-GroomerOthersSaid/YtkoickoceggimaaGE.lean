/- Vehicles: equal lists, another one at an index, grooming, and the law of grooming. No condition. -/
import Derived.Test.YtkoickoceggimaaGD
namespace Go.Proofs.Ytkoickoceggimaa.Am
open Go

theorem f50 (l : List Gr) (hl : l.length ≤ 1000) (K : List Vl → Prop) : FC F 50 [rG l] K ↔ K [.c (.fresh 51 8 (l.map eGr))] := by
  rw [fc_clone (K := K) F50]
  have : l.length ≤ lim := by simp only [lim]; omega
  simp [this]
theorem f20 (l : List Gr) (hl : l.length ≤ 9223372036854775807) (K : List Vl → Prop) : FC F 20 [rG l, rG l] K ↔ K [.c (B true)] := by
  refine FC.rule ?_ K
  rw [fc_run F20]
  simp [b20]
  refine run_loop (fun q s => ∃ k, k ≤ l.length ∧ q = l.length - k ∧ s.fr 0 = rG l ∧ s.fr 1 = rG l ∧ s.fr 5 = vI k) l.length ⟨0, by omega, by omega, by simp, by simp, by simp⟩ ?_
  rintro J hJ q ⟨fr, μ⟩ ⟨k, hk, rfl, h0, h1, h5⟩
  simp only at h0 h1 h5
  by_cases hkl : k < l.length
  · have hws := wrapS (n := k) (by omega)
    simp [h0, h1, h5, hkl, hws]
    exact ⟨l.length - (k + 1), by omega, hJ _ _ ⟨k + 1, by omega, rfl, by simp [h0], by simp [h1], by simp⟩⟩
  · simp [h0, h5, hkl]
theorem f46 (l : List Gr) (k : Nat) (g : Gr) (hk : k < l.length) (hl : l.length ≤ 1000) (K : List Vl → Prop) : FC F 46 [rG l, vI k, .v (.agg (eGr g))] K ↔ K [.c (.ro 8 ((l.set k g).map eGr))] := by
  rw [fc_run F46]
  have h1 := f50 l hl
  simp [b46, h1, hk]
theorem set_take_at {α : Type} {l : List α} {k : Nat} {n g : α} (h : l[k]? = some n) : (l.set k g).take (k + 1) = (l.set k g).take k ++ [g] := by
  rw [List.take_add_one]
  have := (List.getElem?_eq_some_iff.1 h).1
  rw [List.getElem?_set_self this]; rfl
theorem set_take_ne {α : Type} {l : List α} {j k : Nat} {n g : α} (h : l[k]? = some n) (hjk : k ≠ j) : (l.set j g).take (k + 1) = (l.set j g).take k ++ [n] := by
  rw [List.take_add_one, List.getElem?_set_ne (Ne.symm hjk), h]; rfl
set_option maxHeartbeats 4000000 in
theorem f47 (l : List Gr) (j : Nat) (g : Gr) (hj : j < l.length) (hl : l.length ≤ 1000) (K : List Vl → Prop) : FC F 47 [rG l, vI j, .v (.agg (eGr g))] K ↔ K [.c (.ro 8 ((l.set j g).map eGr))] := by
  refine FC.rule ?_ K
  rw [fc_run F47]
  have hfull : (l.set j g).take l.length = l.set j g := List.take_of_length_le (by simp)
  rw [← hfull]
  simp [b47]
  refine run_loop (fun q s => ∃ k, k ≤ l.length ∧ q = l.length - k ∧ s.fr 0 = rG l ∧ s.fr 1 = vI j ∧ s.fr 5 = .ptr (0, 5) 0 ∧ s.mu.box (0, 5) = some (eGr g) ∧ s.fr 8 = vI k ∧ (Rw s 7 51 8 21 (((l.set j g).take k).map eGr) ∨ Rw s 7 51 8 28 (((l.set j g).take k).map eGr))) l.length ⟨0, by omega, by omega, by simp, by simp, by simp, by simp, by simp, .inl (.inl ⟨by simp, by simp⟩)⟩ ?_
  rintro J hJ q ⟨fr, μ⟩ ⟨k, hk, rfl, h0, h1, h5, hb, h8, hw⟩
  simp only at h0 h1 h5 hb h8
  by_cases hkl : k < l.length
  · obtain ⟨n, hn'⟩ : ∃ n, l[k] = n := ⟨_, rfl⟩
    have hget : l[k]? = some n := by rw [← hn']; exact List.getElem?_eq_getElem hkl
    have hws := wrapS (n := k) (by omega)
    have hlim : k + 1 ≤ lim := by simp only [lim]; omega
    have hlim0 : 1 ≤ lim := by simp [lim]
    have htl : min k l.length = k := by omega
    by_cases c : k = j
    · subst c
      have hz := set_take_at (g := g) hget
      rcases hw with (⟨h7, hx⟩ | ⟨t, h7, ha, hp⟩) | (⟨h7, hx⟩ | ⟨t, h7, ha, hp⟩)
      · simp only at h7
        simp [h0, h1, h5, hb, h8, h7, hkl, hws, hlim0]
        exact ⟨l.length - (k + 1), by omega, hJ _ _ ⟨k + 1, by omega, rfl, by simp [h0], by simp [h1], by simp [h5], by simp [hb], by simp, .inl (.inr ⟨_, rfl, by simp [hz, List.map_eq_nil_iff.1 hx], by simp⟩)⟩⟩
      · simp only at h7 ha hp
        simp [h0, h1, h5, hb, h8, h7, ha, hp, hkl, hws, htl, hlim]
        exact ⟨l.length - (k + 1), by omega, hJ _ _ ⟨k + 1, by omega, rfl, by simp [h0], by simp [h1], by simp [h5], by simp [hb], by simp, .inl (.inr ⟨_, rfl, by simp [hz], by simp⟩)⟩⟩
      · simp only at h7
        simp [h0, h1, h5, hb, h8, h7, hkl, hws, hlim0]
        exact ⟨l.length - (k + 1), by omega, hJ _ _ ⟨k + 1, by omega, rfl, by simp [h0], by simp [h1], by simp [h5], by simp [hb], by simp, .inl (.inr ⟨_, rfl, by simp [hz, List.map_eq_nil_iff.1 hx], by simp⟩)⟩⟩
      · simp only at h7 ha hp
        simp [h0, h1, h5, hb, h8, h7, ha, hp, hkl, hws, htl, hlim]
        exact ⟨l.length - (k + 1), by omega, hJ _ _ ⟨k + 1, by omega, rfl, by simp [h0], by simp [h1], by simp [h5], by simp [hb], by simp, .inl (.inr ⟨_, rfl, by simp [hz], by simp⟩)⟩⟩
    · have hz := set_take_ne (g := g) hget c
      have cb : ((k : Int) == (j : Int)) = false := beq_eq_false_iff_ne.2 (by omega)
      rcases hw with (⟨h7, hx⟩ | ⟨t, h7, ha, hp⟩) | (⟨h7, hx⟩ | ⟨t, h7, ha, hp⟩)
      · simp only at h7
        simp [h0, h1, h5, hb, h8, h7, hkl, hn', cb, hws, hlim0]
        exact ⟨l.length - (k + 1), by omega, hJ _ _ ⟨k + 1, by omega, rfl, by simp [h0], by simp [h1], by simp [h5], by simp [hb], by simp, .inr (.inr ⟨_, rfl, by simp [hz, List.map_eq_nil_iff.1 hx], by simp⟩)⟩⟩
      · simp only at h7 ha hp
        simp [h0, h1, h5, hb, h8, h7, ha, hp, hkl, hn', cb, hws, htl, hlim]
        exact ⟨l.length - (k + 1), by omega, hJ _ _ ⟨k + 1, by omega, rfl, by simp [h0], by simp [h1], by simp [h5], by simp [hb], by simp, .inr (.inr ⟨_, rfl, by simp [hz], by simp⟩)⟩⟩
      · simp only at h7
        simp [h0, h1, h5, hb, h8, h7, hkl, hn', cb, hws, hlim0]
        exact ⟨l.length - (k + 1), by omega, hJ _ _ ⟨k + 1, by omega, rfl, by simp [h0], by simp [h1], by simp [h5], by simp [hb], by simp, .inr (.inr ⟨_, rfl, by simp [hz, List.map_eq_nil_iff.1 hx], by simp⟩)⟩⟩
      · simp only at h7 ha hp
        simp [h0, h1, h5, hb, h8, h7, ha, hp, hkl, hn', cb, hws, htl, hlim]
        exact ⟨l.length - (k + 1), by omega, hJ _ _ ⟨k + 1, by omega, rfl, by simp [h0], by simp [h1], by simp [h5], by simp [hb], by simp, .inr (.inr ⟨_, rfl, by simp [hz], by simp⟩)⟩⟩
  · have hke : k = l.length := by omega
    subst hke
    rcases hw with (⟨h7, hx⟩ | ⟨t, h7, ha, hp⟩) | (⟨h7, hx⟩ | ⟨t, h7, ha, hp⟩)
    · have := congrArg List.length hx
      simp only [List.length_map, List.length_take, List.length_set, List.length_nil] at this
      omega
    · simp only at h7 ha hp
      simp [h0, h8, h7, ha]
    · have := congrArg List.length hx
      simp only [List.length_map, List.length_take, List.length_set, List.length_nil] at this
      omega
    · simp only at h7 ha hp
      simp [h0, h8, h7, ha]
end Go.Proofs.Ytkoickoceggimaa.Am
