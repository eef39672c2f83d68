/- The specified way: its small functions. No condition. -/
import Derived.Test.YtkoickoceggimaaGR
namespace Go.Proofs.Ytkoickoceggimaa.Am
open Go

def isNd (id : Int) : Nd → Bool := fun n => n.id == id
theorem f43 (m : Mp) (id : Int) (hl : m.nodes.length ≤ 9223372036854775807) (K : List Vl → Prop) : FC F 43 [.v (.agg (eM m)), vI id] K ↔ K [.c (I (idxI (isNd id) m.nodes))] := by
  refine FC.rule ?_ K
  rw [fc_run F43]
  simp [b43]
  refine run_loop (fun q s => ∃ k, k ≤ m.nodes.length ∧ q = m.nodes.length - k ∧ s.fr 1 = vI id ∧ s.fr 2 = .ptr (0, 2) 0 ∧ s.mu.box (0, 2) = some (eM m) ∧ s.fr 5 = vI k ∧ ∀ (j : Nat) n, j < k → m.nodes[j]? = some n → isNd id n = false) m.nodes.length ⟨0, by omega, by omega, by simp, by simp, by simp, by simp, fun j n h => absurd h (Nat.not_lt_zero _)⟩ ?_
  rintro J hJ q ⟨fr, μ⟩ ⟨k, hk, rfl, h1, h2, hb, h5, hn⟩
  simp only at h1 h2 hb h5
  by_cases hkl : k < m.nodes.length
  · obtain ⟨n, hn'⟩ : ∃ n, m.nodes[k] = n := ⟨_, rfl⟩
    have hget : m.nodes[k]? = some n := by rw [← hn']; exact List.getElem?_eq_getElem hkl
    by_cases hp : n.id = id
    · have : idxI (isNd id) m.nodes = k := by simp only [idxI, idx_at hget (show isNd id n = true by simp [isNd, hp]) hn]
      simp [h1, h2, hb, h5, hkl, hn', hp, this]
    · have hw := wrapS (n := k) (by omega)
      simp [h1, h2, hb, h5, hkl, hn', hp, hw]
      refine ⟨m.nodes.length - (k + 1), by omega, hJ _ _ ⟨k + 1, by omega, rfl, by simp [h1], by simp [h2], by simp [hb], by simp, fun j m' hj hm => ?_⟩⟩
      by_cases hjk : j = k
      · subst hjk; rw [hget] at hm; injection hm with hm; subst hm; simp [isNd, hp]
      · exact hn j m' (by omega) hm
  · have : idxI (isNd id) m.nodes = -1 := by
      simp only [idxI]
      rw [idx_none fun j b hb => hn j b (by have := (List.getElem?_eq_some_iff.1 hb).1; omega) hb]
    simp [h2, hb, h5, hkl, this]
abbrev eSt (p : Int × Int × Int) : List Cell := [I p.1, I p.2.1, I p.2.2]
def P44 (d : Nat) : Prop := d = 34 ∨ d = 63
set_option maxHeartbeats 4000000 in
theorem f44 (m : Mp) (hl : m.lifts.length ≤ 1000) (hr : m.runs.length ≤ 1000) (K : List Vl → Prop) : FC F 44 [.v (.agg (eM m))] K ↔ K [.c (.ro 3 ((steps m).map eSt))] := by
  refine FC.rule ?_ K
  rw [fc_run F44]
  obtain ⟨X0, hX0⟩ : ∃ X, (steps m).map eSt = X := ⟨_, rfl⟩
  rw [hX0]
  simp [b44]
  refine run_loop (fun q s => ∃ k, k ≤ m.runs.length ∧ q = m.runs.length - k ∧ s.fr 1 = .ptr (0, 1) 0 ∧ s.mu.box (0, 1) = some (eM m) ∧ s.fr 4 = vI k ∧ RwD s 3 82 3 P44 (((m.runs.take k).map gR).map eSt)) m.runs.length ⟨0, by omega, by omega, by simp, by simp, by simp, .inl ⟨by simp, by simp⟩⟩ ?_
  rintro J hJ q ⟨fr, μ⟩ ⟨k, hk, rfl, h1, hb, h4, hw⟩
  simp only at h1 hb h4
  by_cases hkl : k < m.runs.length
  · obtain ⟨x, hx⟩ : ∃ x, m.runs[k] = x := ⟨_, rfl⟩
    have hget : m.runs[k]? = some x := by rw [← hx]; exact List.getElem?_eq_getElem hkl
    have hws := wrapS (n := k) (by omega)
    have hlim0 : 1 ≤ lim := by simp [lim]
    have hlim : (((m.runs.take k).map gR).map eSt).length + 1 ≤ lim := by rw [List.length_map, List.length_map, List.length_take]; simp only [lim]; omega
    have hst : ((m.runs.take (k + 1)).map gR).map eSt = ((m.runs.take k).map gR).map eSt ++ [eSt (gR x)] := by rw [map_take gR hget, List.map_append]; rfl
    obtain ⟨X, hX⟩ : ∃ X, ((m.runs.take k).map gR).map eSt = X := ⟨_, rfl⟩
    rw [hX] at hw hst hlim
    have go : ∀ fr' μ', fr' 1 = .ptr (0, 1) 0 → μ'.box (0, 1) = some (eM m) → fr' 4 = vI ((k + 1 : Nat) : Int) → RwD ⟨fr', μ'⟩ 3 82 3 P44 (X ++ [eSt (gR x)]) → ∃ m', m' < m.runs.length - k ∧ J m' ⟨fr', μ'⟩ :=
      fun fr' μ' a1 a2 a3 a4 => ⟨m.runs.length - (k + 1), by omega, hJ _ _ ⟨k + 1, by omega, rfl, a1, a2, a3, by rw [hst]; exact a4⟩⟩
    clear hX hst hX0
    rcases hw with ⟨h3, hx'⟩ | ⟨a, d, hd, h3, ha, hp⟩
    · simp only at h3
      subst hx'
      simp [h1, hb, h4, h3, hkl, hx, hws, hlim0]
      exact go _ _ (by simp [h1]) (by simp [hb]) (by simp) (.inr ⟨_, 34, .inl rfl, rfl, by simp [gR], by simp⟩)
    · simp only at h3 ha hp
      have n33 : d ≠ 33 := by rcases hd with rfl | rfl <;> simp
      simp [h1, hb, h4, h3, ha, hp, n33, hkl, hx, hws, hlim]
      exact go _ _ (by simp [h1]) (by simp [hb]) (by simp) (.inr ⟨_, 34, .inl rfl, rfl, by simp [gR], by simp⟩)
  have hke : k = m.runs.length := by omega
  subst hke
  rw [List.take_length] at hw
  simp [h1, hb, h4]
  refine run_loop (fun q s => ∃ k, k ≤ m.lifts.length ∧ q = m.lifts.length - k ∧ s.fr 1 = .ptr (0, 1) 0 ∧ s.mu.box (0, 1) = some (eM m) ∧ s.fr 5 = vI k ∧ RwD s 3 82 3 P44 ((m.runs.map gR).map eSt ++ ((m.lifts.take k).map gL).map eSt)) m.lifts.length ⟨0, by omega, by omega, by simp [h1], by simp [hb], by simp, ?_⟩ ?_
  · rw [List.take_zero, List.map_nil, List.map_nil, List.append_nil]
    rcases hw with ⟨h3, hx'⟩ | ⟨a, d, hd, h3, ha, hp⟩
    · simp only at h3
      exact .inl ⟨by simp [h3], hx'⟩
    · simp only at h3 ha hp
      exact .inr ⟨a, d, hd, by simp [h3], by simp [ha], by simp [hp]⟩
  clear hw h1 hb h4
  rintro J2 hJ2 q ⟨fr, μ⟩ ⟨k, hk, rfl, h1, hb, h5, hw⟩
  simp only at h1 hb h5
  by_cases hkl : k < m.lifts.length
  · obtain ⟨x, hx⟩ : ∃ x, m.lifts[k] = x := ⟨_, rfl⟩
    have hget : m.lifts[k]? = some x := by rw [← hx]; exact List.getElem?_eq_getElem hkl
    have hws := wrapS (n := k) (by omega)
    have hlim0 : 1 ≤ lim := by simp [lim]
    have hlim : ((m.runs.map gR).map eSt ++ ((m.lifts.take k).map gL).map eSt).length + 1 ≤ lim := by rw [List.length_append, List.length_map, List.length_map, List.length_map, List.length_map, List.length_take]; simp only [lim]; omega
    have hst : (m.runs.map gR).map eSt ++ ((m.lifts.take (k + 1)).map gL).map eSt = (m.runs.map gR).map eSt ++ ((m.lifts.take k).map gL).map eSt ++ [eSt (gL x)] := by rw [map_take gL hget, List.map_append, List.append_assoc]; rfl
    obtain ⟨X, hX⟩ : ∃ X, (m.runs.map gR).map eSt ++ ((m.lifts.take k).map gL).map eSt = X := ⟨_, rfl⟩
    rw [hX] at hw hst hlim
    have go : ∀ fr' μ', fr' 1 = .ptr (0, 1) 0 → μ'.box (0, 1) = some (eM m) → fr' 5 = vI ((k + 1 : Nat) : Int) → RwD ⟨fr', μ'⟩ 3 82 3 P44 (X ++ [eSt (gL x)]) → ∃ m', m' < m.lifts.length - k ∧ J2 m' ⟨fr', μ'⟩ :=
      fun fr' μ' a1 a2 a3 a4 => ⟨m.lifts.length - (k + 1), by omega, hJ2 _ _ ⟨k + 1, by omega, rfl, a1, a2, a3, by rw [hst]; exact a4⟩⟩
    clear hX hst hX0
    rcases hw with ⟨h3, hx'⟩ | ⟨a, d, hd, h3, ha, hp⟩
    · simp only at h3
      subst hx'
      simp [h1, hb, h5, h3, hkl, hx, hws, hlim0]
      exact go _ _ (by simp [h1]) (by simp [hb]) (by simp) (.inr ⟨_, 63, .inr rfl, rfl, by simp [gL], by simp⟩)
    · simp only at h3 ha hp
      have n62 : d ≠ 62 := by rcases hd with rfl | rfl <;> simp
      simp [h1, hb, h5, h3, ha, hp, n62, hkl, hx, hws, hlim]
      exact go _ _ (by simp [h1]) (by simp [hb]) (by simp) (.inr ⟨_, 63, .inr rfl, rfl, by simp [gL], by simp⟩)
  have hke : k = m.lifts.length := by omega
  subst hke
  rw [List.take_length, ← List.map_append] at hw
  rw [show m.runs.map gR ++ m.lifts.map gL = steps m from rfl, hX0] at hw
  clear hX0
  rcases hw with ⟨h3, rfl⟩ | ⟨a, d, hd, h3, ha, hp⟩ <;> simp only at h3
  · simp [h1, hb, h5, h3]
  · simp only at ha
    simp [h1, hb, h5, h3, ha]
def nearI (old fm st : Int) : Int := if fm < 0 ∨ (0 ≤ old ∧ old ≤ fm + st) then old else fm + st
theorem f45 (old fm st : Int) (h : 0 ≤ fm → R64 (fm + st)) (K : List Vl → Prop) : FC F 45 [vI old, vI fm, vI st] K ↔ K [.c (I (nearI old fm st))] := by
  rw [fc_run F45]
  by_cases h1 : fm < 0
  · have e : nearI old fm st = old := if_pos (.inl h1)
    simp [b45, h1, e]
  · have hw := wrap64 (h (by omega))
    by_cases h2 : 0 ≤ old
    · by_cases h3 : old ≤ fm + st
      · have e : nearI old fm st = old := if_pos (.inr ⟨h2, h3⟩)
        simp [b45, h1, h2, h3, hw, e]
      · have e : nearI old fm st = fm + st := if_neg (by omega)
        simp [b45, h1, h2, h3, hw, e]
    · have e : nearI old fm st = fm + st := if_neg (by omega)
      simp [b45, h1, h2, hw, e]
end Go.Proofs.Ytkoickoceggimaa.Am
