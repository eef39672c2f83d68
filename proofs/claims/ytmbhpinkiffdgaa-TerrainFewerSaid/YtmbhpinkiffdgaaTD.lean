/- Terrain: the checks of nodes. No condition. -/
import Derived.Test.YtmbhpinkiffdgaaTC
namespace Go.Proofs.Ytmbhpinkiffdgaa.Am
open Go

def inn (n lo hi : Int) : Bool := decide (lo ≤ n) && decide (n ≤ hi)
def leO (n : Int) : Option Int → Bool
  | none => false
  | some p => decide (n ≤ p)
def nodesE : Option Int → List Nd → Int
  | _, [] => 0
  | p, x :: r => if (!inn x.id 1 9999 || !inn x.alt 0 5000) = true then 2 else if leO x.id p = true then 7 else nodesE (some x.id) r
def pvO {α : Type} (g : α → Int) (l : List α) : Nat → Option Int
  | 0 => none
  | k + 1 => (l[k]?).map g
theorem drop_cons {α : Type} {l : List α} {k : Nat} {n : α} (h : l[k]? = some n) : l.drop k = n :: l.drop (k + 1) := by
  have hl := (List.getElem?_eq_some_iff.1 h)
  rw [List.drop_eq_getElem_cons hl.1, hl.2]
theorem wrap1 : IntKind.i64.wrap 1 = 1 := wrap64 ⟨by omega, by omega⟩
theorem wrapJ {j : Nat} (h : j ≤ 9223372036854775807) : IntKind.i64.wrap (j : Int) = j := wrap64 ⟨by omega, by omega⟩
theorem f39 (l : List Nd) (hl : l.length ≤ 9223372036854775807) (K : List Vl → Prop) : FC F 39 [.v (.c (.ro 2 (l.map eNd)))] K ↔ K [.c (I (nodesE none l))] := by
  refine FC.rule ?_ K
  rw [fc_run F39]
  simp [b39]
  refine run_loop (fun m s => ∃ k, k ≤ l.length ∧ m = l.length - k ∧ s.fr 0 = .v (.c (.ro 2 (l.map eNd))) ∧ s.fr 3 = vI k ∧ nodesE none l = nodesE (pvO Nd.id l k) (l.drop k)) l.length ⟨0, by omega, by omega, by simp, by simp, rfl⟩ ?_
  rintro J hJ m ⟨fr, μ⟩ ⟨k, hk, rfl, h0, h3, hn⟩
  simp only at h0 h3
  by_cases hkl : k < l.length
  · obtain ⟨n, hn'⟩ : ∃ n, l[k] = n := ⟨_, rfl⟩
    have hget : l[k]? = some n := by rw [← hn']; exact List.getElem?_eq_getElem hkl
    rw [drop_cons hget] at hn
    simp only [nodesE] at hn
    have hw := wrapS (n := k) (by omega)
    have next : nodesE none l = nodesE (some n.id) (l.drop (k + 1)) → ∀ fr' μ', fr' 0 = .v (.c (.ro 2 (l.map eNd))) → fr' 3 = vI ((k + 1 : Nat) : Int) → ∃ m', m' < l.length - k ∧ J m' ⟨fr', μ'⟩ := fun h fr' μ' g0 g3 =>
      ⟨l.length - (k + 1), by omega, hJ _ _ ⟨k + 1, by omega, rfl, g0, g3, by rw [h]; simp only [pvO, hget, Option.map_some]⟩⟩
    by_cases c1 : inn n.id 1 9999 = true <;> by_cases c2 : inn n.alt 0 5000 = true
    · simp only [c1, c2, Bool.not_true, Bool.or_self, Bool.false_eq_true, if_false] at hn
      simp only [inn] at c1 c2
      cases k with
      | zero =>
        simp only [pvO, leO, Bool.false_eq_true, if_false] at hn
        simp [h0, h3, hkl, hn', f55, c1, c2]
        exact next hn _ _ (by simp [h0]) (by simp [wrap1])
      | succ j =>
        obtain ⟨n2, hn2⟩ : ∃ n, l[j]'(by omega) = n := ⟨_, rfl⟩
        have hget2 : l[j]? = some n2 := by rw [← hn2]; exact List.getElem?_eq_getElem _
        have hpos : (0 : Int) < (j : Int) + 1 := by omega
        have hjl : j < l.length := by omega
        have hge : ¬ ((j : Int) + 1 < 0) := by omega
        have hw2 := wrapJ (j := j) (by omega)
        have hI : (j : Int) + 1 < l.length := by omega
        have h0I : (0 : Int) ≤ (j : Int) + 1 := by omega
        simp only [pvO, hget2, Option.map_some, leO] at hn
        by_cases c3 : n.id ≤ n2.id
        · simp [h0, h3, hkl, hn', f55, c1, c2, hpos, hI, h0I, hw2, hjl, hn2, c3, hn]
        · simp [h0, h3, hkl, hn', f55, c1, c2, hpos, hI, h0I, hw2, hjl, hn2, c3]
          exact next (by simpa [c3] using hn) _ _ (by simp [h0]) (by simpa using hw)
    all_goals
      simp only [c1, c2] at hn
      simp only [inn] at c1 c2
      simp [h0, h3, hkl, hn', f55, c1, c2, hn]
  · have : l.drop k = [] := List.drop_eq_nil_of_le (by omega)
    rw [this] at hn
    simp [h0, h3, hkl, hn, nodesE]
theorem f35 (l : List Nd) (hl : l.length ≤ 9223372036854775807) (K : List Vl → Prop) : FC F 35 [.v (.c (.ro 2 (l.map eNd)))] K ↔ K [.c (I (nodesE none l))] := by
  refine FC.rule ?_ K
  rw [fc_run F35]
  simp [b35]
  refine run_loop (fun m s => ∃ k, k ≤ l.length ∧ m = l.length - k ∧ s.fr 0 = .v (.c (.ro 2 (l.map eNd))) ∧ s.fr 5 = .v (.c (.ro 2 (l.map eNd))) ∧ s.fr 6 = vI l.length ∧ s.fr 7 = vI k ∧ nodesE none l = nodesE (pvO Nd.id l k) (l.drop k)) l.length ⟨0, by omega, by omega, by simp, by simp, by simp, by simp, rfl⟩ ?_
  rintro J hJ m ⟨fr, μ⟩ ⟨k, hk, rfl, h0, h5, h6, h3, hn⟩
  simp only at h0 h5 h6 h3
  by_cases hkl : k < l.length
  · obtain ⟨n, hn'⟩ : ∃ n, l[k] = n := ⟨_, rfl⟩
    have hget : l[k]? = some n := by rw [← hn']; exact List.getElem?_eq_getElem hkl
    rw [drop_cons hget] at hn
    simp only [nodesE] at hn
    have hw := wrapS (n := k) (by omega)
    have next : nodesE none l = nodesE (some n.id) (l.drop (k + 1)) → ∀ fr' μ', fr' 0 = .v (.c (.ro 2 (l.map eNd))) → fr' 5 = .v (.c (.ro 2 (l.map eNd))) → fr' 6 = vI l.length → fr' 7 = vI ((k + 1 : Nat) : Int) → ∃ m', m' < l.length - k ∧ J m' ⟨fr', μ'⟩ := fun h fr' μ' g0 g5 g6 g3 =>
      ⟨l.length - (k + 1), by omega, hJ _ _ ⟨k + 1, by omega, rfl, g0, g5, g6, g3, by rw [h]; simp only [pvO, hget, Option.map_some]⟩⟩
    by_cases c1 : inn n.id 1 9999 = true <;> by_cases c2 : inn n.alt 0 5000 = true
    · simp only [c1, c2, Bool.not_true, Bool.or_self, Bool.false_eq_true, if_false] at hn
      simp only [inn] at c1 c2
      cases k with
      | zero =>
        simp only [pvO, leO, Bool.false_eq_true, if_false] at hn
        simp [h0, h5, h6, h3, hkl, hn', f54, c1, c2]
        exact next hn _ _ (by simp [h0]) (by simp [h5]) (by simp [h6]) (by simp [wrap1])
      | succ j =>
        obtain ⟨n2, hn2⟩ : ∃ n, l[j]'(by omega) = n := ⟨_, rfl⟩
        have hget2 : l[j]? = some n2 := by rw [← hn2]; exact List.getElem?_eq_getElem _
        have hpos : (0 : Int) < (j : Int) + 1 := by omega
        have hjl : j < l.length := by omega
        have hge : ¬ ((j : Int) + 1 < 0) := by omega
        have hw2 := wrapJ (j := j) (by omega)
        have hI : (j : Int) + 1 < l.length := by omega
        have h0I : (0 : Int) ≤ (j : Int) + 1 := by omega
        simp only [pvO, hget2, Option.map_some, leO] at hn
        by_cases c3 : n.id ≤ n2.id
        · simp [h0, h5, h6, h3, hkl, hn', f54, c1, c2, hpos, hI, h0I, hw2, hjl, hn2, c3, hn]
        · simp [h0, h5, h6, h3, hkl, hn', f54, c1, c2, hpos, hI, h0I, hw2, hjl, hn2, c3]
          exact next (by simpa [c3] using hn) _ _ (by simp [h0]) (by simp [h5]) (by simp [h6]) (by simpa using hw)
    all_goals
      simp only [c1, c2] at hn
      simp only [inn] at c1 c2
      simp [h0, h5, h6, h3, hkl, hn', f54, c1, c2, hn]
  · have : l.drop k = [] := List.drop_eq_nil_of_le (by omega)
    rw [this] at hn
    simp [h0, h5, h6, h3, hkl, hn, nodesE]
end Go.Proofs.Ytmbhpinkiffdgaa.Am
