/- Terrain: the checks of bases and of a map, as specified. No condition. -/
import Derived.Test.YtmbhpinkiffdgaaTE
namespace Go.Proofs.Ytmbhpinkiffdgaa.Am
open Go

def incr : Option Int → List Int → Bool
  | _, [] => true
  | p, x :: r => !leO x p && incr (some x) r
def basesE (m : Mp) : Int := if m.bases = [] then 8 else if m.bases.all (hasNd m) = true then (if incr none m.bases = true then 0 else 7) else 8
theorem f42 (m : Mp) (hm : Okm m) (K : List Vl → Prop) : FC F 42 [.v (.agg (eM m))] K ↔ K [.c (I (basesE m))] := by
  refine FC.rule ?_ K
  rw [fc_run F42]
  have hL := hm.b
  by_cases hne : m.bases = []
  · simp [b42, hne, basesE]
  have hpos : 0 < m.bases.length := List.length_pos_iff.2 hne
  have hp0 : ¬ (m.bases.length = 0) := by omega
  have hp1 : ¬ ((m.bases.length : Int) = 0) := by omega
  simp [b42, hne, hp0, hp1]
  refine run_loop (fun q s => ∃ k, k ≤ m.bases.length ∧ q = m.bases.length - k ∧ s.fr 1 = .ptr (0, 1) 0 ∧ s.fr 3 = vI k ∧ s.mu.box (0, 1) = some (eM m) ∧ m.bases.all (hasNd m) = (m.bases.drop k).all (hasNd m)) m.bases.length ⟨0, by omega, by omega, by simp, by simp, by simp, rfl⟩ ?_
  rintro J hJ q ⟨fr, μ⟩ ⟨k, hk, rfl, h1, h3, mb, hn⟩
  simp only at h1 h3 mb
  by_cases hkl : k < m.bases.length
  · obtain ⟨n, hn'⟩ : ∃ n, m.bases[k] = n := ⟨_, rfl⟩
    have hget : m.bases[k]? = some n := by rw [← hn']; exact List.getElem?_eq_getElem hkl
    rw [drop_cons hget, List.all_cons] at hn
    have hc := f16 m n hm.n
    have hw := wrapS (n := k) (by omega)
    by_cases c1 : hasNd m n = true
    · simp only [c1, Bool.true_and] at hn
      simp [h1, h3, mb, hkl, hn', hc, c1, hw]
      exact ⟨m.bases.length - (k + 1), by omega, hJ _ _ ⟨k + 1, by omega, rfl, by simp [h1], by simp, by simp [mb], hn⟩⟩
    · have c1' : hasNd m n = false := by simpa using c1
      simp only [c1', Bool.false_and] at hn
      simp [h1, h3, mb, hkl, hn', hc, c1', basesE, hne, hn]
  · have : m.bases.drop k = [] := List.drop_eq_nil_of_le (by omega)
    rw [this] at hn
    simp only [List.all_nil] at hn
    simp [h1, h3, mb, hkl]
    refine run_loop (fun q s => ∃ k, 1 ≤ k ∧ k ≤ m.bases.length ∧ q = m.bases.length - k ∧ s.fr 1 = .ptr (0, 1) 0 ∧ s.fr 6 = vI k ∧ s.mu.box (0, 1) = some (eM m) ∧ incr none m.bases = incr (pvO id m.bases k) (m.bases.drop k)) (m.bases.length - 1) ⟨1, by omega, by omega, rfl, by simp [h1], by simp, by simp [mb], ?_⟩ ?_
    · cases hb : m.bases with
      | nil => exact absurd hb hne
      | cons x r => simp [incr, leO, pvO]
    · rintro J2 hJ2 q2 ⟨fr2, μ2⟩ ⟨k2, hk1, hk2, rfl, g1, g6, gb, gn⟩
      simp only at g1 g6 gb
      by_cases hkl2 : k2 < m.bases.length
      · obtain ⟨j, rfl⟩ : ∃ j, k2 = j + 1 := ⟨k2 - 1, by omega⟩
        obtain ⟨n, hn'⟩ : ∃ n, m.bases[j + 1] = n := ⟨_, rfl⟩
        have hget : m.bases[j + 1]? = some n := by rw [← hn']; exact List.getElem?_eq_getElem hkl2
        obtain ⟨n2, hn2⟩ : ∃ n, m.bases[j]'(by omega) = n := ⟨_, rfl⟩
        have hget2 : m.bases[j]? = some n2 := by rw [← hn2]; exact List.getElem?_eq_getElem _
        rw [drop_cons hget] at gn
        simp only [pvO, hget2, Option.map_some, id, incr, leO] at gn
        have hpos' : (0 : Int) < (j : Int) + 1 := by omega
        have hjl : j < m.bases.length := by omega
        have hI : (j : Int) + 1 < m.bases.length := by omega
        have h0I : (0 : Int) ≤ (j : Int) + 1 := by omega
        have hw2 := wrapJ (j := j) (by omega)
        have hw : IntKind.i64.wrap ((j : Int) + 1 + 1) = (j : Int) + 1 + 1 := wrap64 ⟨by omega, by omega⟩
        by_cases cp : n ≤ n2
        · simp [cp] at gn
          simp [g1, g6, gb, hkl2, hn', hpos', hI, h0I, hw2, hjl, hn2, cp, basesE, hne, hn, gn]
        · simp [cp] at gn
          simp [g1, g6, gb, hkl2, hn', hpos', hI, h0I, hw2, hjl, hn2, cp, hw]
          exact ⟨m.bases.length - (j + 1 + 1), by omega, hJ2 _ _ ⟨j + 1 + 1, by omega, by omega, rfl, by simp [g1], by simp, by simp [gb], by simpa [pvO, hget] using gn⟩⟩
      · have : m.bases.drop k2 = [] := List.drop_eq_nil_of_le (by omega)
        rw [this] at gn
        simp only [incr] at gn
        simp [g1, g6, gb, hkl2, basesE, hne, hn, gn]
def tooLong (m : Mp) : Bool := decide (64 < m.nodes.length) || decide (32 < m.lifts.length) || decide (64 < m.runs.length) || decide (64 < m.bases.length)
def rightE (m : Mp) : Int := if tooLong m = true then 4 else if nodesE none m.nodes ≠ 0 then nodesE none m.nodes else if liftsE m none m.lifts ≠ 0 then liftsE m none m.lifts else if runsE m none m.runs ≠ 0 then runsE m none m.runs else basesE m
theorem f14 (m : Mp) (hm : Okm m) (K : List Vl → Prop) : FC F 14 [.v (.agg (eM m))] K ↔ K [.c (I (rightE m))] := by
  rw [fc_run F14]
  have h1 := f39 m.nodes hm.n
  have h2 := f40 m hm
  have h3 := f41 m hm
  have h4 := f42 m hm
  by_cases c1 : 64 < m.nodes.length
  case pos =>
    have e1 : (64 : Int) < m.nodes.length := by omega
    have g1 : ¬ ((m.nodes.length : Int) ≤ 64) := by omega
    simp [b14, rightE, tooLong, c1, e1, g1]
  have e1 : ¬ ((64 : Int) < m.nodes.length) := by omega
  have g1 : (m.nodes.length : Int) ≤ 64 := by omega
  by_cases c2 : 32 < m.lifts.length
  case pos =>
    have e2 : (32 : Int) < m.lifts.length := by omega
    have g2 : ¬ ((m.lifts.length : Int) ≤ 32) := by omega
    simp [b14, rightE, tooLong, c1, e1, g1, c2, e2, g2]
  have e2 : ¬ ((32 : Int) < m.lifts.length) := by omega
  have g2 : (m.lifts.length : Int) ≤ 32 := by omega
  by_cases c3 : 64 < m.runs.length
  case pos =>
    have e3 : (64 : Int) < m.runs.length := by omega
    have g3 : ¬ ((m.runs.length : Int) ≤ 64) := by omega
    simp [b14, rightE, tooLong, c1, e1, g1, c2, e2, g2, c3, e3, g3]
  have e3 : ¬ ((64 : Int) < m.runs.length) := by omega
  have g3 : (m.runs.length : Int) ≤ 64 := by omega
  by_cases c4 : 64 < m.bases.length
  case pos =>
    have e4 : (64 : Int) < m.bases.length := by omega
    have g4 : ¬ ((m.bases.length : Int) ≤ 64) := by omega
    simp [b14, rightE, tooLong, c1, e1, g1, c2, e2, g2, c3, e3, g3, c4, e4, g4]
  have e4 : ¬ ((64 : Int) < m.bases.length) := by omega
  have g4 : (m.bases.length : Int) ≤ 64 := by omega
  by_cases d1 : nodesE none m.nodes = 0
  case neg => simp [b14, c1, e1, g1, c2, e2, g2, c3, e3, g3, c4, e4, g4, rightE, tooLong, h1, d1]
  by_cases d2 : liftsE m none m.lifts = 0
  case neg => simp [b14, c1, e1, g1, c2, e2, g2, c3, e3, g3, c4, e4, g4, rightE, tooLong, h1, h2, d1, d2]
  by_cases d3 : runsE m none m.runs = 0
  case neg => simp [b14, c1, e1, g1, c2, e2, g2, c3, e3, g3, c4, e4, g4, rightE, tooLong, h1, h2, h3, d1, d2, d3]
  simp [b14, c1, e1, g1, c2, e2, g2, c3, e3, g3, c4, e4, g4, rightE, tooLong, h1, h2, h3, h4, d1, d2, d3]
end Go.Proofs.Ytmbhpinkiffdgaa.Am
