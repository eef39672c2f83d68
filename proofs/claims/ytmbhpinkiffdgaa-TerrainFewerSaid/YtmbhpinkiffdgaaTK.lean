/- Terrain: the program's check of a map; the law TerrainChecks over the abstract machine. No condition. -/
import Derived.Test.YtmbhpinkiffdgaaTJ
namespace Go.Proofs.Ytmbhpinkiffdgaa.Am
open Go

theorem f38 (m : Mp) (hm : Okm m) (K : List Vl → Prop) : FC F 38 [.v (.agg (eM m))] K ↔ K [.c (I (basesE m))] := by
  refine FC.rule ?_ K
  rw [fc_run F38]
  have hL := hm.b
  by_cases hne : m.bases = []
  · simp [b38, hne, basesE]
  have hpos : 0 < m.bases.length := List.length_pos_iff.2 hne
  have hp0 : ¬ (m.bases.length = 0) := by omega
  have hp1 : ¬ ((m.bases.length : Int) = 0) := by omega
  simp [b38, hne, hp0, hp1]
  refine run_loop (fun q s => ∃ k, k ≤ m.bases.length ∧ q = m.bases.length - k ∧ s.fr 1 = .ptr (0, 1) 0 ∧ s.fr 13 = .v (.c (.ro 1 (m.bases.map e1))) ∧ s.fr 14 = vI m.bases.length ∧ s.fr 15 = vI k ∧ s.mu.box (0, 1) = some (eM m) ∧ m.bases.all (hasNd m) = (m.bases.drop k).all (hasNd m)) m.bases.length ⟨0, by omega, by omega, by simp, by simp, by simp, by simp, by simp, rfl⟩ ?_
  rintro J hJ q ⟨fr, μ⟩ ⟨k, hk, rfl, h1, h13, h14, h3, mb, hn⟩
  simp only at h1 h13 h14 h3 mb
  by_cases hkl : k < m.bases.length
  · obtain ⟨n, hn'⟩ : ∃ n, m.bases[k] = n := ⟨_, rfl⟩
    have hget : m.bases[k]? = some n := by rw [← hn']; exact List.getElem?_eq_getElem hkl
    rw [drop_cons hget, List.all_cons] at hn
    have hc := f15 m n hm.n
    have hw := wrapS (n := k) (by omega)
    by_cases c1 : hasNd m n = true
    · simp only [c1, Bool.true_and] at hn
      simp [h1, h13, h14, h3, mb, hkl, hn', hc, c1, hw]
      exact ⟨m.bases.length - (k + 1), by omega, hJ _ _ ⟨k + 1, by omega, rfl, by simp [h1], by simp [h13], by simp [h14], by simp, by simp [mb], hn⟩⟩
    · have c1' : hasNd m n = false := by simpa using c1
      simp only [c1', Bool.false_and] at hn
      simp [h1, h13, h14, h3, mb, hkl, hn', hc, c1', basesE, hne, hn]
  · have : m.bases.drop k = [] := List.drop_eq_nil_of_le (by omega)
    rw [this] at hn
    simp only [List.all_nil] at hn
    simp [h1, h13, h14, h3, mb, hkl]
    refine run_loop (fun q s => ∃ k, 1 ≤ k ∧ k ≤ m.bases.length ∧ q = m.bases.length - k ∧ s.fr 1 = .ptr (0, 1) 0 ∧ s.fr 7 = vI k ∧ s.mu.box (0, 1) = some (eM m) ∧ incr none m.bases = incr (pvO id m.bases k) (m.bases.drop k)) (m.bases.length - 1) ⟨1, by omega, by omega, rfl, by simp [h1], by simp, by simp [mb], ?_⟩ ?_
    · cases hb : m.bases with
      | nil => exact absurd hb hne
      | cons x r => simp [incr, leO, pvO]
    · rintro J2 hJ2 q2 ⟨fr2, μ2⟩ ⟨k2, hk1, hk2, rfl, g1, g6, gb, gn⟩
      simp only at g1 g6 gb
      by_cases hkl2 : k2 < m.bases.length
      · obtain ⟨j, rfl⟩ : ∃ j, k2 = j + 1 := ⟨k2 - 1, by omega⟩
        obtain ⟨n, hn'⟩ : ∃ n, m.bases[j + 1] = n := ⟨_, rfl⟩
        have hget : m.bases[j + 1]? = some n := by rw [← hn']; exact List.getElem?_eq_getElem hkl2
        obtain ⟨n2, hn2⟩ : ∃ n, m.bases[j]'(by omega) = n := ⟨_, rfl⟩
        have hget2 : m.bases[j]? = some n2 := by rw [← hn2]; exact List.getElem?_eq_getElem _
        rw [drop_cons hget] at gn
        simp only [pvO, hget2, Option.map_some, id, incr, leO] at gn
        have hpos' : (0 : Int) < (j : Int) + 1 := by omega
        have hjl : j < m.bases.length := by omega
        have hI : (j : Int) + 1 < m.bases.length := by omega
        have h0I : (0 : Int) ≤ (j : Int) + 1 := by omega
        have hw2 := wrapJ (j := j) (by omega)
        have hw : IntKind.i64.wrap ((j : Int) + 1 + 1) = (j : Int) + 1 + 1 := wrap64 ⟨by omega, by omega⟩
        by_cases cp : n ≤ n2
        · simp [cp] at gn
          simp [g1, g6, gb, hkl2, hn', hpos', hI, h0I, hw2, hjl, hn2, cp, basesE, hne, hn, gn]
        · simp [cp] at gn
          simp [g1, g6, gb, hkl2, hn', hpos', hI, h0I, hw2, hjl, hn2, cp, hw]
          exact ⟨m.bases.length - (j + 1 + 1), by omega, hJ2 _ _ ⟨j + 1 + 1, by omega, by omega, rfl, by simp [g1], by simp, by simp [gb], by simpa [pvO, hget] using gn⟩⟩
      · have : m.bases.drop k2 = [] := List.drop_eq_nil_of_le (by omega)
        rw [this] at gn
        simp only [incr] at gn
        simp [g1, g6, gb, hkl2, basesE, hne, hn, gn]

set_option maxHeartbeats 4000000 in
theorem f13 (m : Mp) (hm : Okm m) (K : List Vl → Prop) : FC F 13 [.v (.agg (eM m))] K ↔ K [.c (I (rightE m))] := by
  refine FC.rule ?_ K
  rw [fc_run F13]
  have h1 := f35 m.nodes hm.n
  by_cases c1 : 64 < m.nodes.length
  case pos =>
    have e1 : (64 : Int) < m.nodes.length := by omega
    have g1 : ¬ ((m.nodes.length : Int) ≤ 64) := by omega
    simp [b13, rightE, tooLong, c1, e1, g1]
  have e1 : ¬ ((64 : Int) < m.nodes.length) := by omega
  have g1 : (m.nodes.length : Int) ≤ 64 := by omega
  by_cases c2 : 32 < m.lifts.length
  case pos =>
    have e2 : (32 : Int) < m.lifts.length := by omega
    have g2 : ¬ ((m.lifts.length : Int) ≤ 32) := by omega
    simp [b13, rightE, tooLong, c1, e1, g1, c2, e2, g2]
  have e2 : ¬ ((32 : Int) < m.lifts.length) := by omega
  have g2 : (m.lifts.length : Int) ≤ 32 := by omega
  by_cases c3 : 64 < m.runs.length
  case pos =>
    have e3 : (64 : Int) < m.runs.length := by omega
    have g3 : ¬ ((m.runs.length : Int) ≤ 64) := by omega
    simp [b13, rightE, tooLong, c1, e1, g1, c2, e2, g2, c3, e3, g3]
  have e3 : ¬ ((64 : Int) < m.runs.length) := by omega
  have g3 : (m.runs.length : Int) ≤ 64 := by omega
  by_cases c4 : 64 < m.bases.length
  case pos =>
    have e4 : (64 : Int) < m.bases.length := by omega
    have g4 : ¬ ((m.bases.length : Int) ≤ 64) := by omega
    simp [b13, rightE, tooLong, c1, e1, g1, c2, e2, g2, c3, e3, g3, c4, e4, g4]
  have e4 : ¬ ((64 : Int) < m.bases.length) := by omega
  have g4 : (m.bases.length : Int) ≤ 64 := by omega
  have ht : tooLong m = false := by simp [tooLong]; omega
  by_cases d1 : nodesE none m.nodes = 0
  case neg => simp [b13, c1, e1, g1, c2, e2, g2, c3, e3, g3, c4, e4, g4, rightE, tooLong, h1, d1]
  simp [b13, c1, e1, g1, c2, e2, g2, c3, e3, g3, c4, e4, g4, h1, d1]
  refine run_loop (fun q s => ∃ k, k ≤ m.lifts.length ∧ q = m.lifts.length - k ∧ s.fr 1 = .ptr (0, 1) 0 ∧ s.mu.box (0, 1) = some (eM m) ∧ s.fr 4 = vI ((pvO Lf.id m.lifts k).getD 0) ∧ s.fr 40 = .v (.c (.ro 8 (m.lifts.map eLf))) ∧ s.fr 41 = vI m.lifts.length ∧ s.fr 42 = vI k ∧ liftsE m none m.lifts = liftsE m (pvO Lf.id m.lifts k) (m.lifts.drop k)) m.lifts.length ⟨0, by omega, by omega, by simp, by simp, by simp [pvO], by simp, by simp, by simp, rfl⟩ ?_
  rintro J hJ q ⟨fr, μ⟩ ⟨k, hk, rfl, q1, qb, q4, q5, q6, q7, hn⟩
  simp only at q1 qb q4 q5 q6 q7
  by_cases hkl : k < m.lifts.length
  case pos =>
    obtain ⟨n, hn'⟩ : ∃ n, m.lifts[k] = n := ⟨_, rfl⟩
    have hget : m.lifts[k]? = some n := by rw [← hn']; exact List.getElem?_eq_getElem hkl
    rw [drop_cons hget] at hn
    simp only [liftsE] at hn
    have hpv : pvO Lf.id m.lifts (k + 1) = some n.id := by simp only [pvO, hget, Option.map_some]
    generalize pvO Lf.id m.lifts k = pv at q4 hn
    have hc := f36 m hm d1 pv n
    have hws := wrapS (n := k) (by omega)
    by_cases d : liftE m pv n = 0
    · rw [if_neg (by simpa using d)] at hn
      rw [d] at hc
      simp [q1, qb, q4, q5, q6, q7, hkl, hn', hc, hws]
      exact ⟨m.lifts.length - (k + 1), by omega, hJ _ _ ⟨k + 1, by omega, rfl, by simp [q1], by simp [qb], by simp [hpv], by simp [q5], by simp [q6], by simp, by rw [hn, hpv]⟩⟩
    · rw [if_pos d] at hn
      have hR : rightE m = liftE m pv n := by simp [rightE, ht, d1, hn, d]
      simp [q1, qb, q4, q5, q6, q7, hkl, hn', hc, d, hR]
  have d2 : liftsE m none m.lifts = 0 := by
    have : m.lifts.drop k = [] := List.drop_eq_nil_of_le (by omega)
    rw [hn, this]; rfl
  clear hn q4
  simp [q1, qb, q5, q6, q7, hkl]
  refine run_loop (fun q s => ∃ k, k ≤ m.runs.length ∧ q = m.runs.length - k ∧ s.fr 1 = .ptr (0, 1) 0 ∧ s.mu.box (0, 1) = some (eM m) ∧ s.fr 4 = vI ((pvO Rn.id m.runs k).getD 0) ∧ s.fr 57 = .v (.c (.ro 7 (m.runs.map eRn))) ∧ s.fr 58 = vI m.runs.length ∧ s.fr 59 = vI k ∧ runsE m none m.runs = runsE m (pvO Rn.id m.runs k) (m.runs.drop k)) m.runs.length ⟨0, by omega, by omega, by simp [q1], by simp [qb], by simp [pvO], by simp, by simp, by simp, rfl⟩ ?_
  rintro J2 hJ2 q ⟨fr2, μ2⟩ ⟨k2, hk2, rfl, r1, rb, r4, r5, r6, r7, rn⟩
  simp only at r1 rb r4 r5 r6 r7
  by_cases hkl2 : k2 < m.runs.length
  case pos =>
    obtain ⟨n, hn'⟩ : ∃ n, m.runs[k2] = n := ⟨_, rfl⟩
    have hget : m.runs[k2]? = some n := by rw [← hn']; exact List.getElem?_eq_getElem hkl2
    rw [drop_cons hget] at rn
    simp only [runsE] at rn
    have hpv : pvO Rn.id m.runs (k2 + 1) = some n.id := by simp only [pvO, hget, Option.map_some]
    generalize pvO Rn.id m.runs k2 = pv at r4 rn
    have hc := f37 m hm d1 pv n
    have hws := wrapS (n := k2) (by omega)
    by_cases d : runE m pv n = 0
    · rw [if_neg (by simpa using d)] at rn
      rw [d] at hc
      simp [r1, rb, r4, r5, r6, r7, hkl2, hn', hc, hws]
      exact ⟨m.runs.length - (k2 + 1), by omega, hJ2 _ _ ⟨k2 + 1, by omega, rfl, by simp [r1], by simp [rb], by simp [hpv], by simp [r5], by simp [r6], by simp, by rw [rn, hpv]⟩⟩
    · rw [if_pos d] at rn
      have hR : rightE m = runE m pv n := by simp [rightE, ht, d1, d2, rn, d]
      simp [r1, rb, r4, r5, r6, r7, hkl2, hn', hc, d, hR]
  have d3 : runsE m none m.runs = 0 := by
    have : m.runs.drop k2 = [] := List.drop_eq_nil_of_le (by omega)
    rw [rn, this]; rfl
  clear rn r4
  have h4 := f38 m hm
  have hR : rightE m = basesE m := by simp [rightE, ht, d1, d2, d3]
  simp [r1, rb, r5, r6, r7, hkl2, h4, hR]
theorem f3 (m : Mp) (h : Okm m) (K : List Vl → Prop) : FC F 3 [.v (.agg (eM m))] K ↔ K [.c (B true)] := by
  rw [fc_run F3]
  have h1 := f13 m h
  have h2 := f14 m h
  by_cases hl : light m = true
  · simp [b3, f11, f12, hl, h1, h2]
  · simp [b3, f11, f12, hl]
theorem law3 (xs : List FV) (h : FitAll [tyM] xs) : FC F 3 xs (· = [.c (B true)]) := by
  match xs, h with
  | [x], ⟨hx, _⟩ =>
    obtain ⟨m, rfl, hm, _⟩ := open_map hx
    exact (f3 m hm _).2 rfl
end Go.Proofs.Ytmbhpinkiffdgaa.Am
