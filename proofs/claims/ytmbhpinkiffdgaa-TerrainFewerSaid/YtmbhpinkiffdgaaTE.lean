/- Terrain: the checks of lifts and runs, as specified. No condition. -/
import Derived.Test.YtmbhpinkiffdgaaTD
namespace Go.Proofs.Ytmbhpinkiffdgaa.Am
open Go

def risesE (m : Mp) (fr to : Int) : Int := if (hasNd m fr && hasNd m to) = true then (if (findNd m to).alt ≤ (findNd m fr).alt then 11 else 0) else 8
theorem f56 (m : Mp) (fr to : Int) (h : Okm m) (K : List Vl → Prop) : FC F 56 [.v (.agg (eM m)), vI fr, vI to] K ↔ K [.c (I (risesE m fr to))] := by
  rw [fc_run F56]
  have h1 := f16 m fr h.n
  have h2 := f16 m to h.n
  by_cases c1 : hasNd m fr = true <;> by_cases c2 : hasNd m to = true <;> by_cases c3 : (findNd m to).alt ≤ (findNd m fr).alt <;> simp [b56, h1, h2, c1, c2, c3, risesE]
def carr (x : Lf) : Bool := ((IntKind.i64.wrap (2 * x.len)).tmod x.spac == 0) && inn (IntKind.i64.wrap ((IntKind.i64.wrap (2 * x.len)).tdiv x.spac)) 1 200
theorem f57 (x : Lf) (h : x.spac ≠ 0) (K : List Vl → Prop) : FC F 57 [.v (.agg (eLf x))] K ↔ K [.c (B (carr x))] := by
  rw [fc_run F57]
  by_cases c1 : (IntKind.i64.wrap (2 * x.len)).tmod x.spac = 0
  · simp [b57, h, c1, carr, inn, f55]
  · have c1' : ((IntKind.i64.wrap (2 * x.len)).tmod x.spac == 0) = false := by simpa using c1
    simp [b57, h, c1, c1', carr]

def rngLf (x : Lf) : Bool := inn x.id 1 9999 && inn x.op 1 8 && inn x.len 10 6000 && inn x.speed 500 12000 && inn x.seats 1 16 && inn x.spac 5 1000
def rngRn (x : Rn) : Bool := inn x.id 1 9999 && inn x.op 1 8 && inn x.grade 1 4 && inn x.zone 1 32 && inn x.len 10 20000
def liftE (m : Mp) (p : Option Int) (x : Lf) : Int := if rngLf x = true then (if leO x.id p = true then 7 else if risesE m x.fr x.to ≠ 0 then risesE m x.fr x.to else if carr x = true then 0 else 1) else 2
def runE (m : Mp) (p : Option Int) (x : Rn) : Int := if rngRn x = true then (if leO x.id p = true then 7 else if risesE m x.to x.fr ≠ 0 then risesE m x.to x.fr else 0) else 2
def liftsE (m : Mp) : Option Int → List Lf → Int
  | _, [] => 0
  | p, x :: r => if liftE m p x ≠ 0 then liftE m p x else liftsE m (some x.id) r
def runsE (m : Mp) : Option Int → List Rn → Int
  | _, [] => 0
  | p, x :: r => if runE m p x ≠ 0 then runE m p x else runsE m (some x.id) r

set_option maxHeartbeats 4000000 in
theorem f40 (m : Mp) (hm : Okm m) (K : List Vl → Prop) : FC F 40 [.v (.agg (eM m))] K ↔ K [.c (I (liftsE m none m.lifts))] := by
  refine FC.rule ?_ K
  rw [fc_run F40]
  simp [b40]
  have hL := hm.l
  refine run_loop (fun q s => ∃ k, k ≤ m.lifts.length ∧ q = m.lifts.length - k ∧ s.fr 1 = .ptr (0, 1) 0 ∧ s.fr 3 = vI k ∧ s.mu.box (0, 1) = some (eM m) ∧ liftsE m none m.lifts = liftsE m (pvO Lf.id m.lifts k) (m.lifts.drop k)) m.lifts.length ⟨0, by omega, by omega, by simp, by simp, by simp, rfl⟩ ?_
  rintro J hJ q ⟨fr, μ⟩ ⟨k, hk, rfl, h1, h3, mb, hn⟩
  simp only at h1 h3 mb
  by_cases hkl : k < m.lifts.length
  case neg =>
    have : m.lifts.drop k = [] := List.drop_eq_nil_of_le (by omega)
    rw [this] at hn
    simp [h1, h3, mb, hkl, hn, liftsE]
  obtain ⟨n, hn'⟩ : ∃ n, m.lifts[k] = n := ⟨_, rfl⟩
  have hget : m.lifts[k]? = some n := by rw [← hn']; exact List.getElem?_eq_getElem hkl
  rw [drop_cons hget] at hn
  simp only [liftsE] at hn
  have next : liftsE m none m.lifts = liftsE m (some n.id) (m.lifts.drop (k + 1)) → ∀ fr' μ', fr' 1 = .ptr (0, 1) 0 → fr' 3 = vI ((k + 1 : Nat) : Int) → μ'.box (0, 1) = some (eM m) → ∃ q', q' < m.lifts.length - k ∧ J q' ⟨fr', μ'⟩ := fun h fr' μ' g1 g3 gb =>
    ⟨m.lifts.length - (k + 1), by omega, hJ _ _ ⟨k + 1, by omega, rfl, g1, g3, gb, by rw [h]; simp only [pvO, hget, Option.map_some]⟩⟩
  have hr0 := f56 m n.fr n.to hm
  by_cases c1 : inn n.id 1 9999 = true
  case neg =>
    have hE : liftE m (pvO Lf.id m.lifts k) n = 2 := by simp [liftE, rngLf, c1]
    rw [hE] at hn
    simp only [inn] at c1
    simp [h1, h3, mb, hkl, hn', f55, c1, hn]
  by_cases c2 : inn n.op 1 8 = true
  case neg =>
    have hE : liftE m (pvO Lf.id m.lifts k) n = 2 := by simp [liftE, rngLf, c1, c2]
    rw [hE] at hn
    simp only [inn] at c1 c2
    simp [h1, h3, mb, hkl, hn', f55, c1, c2, hn]
  by_cases c3 : inn n.len 10 6000 = true
  case neg =>
    have hE : liftE m (pvO Lf.id m.lifts k) n = 2 := by simp [liftE, rngLf, c1, c2, c3]
    rw [hE] at hn
    simp only [inn] at c1 c2 c3
    simp [h1, h3, mb, hkl, hn', f55, c1, c2, c3, hn]
  by_cases c4 : inn n.speed 500 12000 = true
  case neg =>
    have hE : liftE m (pvO Lf.id m.lifts k) n = 2 := by simp [liftE, rngLf, c1, c2, c3, c4]
    rw [hE] at hn
    simp only [inn] at c1 c2 c3 c4
    simp [h1, h3, mb, hkl, hn', f55, c1, c2, c3, c4, hn]
  by_cases c5 : inn n.seats 1 16 = true
  case neg =>
    have hE : liftE m (pvO Lf.id m.lifts k) n = 2 := by simp [liftE, rngLf, c1, c2, c3, c4, c5]
    rw [hE] at hn
    simp only [inn] at c1 c2 c3 c4 c5
    simp [h1, h3, mb, hkl, hn', f55, c1, c2, c3, c4, c5, hn]
  by_cases c6 : inn n.spac 5 1000 = true
  case neg =>
    have hE : liftE m (pvO Lf.id m.lifts k) n = 2 := by simp [liftE, rngLf, c1, c2, c3, c4, c5, c6]
    rw [hE] at hn
    simp only [inn] at c1 c2 c3 c4 c5 c6
    simp [h1, h3, mb, hkl, hn', f55, c1, c2, c3, c4, c5, c6, hn]
  have hrg : rngLf n = true := by simp [rngLf, c1, c2, c3, c4, c5, c6]
  have hca := f57 n (by simp only [inn, Bool.and_eq_true, decide_eq_true_eq] at c6; omega)
  simp only [inn] at c1 c2 c3 c4 c5 c6
  have last : leO n.id (pvO Lf.id m.lifts k) = false → liftE m (pvO Lf.id m.lifts k) n = (if risesE m n.fr n.to ≠ 0 then risesE m n.fr n.to else if carr n = true then 0 else 1) := fun h => by simp [liftE, hrg, h]
  have bad : leO n.id (pvO Lf.id m.lifts k) = true → liftE m (pvO Lf.id m.lifts k) n = 7 := fun h => by simp [liftE, hrg, h]
  cases k with
  | zero =>
    have hl0 := last (by simp [pvO, leO])
    rw [hl0] at hn
    by_cases r0 : risesE m n.fr n.to = 0
    case neg => simp [h1, h3, mb, hkl, hn', f55, c1, c2, c3, c4, c5, c6, wrap1, hr0, r0] at hn ⊢; simp [hn]
    by_cases r1 : carr n = true
    case neg => simp [h1, h3, mb, hkl, hn', f55, c1, c2, c3, c4, c5, c6, wrap1, hr0, r0, hca, r1] at hn ⊢; simp [hn]
    simp [h1, h3, mb, hkl, hn', f55, c1, c2, c3, c4, c5, c6, wrap1, hr0, r0, hca, r1] at hn ⊢
    exact next (by simpa using hn) _ _ (by simp [h1]) (by simp [wrap1]) (by simp [mb])
  | succ j =>
    obtain ⟨n2, hn2⟩ : ∃ n, m.lifts[j]'(by omega) = n := ⟨_, rfl⟩
    have hget2 : m.lifts[j]? = some n2 := by rw [← hn2]; exact List.getElem?_eq_getElem _
    have hpos : (0 : Int) < (j : Int) + 1 := by omega
    have hjl : j < m.lifts.length := by omega
    have hI : (j : Int) + 1 < m.lifts.length := by omega
    have h0I : (0 : Int) ≤ (j : Int) + 1 := by omega
    have hw2 := wrapJ (j := j) (by omega)
    have hw : IntKind.i64.wrap ((j : Int) + 1 + 1) = (j : Int) + 1 + 1 := wrap64 ⟨by omega, by omega⟩
    by_cases cp : n.id ≤ n2.id
    · have hb := bad (by simp [pvO, hget2, leO, cp])
      rw [hb] at hn
      simp [h1, h3, mb, hkl, hn', f55, c1, c2, c3, c4, c5, c6, hpos, hI, h0I, hw2, hjl, hn2, cp] at hn ⊢
      simp [hn]
    · have hl0 := last (by simp [pvO, hget2, leO, cp])
      rw [hl0] at hn
      by_cases r0 : risesE m n.fr n.to = 0
      case neg => simp [h1, h3, mb, hkl, hn', f55, c1, c2, c3, c4, c5, c6, hpos, hI, h0I, hw2, hjl, hn2, cp, hw, hr0, r0] at hn ⊢; simp [hn]
      by_cases r1 : carr n = true
      case neg => simp [h1, h3, mb, hkl, hn', f55, c1, c2, c3, c4, c5, c6, hpos, hI, h0I, hw2, hjl, hn2, cp, hw, hr0, r0, hca, r1] at hn ⊢; simp [hn]
      simp [h1, h3, mb, hkl, hn', f55, c1, c2, c3, c4, c5, c6, hpos, hI, h0I, hw2, hjl, hn2, cp, hw, hr0, r0, hca, r1] at hn ⊢
      exact next (by simpa using hn) _ _ (by simp [h1]) (by simp [hw]) (by simp [mb])

set_option maxHeartbeats 4000000 in
theorem f41 (m : Mp) (hm : Okm m) (K : List Vl → Prop) : FC F 41 [.v (.agg (eM m))] K ↔ K [.c (I (runsE m none m.runs))] := by
  refine FC.rule ?_ K
  rw [fc_run F41]
  simp [b41]
  have hL := hm.r
  refine run_loop (fun q s => ∃ k, k ≤ m.runs.length ∧ q = m.runs.length - k ∧ s.fr 1 = .ptr (0, 1) 0 ∧ s.fr 3 = vI k ∧ s.mu.box (0, 1) = some (eM m) ∧ runsE m none m.runs = runsE m (pvO Rn.id m.runs k) (m.runs.drop k)) m.runs.length ⟨0, by omega, by omega, by simp, by simp, by simp, rfl⟩ ?_
  rintro J hJ q ⟨fr, μ⟩ ⟨k, hk, rfl, h1, h3, mb, hn⟩
  simp only at h1 h3 mb
  by_cases hkl : k < m.runs.length
  case neg =>
    have : m.runs.drop k = [] := List.drop_eq_nil_of_le (by omega)
    rw [this] at hn
    simp [h1, h3, mb, hkl, hn, runsE]
  obtain ⟨n, hn'⟩ : ∃ n, m.runs[k] = n := ⟨_, rfl⟩
  have hget : m.runs[k]? = some n := by rw [← hn']; exact List.getElem?_eq_getElem hkl
  rw [drop_cons hget] at hn
  simp only [runsE] at hn
  have next : runsE m none m.runs = runsE m (some n.id) (m.runs.drop (k + 1)) → ∀ fr' μ', fr' 1 = .ptr (0, 1) 0 → fr' 3 = vI ((k + 1 : Nat) : Int) → μ'.box (0, 1) = some (eM m) → ∃ q', q' < m.runs.length - k ∧ J q' ⟨fr', μ'⟩ := fun h fr' μ' g1 g3 gb =>
    ⟨m.runs.length - (k + 1), by omega, hJ _ _ ⟨k + 1, by omega, rfl, g1, g3, gb, by rw [h]; simp only [pvO, hget, Option.map_some]⟩⟩
  have hr0 := f56 m n.to n.fr hm
  by_cases c1 : inn n.id 1 9999 = true
  case neg =>
    have hE : runE m (pvO Rn.id m.runs k) n = 2 := by simp [runE, rngRn, c1]
    rw [hE] at hn
    simp only [inn] at c1
    simp [h1, h3, mb, hkl, hn', f55, c1, hn]
  by_cases c2 : inn n.op 1 8 = true
  case neg =>
    have hE : runE m (pvO Rn.id m.runs k) n = 2 := by simp [runE, rngRn, c1, c2]
    rw [hE] at hn
    simp only [inn] at c1 c2
    simp [h1, h3, mb, hkl, hn', f55, c1, c2, hn]
  by_cases c3 : inn n.grade 1 4 = true
  case neg =>
    have hE : runE m (pvO Rn.id m.runs k) n = 2 := by simp [runE, rngRn, c1, c2, c3]
    rw [hE] at hn
    simp only [inn] at c1 c2 c3
    simp [h1, h3, mb, hkl, hn', f55, c1, c2, c3, hn]
  by_cases c4 : inn n.zone 1 32 = true
  case neg =>
    have hE : runE m (pvO Rn.id m.runs k) n = 2 := by simp [runE, rngRn, c1, c2, c3, c4]
    rw [hE] at hn
    simp only [inn] at c1 c2 c3 c4
    simp [h1, h3, mb, hkl, hn', f55, c1, c2, c3, c4, hn]
  by_cases c5 : inn n.len 10 20000 = true
  case neg =>
    have hE : runE m (pvO Rn.id m.runs k) n = 2 := by simp [runE, rngRn, c1, c2, c3, c4, c5]
    rw [hE] at hn
    simp only [inn] at c1 c2 c3 c4 c5
    simp [h1, h3, mb, hkl, hn', f55, c1, c2, c3, c4, c5, hn]
  have hrg : rngRn n = true := by simp [rngRn, c1, c2, c3, c4, c5]
  simp only [inn] at c1 c2 c3 c4 c5
  have last : leO n.id (pvO Rn.id m.runs k) = false → runE m (pvO Rn.id m.runs k) n = (if risesE m n.to n.fr ≠ 0 then risesE m n.to n.fr else 0) := fun h => by simp [runE, hrg, h]
  have bad : leO n.id (pvO Rn.id m.runs k) = true → runE m (pvO Rn.id m.runs k) n = 7 := fun h => by simp [runE, hrg, h]
  cases k with
  | zero =>
    have hl0 := last (by simp [pvO, leO])
    rw [hl0] at hn
    by_cases r0 : risesE m n.to n.fr = 0
    case neg => simp [h1, h3, mb, hkl, hn', f55, c1, c2, c3, c4, c5, wrap1, hr0, r0] at hn ⊢; simp [hn]
    simp [h1, h3, mb, hkl, hn', f55, c1, c2, c3, c4, c5, wrap1, hr0, r0] at hn ⊢
    exact next (by simpa using hn) _ _ (by simp [h1]) (by simp [wrap1]) (by simp [mb])
  | succ j =>
    obtain ⟨n2, hn2⟩ : ∃ n, m.runs[j]'(by omega) = n := ⟨_, rfl⟩
    have hget2 : m.runs[j]? = some n2 := by rw [← hn2]; exact List.getElem?_eq_getElem _
    have hpos : (0 : Int) < (j : Int) + 1 := by omega
    have hjl : j < m.runs.length := by omega
    have hI : (j : Int) + 1 < m.runs.length := by omega
    have h0I : (0 : Int) ≤ (j : Int) + 1 := by omega
    have hw2 := wrapJ (j := j) (by omega)
    have hw : IntKind.i64.wrap ((j : Int) + 1 + 1) = (j : Int) + 1 + 1 := wrap64 ⟨by omega, by omega⟩
    by_cases cp : n.id ≤ n2.id
    · have hb := bad (by simp [pvO, hget2, leO, cp])
      rw [hb] at hn
      simp [h1, h3, mb, hkl, hn', f55, c1, c2, c3, c4, c5, hpos, hI, h0I, hw2, hjl, hn2, cp] at hn ⊢
      simp [hn]
    · have hl0 := last (by simp [pvO, hget2, leO, cp])
      rw [hl0] at hn
      by_cases r0 : risesE m n.to n.fr = 0
      case neg => simp [h1, h3, mb, hkl, hn', f55, c1, c2, c3, c4, c5, hpos, hI, h0I, hw2, hjl, hn2, cp, hw, hr0, r0] at hn ⊢; simp [hn]
      simp [h1, h3, mb, hkl, hn', f55, c1, c2, c3, c4, c5, hpos, hI, h0I, hw2, hjl, hn2, cp, hw, hr0, r0] at hn ⊢
      exact next (by simpa using hn) _ _ (by simp [h1]) (by simp [hw]) (by simp [mb])

end Go.Proofs.Ytmbhpinkiffdgaa.Am
