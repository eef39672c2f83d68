/- The laws of ways: as specified; the way back; the third node. No condition. -/
import Derived.Test.YtkoickoceggimaaGU
namespace Go.Proofs.Ytkoickoceggimaa.Am
open Go

theorem good_num (m : Mp) (hr : rightE m = 0) (to : Int) : ∃ T, Good (Sm m) to T ∧ ∀ v c n, T v = some (c, n) → 0 ≤ c ∧ c ≤ 3860000 := by
  obtain ⟨vs, μ', _, i, xs, T, _, _, _, hmid, hst⟩ := f62 (edges m) to (edges_ok hr) ⟨fun _ => none, fun _ => none, fun _ => false, fun _ => false, 0, fun _ => none⟩ fun _ => rfl
  exact ⟨T, by rw [← se_edges]; exact hmid.good hst, fun v c n h => by have := hmid.nums (edges_ok hr) h; omega⟩
theorem way_is {m : Mp} (hr : rightE m = 0) (a b : Int) : IsDist (Sm m) a b (dist (Sm m) a b) ∧ ∀ c, dist (Sm m) a b = some c → 0 ≤ c ∧ c ≤ 3860000 := by
  obtain ⟨T, hT, hn⟩ := good_num m hr b
  have h := hT.dist a
  refine ⟨dist_is h, fun c hc => ?_⟩
  rw [dist_eq h] at hc
  cases e : T a with
  | none => rw [e] at hc; cases hc
  | some p =>
    obtain ⟨c', n⟩ := p
    rw [e] at hc
    injection hc with hc
    subst hc
    exact hn _ _ _ e
theorem way_sym {m : Mp} (hr : rightE m = 0) (a b : Int) : wayO m b a = wayO m a b := by
  unfold wayO
  rw [Bool.and_comm, dist_eq (isDist_sym sm_sym (way_is hr a b).1)]
theorem way_num {m : Mp} (hr : rightE m = 0) {a b c : Int} (h : wayO m a b = some c) : 0 ≤ c ∧ c ≤ 3860000 := by
  unfold wayO at h
  split at h
  · exact (way_is hr a b).2 c h
  · cases h
theorem way_nodes {m : Mp} {a b c : Int} (h : wayO m a b = some c) : hasNd m a = true ∧ hasNd m b = true := by
  unfold wayO at h
  split at h
  · rename_i hh; simpa using hh
  · cases h
theorem way_tri {m : Mp} (hr : rightE m = 0) {a b c x z : Int} (h1 : wayO m a b = some x) (h2 : wayO m b c = some z) : ∃ w, wayO m a c = some w ∧ w ≤ x + z := by
  obtain ⟨na, nb'⟩ := way_nodes h1
  obtain ⟨_, nc⟩ := way_nodes h2
  have e1 : dist (Sm m) a b = some x := by unfold wayO at h1; rwa [na, nb'] at h1
  have e2 : dist (Sm m) b c = some z := by unfold wayO at h2; rwa [nb', nc] at h2
  have i1 := (way_is hr a b).1
  have i2 := (way_is hr b c).1
  have i3 := (way_is hr a c).1
  rw [e1] at i1
  rw [e2] at i2
  obtain ⟨n1, w1⟩ := i1.1
  obtain ⟨n2, w2⟩ := i2.1
  have w3 := w1.app w2
  unfold wayO
  rw [na, nc]
  cases e3 : dist (Sm m) a c with
  | none => rw [e3] at i3; exact absurd w3 (i3 _ _)
  | some w => rw [e3] at i3; exact ⟨w, rfl, i3.2 _ _ w3⟩
theorem f4 (m : Mp) (a b : Int) (h : Okm m) (K : List Vl → Prop) : FC F 4 [.v (.agg (eM m)), vI a, vI b] K ↔ K [.c (B true)] := by
  rw [fc_run F4]
  have h1 := f14 m h
  by_cases c : rightE m = 0
  · have h2 := f15 m a b h c
    have h3 := f16 m a b h c
    rw [c] at h1
    obtain ⟨o, ho⟩ : ∃ o, wayO m a b = o := ⟨_, rfl⟩
    rw [ho] at h2 h3
    simp [b4, f11, h1, h2, h3]
  · simp [b4, f11, h1, c]
theorem law4 (xs : List FV) (h : FitAll [tyM, (false, [ti]), (false, [ti])] xs) : FC F 4 xs (· = [.c (B true)]) := by
  match xs, h with
  | [x, a, b], ⟨hx, ha, hb, _⟩ =>
    obtain ⟨m, rfl, hm, _⟩ := open_map hx
    obtain ⟨a, rfl, _⟩ := open_int ha
    obtain ⟨b, rfl, _⟩ := open_int hb
    exact (f4 m a b hm _).2 rfl
theorem f9 (m : Mp) (a b c : Int) (h : Okm m) (K : List Vl → Prop) : FC F 9 [.v (.agg (eM m)), vI a, vI b, vI c] K ↔ K [.c (B true)] := by
  rw [fc_run F9]
  have h1 := f14 m h
  by_cases c0 : rightE m = 0
  · have h2 := f15 m a b h c0
    have h3 := f15 m b a h c0
    have h4 := f15 m b c h c0
    have h5 := f15 m a c h c0
    have hs := way_sym c0 a b
    rw [c0] at h1
    rw [hs] at h3
    cases e1 : wayO m a b with
    | none =>
      rw [e1] at h2 h3
      obtain ⟨o2, ho2⟩ : ∃ o, wayO m b c = o := ⟨_, rfl⟩
      obtain ⟨o3, ho3⟩ : ∃ o, wayO m a c = o := ⟨_, rfl⟩
      rw [ho2] at h4
      rw [ho3] at h5
      simp [b9, f11, h1, h2, h3, h4, h5]
    | some x =>
      rw [e1] at h2 h3
      cases e2 : wayO m b c with
      | none =>
        rw [e2] at h4
        obtain ⟨o3, ho3⟩ : ∃ o, wayO m a c = o := ⟨_, rfl⟩
        rw [ho3] at h5
        simp [b9, f11, h1, h2, h3, h4, h5]
      | some z =>
        rw [e2] at h4
        obtain ⟨w, e3, hle⟩ := way_tri c0 e1 e2
        rw [e3] at h5
        have n1 := way_num c0 e1
        have n2 := way_num c0 e2
        have hw : IntKind.i64.wrap (x + z) = x + z := wrap64 ⟨by omega, by omega⟩
        simp [b9, f11, h1, h2, h3, h4, h5, hw, hle]
  · simp [b9, f11, h1, c0]
theorem law9 (xs : List FV) (h : FitAll [tyM, (false, [ti]), (false, [ti]), (false, [ti])] xs) : FC F 9 xs (· = [.c (B true)]) := by
  match xs, h with
  | [x, a, b, c], ⟨hx, ha, hb, hc, _⟩ =>
    obtain ⟨m, rfl, hm, _⟩ := open_map hx
    obtain ⟨a, rfl, _⟩ := open_int ha
    obtain ⟨b, rfl, _⟩ := open_int hb
    obtain ⟨c, rfl, _⟩ := open_int hc
    exact (f9 m a b c hm _).2 rfl
end Go.Proofs.Ytkoickoceggimaa.Am
