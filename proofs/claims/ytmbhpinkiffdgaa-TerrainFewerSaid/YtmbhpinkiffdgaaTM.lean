/- Terrain: each run is in the list of its zone; the law TerrainZones over the abstract machine. No condition. -/
import Derived.Test.YtmbhpinkiffdgaaTK
namespace Go.Proofs.Ytmbhpinkiffdgaa.Am
open Go

set_option maxHeartbeats 4000000 in
theorem f8 (m : Mp) (hm : Okm m) (K : List Vl → Prop) : FC F 8 [.v (.agg (eM m))] K ↔ K [.c (B true)] := by
  refine FC.rule ?_ K
  rw [fc_run F8]
  have h1 := f13 m hm
  by_cases hl : light m = true
  case neg => simp [b8, f11, f12, hl]
  by_cases c : rightE m = 0
  case neg => simp [b8, f11, f12, hl, h1, c]
  obtain ⟨ht, _, _, hrs, _⟩ := right_parts c
  simp only [tooLong, Bool.or_eq_false_iff, decide_eq_false_iff_not] at ht
  have hr : m.runs.length ≤ 64 := by omega
  obtain ⟨hs, _, hg⟩ := runs_sorted hrs
  simp [b8, f11, f12, hl, h1, c]
  refine run_loop (fun q s => ∃ (k : Nat) (z : Int), k ≤ 32 ∧ z = k + 1 ∧ q = 32 - k ∧ s.fr 1 = .ptr (0, 1) 0 ∧ s.mu.box (0, 1) = some (eM m) ∧ s.fr 3 = vI (cz m k) ∧ s.fr 4 = vI z) 32 ⟨0, 1, by omega, by omega, rfl, by simp, by simp, by simp [cz_zero hg], by simp⟩ ?_
  rintro J hJ q ⟨fr, μ⟩ ⟨k, z, hk, hz, rfl, g1, gb, g3, g4⟩
  simp only at g1 gb g3 g4
  by_cases hk2 : z ≤ 32
  case neg =>
    have hke : k = 32 := by omega
    subst hke
    simp [g1, gb, g3, g4, hk2, cz_all hg]
  have h2 := f24 m z hr
  have hlen := zone_len (m := m) (z := z) (k := m.runs.length)
  have hadd : IntKind.i64.wrap ((cz m k : Int) + ((zoneL m z m.runs.length).length : Int)) = (cz m (k + 1) : Int) := by
    have e := cz_step m k
    have e2 := cz_le m (k + 1)
    rw [show ((k + 1 : Nat) : Int) = z by omega] at e
    rw [wrap64 (by constructor <;> omega)]; omega
  have hpw := zone_pw hs z m.runs.length
  have hmem : ∀ y ∈ zoneL m z m.runs.length, (findRn m y).zone = z ∧ hasRn m y = true := by
    intro y hy
    obtain ⟨x, hx, hxz, rfl⟩ := zone_mem hy
    obtain ⟨e1, e2⟩ := find_run hs hx
    rw [e1]; exact ⟨hxz, e2⟩
  generalize zoneL m z m.runs.length = l at h2 hlen hadd hpw hmem
  simp [g1, gb, g3, g4, hk2, h2, hadd]
  refine run_loop (fun q s => ∃ i, i ≤ l.length ∧ q = l.length - i ∧ s.fr 1 = .ptr (0, 1) 0 ∧ s.mu.box (0, 1) = some (eM m) ∧ s.fr 3 = vI (cz m (k + 1)) ∧ s.fr 4 = vI z ∧ s.fr 5 = .v (.c (.ro 1 (l.map e1))) ∧ s.fr 6 = vI i) l.length ⟨0, by omega, by omega, by simp [g1], by simp [gb], by simp, by simp [g4], by simp, by simp⟩ ?_
  rintro J2 hJ2 q ⟨fr2, μ2⟩ ⟨i, hi, rfl, r1, rb, r3, r4, r5, r6⟩
  simp only at r1 rb r3 r4 r5 r6
  by_cases hil : i < l.length
  case neg =>
    have hw : IntKind.i64.wrap (z + 1) = z + 1 := wrap64 (by constructor <;> omega)
    simp [r1, rb, r3, r4, r5, r6, hil, hw]
    exact ⟨32 - (k + 1), by omega, hJ _ _ ⟨k + 1, z + 1, by omega, by omega, rfl, by simp [r1], by simp [rb], by simp [r3], by simp⟩⟩
  obtain ⟨y, hy'⟩ : ∃ n, l[i] = n := ⟨_, rfl⟩
  have hmy : y ∈ l := by rw [← hy']; exact List.getElem_mem _
  obtain ⟨e1', e2'⟩ := hmem y hmy
  have hc := f19 m y hm.r
  rw [e2'] at hc
  have hws := wrapS (n := i) (by omega)
  cases i with
  | zero =>
    simp [r1, rb, r3, r4, r5, r6, hil, hy', hc, e1']
    exact ⟨l.length - 1, by omega, hJ2 _ _ ⟨1, by omega, rfl, by simp [r1], by simp [rb], by simp [r3], by simp [r4], by simp [r5], by simp [wrap1]⟩⟩
  | succ j =>
    obtain ⟨n2, hn2⟩ : ∃ n, l[j]'(by omega) = n := ⟨_, rfl⟩
    have hpos : (0 : Int) < (j : Int) + 1 := by omega
    have hjl : j < l.length := by omega
    have hI : (j : Int) + 1 < l.length := by omega
    have h0I : (0 : Int) ≤ (j : Int) + 1 := by omega
    have hw2 := wrapJ (j := j) (by omega)
    have hw : IntKind.i64.wrap ((j : Int) + 1 + 1) = (j : Int) + 1 + 1 := wrap64 ⟨by omega, by omega⟩
    have hlt : n2 < y := by rw [← hn2, ← hy']; exact (List.pairwise_iff_getElem.1 hpw) j (j + 1) hjl hil (by omega)
    have hlt2 : ¬ y ≤ n2 := by omega
    simp [r1, rb, r3, r4, r5, r6, hil, hy', hc, e1', hpos, hjl, hI, h0I, hw2, hn2, hlt, hlt2, hw]
    exact ⟨l.length - (j + 1 + 1), by omega, hJ2 _ _ ⟨j + 1 + 1, by omega, rfl, by simp [r1], by simp [rb], by simp [r3], by simp [r4], by simp [r5], by simp⟩⟩
theorem law8 (xs : List FV) (h : FitAll [tyM] xs) : FC F 8 xs (· = [.c (B true)]) := by
  match xs, h with
  | [x], ⟨hx, _⟩ =>
    obtain ⟨m, rfl, hm, _⟩ := open_map hx
    exact (f8 m hm _).2 rfl
end Go.Proofs.Ytmbhpinkiffdgaa.Am
