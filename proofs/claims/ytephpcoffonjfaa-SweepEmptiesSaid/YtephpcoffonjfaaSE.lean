/- Sweep: the checks of a sweep, as specified and as the program does them. No condition. -/
import Derived.Test.YtephpcoffonjfaaSD
namespace Go.Proofs.Ytephpcoffonjfaa.Am
open Go

/-- The first error of some checks, in order. -/
def scan (f : Nat → Int) : Nat → Nat → Int
  | _, 0 => 0
  | k, n + 1 => if f k ≠ 0 then f k else scan f (k + 1) n
theorem scan_step {f : Nat → Int} {k n : Nat} (h : k < n) : scan f k (n - k) = if f k ≠ 0 then f k else scan f (k + 1) (n - (k + 1)) := by
  obtain ⟨d, hd⟩ : ∃ d, n - k = d + 1 := ⟨n - k - 1, by omega⟩
  rw [hd, show n - (k + 1) = d by omega]; rfl
theorem scan_end {f : Nat → Int} {k n : Nat} (h : ¬ k < n) : scan f k (n - k) = 0 := by
  rw [show n - k = 0 by omega]; rfl
theorem scan_zero {f : Nat → Int} : ∀ {n k : Nat}, scan f k n = 0 → ∀ j, k ≤ j → j < k + n → f j = 0
  | 0, k, _, j, h1, h2 => by omega
  | n + 1, k, h, j, h1, h2 => by
    simp only [scan] at h
    split at h
    · rename_i hk; exact absurd h hk
    · rename_i hk
      by_cases hj : j = k
      · subst hj; simpa using hk
      · exact scan_zero h j (by omega) (by omega)
theorem scan_congr {f g : Nat → Int} : ∀ {n k : Nat}, (∀ j, k ≤ j → j < k + n → f j = g j) → scan f k n = scan g k n
  | 0, _, _ => rfl
  | n + 1, k, h => by
    simp only [scan, h k (by omega) (by omega)]
    rw [scan_congr fun j h1 h2 => h j (by omega) (by omega)]
def ph1 (m : Mp) (l : List Int) (k : Nat) : Int := if hasRn m (l.getD k 0) = true then (if 0 < k ∧ l.getD k 0 ≤ l.getD (k - 1) 0 then 11 else 0) else 8
def ph2 (m : Mp) (l : List Int) (k : Nat) : Int := if outB m (l.getD k 0) = true then 0 else if idxI (fun b => bef m (l.getD k 0) b) l < 0 then 16 else 0
def runsS (m : Mp) (l : List Int) : Int := if scan (ph1 m l) 0 l.length ≠ 0 then scan (ph1 m l) 0 l.length else scan (ph2 m l) 0 l.length
theorem getD_at {l : List Int} {k : Nat} {x : Int} (h : l[k]? = some x) : l.getD k 0 = x := by rw [List.getD_eq_getElem?_getD, h]; rfl
set_option maxHeartbeats 4000000 in
theorem f45 (m : Mp) (l : List Int) (h : Okm m) (hl : l.length ≤ 9223372036854775807) (K : List Vl → Prop) : FC F 45 [.v (.agg (eM m)), .v (.c (.ro 1 (l.map e1)))] K ↔ K [.c (I (runsS m l))] := by
  refine FC.rule ?_ K
  rw [fc_run F45]
  simp [b45]
  refine run_loop (fun q s => ∃ k, k ≤ l.length ∧ q = l.length - k ∧ s.fr 1 = .v (.c (.ro 1 (l.map e1))) ∧ s.fr 2 = .ptr (0, 2) 0 ∧ s.mu.box (0, 2) = some (eM m) ∧ s.fr 5 = vI k ∧ scan (ph1 m l) 0 l.length = scan (ph1 m l) k (l.length - k)) l.length ⟨0, by omega, by omega, by simp, by simp, by simp, by simp, rfl⟩ ?_
  rintro J hJ q ⟨fr, μ⟩ ⟨k, hk, rfl, h1, h2, hb, h5, hn⟩
  simp only at h1 h2 hb h5
  by_cases hkl : k < l.length
  case pos =>
    obtain ⟨x, hx⟩ : ∃ x, l[k] = x := ⟨_, rfl⟩
    have hget : l[k]? = some x := by rw [← hx]; exact List.getElem?_eq_getElem hkl
    rw [scan_step hkl] at hn
    have hc := f66 m x h.r
    have hgd := getD_at hget
    by_cases c1 : hasRn m x = true
    case neg =>
      have c1' : hasRn m x = false := by simpa using c1
      have hp : ph1 m l k = 8 := by simp [ph1, hget, c1']
      rw [hp] at hn
      simp at hn
      simp [h1, h2, hb, h5, hkl, hx, hc, c1', runsS, hn]
    have hw := wrapS (n := k) (by omega)
    cases k with
    | zero =>
      have hp : ph1 m l 0 = 0 := by simp [ph1, hget, c1]
      rw [hp] at hn
      simp [h1, h2, hb, h5, hkl, hx, hc, c1]
      exact ⟨l.length - 1, by omega, hJ _ _ ⟨1, by omega, rfl, by simp [h1], by simp [h2], by simp [hb], by simp [wrap1], by simpa using hn⟩⟩
    | succ j =>
      obtain ⟨y, hy⟩ : ∃ n, l[j]'(by omega) = n := ⟨_, rfl⟩
      have hget2 : l[j]? = some y := by rw [← hy]; exact List.getElem?_eq_getElem _
      have hpos : (0 : Int) < (j : Int) + 1 := by omega
      have hjl : j < l.length := by omega
      have hI : (j : Int) + 1 < l.length := by omega
      have h0I : (0 : Int) ≤ (j : Int) + 1 := by omega
      have hw2 := wrapJ (j := j) (by omega)
      have hw3 : IntKind.i64.wrap ((j : Int) + 1 + 1) = (j : Int) + 1 + 1 := wrap64 ⟨by omega, by omega⟩
      by_cases cp : x ≤ y
      · have hp : ph1 m l (j + 1) = 11 := by simp [ph1, hget, hget2, c1, cp]
        rw [hp] at hn
        simp at hn
        simp [h1, h2, hb, h5, hkl, hx, hc, c1, hpos, hjl, hI, h0I, hw2, hy, cp, runsS, hn]
      · have hp : ph1 m l (j + 1) = 0 := by simp [ph1, hget, hget2, c1, cp]
        rw [hp] at hn
        simp [h1, h2, hb, h5, hkl, hx, hc, c1, hpos, hjl, hI, h0I, hw2, hy, cp, hw3]
        exact ⟨l.length - (j + 1 + 1), by omega, hJ _ _ ⟨j + 1 + 1, by omega, rfl, by simp [h1], by simp [h2], by simp [hb], by simp, by simpa using hn⟩⟩
  rw [scan_end hkl] at hn
  simp [h1, h2, hb, h5, hkl]
  refine run_loop (fun q s => ∃ k, k ≤ l.length ∧ q = l.length - k ∧ s.fr 1 = .v (.c (.ro 1 (l.map e1))) ∧ s.fr 2 = .ptr (0, 2) 0 ∧ s.mu.box (0, 2) = some (eM m) ∧ s.fr 8 = vI k ∧ scan (ph2 m l) 0 l.length = scan (ph2 m l) k (l.length - k)) l.length ⟨0, by omega, by omega, by simp [h1], by simp [h2], by simp [hb], by simp, rfl⟩ ?_
  rintro J2 hJ2 q ⟨fr2, μ2⟩ ⟨k2, hk2, rfl, g1, g2, gb, g8, gn⟩
  simp only at g1 g2 gb g8
  by_cases hkl2 : k2 < l.length
  case pos =>
    obtain ⟨x, hx⟩ : ∃ x, l[k2] = x := ⟨_, rfl⟩
    have hget : l[k2]? = some x := by rw [← hx]; exact List.getElem?_eq_getElem hkl2
    rw [scan_step hkl2] at gn
    have hc := f78 m x h
    have hd := f79 m l x h hl
    have hw := wrapS (n := k2) (by omega)
    by_cases c1 : outB m x = true
    · have hp : ph2 m l k2 = 0 := by simp [ph2, hget, c1]
      rw [hp] at gn
      simp [g1, g2, gb, g8, hkl2, hx, hc, c1, hw]
      exact ⟨l.length - (k2 + 1), by omega, hJ2 _ _ ⟨k2 + 1, by omega, rfl, by simp [g1], by simp [g2], by simp [gb], by simp, by simpa using gn⟩⟩
    · have c1' : outB m x = false := by simpa using c1
      by_cases c2 : idxI (fun b => bef m x b) l < 0
      · have hp : ph2 m l k2 = 16 := by simp [ph2, hget, c1', c2]
        rw [hp] at gn
        simp at gn
        simp [g1, g2, gb, g8, hkl2, hx, hc, hd, c1', c2, runsS, hn, gn]
      · have hp : ph2 m l k2 = 0 := by simp [ph2, hget, c1', c2]
        rw [hp] at gn
        simp [g1, g2, gb, g8, hkl2, hx, hc, hd, c1', c2, hw]
        exact ⟨l.length - (k2 + 1), by omega, hJ2 _ _ ⟨k2 + 1, by omega, rfl, by simp [g1], by simp [g2], by simp [gb], by simp, by simpa using gn⟩⟩
  rw [scan_end hkl2] at gn
  simp [g1, g2, gb, g8, hkl2, runsS, hn, gn]
theorem runs_has {m : Mp} {l : List Int} (h : scan (ph1 m l) 0 l.length = 0) : ∀ x ∈ l, hasRn m x = true := by
  intro x hx
  obtain ⟨k, hk⟩ := List.getElem?_of_mem hx
  have hkl := (List.getElem?_eq_some_iff.1 hk).1
  have := scan_zero h k (by omega) (by omega)
  unfold ph1 at this
  rw [getD_at hk] at this
  split at this
  · assumption
  · cases this
theorem ph2_prog {m : Mp} {l : List Int} (hall : ∀ x ∈ l, hasRn m x = true) {x : Int} (hx : x ∈ l) : (idxI (fun b => bef m x b) l < 0) ↔ fromL m l (findRn m x).to = [] := by
  have h1 := idxI_any (fun b => bef m x b) l
  have h2 : l.any (fun b => bef m x b) = !(fromL m l (findRn m x).to).isEmpty := by
    unfold fromL
    cases hb : l.any (fun b => bef m x b) with
    | true =>
      obtain ⟨b, hb1, hb2⟩ := List.any_eq_true.1 hb
      unfold bef at hb2
      simp only [Bool.and_eq_true, beq_iff_eq] at hb2
      have : b ∈ l.filter (fun k => (findRn m k).fr == (findRn m x).to) := List.mem_filter.2 ⟨hb1, by simp [hb2.2]⟩
      cases hf : l.filter (fun k => (findRn m k).fr == (findRn m x).to) with
      | nil => rw [hf] at this; simp at this
      | cons y r => rfl
    | false =>
      have hnone := List.any_eq_false.1 hb
      have : l.filter (fun k => (findRn m k).fr == (findRn m x).to) = [] := by
        rw [List.filter_eq_nil_iff]
        intro b hb1 hb2
        refine hnone b hb1 ?_
        simp only [beq_iff_eq] at hb2
        simp [bef, hall x hx, hall b hb1, hb2]
      rw [this]; rfl
  rw [h2] at h1
  constructor
  · intro h
    have : decide (0 ≤ idxI (fun b => bef m x b) l) = false := by simp; omega
    rw [this] at h1
    cases hf : fromL m l (findRn m x).to with
    | nil => rfl
    | cons y r => rw [hf] at h1; cases h1
  · intro h
    rw [h] at h1
    have : ¬ (0 ≤ idxI (fun b => bef m x b) l) := by simpa using h1
    omega
set_option maxHeartbeats 4000000 in
theorem f40 (m : Mp) (l : List Int) (h : Okm m) (hl : l.length ≤ 9223372036854775807) (K : List Vl → Prop) : FC F 40 [.v (.agg (eM m)), .v (.c (.ro 1 (l.map e1)))] K ↔ K [.c (I (if 64 < l.length then 4 else runsS m l))] := by
  refine FC.rule ?_ K
  rw [fc_run F40]
  by_cases hlong : 64 < l.length
  case pos =>
    have e1 : (64 : Int) < l.length := by omega
    simp [b40, e1, hlong]
  have e2 : ¬ ((64 : Int) < l.length) := by omega
  rw [if_neg hlong]
  simp [b40, e2]
  refine run_loop (fun q s => ∃ k, k ≤ l.length ∧ q = l.length - k ∧ s.fr 1 = .v (.c (.ro 1 (l.map e1))) ∧ s.fr 2 = .ptr (0, 2) 0 ∧ s.mu.box (0, 2) = some (eM m) ∧ s.fr 15 = .v (.c (.ro 1 (l.map e1))) ∧ s.fr 16 = vI l.length ∧ s.fr 17 = vI k ∧ scan (ph1 m l) 0 l.length = scan (ph1 m l) k (l.length - k)) l.length ⟨0, by omega, by omega, by simp, by simp, by simp, by simp, by simp, by simp, rfl⟩ ?_
  rintro J hJ q ⟨fr, μ⟩ ⟨k, hk, rfl, h1, h2, hb, h15, h16, h5, hn⟩
  simp only at h1 h2 hb h15 h16 h5
  by_cases hkl : k < l.length
  case pos =>
    obtain ⟨x, hx⟩ : ∃ x, l[k] = x := ⟨_, rfl⟩
    have hget : l[k]? = some x := by rw [← hx]; exact List.getElem?_eq_getElem hkl
    rw [scan_step hkl] at hn
    have hc := f71 m x h.r
    by_cases c1 : hasRn m x = true
    case neg =>
      have c1' : hasRn m x = false := by simpa using c1
      have hp : ph1 m l k = 8 := by simp [ph1, hget, c1']
      rw [hp] at hn
      simp at hn
      simp [h1, h2, hb, h15, h16, h5, hkl, hx, hc, c1', runsS, hn]
    have hw := wrapS (n := k) (by omega)
    cases k with
    | zero =>
      have hp : ph1 m l 0 = 0 := by simp [ph1, hget, c1]
      rw [hp] at hn
      simp [h1, h2, hb, h15, h16, h5, hkl, hx, hc, c1]
      exact ⟨l.length - 1, by omega, hJ _ _ ⟨1, by omega, rfl, by simp [h1], by simp [h2], by simp [hb], by simp [h15], by simp [h16], by simp [wrap1], by simpa using hn⟩⟩
    | succ j =>
      obtain ⟨y, hy⟩ : ∃ n, l[j]'(by omega) = n := ⟨_, rfl⟩
      have hget2 : l[j]? = some y := by rw [← hy]; exact List.getElem?_eq_getElem _
      have hpos : (0 : Int) < (j : Int) + 1 := by omega
      have hjl : j < l.length := by omega
      have hI : (j : Int) + 1 < l.length := by omega
      have h0I : (0 : Int) ≤ (j : Int) + 1 := by omega
      have hw2 := wrapJ (j := j) (by omega)
      have hw3 : IntKind.i64.wrap ((j : Int) + 1 + 1) = (j : Int) + 1 + 1 := wrap64 ⟨by omega, by omega⟩
      by_cases cp : x ≤ y
      · have hp : ph1 m l (j + 1) = 11 := by simp [ph1, hget, hget2, c1, cp]
        rw [hp] at hn
        simp at hn
        simp [h1, h2, hb, h15, h16, h5, hkl, hx, hc, c1, hpos, hjl, hI, h0I, hw2, hy, cp, runsS, hn]
      · have hp : ph1 m l (j + 1) = 0 := by simp [ph1, hget, hget2, c1, cp]
        rw [hp] at hn
        simp [h1, h2, hb, h15, h16, h5, hkl, hx, hc, c1, hpos, hjl, hI, h0I, hw2, hy, cp, hw3]
        exact ⟨l.length - (j + 1 + 1), by omega, hJ _ _ ⟨j + 1 + 1, by omega, rfl, by simp [h1], by simp [h2], by simp [hb], by simp [h15], by simp [h16], by simp, by simpa using hn⟩⟩
  rw [scan_end hkl] at hn
  have hall := runs_has hn
  simp [h1, h15, h16, h5, hkl]
  refine run_loop (fun q s => ∃ k, k ≤ l.length ∧ q = l.length - k ∧ s.fr 1 = .v (.c (.ro 1 (l.map e1))) ∧ s.fr 2 = .ptr (0, 2) 0 ∧ s.mu.box (0, 2) = some (eM m) ∧ s.fr 42 = .v (.c (.ro 1 (l.map e1))) ∧ s.fr 43 = vI l.length ∧ s.fr 44 = vI k ∧ scan (ph2 m l) 0 l.length = scan (ph2 m l) k (l.length - k)) l.length ⟨0, by omega, by omega, by simp [h1], by simp [h2], by simp [hb], by simp, by simp, by simp, rfl⟩ ?_
  rintro J2 hJ2 q ⟨fr2, μ2⟩ ⟨k2, hk2, rfl, g1, g2, gb, g42, g43, g8, gn⟩
  simp only at g1 g2 gb g42 g43 g8
  by_cases hkl2 : k2 < l.length
  case pos =>
    obtain ⟨x, hx⟩ : ∃ x, l[k2] = x := ⟨_, rfl⟩
    have hget : l[k2]? = some x := by rw [← hx]; exact List.getElem?_eq_getElem hkl2
    rw [scan_step hkl2] at gn
    have hxm : x ∈ l := List.mem_of_getElem? hget
    have ht := f72 m x h
    have hc := f73 m (findRn m x).to h
    have hd := f74 m l (findRn m x).to h (by omega)
    have hw := wrapS (n := k2) (by omega)
    have ho : outB m x = m.bases.contains (findRn m x).to := by simp [outB, hall x hxm]
    by_cases c1 : m.bases.contains (findRn m x).to = true
    · have hp : ph2 m l k2 = 0 := by unfold ph2; rw [getD_at hget, ho, if_pos c1]
      rw [hp] at gn
      rw [c1] at hc
      simp [g2, gb, g42, g43, g8, hkl2, hx, ht, hc, hw]
      exact ⟨l.length - (k2 + 1), by omega, hJ2 _ _ ⟨k2 + 1, by omega, rfl, by simp [g1], by simp [g2], by simp [gb], by simp [g42], by simp [g43], by simp, by simpa using gn⟩⟩
    · have c1' : m.bases.contains (findRn m x).to = false := by simpa using c1
      rw [c1'] at hc
      have hpr := ph2_prog hall hxm
      by_cases c2 : fromL m l (findRn m x).to = []
      · have hp : ph2 m l k2 = 16 := by unfold ph2; rw [getD_at hget, ho, if_neg c1, if_pos (hpr.2 c2)]
        rw [hp] at gn
        simp at gn
        rw [c2] at hd
        simp [g1, g2, gb, g42, g43, g8, hkl2, hx, ht, hc, hd, runsS, hn, gn]
      · have hp : ph2 m l k2 = 0 := by unfold ph2; rw [getD_at hget, ho, if_neg c1, if_neg fun h => c2 (hpr.1 h)]
        rw [hp] at gn
        have hlen : (fromL m l (findRn m x).to).length ≠ 0 := fun e => c2 (List.eq_nil_of_length_eq_zero e)
        have hlenI : ¬ (((fromL m l (findRn m x).to).length : Int) = 0) := by omega
        simp [g1, g2, gb, g42, g43, g8, hkl2, hx, ht, hc, hd, hlen, hw]
        exact ⟨l.length - (k2 + 1), by omega, hJ2 _ _ ⟨k2 + 1, by omega, rfl, by simp [g1], by simp [g2], by simp [gb], by simp [g42], by simp [g43], by simp, by simpa using gn⟩⟩
  rw [scan_end hkl2] at gn
  simp [g42, g43, g8, hkl2, runsS, hn, gn]
end Go.Proofs.Ytephpcoffonjfaa.Am
