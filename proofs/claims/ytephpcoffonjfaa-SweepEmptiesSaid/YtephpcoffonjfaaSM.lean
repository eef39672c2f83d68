/- Sweep: the laws SweepOrders and SweepAlls over the abstract machine. No condition. -/
import Derived.Test.YtephpcoffonjfaaSI
import Derived.Test.YtephpcoffonjfaaSL
namespace Go.Proofs.Ytephpcoffonjfaa.Am
open Go

theorem nextL_len {m : Mp} {runs : List Int} {l : List Sw} : (nextL m runs l).length ≤ runs.length := List.length_filter_le ..
set_option maxHeartbeats 4000000 in
theorem f4 (m : Mp) (s : Sp) (h : Okm m) (hs : Oks s) (K : List Vl → Prop) : FC F 4 [.v (.agg (eM m)), .v (.agg (eSp s))] K ↔ K [.c (B true)] := by
  rw [fc_run F4]
  have h1 := f15 m s h hs
  by_cases c : (rightE m == 0 && rightS m s == 0) = true
  case neg =>
    have c' : (rightE m == 0 && rightS m s == 0) = false := by simpa using c
    rw [c'] at h1
    simp [b4, f11, h1]
  rw [c] at h1
  simp only [Bool.and_eq_true, beq_iff_eq] at c
  obtain ⟨hr, hz, _⟩ := right_zero c.2
  have hall := runs_has (runsS_zero hz).1
  have h2 := f17 m s h hs hr
  have h3 := f18 m s h hs hr hall
  have h4 := f19 m s h hs hr hall
  have h5 := f20 m s h hs hr
  have hl1 := iterO_len m s.runs s.runs.length
  have hl2 := nextL_len (m := m) (runs := s.runs) (l := s.swept)
  have h6 := f16 (iterO m s.runs s.runs.length) (by omega)
  have h7 := f16 (nextL m s.runs s.swept) (by omega)
  simp [b4, f11, h1, h2, h3, h4, h5, h6, h7]
theorem law4 (xs : List FV) (h : FitAll [tyM, tyS] xs) : FC F 4 xs (· = [.c (B true)]) := by
  match xs, h with
  | [x, y], ⟨hx, hy, _⟩ =>
    obtain ⟨m, rfl, hm, _⟩ := open_map hx
    obtain ⟨s, rfl, hs, _⟩ := open_sweep hy
    exact (f4 m s hm hs _).2 rfl
theorem iterO_mem {m : Mp} {runs : List Int} : ∀ {k : Nat} {x : Int}, x ∈ iterO m runs k → x ∈ runs
  | 0, x, h => by simp [iterO] at h
  | k + 1, x, h => by
    simp only [iterO, stepO] at h
    split at h
    · rename_i i hi
      rcases List.mem_append.1 h with h | h
      · exact iterO_mem h
      · have hx : x = runs.getD i 0 := by simpa using h
        obtain ⟨a, ha, _⟩ := idx_some hi
        rw [hx, getD_at ha]
        exact List.mem_of_getElem? ha
    · exact iterO_mem h
theorem idx_mem {runs : List Int} {x : Int} (h : x ∈ runs) : ∃ i, idx (fun a => a == x) runs = some i ∧ i < runs.length := by
  cases hi : idx (fun a => a == x) runs with
  | some i => exact ⟨i, rfl, idx_lt hi⟩
  | none =>
    have h1 := idxI_any (fun a => a == x) runs
    simp only [idxI, hi] at h1
    have := List.any_eq_false.1 h1.symm x h
    simp at this
def idxN (runs : List Int) (x : Int) : Nat := (idx (fun a => a == x) runs).getD 0
/-- Where the persons are, and how many left, after some runs of an order. -/
def goA (m : Mp) (s : Sp) (ord l : List Int) : Nat → List Int × Int
  | 0 => (l, 0)
  | k + 1 => (pushL m s (goA m s ord l k).1 (idxN s.runs (ord.getD k 0)), IntKind.i64.wrap ((goA m s ord l k).2 + pushN m s (goA m s ord l k).1 (idxN s.runs (ord.getD k 0))))
theorem goA_len {m : Mp} {s : Sp} {ord l : List Int} : ∀ k, (goA m s ord l k).1.length = l.length
  | 0 => rfl
  | k + 1 => by simp only [goA, pushL_len]; exact goA_len k
def sumA (l : List Int) (k : Nat) : Int := (l.take k).foldl (fun n x => IntKind.i64.wrap (n + x)) 0
theorem sumA_step {l : List Int} {k : Nat} {w : Int} (h : l[k]? = some w) : sumA l (k + 1) = IntKind.i64.wrap (sumA l k + w) := by
  have hk := List.getElem?_eq_some_iff.1 h
  unfold sumA
  rw [List.take_succ_eq_append_getElem hk.1, hk.2, List.foldl_append]
  rfl
def ordA (m : Mp) (s : Sp) : List Int := iterO m s.runs s.runs.length
def allG (m : Mp) (s : Sp) (l : List Int) : Int := if cntB s l = true then (goA m s (ordA m s) l (ordA m s).length).2 else 0
def allR (m : Mp) (s : Sp) (l : List Int) : Int := if cntB s l = true then sumA (goA m s (ordA m s) l (ordA m s).length).1 l.length else 0
def allE (s : Sp) (l : List Int) : Int := if cntB s l = true then 0 else 3
set_option maxHeartbeats 8000000 in
theorem f30 (m : Mp) (s : Sp) (l : List Int) (h : Okm m) (hs : Oks s) (hl : l.length ≤ 9223372036854775807) (hz : runsS m s.runs = 0) (h64 : s.runs.length ≤ 64) (K : List Vl → Prop) :
    FC F 30 [.v (.agg (eM m)), .v (.agg (eSp s)), .v (.c (.ro 1 (l.map e1)))] K ↔ K [.c (I (allG m s l)), .c (I (allR m s l)), .c (I (allE s l))] := by
  refine FC.rule ?_ K
  rw [fc_run F30]
  have q1 := f60 s l hs hl
  unfold allG allR allE
  by_cases c : cntB s l = true
  case neg =>
    have c' : cntB s l = false := by simpa using c
    rw [if_neg c, if_neg c, if_neg c]
    rw [c'] at q1
    simp [b30, q1]
  rw [if_pos c, if_pos c, if_pos c]
  rw [c] at q1
  have hlen := cnt_len c
  have q2 := f55 l (by omega)
  have q3 : ∀ K : List Vl → Prop, FC F 17 [.v (.agg (eM m)), .v (.agg (eSp s))] K ↔ K [.c (.ro 1 ((ordA m s).map e1))] := f17 m s h hs h64
  have holen : (ordA m s).length ≤ s.runs.length := iterO_len m s.runs s.runs.length
  have homem : ∀ x ∈ ordA m s, x ∈ s.runs := fun x hx => iterO_mem hx
  generalize ordA m s = ord at q3 holen homem
  simp [b30, q1, q2, q3]
  refine run_loop (fun q t => ∃ (k : Nat) (r : Id), k ≤ ord.length ∧ q = ord.length - k ∧ t.fr 3 = .ptr (0, 3) 0 ∧ t.fr 4 = .ptr (0, 4) 0 ∧ t.mu.box (0, 3) = some (eM m) ∧ t.mu.box (0, 4) = some (eSp s) ∧ 0 < t.mu.t ∧ t.fr 9 = .v (.c (.own r)) ∧ t.mu.arr r = some ⟨3, 1, (goA m s ord l k).1.map e1⟩ ∧ t.mu.sto r = true ∧ t.fr 10 = vI (goA m s ord l k).2 ∧ t.fr 24 = .v (.c (.ro 1 (ord.map e1))) ∧ t.fr 25 = vI ord.length ∧ t.fr 26 = vI k) ord.length ⟨0, _, by omega, by omega, by simp, by simp, by simp, by simp, by simp, by simp; rfl, by simp [goA], by simp, by simp [goA], by simp, by simp, by simp⟩ ?_
  rintro J hJ q ⟨fr, ⟨bx, ar, ap, st, t⟩⟩ ⟨k, r, hk, rfl, g3, g4, hm3, hs4, ht0, g9, hr, hst, g10, g24, g25, g26⟩
  simp only at g3 g4 hm3 hs4 ht0 g9 hr hst g10 g24 g25 g26
  by_cases hkl : k < ord.length
  · obtain ⟨x, hx⟩ : ∃ x, ord[k] = x := ⟨_, rfl⟩
    have hget : ord[k]? = some x := by rw [← hx]; exact List.getElem?_eq_getElem hkl
    obtain ⟨i, hi, hil⟩ := idx_mem (homem x (List.mem_of_getElem? hget))
    have q4 := f61 s.runs x hs.r
    simp only [idxI, hi] at q4
    have hidx : idxN s.runs (ord.getD k 0) = i := by rw [getD_at hget]; simp [idxN, hi]
    have hgo : goA m s ord l (k + 1) = (pushL m s (goA m s ord l k).1 i, IntKind.i64.wrap ((goA m s ord l k).2 + pushN m s (goA m s ord l k).1 i)) := by simp only [goA, hidx]
    have hglen := goA_len (m := m) (s := s) (ord := ord) (l := l) k
    generalize goA m s ord l k = G at hr g10 hgo hglen
    have hws := wrapS (n := k) (by omega)
    simp [g3, g4, hm3, hs4, g9, g10, g24, g25, g26, hkl, hx, q4]
    refine IC.mono (f62 m s G.1 r i bx ar ap _ _ h hs hr (by simp [hst]) hil (by omega) hz h64) ?_
    rintro vs μ' ⟨bx', ar', st', t', rfl, rfl, har, hst', hbx, ht⟩
    have b3 : bx' (0, 3) = some (eM m) := by rw [hbx (0, 3) (by simp)]; exact hm3
    have b4 : bx' (0, 4) = some (eSp s) := by rw [hbx (0, 4) (by simp)]; exact hs4
    simp [g26, hws]
    exact ⟨ord.length - (k + 1), by omega, hJ _ _ ⟨k + 1, r, by omega, rfl, by simp [g3], by simp [g4], by simp [b3], by simp [b4], by simp, by simp [g9], by simp [har, hgo], by simp [hst'], by simp [hgo], by simp [g24], by simp [g25], by simp⟩⟩
  · have hke : k = ord.length := by omega
    subst hke
    have hglen := goA_len (m := m) (s := s) (ord := ord) (l := l) ord.length
    generalize goA m s ord l ord.length = G at hr g10 hglen
    simp [g9, g24, g25, g26, hr]
    refine run_loop (fun q t => ∃ k, k ≤ G.1.length ∧ q = G.1.length - k ∧ t.mu.arr r = some ⟨3, 1, G.1.map e1⟩ ∧ t.fr 10 = vI G.2 ∧ t.fr 13 = vI (sumA G.1 k) ∧ t.fr 41 = .v (.c (.own r)) ∧ t.fr 42 = vI G.1.length ∧ t.fr 43 = vI k) G.1.length ⟨0, by omega, by omega, by simp [hr], by simp [g10], by simp [sumA], by simp, by simp, by simp⟩ ?_
    rintro J2 hJ2 q ⟨fr2, μ2⟩ ⟨k2, hk2, rfl, w1, w2, w3, w4, w5, w6⟩
    simp only at w1 w2 w3 w4 w5 w6
    by_cases hkl2 : k2 < G.1.length
    · obtain ⟨x, hx⟩ : ∃ x, G.1[k2] = x := ⟨_, rfl⟩
      have hget : G.1[k2]? = some x := by rw [← hx]; exact List.getElem?_eq_getElem hkl2
      have hstp := sumA_step hget
      have hws := wrapS (n := k2) (by omega)
      simp [w1, w2, w3, w4, w5, w6, hkl2, hx, hws]
      exact ⟨G.1.length - (k2 + 1), by omega, hJ2 _ _ ⟨k2 + 1, by omega, rfl, by simp [w1], by simp [w2], by simp [hstp], by simp [w4], by simp [w5], by simp⟩⟩
    · have hke2 : k2 = l.length := by omega
      subst hke2
      simp [w2, w3, w4, w5, w6, hglen]
set_option maxHeartbeats 8000000 in
theorem f31 (m : Mp) (s : Sp) (l : List Int) (h : Okm m) (hs : Oks s) (hl : l.length ≤ 9223372036854775807) (hz : runsS m s.runs = 0) (h64 : s.runs.length ≤ 64) (K : List Vl → Prop) :
    FC F 31 [.v (.agg (eM m)), .v (.agg (eSp s)), .v (.c (.ro 1 (l.map e1)))] K ↔ K [.c (I (allG m s l)), .c (I (allR m s l)), .c (I (allE s l))] := by
  refine FC.rule ?_ K
  rw [fc_run F31]
  have q1 := f63 s l hs hl
  unfold allG allR allE
  by_cases c : cntB s l = true
  case neg =>
    have c' : cntB s l = false := by simpa using c
    rw [if_neg c, if_neg c, if_neg c]
    rw [c'] at q1
    simp [b31, q1]
  rw [if_pos c, if_pos c, if_pos c]
  rw [c] at q1
  have hlen := cnt_len c
  have q3 : ∀ K : List Vl → Prop, FC F 18 [.v (.agg (eM m)), .v (.agg (eSp s))] K ↔ K [.c (.ro 1 ((ordA m s).map e1))] := f18 m s h hs h64 (runs_has (runsS_zero hz).1)
  have holen : (ordA m s).length ≤ s.runs.length := iterO_len m s.runs s.runs.length
  have homem : ∀ x ∈ ordA m s, x ∈ s.runs := fun x hx => iterO_mem hx
  generalize ordA m s = ord at q3 holen homem
  simp [b31, q1, q3]
  refine run_loop (fun q t => ∃ (k : Nat), k ≤ ord.length ∧ q = ord.length - k ∧ t.fr 3 = .ptr (0, 3) 0 ∧ t.fr 4 = .ptr (0, 4) 0 ∧ t.mu.box (0, 3) = some (eM m) ∧ t.mu.box (0, 4) = some (eSp s) ∧ t.fr 9 = .v (.c (.ro 1 ((goA m s ord l k).1.map e1))) ∧ t.fr 10 = vI (goA m s ord l k).2 ∧ t.fr 11 = vI 0 ∧ t.fr 12 = .v (.c (.ro 1 (ord.map e1))) ∧ t.fr 13 = vI k) ord.length ⟨0, by omega, by omega, by simp, by simp, by simp, by simp, by simp [goA], by simp [goA], by simp, by simp, by simp⟩ ?_
  rintro J hJ q ⟨fr, μ⟩ ⟨k, hk, rfl, g3, g4, hm3, hs4, g9, g10, g11, g12, g13⟩
  simp only at g3 g4 hm3 hs4 g9 g10 g11 g12 g13
  by_cases hkl : k < ord.length
  · obtain ⟨x, hx⟩ : ∃ x, ord[k] = x := ⟨_, rfl⟩
    have hget : ord[k]? = some x := by rw [← hx]; exact List.getElem?_eq_getElem hkl
    obtain ⟨i, hi, hil⟩ := idx_mem (homem x (List.mem_of_getElem? hget))
    have q4 := f64 s.runs x hs.r
    simp only [idxI, hi] at q4
    have hidx : idxN s.runs (ord.getD k 0) = i := by rw [getD_at hget]; simp [idxN, hi]
    have hgo : goA m s ord l (k + 1) = (pushL m s (goA m s ord l k).1 i, IntKind.i64.wrap ((goA m s ord l k).2 + pushN m s (goA m s ord l k).1 i)) := by simp only [goA, hidx]
    have hglen := goA_len (m := m) (s := s) (ord := ord) (l := l) k
    generalize goA m s ord l k = G at g9 g10 hgo hglen
    have q5 := f65 m s G.1 i h hs hil (by omega) hz h64
    have hws := wrapS (n := k) (by omega)
    simp [g3, g4, hm3, hs4, g9, g10, g12, g13, hkl, hx, q4, q5, hws]
    exact ⟨ord.length - (k + 1), by omega, hJ _ _ ⟨k + 1, by omega, rfl, by simp [g3], by simp [g4], by simp [hm3], by simp [hs4], by simp [hgo], by simp [hgo], by simp [g11], by simp [g12], by simp⟩⟩
  · have hke : k = ord.length := by omega
    subst hke
    have hglen := goA_len (m := m) (s := s) (ord := ord) (l := l) ord.length
    generalize goA m s ord l ord.length = G at g9 g10 hglen
    simp [g3, g12, g13]
    refine run_loop (fun q t => ∃ k, k ≤ G.1.length ∧ q = G.1.length - k ∧ t.fr 9 = .v (.c (.ro 1 (G.1.map e1))) ∧ t.fr 10 = vI G.2 ∧ t.fr 11 = vI (sumA G.1 k) ∧ t.fr 16 = vI k) G.1.length ⟨0, by omega, by omega, by simp [g9], by simp [g10], by simp [sumA, g11], by simp⟩ ?_
    rintro J2 hJ2 q ⟨fr2, μ2⟩ ⟨k2, hk2, rfl, w1, w2, w3, w6⟩
    simp only at w1 w2 w3 w6
    by_cases hkl2 : k2 < G.1.length
    · obtain ⟨x, hx⟩ : ∃ x, G.1[k2] = x := ⟨_, rfl⟩
      have hget : G.1[k2]? = some x := by rw [← hx]; exact List.getElem?_eq_getElem hkl2
      have hstp := sumA_step hget
      have hws := wrapS (n := k2) (by omega)
      simp [w1, w2, w3, w6, hkl2, hx, hws]
      exact ⟨G.1.length - (k2 + 1), by omega, hJ2 _ _ ⟨k2 + 1, by omega, rfl, by simp [w1], by simp [w2], by simp [hstp], by simp⟩⟩
    · have hke2 : k2 = l.length := by omega
      subst hke2
      simp [w1, w2, w3, w6, hglen]
set_option maxHeartbeats 4000000 in
theorem f7 (m : Mp) (s : Sp) (l : List Int) (h : Okm m) (hs : Oks s) (hl : l.length ≤ 9223372036854775807) (K : List Vl → Prop) :
    FC F 7 [.v (.agg (eM m)), .v (.agg (eSp s)), .v (.c (.ro 1 (l.map e1)))] K ↔ K [.c (B true)] := by
  rw [fc_run F7]
  have h1 := f15 m s h hs
  by_cases c : (rightE m == 0 && rightS m s == 0) = true
  case neg =>
    have c' : (rightE m == 0 && rightS m s == 0) = false := by simpa using c
    rw [c'] at h1
    simp [b7, f11, h1]
  rw [c] at h1
  simp only [Bool.and_eq_true, beq_iff_eq] at c
  obtain ⟨hr, hz, _⟩ := right_zero c.2
  by_cases co : (80 : Int) < l.length
  · simp [b7, f11, h1, co]
  have h2 := f30 m s l h hs hl hz hr
  have h3 := f31 m s l h hs hl hz hr
  simp [b7, f11, h1, co, h2, h3]
theorem law7 (xs : List FV) (h : FitAll [tyM, tyS, (false, [.s [ti]])] xs) : FC F 7 xs (· = [.c (B true)]) := by
  match xs, h with
  | [x, y, z], ⟨hx, hy, hz, _⟩ =>
    obtain ⟨m, rfl, hm, _⟩ := open_map hx
    obtain ⟨s, rfl, hs, _⟩ := open_sweep hy
    obtain ⟨l, rfl, hl, _⟩ := open_ints hz
    exact (f7 m s l hm hs hl _).2 rfl
end Go.Proofs.Ytephpcoffonjfaa.Am
