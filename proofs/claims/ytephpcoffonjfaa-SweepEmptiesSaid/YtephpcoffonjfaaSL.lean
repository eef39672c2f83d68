/- Sweep: persons who are moved, by the code; the law SweepPushes over the abstract machine. No condition. -/
import Derived.Test.YtephpcoffonjfaaSK
namespace Go.Proofs.Ytephpcoffonjfaa.Am
open Go

theorem getD_set {l : List Int} {i k : Nat} {v : Int} (hk : k < l.length) : (l.set i v).getD k 0 = if i = k then v else l.getD k 0 := by
  rw [List.getD_eq_getElem?_getD, List.getD_eq_getElem?_getD, List.getElem?_set]
  by_cases h : i = k
  · subst h; simp [hk]
  · simp [h]
set_option maxHeartbeats 8000000 in
theorem f62 (m : Mp) (s : Sp) (l : List Int) (r : Id) (i : Nat) (bx : Id → Option (List Cell)) (ar : Id → Option Arr) (ap st : Id → Bool) (t : Nat) (h : Okm m) (hs : Oks s) (ha : ar r = some ⟨3, 1, l.map e1⟩) (hst : st r = true) (hi : i < s.runs.length) (hlen : l.length = s.runs.length) (hz : runsS m s.runs = 0) (h64 : s.runs.length ≤ 64) :
    IC F 62 [.v (.agg (eM m)), .v (.agg (eSp s)), .v (.c (.own r)), vI i] ⟨bx, ar, ap, st, t⟩ fun vs μ' => ∃ bx' ar' st' t', vs = [.c (I (pushN m s l i))] ∧ μ' = ⟨bx', ar', ap, st', t'⟩ ∧ ar' r = some ⟨3, 1, (pushL m s l i).map e1⟩ ∧ st' r = true ∧ (∀ j : Id, j.1 < t → bx' j = bx j) ∧ t ≤ t' := by
  rw [ic_run F62]
  have hall := runs_has (runsS_zero hz).1
  obtain ⟨x, hx⟩ : ∃ x, s.runs[i] = x := ⟨_, rfl⟩
  have hget : s.runs[i]? = some x := by rw [← hx]; exact List.getElem?_eq_getElem hi
  have hxm : x ∈ s.runs := List.mem_of_getElem? hget
  have hil : i < l.length := by omega
  obtain ⟨n, hn⟩ : ∃ n, l[i] = n := ⟨_, rfl⟩
  have hgetn : l[i]? = some n := by rw [← hn]; exact List.getElem?_eq_getElem hil
  have q1 := f72 m x h
  have q2 := f73 m (findRn m x).to h
  have ho : outB m x = m.bases.contains (findRn m x).to := by simp [outB, hall x hxm]
  have hb : ∀ j : Id, j.1 < t → ∀ a b c d : Option (List Cell), upd (upd bx (t, 4) a) (t, 5) b j = bx j := fun j hj a b c d => by
    have h1 : j ≠ (t, 5) := fun e => by rw [e] at hj; exact absurd hj (Nat.lt_irrefl _)
    have h2 : j ≠ (t, 4) := fun e => by rw [e] at hj; exact absurd hj (Nat.lt_irrefl _)
    simp [upd, h1, h2]
  unfold pushN pushL
  rw [getD_at hget, getD_at hgetn]
  by_cases c : outB m x = true
  · rw [if_pos c, if_pos c]
    rw [← ho, c] at q2
    simp [b62, ha, hst, hil, hn, hx, hi, q1, q2]
    exact ⟨_, _, _, _, ⟨rfl, rfl, rfl, rfl⟩, by simp [upd], by simp [hst], fun a b hj => hb (a, b) hj _ _ none none, by omega⟩
  · have c' : outB m x = false := by simpa using c
    rw [if_neg c, if_neg c]
    rw [← ho, c'] at q2
    obtain ⟨k, hk, hkl⟩ := least_some hz hget c'
    obtain ⟨y, rr, hy, hfr, hyi⟩ := from_least hall hxm hk
    have hln : leastN m s.runs x = k := by simp [leastN, hk]
    rw [hln]
    have q3 := f74 m s.runs (findRn m x).to h (by omega)
    rw [hfr] at q3
    have q4 := f61 s.runs y hs.r
    rw [hyi] at q4
    have hkl' : k < l.length := by omega
    obtain ⟨v, hv⟩ : ∃ v, l[k] = v := ⟨_, rfl⟩
    have hgetv : l[k]? = some v := by rw [← hv]; exact List.getElem?_eq_getElem hkl'
    rw [getD_set hkl', getD_at hgetv]
    by_cases hik : i = k
    · subst hik
      simp [b62, ha, hst, hn, hx, hi, q1, q2, q3, q4, hlen]
      exact ⟨_, _, _, _, ⟨rfl, rfl, rfl, rfl⟩, by simp [upd], by simp [hst], fun a b hj => hb (a, b) hj _ _ none none, by omega⟩
    · simp [b62, ha, hst, hn, hx, hi, q1, q2, q3, q4, hkl, hik, hv, hlen]
      exact ⟨_, _, _, _, ⟨rfl, rfl, rfl, rfl⟩, by simp [upd], by simp [hst], fun a b hj => hb (a, b) hj _ _ none none, by omega⟩
set_option maxHeartbeats 8000000 in
theorem f65 (m : Mp) (s : Sp) (l : List Int) (i : Nat) (h : Okm m) (hs : Oks s) (hi : i < s.runs.length) (hlen : l.length = s.runs.length) (hz : runsS m s.runs = 0) (h64 : s.runs.length ≤ 64) (K : List Vl → Prop) :
    FC F 65 [.v (.agg (eM m)), .v (.agg (eSp s)), .v (.c (.ro 1 (l.map e1))), vI i] K ↔ K [.c (.ro 1 ((pushL m s l i).map e1)), .c (I (pushN m s l i))] := by
  refine FC.rule ?_ K
  rw [fc_run F65]
  have hall := runs_has (runsS_zero hz).1
  obtain ⟨x, hx⟩ : ∃ x, s.runs[i] = x := ⟨_, rfl⟩
  have hget : s.runs[i]? = some x := by rw [← hx]; exact List.getElem?_eq_getElem hi
  have hil : i < l.length := by omega
  obtain ⟨n, hn⟩ : ∃ n, l[i] = n := ⟨_, rfl⟩
  have hgetn : l[i]? = some n := by rw [← hn]; exact List.getElem?_eq_getElem hil
  have q1 := f78 m x h
  have hlim : s.runs.length ≤ lim := by simp only [lim]; omega
  unfold pushN pushL
  rw [getD_at hget, getD_at hgetn]
  by_cases c : outB m x = true
  · rw [if_pos c, if_pos c]
    rw [c] at q1
    simp [b65, hn, hx, hi, q1, hlim, hlen]
  · have c' : outB m x = false := by simpa using c
    rw [if_neg c, if_neg c]
    rw [c'] at q1
    obtain ⟨k, hk, hkl⟩ := least_some hz hget c'
    have hln : leastN m s.runs x = k := by simp [leastN, hk]
    rw [hln]
    have q3 := f79 m s.runs x h hs.r
    simp only [idxI, hk] at q3
    have hkl' : k < l.length := by omega
    obtain ⟨v, hv⟩ : ∃ v, l[k] = v := ⟨_, rfl⟩
    have hgetv : l[k]? = some v := by rw [← hv]; exact List.getElem?_eq_getElem hkl'
    rw [getD_set hkl', getD_at hgetv]
    by_cases hik : i = k
    · subst hik
      simp [b65, hn, hx, hi, q1, q3, hlen, hlim]
    · simp [b65, hn, hx, hi, q1, q3, hkl, hik, hv, hlen, hlim]
def pushRL (m : Mp) (s : Sp) (l : List Int) (run : Int) : List Int := if cntB s l = true then (match idx (fun a => a == run) s.runs with | some i => pushL m s l i | none => []) else []
def pushRN (m : Mp) (s : Sp) (l : List Int) (run : Int) : Int := if cntB s l = true then (match idx (fun a => a == run) s.runs with | some i => pushN m s l i | none => 0) else 0
def pushRE (s : Sp) (l : List Int) (run : Int) : Int := if cntB s l = true then (match idx (fun a => a == run) s.runs with | some _ => 0 | none => 8) else 3
theorem cnt_len {s : Sp} {l : List Int} (h : cntB s l = true) : l.length = s.runs.length := by
  unfold cntB at h
  simp only [Bool.and_eq_true, decide_eq_true_eq] at h
  exact h.1
set_option maxHeartbeats 8000000 in
theorem f28 (m : Mp) (s : Sp) (l : List Int) (run : Int) (h : Okm m) (hs : Oks s) (hl : l.length ≤ 9223372036854775807) (hz : runsS m s.runs = 0) (h64 : s.runs.length ≤ 64) (K : List Vl → Prop) :
    FC F 28 [.v (.agg (eM m)), .v (.agg (eSp s)), .v (.c (.ro 1 (l.map e1))), vI run] K ↔ K [.c (.ro 1 ((pushRL m s l run).map e1)), .c (I (pushRN m s l run)), .c (I (pushRE s l run))] := by
  refine FC.rule ?_ K
  rw [fc_run F28]
  have q1 := f60 s l hs hl
  unfold pushRL pushRN pushRE
  by_cases c : cntB s l = true
  case neg =>
    have c' : cntB s l = false := by simpa using c
    rw [if_neg c, if_neg c, if_neg c]
    rw [c'] at q1
    simp [b28, q1]
  rw [if_pos c, if_pos c, if_pos c]
  rw [c] at q1
  have hlen := cnt_len c
  have q2 := f61 s.runs run hs.r
  cases hk : idx (fun a => a == run) s.runs with
  | none =>
    have h1 : idxI (fun a => a == run) s.runs = -1 := by simp only [idxI, hk]
    rw [h1] at q2
    simp [b28, q1, q2]
  | some i =>
    have h1 : idxI (fun a => a == run) s.runs = i := by simp only [idxI, hk]
    rw [h1] at q2
    have hi := idx_lt hk
    have hneg : ¬ ((i : Int) < 0) := by omega
    have q3 := f55 l (by omega)
    simp [b28, q1, q2, q3, hneg]
    refine IC.mono (f62 m s l _ i _ _ _ _ _ h hs (by simp) (by simp) hi hlen hz h64) ?_
    rintro vs μ' ⟨bx', ar', st', t', rfl, rfl, har, hst', hbx, ht⟩
    simp [har]
set_option maxHeartbeats 8000000 in
theorem f29 (m : Mp) (s : Sp) (l : List Int) (run : Int) (h : Okm m) (hs : Oks s) (hl : l.length ≤ 9223372036854775807) (hz : runsS m s.runs = 0) (h64 : s.runs.length ≤ 64) (K : List Vl → Prop) :
    FC F 29 [.v (.agg (eM m)), .v (.agg (eSp s)), .v (.c (.ro 1 (l.map e1))), vI run] K ↔ K [.c (.ro 1 ((pushRL m s l run).map e1)), .c (I (pushRN m s l run)), .c (I (pushRE s l run))] := by
  refine FC.rule ?_ K
  rw [fc_run F29]
  have q1 := f63 s l hs hl
  unfold pushRL pushRN pushRE
  by_cases c : cntB s l = true
  case neg =>
    have c' : cntB s l = false := by simpa using c
    rw [if_neg c, if_neg c, if_neg c]
    rw [c'] at q1
    simp [b29, q1]
  rw [if_pos c, if_pos c, if_pos c]
  rw [c] at q1
  have hlen := cnt_len c
  have q2 := f64 s.runs run hs.r
  cases hk : idx (fun a => a == run) s.runs with
  | none =>
    have h1 : idxI (fun a => a == run) s.runs = -1 := by simp only [idxI, hk]
    rw [h1] at q2
    simp [b29, q1, q2]
  | some i =>
    have h1 : idxI (fun a => a == run) s.runs = i := by simp only [idxI, hk]
    rw [h1] at q2
    have hi := idx_lt hk
    have hneg : ¬ ((i : Int) < 0) := by omega
    have q3 := f65 m s l i h hs hi hlen hz h64
    simp [b29, q1, q2, q3, hneg]
theorem pushL_len (m : Mp) (s : Sp) (l : List Int) (i : Nat) : (pushL m s l i).length = l.length := by
  unfold pushL; split <;> simp
theorem pushRL_len {m : Mp} {s : Sp} {l : List Int} {run : Int} : (pushRL m s l run).length ≤ l.length := by
  unfold pushRL
  split
  · split
    · rw [pushL_len]; exact Nat.le_refl _
    · simp
  · simp
set_option maxHeartbeats 4000000 in
theorem f6 (m : Mp) (s : Sp) (l : List Int) (run : Int) (h : Okm m) (hs : Oks s) (hl : l.length ≤ 9223372036854775807) (K : List Vl → Prop) :
    FC F 6 [.v (.agg (eM m)), .v (.agg (eSp s)), .v (.c (.ro 1 (l.map e1))), vI run] K ↔ K [.c (B true)] := by
  rw [fc_run F6]
  have h1 := f15 m s h hs
  by_cases c : (rightE m == 0 && rightS m s == 0) = true
  case neg =>
    have c' : (rightE m == 0 && rightS m s == 0) = false := by simpa using c
    rw [c'] at h1
    simp [b6, f11, h1]
  rw [c] at h1
  simp only [Bool.and_eq_true, beq_iff_eq] at c
  obtain ⟨hr, hz, _⟩ := right_zero c.2
  by_cases co : (80 : Int) < l.length
  · simp [b6, f11, h1, co]
  have h2 := f28 m s l run h hs hl hz hr
  have h3 := f29 m s l run h hs hl hz hr
  have hpl := pushRL_len (m := m) (s := s) (l := l) (run := run)
  have h4 := f16 (pushRL m s l run) (by omega)
  simp [b6, f11, h1, co, h2, h3, h4]
theorem law6 (xs : List FV) (h : FitAll [tyM, tyS, (false, [.s [ti]]), (false, [ti])] xs) : FC F 6 xs (· = [.c (B true)]) := by
  match xs, h with
  | [x, y, z, u], ⟨hx, hy, hz, hu, _⟩ =>
    obtain ⟨m, rfl, hm, _⟩ := open_map hx
    obtain ⟨s, rfl, hs, _⟩ := open_sweep hy
    obtain ⟨l, rfl, hl, _⟩ := open_ints hz
    obtain ⟨n, rfl, _⟩ := open_int hu
    exact (f6 m s l n hm hs hl _).2 rfl
end Go.Proofs.Ytephpcoffonjfaa.Am
