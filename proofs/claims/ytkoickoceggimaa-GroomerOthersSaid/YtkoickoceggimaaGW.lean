/- Vehicles: sending, and the law of sending. No condition. -/
import Derived.Test.YtkoickoceggimaaGV
namespace Go.Proofs.Ytkoickoceggimaa.Am
open Go

def secs (n : Int) : Int := (n + 2).tdiv 3
theorem secs_num {n : Int} (h : 0 ≤ n ∧ n ≤ 3860000) : n ≤ 3 * secs n ∧ 3 * secs n ≤ n + 2 ∧ 0 ≤ secs n := by
  unfold secs
  rw [Int.tdiv_eq_ediv_of_nonneg (by omega)]
  omega
def sent (g : Gr) (to n t : Int) : Gr := { g with state := 1, to := to, till := IntKind.i64.wrap (t + secs n), fuel := IntKind.i64.wrap (g.fuel - 2 * n) }
noncomputable def sendE (m : Mp) (g : Gr) (to t : Int) : Int :=
  if g.state ≠ 0 then 10 else match wayO m g.node to with
  | none => 8
  | some n => if g.fuel < 2 * n then 5 else if t < 0 ∨ 20000000 - secs n < t then 2 else 0
noncomputable def sendX (m : Mp) (l : List Gr) (id to t : Int) : Int :=
  match idx (byId id) l with
  | none => 8
  | some k => sendE m (gAt l k) to t
noncomputable def sendL (m : Mp) (l : List Gr) (id to t : Int) : List Gr :=
  match idx (byId id) l with
  | none => []
  | some k => if sendE m (gAt l k) to t = 0 then l.set k (sent (gAt l k) to ((wayO m (gAt l k).node to).getD 0) t) else []
set_option maxHeartbeats 4000000 in
theorem f18 (m : Mp) (l : List Gr) (id to t : Int) (h : Okm m) (hr : rightE m = 0) (hl : l.length ≤ 1000) (K : List Vl → Prop) :
    FC F 18 [.v (.agg (eM m)), rG l, vI id, vI to, vI t] K ↔ K [.c (.ro 8 ((sendL m l id to t).map eGr)), .c (I (sendX m l id to t))] := by
  refine FC.rule ?_ K
  rw [fc_run F18]
  have h1 := f33 l id (by omega)
  cases hi : idx (byId id) l with
  | none =>
    have hx : idxI (byId id) l = -1 := by simp only [idxI, hi]
    rw [hx] at h1
    simp [b18, h1, sendL, sendX, hi]
  | some k =>
    have hx : idxI (byId id) l = k := by simp only [idxI, hi]
    rw [hx] at h1
    have hk := idx_lt hi
    have hneg : ¬ ((k : Int) < 0) := by omega
    obtain ⟨g, hg⟩ : ∃ g, l[k] = g := ⟨_, rfl⟩
    have hgA : gAt l k = g := by simp [gAt, hk, hg]
    by_cases c1 : g.state = 0
    case neg =>
      have e : sendE m g to t = 10 := by unfold sendE; rw [if_pos c1]
      simp [b18, h1, sendL, sendX, hi, hgA, hg, hk, hneg, c1, e]
    have h2 := f15 m g.node to h hr
    cases c2 : wayO m g.node to with
    | none =>
      have e : sendE m g to t = 8 := by unfold sendE; rw [if_neg (by simp [c1]), c2]
      rw [c2] at h2
      simp [b18, h1, h2, sendL, sendX, hi, hgA, hg, hk, hneg, c1, e]
    | some n =>
    rw [c2] at h2
    have nn := way_num hr c2
    have ns := secs_num nn
    have w1 : IntKind.i64.wrap (2 * n) = 2 * n := wrap64 ⟨by omega, by omega⟩
    have w2 : IntKind.i64.wrap (n + 2) = n + 2 := wrap64 ⟨by omega, by omega⟩
    have w3 : IntKind.i64.wrap ((n + 2).tdiv 3) = secs n := wrap64 (n := secs n) ⟨by omega, by omega⟩
    have w4 : IntKind.i64.wrap (20000000 - secs n) = 20000000 - secs n := wrap64 ⟨by omega, by omega⟩
    have e0 : sendE m g to t = (if g.fuel < 2 * n then 5 else if t < 0 ∨ 20000000 - secs n < t then 2 else 0) := by unfold sendE; rw [if_neg (by simp [c1]), c2]
    clear ns nn
    by_cases c3 : g.fuel < 2 * n
    · have e : sendE m g to t = 5 := by rw [e0, if_pos c3]
      clear e0
      simp [b18, h1, h2, sendL, sendX, hi, hgA, hg, hk, hneg, c1, w1, c3, e]
    by_cases c4 : t < 0
    · have e : sendE m g to t = 2 := by rw [e0, if_neg c3, if_pos (.inl c4)]
      clear e0
      simp [b18, h1, h2, sendL, sendX, hi, hgA, hg, hk, hneg, c1, w1, w2, w3, c3, c4, e]
    by_cases c5 : 20000000 - secs n < t
    · have e : sendE m g to t = 2 := by rw [e0, if_neg c3, if_pos (.inr c5)]
      clear e0
      simp [b18, h1, h2, sendL, sendX, hi, hgA, hg, hk, hneg, c1, w1, w2, w3, w4, c3, c4, c5, e]
    have e : sendE m g to t = 0 := by rw [e0, if_neg c3, if_neg (by omega)]
    clear e0
    have h6 := f46 l k (sent g to n t) hk hl
    simp only [sent, eGr] at h6
    simp [b18, h1, h2, h6, sendL, sendX, hi, hgA, hg, hk, hneg, c1, c2, w1, w2, w3, w4, c3, c4, c5, e, sent]
set_option maxHeartbeats 4000000 in
theorem f19 (m : Mp) (l : List Gr) (id to t : Int) (h : Okm m) (hr : rightE m = 0) (hl : l.length ≤ 1000) (K : List Vl → Prop) :
    FC F 19 [.v (.agg (eM m)), rG l, vI id, vI to, vI t] K ↔ K [.c (.ro 8 ((sendL m l id to t).map eGr)), .c (I (sendX m l id to t))] := by
  refine FC.rule ?_ K
  rw [fc_run F19]
  have h1 := f35 l id (by omega)
  cases hi : idx (byId id) l with
  | none =>
    have hx : idxI (byId id) l = -1 := by simp only [idxI, hi]
    rw [hx] at h1
    simp [b19, h1, sendL, sendX, hi]
  | some k =>
    have hx : idxI (byId id) l = k := by simp only [idxI, hi]
    rw [hx] at h1
    have hk := idx_lt hi
    have hneg : ¬ ((k : Int) < 0) := by omega
    obtain ⟨g, hg⟩ : ∃ g, l[k] = g := ⟨_, rfl⟩
    have hgA : gAt l k = g := by simp [gAt, hk, hg]
    by_cases c1 : g.state = 0
    case neg =>
      have e : sendE m g to t = 10 := by unfold sendE; rw [if_pos c1]
      simp [b19, h1, sendL, sendX, hi, hgA, hg, hk, hneg, c1, e]
    have h2 := f16 m g.node to h hr
    cases c2 : wayO m g.node to with
    | none =>
      have e : sendE m g to t = 8 := by unfold sendE; rw [if_neg (by simp [c1]), c2]
      rw [c2] at h2
      simp [b19, h1, h2, sendL, sendX, hi, hgA, hg, hk, hneg, c1, e]
    | some n =>
    rw [c2] at h2
    have nn := way_num hr c2
    have ns := secs_num nn
    have w1 : IntKind.i64.wrap (2 * n) = 2 * n := wrap64 ⟨by omega, by omega⟩
    have w2 : IntKind.i64.wrap (n + 2) = n + 2 := wrap64 ⟨by omega, by omega⟩
    have w3 : IntKind.i64.wrap ((n + 2).tdiv 3) = secs n := wrap64 (n := secs n) ⟨by omega, by omega⟩
    have w4 : IntKind.i64.wrap (20000000 - secs n) = 20000000 - secs n := wrap64 ⟨by omega, by omega⟩
    have e0 : sendE m g to t = (if g.fuel < 2 * n then 5 else if t < 0 ∨ 20000000 - secs n < t then 2 else 0) := by unfold sendE; rw [if_neg (by simp [c1]), c2]
    clear ns nn
    by_cases c3 : g.fuel < 2 * n
    · have e : sendE m g to t = 5 := by rw [e0, if_pos c3]
      clear e0
      simp [b19, h1, h2, sendL, sendX, hi, hgA, hg, hk, hneg, c1, w1, c3, e]
    by_cases c4 : t < 0
    · have e : sendE m g to t = 2 := by rw [e0, if_neg c3, if_pos (.inl c4)]
      clear e0
      simp [b19, h1, h2, sendL, sendX, hi, hgA, hg, hk, hneg, c1, w1, w2, w3, c3, c4, e]
    by_cases c5 : 20000000 - secs n < t
    · have e : sendE m g to t = 2 := by rw [e0, if_neg c3, if_pos (.inr c5)]
      clear e0
      simp [b19, h1, h2, sendL, sendX, hi, hgA, hg, hk, hneg, c1, w1, w2, w3, w4, c3, c4, c5, e]
    have e : sendE m g to t = 0 := by rw [e0, if_neg c3, if_neg (by omega)]
    clear e0
    have h6 := f47 l k (sent g to n t) hk hl
    simp only [sent, eGr] at h6
    simp [b19, h1, h2, h6, sendL, sendX, hi, hgA, hg, hk, hneg, c1, c2, w1, w2, w3, w4, c3, c4, c5, e, sent]
theorem sendL_len {m : Mp} {l : List Gr} {id to t : Int} : (sendL m l id to t).length ≤ l.length := by
  unfold sendL
  split
  · simp
  · split <;> simp
theorem f5 (m : Mp) (l : List Gr) (id to t : Int) (h : Okm m) (hl : l.length ≤ 9223372036854775807) (K : List Vl → Prop) :
    FC F 5 [.v (.agg (eM m)), rG l, vI id, vI to, vI t] K ↔ K [.c (B true)] := by
  rw [fc_run F5]
  have h1 := f17 m l h hl
  cases c : defG m l with
  | false => rw [c] at h1; simp [b5, f11, h1]
  | true =>
    rw [c] at h1
    have hlen := right_len (def_parts c).2
    have h2 := f18 m l id to t h (def_parts c).1 (by omega)
    have h3 := f19 m l id to t h (def_parts c).1 (by omega)
    have h4 := f20 (sendL m l id to t) (by have := sendL_len (m := m) (l := l) (id := id) (to := to) (t := t); omega)
    simp [b5, f11, h1, h2, h3, h4]
theorem law5 (xs : List FV) (h : FitAll [tyM, tyG, (false, [ti]), (false, [ti]), (false, [ti])] xs) : FC F 5 xs (· = [.c (B true)]) := by
  match xs, h with
  | [x, y, a, b, c], ⟨hx, hy, ha, hb, hc, _⟩ =>
    obtain ⟨m, rfl, hm, _⟩ := open_map hx
    obtain ⟨l, rfl, hl, _⟩ := open_grs hy
    obtain ⟨a, rfl, _⟩ := open_int ha
    obtain ⟨b, rfl, _⟩ := open_int hb
    obtain ⟨c, rfl, _⟩ := open_int hc
    exact (f5 m l a b c hm hl _).2 rfl
end Go.Proofs.Ytkoickoceggimaa.Am
