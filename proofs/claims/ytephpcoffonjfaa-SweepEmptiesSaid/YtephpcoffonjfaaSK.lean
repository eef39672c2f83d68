/- Sweep: persons who are moved; the law SweepPushes over the abstract machine. No condition. -/
import Derived.Test.YtephpcoffonjfaaSJ
namespace Go.Proofs.Ytephpcoffonjfaa.Am
open Go

def badN (n : Int) : Bool := decide (n < 0) || decide (1000000 < n)
def cntB (s : Sp) (l : List Int) : Bool := decide (l.length = s.runs.length) && !l.any badN
theorem f81 (n : Int) (K : List Vl → Prop) : FC F 81 [vI n] K ↔ K [.c (B (badN n))] := by
  rw [fc_run F81]
  by_cases c : n < 0 <;> simp [b81, badN, c]
theorem f60 (s : Sp) (l : List Int) (_hs : Oks s) (hl : l.length ≤ 9223372036854775807) (K : List Vl → Prop) : FC F 60 [.v (.agg (eSp s)), .v (.c (.ro 1 (l.map e1)))] K ↔ K [.c (B (cntB s l))] := by
  rw [fc_run F60]
  have h1 := f58 l 81 [] badN (fun n K => f81 n K) hl
  unfold cntB
  by_cases c : l.length = s.runs.length
  · have cI : (l.length : Int) = s.runs.length := by omega
    simp [b60, h1, c]
  · have cI : ¬ ((l.length : Int) = s.runs.length) := by omega
    simp [b60, c, cI]
theorem f63 (s : Sp) (l : List Int) (_hs : Oks s) (hl : l.length ≤ 9223372036854775807) (K : List Vl → Prop) : FC F 63 [.v (.agg (eSp s)), .v (.c (.ro 1 (l.map e1)))] K ↔ K [.c (B (cntB s l))] := by
  refine FC.rule ?_ K
  rw [fc_run F63]
  by_cases c : l.length = s.runs.length
  case neg =>
    have cI : ¬ ((l.length : Int) = s.runs.length) := by omega
    simp [b63, c, cI, cntB]
  have cI : (l.length : Int) = s.runs.length := by omega
  simp [b63, c]
  refine run_loop (fun q t => ∃ k, k ≤ l.length ∧ q = l.length - k ∧ t.fr 1 = .v (.c (.ro 1 (l.map e1))) ∧ t.fr 5 = vI k ∧ ∀ (j : Nat) x, j < k → l[j]? = some x → badN x = false) l.length ⟨0, by omega, by omega, by simp, by simp, by simp⟩ ?_
  rintro J hJ q ⟨fr, μ⟩ ⟨k, hk, rfl, g1, g5, hn⟩
  simp only at g1 g5
  by_cases hkl : k < l.length
  · obtain ⟨x, hx⟩ : ∃ x, l[k] = x := ⟨_, rfl⟩
    have hget : l[k]? = some x := by rw [← hx]; exact List.getElem?_eq_getElem hkl
    have h1 := f46 x 0 1000000
    have hws := wrapS (n := k) (by omega)
    by_cases d : inn x 0 1000000 = true
    · have hb : badN x = false := by simp only [inn, Bool.and_eq_true, decide_eq_true_eq] at d; simp [badN]; omega
      rw [d] at h1
      simp [g1, g5, hkl, hx, h1, hws]
      exact ⟨l.length - (k + 1), by omega, hJ _ _ ⟨k + 1, by omega, rfl, by simp [g1], by simp, more_false hn hget hb⟩⟩
    · have d' : inn x 0 1000000 = false := by simpa using d
      have hb : badN x = true := by simp only [inn, Bool.and_eq_true, decide_eq_true_eq] at d; simp [badN]; omega
      rw [d'] at h1
      have : cntB s l = false := by unfold cntB; rw [any_true hget hb]; simp
      simp [g1, g5, hkl, hx, h1, this]
  · have : cntB s l = true := by unfold cntB; rw [any_false hn (by omega)]; simp [c]
    simp [g1, g5, hkl, this]
theorem f64 (l : List Int) (n : Int) (hl : l.length ≤ 9223372036854775807) (K : List Vl → Prop) : FC F 64 [.v (.c (.ro 1 (l.map e1))), vI n] K ↔ K [.c (I (idxI (fun a => a == n) l))] := by
  refine FC.rule ?_ K
  rw [fc_run F64]
  simp [b64]
  refine run_loop (fun q t => ∃ k, k ≤ l.length ∧ q = l.length - k ∧ t.fr 0 = .v (.c (.ro 1 (l.map e1))) ∧ t.fr 1 = vI n ∧ t.fr 5 = vI k ∧ ∀ (j : Nat) x, j < k → l[j]? = some x → (x == n) = false) l.length ⟨0, by omega, by omega, by simp, by simp, by simp, by simp⟩ ?_
  rintro J hJ q ⟨fr, μ⟩ ⟨k, hk, rfl, g0, g1, g5, hn⟩
  simp only at g0 g1 g5
  by_cases hkl : k < l.length
  · obtain ⟨x, hx⟩ : ∃ x, l[k] = x := ⟨_, rfl⟩
    have hget : l[k]? = some x := by rw [← hx]; exact List.getElem?_eq_getElem hkl
    have hws := wrapS (n := k) (by omega)
    by_cases hp : x = n
    · have : idxI (fun a => a == n) l = k := by simp only [idxI, idx_at hget (by simp [hp]) hn]
      simp [g0, g1, g5, hkl, hx, hp, this]
    · simp [g0, g1, g5, hkl, hx, hp, hws]
      exact ⟨l.length - (k + 1), by omega, hJ _ _ ⟨k + 1, by omega, rfl, by simp [g0], by simp [g1], by simp, more_false hn hget (by simpa using hp)⟩⟩
  · have : idxI (fun a => a == n) l = -1 := by
      simp only [idxI]
      rw [idx_none fun j b hb => hn j b (by have := (List.getElem?_eq_some_iff.1 hb).1; omega) hb]
    simp [g0, g5, hkl, this]
/-- The first run that begins where a run ends. -/
def leastN (m : Mp) (runs : List Int) (x : Int) : Nat := (idx (fun b => bef m x b) runs).getD 0
def pushL (m : Mp) (s : Sp) (l : List Int) (i : Nat) : List Int :=
  if outB m (s.runs.getD i 0) = true then l.set i 0
  else (l.set i 0).set (leastN m s.runs (s.runs.getD i 0)) (IntKind.i64.wrap ((l.set i 0).getD (leastN m s.runs (s.runs.getD i 0)) 0 + l.getD i 0))
def pushN (m : Mp) (s : Sp) (l : List Int) (i : Nat) : Int := if outB m (s.runs.getD i 0) = true then l.getD i 0 else 0
/-- A run that isn't a way out has one that begins where it ends. -/
theorem least_some {m : Mp} {runs : List Int} (h : runsS m runs = 0) {i : Nat} {x : Int} (hx : runs[i]? = some x) (ho : outB m x = false) : ∃ k, idx (fun b => bef m x b) runs = some k ∧ k < runs.length := by
  have h2 := (runsS_zero h).2
  have hl := (List.getElem?_eq_some_iff.1 hx).1
  have := scan_zero h2 i (by omega) (by omega)
  unfold ph2 at this
  rw [getD_at hx, ho] at this
  simp only [Bool.false_eq_true, if_false] at this
  split at this
  · cases this
  · rename_i hn
    cases hk : idx (fun b => bef m x b) runs with
    | none => simp only [idxI, hk] at hn; omega
    | some k => exact ⟨k, rfl, idx_lt hk⟩
theorem from_least {m : Mp} {runs : List Int} (hall : ∀ x ∈ runs, hasRn m x = true) {x : Int} {k : Nat} (hx : x ∈ runs) (h : idx (fun b => bef m x b) runs = some k) :
    ∃ y r, runs[k]? = some y ∧ fromL m runs (findRn m x).to = y :: r ∧ idxI (fun a => a == y) runs = k := by
  have hf : (runs.filter fun k => (findRn m k).fr == (findRn m x).to) = runs.filter fun b => bef m x b := List.filter_congr fun b hb => by
    simp only [bef, hall x hx, hall b hb, Bool.true_and]
    by_cases c : (findRn m b).fr = (findRn m x).to
    · simp [c]
    · have c' : ¬ (findRn m x).to = (findRn m b).fr := fun e => c e.symm
      have e1 : ((findRn m b).fr == (findRn m x).to) = false := by simpa using c
      have e2 : ((findRn m x).to == (findRn m b).fr) = false := by simpa using c'
      rw [e1, e2]
  have hfi : ∀ {p : Int → Bool} {l : List Int} {i : Nat}, idx p l = some i → ∃ r, l.filter p = l.getD i 0 :: r := by
    intro p l
    induction l with
    | nil => intro i h; cases h
    | cons y l ih =>
      intro i h
      simp only [idx] at h
      split at h
      · rename_i hp; injection h with h; subst h; exact ⟨l.filter p, by simp [hp]⟩
      · rename_i hp
        cases hk : idx p l with
        | none => rw [hk] at h; cases h
        | some j =>
          rw [hk] at h; injection h with h; subst h
          obtain ⟨r, hr⟩ := ih hk
          exact ⟨r, by simp [hp, hr]⟩
  obtain ⟨y, hy, hpy⟩ := idx_some h
  obtain ⟨r, hr⟩ := hfi h
  refine ⟨y, r, hy, by unfold fromL; rw [hf, hr, getD_at hy], ?_⟩
  have : idx (fun a => a == y) runs = some k := idx_at hy (by simp) fun j b hj hb => by
    cases hby : (b == y) with
    | false => rfl
    | true =>
      have e : b = y := by simpa using hby
      have hlt := (List.getElem?_eq_some_iff.1 hb).1
      exfalso
      -- an earlier one would have been found first
      have hfirst : ∀ {p : Int → Bool} {l : List Int} {k j : Nat} {b : Int}, idx p l = some k → j < k → l[j]? = some b → p b = false := by
        intro p l
        induction l with
        | nil => intro k j b h; cases h
        | cons y l ih =>
          intro k j b h hj hb
          simp only [idx] at h
          split at h
          · injection h with h; omega
          · rename_i hp
            cases hk : idx p l with
            | none => rw [hk] at h; cases h
            | some i =>
              rw [hk] at h; injection h with h; subst h
              cases j with
              | zero => simp at hb; subst hb; simpa using hp
              | succ j => exact ih hk (Nat.lt_of_succ_lt_succ hj) (by simpa using hb)
      have := hfirst h hj hb
      rw [e, hpy] at this; cases this
  simp only [idxI, this]
end Go.Proofs.Ytephpcoffonjfaa.Am
