/- Vehicles: grooming, and the law of grooming. No condition. -/
import Derived.Test.YtkoickoceggimaaGE
namespace Go.Proofs.Ytkoickoceggimaa.Am
open Go

def gAt (l : List Gr) (k : Nat) : Gr := (l[k]?).getD zGr
def groomed (g : Gr) (run sec t : Int) : Gr := { g with state := 2, run := run, till := IntKind.i64.wrap (t + sec), fuel := IntKind.i64.wrap (g.fuel - IntKind.i64.wrap (5 * sec)) }
def groomE (m : Mp) (l : List Gr) (g : Gr) (run sec t : Int) : Int :=
  if g.state ≠ 0 then 10 else if (g.node ≠ (findRn m run).fr ∧ g.node ≠ (findRn m run).to) ∨ On l run = true then 15
  else if IntKind.i64.wrap (g.fuel.tdiv 5) < sec then 5 else if inn sec 1 86400 = false ∨ t < 0 ∨ IntKind.i64.wrap (20000000 - sec) < t then 2 else 0
def groomX (m : Mp) (l : List Gr) (id run sec t : Int) : Int :=
  match idx (byId id) l with
  | none => 8
  | some k => if hasRn m run = true then groomE m l (gAt l k) run sec t else 8
def groomL (m : Mp) (l : List Gr) (id run sec t : Int) : List Gr :=
  match idx (byId id) l with
  | none => []
  | some k => if hasRn m run = true then (if groomE m l (gAt l k) run sec t = 0 then l.set k (groomed (gAt l k) run sec t) else []) else []
set_option maxHeartbeats 4000000 in
theorem f21 (m : Mp) (l : List Gr) (id run sec t : Int) (h : Okm m) (hl : l.length ≤ 1000) (K : List Vl → Prop) :
    FC F 21 [.v (.agg (eM m)), rG l, vI id, vI run, vI sec, vI t] K ↔ K [.c (.ro 8 ((groomL m l id run sec t).map eGr)), .c (I (groomX m l id run sec t))] := by
  refine FC.rule ?_ K
  rw [fc_run F21]
  have h1 := f33 l id (by omega)
  have h2 := f48 m run h.r
  have h3 := f26 l run (by omega)
  have h5 := f49 sec 1 86400
  cases hi : idx (byId id) l with
  | none =>
    have hx : idxI (byId id) l = -1 := by simp only [idxI, hi]
    rw [hx] at h1
    simp [b21, h1, h2, groomL, groomX, hi]
  | some k =>
    have hx : idxI (byId id) l = k := by simp only [idxI, hi]
    rw [hx] at h1
    have hk := idx_lt hi
    have hneg : ¬ ((k : Int) < 0) := by omega
    cases hr : hasRn m run with
    | false =>
      rw [hr] at h2
      simp [b21, h1, h2, groomL, groomX, hi, hr, hneg]
    | true =>
    rw [hr] at h2
    obtain ⟨g, hg⟩ : ∃ g, l[k] = g := ⟨_, rfl⟩
    have hgA : gAt l k = g := by simp [gAt, hk, hg]
    by_cases c1 : g.state = 0
    case neg =>
      have e : groomE m l g run sec t = 10 := by unfold groomE; rw [if_pos c1]
      simp [b21, h1, h2, groomL, groomX, hi, hr, hgA, hg, hk, hneg, c1, e]
    by_cases c2 : g.node = (findRn m run).fr ∨ g.node = (findRn m run).to
    case neg =>
      have e : groomE m l g run sec t = 15 := by
        unfold groomE; rw [if_neg (by simp [c1]), if_pos (.inl (by simpa [not_or] using c2))]
      have d1 : g.node ≠ (findRn m run).fr := fun h => c2 (.inl h)
      have d2 : g.node ≠ (findRn m run).to := fun h => c2 (.inr h)
      simp [b21, h1, h2, groomL, groomX, hi, hr, hgA, hg, hk, hneg, c1, d1, d2, e]
    cases c3 : On l run with
    | true =>
      rw [c3] at h3
      have e : groomE m l g run sec t = 15 := by
        unfold groomE; rw [if_neg (by simp [c1]), if_pos (.inr c3)]
      rcases c2 with c2 | c2
      · simp [b21, h1, h2, h3, groomL, groomX, hi, hr, hgA, hg, hk, hneg, c1, c2, e]
      · by_cases d1 : g.node = (findRn m run).fr
        · simp [b21, h1, h2, h3, groomL, groomX, hi, hr, hgA, hg, hk, hneg, c1, d1, e]
        · rw [c2] at d1
          simp [b21, h1, h2, h3, groomL, groomX, hi, hr, hgA, hg, hk, hneg, c1, c2, d1, e]
    | false =>
    rw [c3] at h3
    have e2 : ¬ ((g.node ≠ (findRn m run).fr ∧ g.node ≠ (findRn m run).to) ∨ On l run = true) := by
      rintro (⟨a, b⟩ | a)
      · rcases c2 with c2 | c2
        · exact a c2
        · exact b c2
      · rw [c3] at a; cases a
    by_cases c4 : IntKind.i64.wrap (g.fuel.tdiv 5) < sec
    · have e : groomE m l g run sec t = 5 := by
        unfold groomE; rw [if_neg (by simp [c1]), if_neg e2, if_pos c4]
      clear e2
      by_cases d1 : g.node = (findRn m run).fr
      · simp [b21, h1, h2, h3, groomL, groomX, hi, hr, hgA, hg, hk, hneg, c1, d1, c4, e]
      · have d2 := c2.resolve_left d1
        rw [d2] at d1
        simp [b21, h1, h2, h3, groomL, groomX, hi, hr, hgA, hg, hk, hneg, c1, d1, d2, c4, e]
    have more : groomE m l g run sec t = (if inn sec 1 86400 = false ∨ t < 0 ∨ IntKind.i64.wrap (20000000 - sec) < t then 2 else 0) := by
      unfold groomE; rw [if_neg (by simp [c1]), if_neg e2, if_neg c4]
    clear e2
    cases c5 : inn sec 1 86400 with
    | false =>
      rw [c5] at h5
      have e : groomE m l g run sec t = 2 := by rw [more, if_pos (.inl c5)]
      clear more
      by_cases d1 : g.node = (findRn m run).fr
      · simp [b21, h1, h2, h3, h5, groomL, groomX, hi, hr, hgA, hg, hk, hneg, c1, d1, c4, e]
      · have d2 := c2.resolve_left d1
        rw [d2] at d1
        simp [b21, h1, h2, h3, h5, groomL, groomX, hi, hr, hgA, hg, hk, hneg, c1, d1, d2, c4, e]
    | true =>
    rw [c5] at h5
    by_cases c6 : t < 0
    · have e : groomE m l g run sec t = 2 := by rw [more, if_pos (.inr (.inl c6))]
      clear more
      by_cases d1 : g.node = (findRn m run).fr
      · simp [b21, h1, h2, h3, h5, groomL, groomX, hi, hr, hgA, hg, hk, hneg, c1, d1, c4, c6, e]
      · have d2 := c2.resolve_left d1
        rw [d2] at d1
        simp [b21, h1, h2, h3, h5, groomL, groomX, hi, hr, hgA, hg, hk, hneg, c1, d1, d2, c4, c6, e]
    by_cases c7 : IntKind.i64.wrap (20000000 - sec) < t
    · have e : groomE m l g run sec t = 2 := by rw [more, if_pos (.inr (.inr c7))]
      clear more
      by_cases d1 : g.node = (findRn m run).fr
      · simp [b21, h1, h2, h3, h5, groomL, groomX, hi, hr, hgA, hg, hk, hneg, c1, d1, c4, c6, c7, e]
      · have d2 := c2.resolve_left d1
        rw [d2] at d1
        simp [b21, h1, h2, h3, h5, groomL, groomX, hi, hr, hgA, hg, hk, hneg, c1, d1, d2, c4, c6, c7, e]
    have e : groomE m l g run sec t = 0 := by
      rw [more, if_neg]
      rintro (a | a | a)
      · rw [c5] at a; cases a
      · exact c6 a
      · exact c7 a
    clear more
    have h6 := f46 l k (groomed g run sec t) hk hl
    simp only [groomed, eGr] at h6
    by_cases d1 : g.node = (findRn m run).fr
    · simp (config := { failIfUnchanged := false }) only [d1] at h6
      simp [b21, h1, h2, h3, h5, h6, groomL, groomX, hi, hr, hgA, hg, hk, hneg, c1, d1, c4, c6, c7, e, groomed]
    · have d2 := c2.resolve_left d1
      rw [d2] at d1
      simp (config := { failIfUnchanged := false }) only [d2] at h6
      simp [b21, h1, h2, h3, h5, h6, groomL, groomX, hi, hr, hgA, hg, hk, hneg, c1, d1, d2, c4, c6, c7, e, groomed]
set_option maxHeartbeats 4000000 in
theorem f22 (m : Mp) (l : List Gr) (id run sec t : Int) (h : Okm m) (hl : l.length ≤ 1000) (K : List Vl → Prop) :
    FC F 22 [.v (.agg (eM m)), rG l, vI id, vI run, vI sec, vI t] K ↔ K [.c (.ro 8 ((groomL m l id run sec t).map eGr)), .c (I (groomX m l id run sec t))] := by
  refine FC.rule ?_ K
  rw [fc_run F22]
  have h1 := f35 l id (by omega)
  have h2 := f30 m run h.r
  have h3 := f27 l run (by omega)
  have h5 := f34 sec 1 86400
  cases hi : idx (byId id) l with
  | none =>
    have hx : idxI (byId id) l = -1 := by simp only [idxI, hi]
    rw [hx] at h1
    simp [b22, h1, h2, groomL, groomX, hi]
  | some k =>
    have hx : idxI (byId id) l = k := by simp only [idxI, hi]
    rw [hx] at h1
    have hk := idx_lt hi
    have hneg : ¬ ((k : Int) < 0) := by omega
    cases hr : hasRn m run with
    | false =>
      rw [hr] at h2
      simp [b22, h1, h2, groomL, groomX, hi, hr, hneg]
    | true =>
    rw [hr] at h2
    obtain ⟨g, hg⟩ : ∃ g, l[k] = g := ⟨_, rfl⟩
    have hgA : gAt l k = g := by simp [gAt, hk, hg]
    by_cases c1 : g.state = 0
    case neg =>
      have e : groomE m l g run sec t = 10 := by unfold groomE; rw [if_pos c1]
      simp [b22, h1, h2, groomL, groomX, hi, hr, hgA, hg, hk, hneg, c1, e]
    by_cases c2 : g.node = (findRn m run).fr ∨ g.node = (findRn m run).to
    case neg =>
      have e : groomE m l g run sec t = 15 := by
        unfold groomE; rw [if_neg (by simp [c1]), if_pos (.inl (by simpa [not_or] using c2))]
      have d1 : g.node ≠ (findRn m run).fr := fun h => c2 (.inl h)
      have d2 : g.node ≠ (findRn m run).to := fun h => c2 (.inr h)
      simp [b22, h1, h2, groomL, groomX, hi, hr, hgA, hg, hk, hneg, c1, d1, d2, e]
    cases c3 : On l run with
    | true =>
      rw [c3] at h3
      have e : groomE m l g run sec t = 15 := by
        unfold groomE; rw [if_neg (by simp [c1]), if_pos (.inr c3)]
      rcases c2 with c2 | c2
      · simp [b22, h1, h2, h3, groomL, groomX, hi, hr, hgA, hg, hk, hneg, c1, c2, e]
      · by_cases d1 : g.node = (findRn m run).fr
        · simp [b22, h1, h2, h3, groomL, groomX, hi, hr, hgA, hg, hk, hneg, c1, d1, e]
        · rw [c2] at d1
          simp [b22, h1, h2, h3, groomL, groomX, hi, hr, hgA, hg, hk, hneg, c1, c2, d1, e]
    | false =>
    rw [c3] at h3
    have e2 : ¬ ((g.node ≠ (findRn m run).fr ∧ g.node ≠ (findRn m run).to) ∨ On l run = true) := by
      rintro (⟨a, b⟩ | a)
      · rcases c2 with c2 | c2
        · exact a c2
        · exact b c2
      · rw [c3] at a; cases a
    by_cases c4 : IntKind.i64.wrap (g.fuel.tdiv 5) < sec
    · have e : groomE m l g run sec t = 5 := by
        unfold groomE; rw [if_neg (by simp [c1]), if_neg e2, if_pos c4]
      clear e2
      by_cases d1 : g.node = (findRn m run).fr
      · simp [b22, h1, h2, h3, groomL, groomX, hi, hr, hgA, hg, hk, hneg, c1, d1, c4, e]
      · have d2 := c2.resolve_left d1
        rw [d2] at d1
        simp [b22, h1, h2, h3, groomL, groomX, hi, hr, hgA, hg, hk, hneg, c1, d1, d2, c4, e]
    have more : groomE m l g run sec t = (if inn sec 1 86400 = false ∨ t < 0 ∨ IntKind.i64.wrap (20000000 - sec) < t then 2 else 0) := by
      unfold groomE; rw [if_neg (by simp [c1]), if_neg e2, if_neg c4]
    clear e2
    cases c5 : inn sec 1 86400 with
    | false =>
      rw [c5] at h5
      have e : groomE m l g run sec t = 2 := by rw [more, if_pos (.inl c5)]
      clear more
      by_cases d1 : g.node = (findRn m run).fr
      · simp [b22, h1, h2, h3, h5, groomL, groomX, hi, hr, hgA, hg, hk, hneg, c1, d1, c4, e]
      · have d2 := c2.resolve_left d1
        rw [d2] at d1
        simp [b22, h1, h2, h3, h5, groomL, groomX, hi, hr, hgA, hg, hk, hneg, c1, d1, d2, c4, e]
    | true =>
    rw [c5] at h5
    by_cases c6 : t < 0
    · have e : groomE m l g run sec t = 2 := by rw [more, if_pos (.inr (.inl c6))]
      clear more
      by_cases d1 : g.node = (findRn m run).fr
      · simp [b22, h1, h2, h3, h5, groomL, groomX, hi, hr, hgA, hg, hk, hneg, c1, d1, c4, c6, e]
      · have d2 := c2.resolve_left d1
        rw [d2] at d1
        simp [b22, h1, h2, h3, h5, groomL, groomX, hi, hr, hgA, hg, hk, hneg, c1, d1, d2, c4, c6, e]
    by_cases c7 : IntKind.i64.wrap (20000000 - sec) < t
    · have e : groomE m l g run sec t = 2 := by rw [more, if_pos (.inr (.inr c7))]
      clear more
      by_cases d1 : g.node = (findRn m run).fr
      · simp [b22, h1, h2, h3, h5, groomL, groomX, hi, hr, hgA, hg, hk, hneg, c1, d1, c4, c6, c7, e]
      · have d2 := c2.resolve_left d1
        rw [d2] at d1
        simp [b22, h1, h2, h3, h5, groomL, groomX, hi, hr, hgA, hg, hk, hneg, c1, d1, d2, c4, c6, c7, e]
    have e : groomE m l g run sec t = 0 := by
      rw [more, if_neg]
      rintro (a | a | a)
      · rw [c5] at a; cases a
      · exact c6 a
      · exact c7 a
    clear more
    have h6 := f47 l k (groomed g run sec t) hk hl
    simp only [groomed, eGr] at h6
    by_cases d1 : g.node = (findRn m run).fr
    · simp (config := { failIfUnchanged := false }) only [d1] at h6
      simp [b22, h1, h2, h3, h5, h6, groomL, groomX, hi, hr, hgA, hg, hk, hneg, c1, d1, c4, c6, c7, e, groomed]
    · have d2 := c2.resolve_left d1
      rw [d2] at d1
      simp (config := { failIfUnchanged := false }) only [d2] at h6
      simp [b22, h1, h2, h3, h5, h6, groomL, groomX, hi, hr, hgA, hg, hk, hneg, c1, d1, d2, c4, c6, c7, e, groomed]
end Go.Proofs.Ytkoickoceggimaa.Am
