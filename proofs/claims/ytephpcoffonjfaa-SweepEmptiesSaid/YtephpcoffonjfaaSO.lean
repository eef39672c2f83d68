/- Sweep: the order contains each run once, after all that come before it, the least that is possible first; the law SweepOrder over the abstract machine. No condition. -/
import Derived.Test.YtephpcoffonjfaaSN
namespace Go.Proofs.Ytephpcoffonjfaa.Am
open Go

theorem has_mem {m : Mp} {id : Int} (h : hasRn m id = true) : findRn m id ∈ m.runs ∧ (findRn m id).id = id := by
  unfold hasRn at h
  obtain ⟨k, hk⟩ := Option.isSome_iff_exists.1 h
  obtain ⟨a, ha, hp⟩ := idx_some hk
  have : findRn m id = a := by simp [findRn, fnd, hk, ha]
  rw [this]
  exact ⟨List.mem_of_getElem? ha, by simpa using hp⟩
theorem runs_rise' {m : Mp} : ∀ {l : List Rn} {p : Option Int}, runsE m p l = 0 → ∀ x ∈ l, risesE m x.to x.fr = 0
  | [], _, _, x, hx => by simp at hx
  | y :: l, p, h, x, hx => by
    simp only [runsE] at h
    by_cases h0 : runE m p y = 0
    · rw [if_neg (by simpa using h0)] at h
      rcases List.mem_cons.1 hx with rfl | hx
      · exact (runE_parts h0).2.2
      · exact runs_rise' h x hx
    · rw [if_pos h0] at h; exact absurd h h0
/-- The height at which a run begins. -/
def altR (m : Mp) (id : Int) : Int := (findNd m (findRn m id).fr).alt
theorem alt_down {m : Mp} (h : rightE m = 0) {a b : Int} (ha : hasRn m a = true) (hab : (findRn m a).to = (findRn m b).fr) : altR m b < altR m a := by
  obtain ⟨_, _, _, h4, _⟩ := right_parts h
  obtain ⟨_, _, h5⟩ := rises_parts (runs_rise' h4 _ (has_mem ha).1)
  unfold altR
  rw [← hab]; exact h5
theorem max_of (f : Int → Int) : ∀ {l : List Int}, l ≠ [] → ∃ x ∈ l, ∀ y ∈ l, f y ≤ f x
  | [], h => absurd rfl h
  | [x], _ => ⟨x, by simp, by simp⟩
  | x :: y :: l, _ => by
    obtain ⟨z, hz, hm⟩ := max_of f (l := y :: l) (by simp)
    by_cases c : f z ≤ f x
    · exact ⟨x, by simp, fun w hw => by
        rcases List.mem_cons.1 hw with rfl | hw
        · exact Int.le_refl _
        · exact Int.le_trans (hm w hw) c⟩
    · exact ⟨z, List.mem_cons_of_mem _ hz, fun w hw => by
        rcases List.mem_cons.1 hw with rfl | hw
        · omega
        · exact hm w hw⟩
theorem runs_lt {m : Mp} {l : List Int} (h : scan (ph1 m l) 0 l.length = 0) : l.Pairwise (· < ·) := by
  have step : ∀ k x y, l[k]? = some x → l[k + 1]? = some y → x < y := by
    intro k x y hx hy
    have hl := (List.getElem?_eq_some_iff.1 hy).1
    have := scan_zero h (k + 1) (by omega) (by omega)
    unfold ph1 at this
    rw [getD_at hy, show k + 1 - 1 = k from rfl, getD_at hx] at this
    split at this
    · split at this
      · cases this
      · rename_i hn; omega
    · cases this
  rw [List.pairwise_iff_getElem]
  intro i j hi hj hij
  obtain ⟨d, rfl⟩ : ∃ d, j = i + 1 + d := ⟨j - i - 1, by omega⟩
  clear hij
  induction d with
  | zero => exact step i _ _ (List.getElem?_eq_getElem hi) (List.getElem?_eq_getElem hj)
  | succ d ih =>
    have h1 := ih (by omega)
    have h2 := step (i + 1 + d) _ _ (List.getElem?_eq_getElem (by omega)) (List.getElem?_eq_getElem (by omega : i + 1 + d + 1 < l.length))
    exact Int.lt_trans h1 h2
theorem condO_iff {m : Mp} {runs out : List Int} {id : Int} (hall : ∀ x ∈ runs, hasRn m x = true) (hid : id ∈ runs) : condO m runs out id = (!out.contains id && !runs.any fun a => bef m a id && !out.contains a) := by
  unfold condO
  rw [ready_free hall (hall id hid)]
/-- One more run can always be swept. -/
theorem progress {m : Mp} (h : rightE m = 0) {runs out : List Int} (hall : ∀ x ∈ runs, hasRn m x = true) (hlt : runs.Pairwise (· < ·)) (hlen : out.length < runs.length) : ∃ i, idx (condO m runs out) runs = some i := by
  cases hi : idx (condO m runs out) runs with
  | some i => exact ⟨i, rfl⟩
  | none =>
    exfalso
    have hne : (runs.filter fun x => !out.contains x) ≠ [] := by
      intro he
      have hsub : ∀ x ∈ runs, x ∈ out := fun x hx => by
        have := List.filter_eq_nil_iff.1 he x hx
        simpa using this
      have := nodup_len (hlt.imp fun h => Int.ne_of_lt h) hsub
      omega
    obtain ⟨x, hx, hm⟩ := max_of (altR m) hne
    obtain ⟨hxr, hxo⟩ := List.mem_filter.1 hx
    have hany := idxI_any (condO m runs out) runs
    simp only [idxI, hi] at hany
    have hno := List.any_eq_false.1 hany.symm x hxr
    refine hno ?_
    rw [condO_iff hall hxr, hxo, Bool.true_and]
    have : (runs.any fun a => bef m a x && !out.contains a) = false := by
      rw [List.any_eq_false]
      intro a ha hb
      simp only [Bool.and_eq_true] at hb
      obtain ⟨hb1, hb2⟩ := hb
      unfold bef at hb1
      simp only [Bool.and_eq_true, beq_iff_eq] at hb1
      have h1 := alt_down h (hall a ha) hb1.2
      have h2 := hm a (List.mem_filter.2 ⟨ha, hb2⟩)
      omega
    rw [this]; rfl
theorem iterO_full {m : Mp} (h : rightE m = 0) {runs : List Int} (hall : ∀ x ∈ runs, hasRn m x = true) (hlt : runs.Pairwise (· < ·)) : ∀ {k : Nat}, k ≤ runs.length → (iterO m runs k).length = k
  | 0, _ => rfl
  | k + 1, hk => by
    have ih := iterO_full h hall hlt (k := k) (by omega)
    obtain ⟨i, hi⟩ := progress h hall hlt (out := iterO m runs k) (by omega)
    simp [iterO, stepO, hi, ih]
theorem iterO_pre {m : Mp} {runs : List Int} {k : Nat} : ∀ d, ∃ r, iterO m runs (k + d) = iterO m runs k ++ r
  | 0 => ⟨[], by simp⟩
  | d + 1 => by
    obtain ⟨r, hr⟩ := iterO_pre (m := m) (runs := runs) (k := k) d
    show ∃ r, stepO m runs (iterO m runs (k + d)) = _
    rw [hr]
    unfold stepO
    split
    · exact ⟨r ++ [_], by rw [List.append_assoc]⟩
    · exact ⟨r, rfl⟩
/-- What stands at a place of the order. -/
theorem ord_at {m : Mp} (h : rightE m = 0) {s : Sp} (hall : ∀ x ∈ s.runs, hasRn m x = true) (hlt : s.runs.Pairwise (· < ·)) {i : Nat} (hi : i < s.runs.length) :
    ∃ j x, idx (condO m s.runs ((ordA m s).take i)) s.runs = some j ∧ s.runs[j]? = some x ∧ (ordA m s)[i]? = some x := by
  have hl := iterO_full h hall hlt (k := i) (by omega)
  obtain ⟨r, hr⟩ := iterO_pre (m := m) (runs := s.runs) (k := i) (s.runs.length - i)
  rw [show i + (s.runs.length - i) = s.runs.length by omega] at hr
  have htake : (ordA m s).take i = iterO m s.runs i := by
    unfold ordA
    rw [hr, List.take_append_of_le_length (by omega), List.take_of_length_le (by omega)]
  obtain ⟨j, hj⟩ := progress h hall hlt (out := iterO m s.runs i) (by omega)
  obtain ⟨x, hx, _⟩ := idx_some hj
  refine ⟨j, x, by rw [htake]; exact hj, hx, ?_⟩
  obtain ⟨r2, hr2⟩ := iterO_pre (m := m) (runs := s.runs) (k := i + 1) (s.runs.length - (i + 1))
  rw [show i + 1 + (s.runs.length - (i + 1)) = s.runs.length by omega] at hr2
  have hst : iterO m s.runs (i + 1) = iterO m s.runs i ++ [x] := by
    show stepO m s.runs (iterO m s.runs i) = _
    simp [stepO, hj, hx]
  unfold ordA
  rw [hr2, hst, List.append_assoc, List.getElem?_append_right (by omega), hl]
  simp
theorem idx_min {p : Int → Bool} : ∀ {l : List Int} {k j : Nat} {b : Int}, idx p l = some k → j < k → l[j]? = some b → p b = false
  | [], _, _, _, h, _, _ => by cases h
  | y :: l, k, j, b, h, hj, hb => by
    simp only [idx] at h
    split at h
    · injection h with h; omega
    · rename_i hp
      cases hk : idx p l with
      | none => rw [hk] at h; cases h
      | some i =>
        rw [hk] at h; injection h with h; subst h
        cases j with
        | zero => simp at hb; subst hb; simpa using hp
        | succ j => exact idx_min hk (Nat.lt_of_succ_lt_succ hj) (by simpa using hb)
theorem f34 (m : Mp) (a b : Int) (h : Okm m) (K : List Vl → Prop) : FC F 34 [.v (.agg (eM m)), vI a, vI b] K ↔ K [.c (B (bef m a b))] := by
  rw [fc_run F34]
  have h1 := f66 m a h.r
  have h2 := f66 m b h.r
  by_cases c1 : hasRn m a = true <;> by_cases c2 : hasRn m b = true <;> simp [b34, h1, h2, c1, c2, bef]
def possB (m : Mp) (runs out : List Int) (id : Int) (j : Nat) : Bool := !out.contains id && !(runs.take j).any fun a => bef m a id && !out.contains a
theorem poss_step {m : Mp} {runs out : List Int} {id a : Int} {j : Nat} (h : runs[j]? = some a) : possB m runs out id (j + 1) = (possB m runs out id j && (!bef m a id || out.contains a)) := by
  have hk := List.getElem?_eq_some_iff.1 h
  unfold possB
  rw [List.take_succ_eq_append_getElem hk.1, hk.2, List.any_append]
  simp only [List.any_cons, List.any_nil, Bool.or_false]
  cases out.contains id <;> cases (runs.take j).any (fun a => bef m a id && !out.contains a) <;> cases bef m a id <;> cases out.contains a <;> rfl
set_option maxHeartbeats 16000000 in
theorem f9 (m : Mp) (s : Sp) (h : Okm m) (hs : Oks s) (K : List Vl → Prop) : FC F 9 [.v (.agg (eM m)), .v (.agg (eSp s))] K ↔ K [.c (B true)] := by
  refine FC.rule ?_ K
  rw [fc_run F9]
  have h1 := f12 m h
  have h2 := f13 m s h hs
  by_cases c1 : rightE m = 0
  case neg => simp [b9, f11, h1, c1]
  by_cases c2 : rightS m s = 0
  case neg => simp [b9, f11, h1, h2, c1, c2]
  rw [c1] at h1
  rw [c2] at h2
  obtain ⟨hr, hz, _⟩ := right_zero c2
  have hall := runs_has (runsS_zero hz).1
  have hlt := runs_lt (runsS_zero hz).1
  have q1 : ∀ K : List Vl → Prop, FC F 17 [.v (.agg (eM m)), .v (.agg (eSp s))] K ↔ K [.c (.ro 1 ((ordA m s).map e1))] := f17 m s h hs hr
  have hol : (ordA m s).length = s.runs.length := iterO_full c1 hall hlt (Nat.le_refl _)
  have hat := fun {i : Nat} (hi : i < s.runs.length) => ord_at c1 hall hlt hi
  have holI : ((ordA m s).length : Int) = s.runs.length := by omega
  have hrs := hs.r
  generalize ordA m s = ord at q1 hol hat holI
  simp [b9, f11, h1, h2, q1, hol]
  refine run_loop (fun q t => ∃ i, i ≤ ord.length ∧ q = ord.length - i ∧ t.fr 2 = .ptr (0, 2) 0 ∧ t.fr 3 = .ptr (0, 3) 0 ∧ t.mu.box (0, 2) = some (eM m) ∧ t.mu.box (0, 3) = some (eSp s) ∧ t.fr 5 = .v (.c (.ro 1 (ord.map e1))) ∧ t.fr 6 = vI i) ord.length ⟨0, by omega, by omega, by simp, by simp, by simp, by simp, by simp, by simp⟩ ?_
  rintro J hJ q ⟨fr, μ⟩ ⟨i, hi, rfl, g2, g3, hm2, hs3, g5, g6⟩
  simp only at g2 g3 hm2 hs3 g5 g6
  by_cases hil : i < ord.length
  case neg => simp [g3, hs3, g5, g6, hil]
  obtain ⟨jj, x, hidx, hjx, hox⟩ := hat (i := i) (by omega)
  have hx : ord[i] = x := by rw [List.getElem?_eq_getElem hil] at hox; injection hox
  have hxm : x ∈ s.runs := List.mem_of_getElem? hjx
  have hcx : condO m s.runs (ord.take i) x = true := by
    obtain ⟨a, ha, hp⟩ := idx_some hidx
    rw [hjx] at ha; injection ha with ha; subst ha; exact hp
  have hxo : (ord.take i).contains x = false := by
    rw [condO_iff hall hxm] at hcx
    simp only [Bool.and_eq_true] at hcx
    simpa using hcx.1
  have hile : i ≤ ord.length := by omega
  have hile2 : i ≤ s.runs.length := by omega
  have hile3 : i < s.runs.length := by omega
  have htl : (ord.take i).length ≤ 9223372036854775807 := by simp; omega
  have q2 := f33 s.runs x hrs
  rw [List.contains_iff_mem.2 hxm] at q2
  have q3 := f33 (ord.take i) x htl
  rw [hxo] at q3
  simp only [List.map_take] at q3
  have hwi := wrapS (n := i) (by omega)
  simp [g3, hs3, g5, g6, hil, hile, hx, q2, q3]
  refine run_loop (fun q t => ∃ k, k ≤ s.runs.length ∧ q = s.runs.length - k ∧ t.fr 2 = .ptr (0, 2) 0 ∧ t.fr 3 = .ptr (0, 3) 0 ∧ t.mu.box (0, 2) = some (eM m) ∧ t.mu.box (0, 3) = some (eSp s) ∧ t.fr 5 = .v (.c (.ro 1 (ord.map e1))) ∧ t.fr 6 = vI i ∧ t.fr 7 = vI k) s.runs.length ⟨0, by omega, by omega, by simp [g2], by simp [g3], by simp [hm2], by simp [hs3], by simp [g5], by simp [g6], by simp⟩ ?_
  rintro J2 hJ2 q ⟨fr2, μ2⟩ ⟨k, hk, rfl, w2, w3, wm2, ws3, w5, w6, w7⟩
  simp only at w2 w3 wm2 ws3 w5 w6 w7
  by_cases hkl : k < s.runs.length
  case neg =>
    simp [w3, ws3, w6, w7, hkl, hwi]
    exact ⟨ord.length - (i + 1), by omega, hJ _ _ ⟨i + 1, by omega, rfl, by simp [w2], by simp [w3], by simp [wm2], by simp [ws3], by simp [w5], by simp⟩⟩
  obtain ⟨run, hrun⟩ : ∃ r, s.runs[k] = r := ⟨_, rfl⟩
  have hgetr : s.runs[k]? = some run := by rw [← hrun]; exact List.getElem?_eq_getElem hkl
  have hrm : run ∈ s.runs := List.mem_of_getElem? hgetr
  have q4 := f33 (ord.take i) run htl
  simp only [List.map_take] at q4
  have hp0 : possB m s.runs (ord.take i) run 0 = !(ord.take i).contains run := by simp [possB]
  have hpn : possB m s.runs (ord.take i) run s.runs.length = condO m s.runs (ord.take i) run := by rw [condO_iff hall hrm]; unfold possB; rw [List.take_length]
  have hge : condO m s.runs (ord.take i) run = true → ¬ run < x := by
    intro hc hlt2
    have hkj : ¬ k < jj := fun hkj => by
      have := idx_min hidx hkj hgetr
      rw [hc] at this; cases this
    have hjl := (List.getElem?_eq_some_iff.1 hjx).1
    have hjv : s.runs[jj] = x := by rw [List.getElem?_eq_getElem hjl] at hjx; injection hjx
    rcases Nat.lt_or_ge jj k with hlt3 | hge3
    · have := (List.pairwise_iff_getElem.1 hlt) jj k hjl hkl hlt3
      rw [hjv, hrun] at this; omega
    · have : jj = k := by omega
      subst this
      rw [hjv] at hrun; omega
  have hne : condO m s.runs (ord.take i) run = false → ¬ run = x := fun hc e => by rw [e, hcx] at hc; cases hc
  rw [← hpn] at hge hne
  have hcont : (ord.take i).contains run = !possB m s.runs (ord.take i) run 0 := by rw [hp0]; simp
  rw [hcont] at q4
  simp [w3, ws3, w5, w6, w7, hkl, hile, hrun, q4]
  refine run_loop (fun q t => ∃ j, j ≤ s.runs.length ∧ q = s.runs.length - j ∧ t.fr 2 = .ptr (0, 2) 0 ∧ t.fr 3 = .ptr (0, 3) 0 ∧ t.mu.box (0, 2) = some (eM m) ∧ t.mu.box (0, 3) = some (eSp s) ∧ t.fr 5 = .v (.c (.ro 1 (ord.map e1))) ∧ t.fr 6 = vI i ∧ t.fr 7 = vI k ∧ t.fr 8 = vI run ∧ t.fr 9 = vB (possB m s.runs (ord.take i) run j) ∧ t.fr 10 = vI j) s.runs.length ⟨0, by omega, by omega, by simp [w2], by simp [w3], by simp [wm2], by simp [ws3], by simp [w5], by simp [w6], by simp [w7], by simp, by simp, by simp⟩ ?_
  rintro J3 hJ3 q ⟨fr3, μ3⟩ ⟨j, hj, rfl, z2, z3, zm2, zs3, z5, z6, z7, z8, z9, z10⟩
  simp only at z2 z3 zm2 zs3 z5 z6 z7 z8 z9 z10
  have hwk := wrapS (n := k) (by omega)
  by_cases hjl : j < s.runs.length
  case neg =>
    have hje : j = s.runs.length := by omega
    subst hje
    cases hP : possB m s.runs (ord.take i) run s.runs.length with
    | true =>
      have hnl := hge hP
      rw [hP] at z9
      simp [z2, z3, zm2, zs3, z5, z6, z7, z8, z9, z10, hil, hx, hnl, hwk]
      exact ⟨s.runs.length - (k + 1), by omega, hJ2 _ _ ⟨k + 1, by omega, rfl, by simp [z2], by simp [z3], by simp [zm2], by simp [zs3], by simp [z5], by simp [z6], by simp⟩⟩
    | false =>
      have hnx := hne hP
      rw [hP] at z9
      simp [z3, zs3, z5, z6, z7, z8, z9, z10, hil, hx, hnx, hwk]
      exact ⟨s.runs.length - (k + 1), by omega, hJ2 _ _ ⟨k + 1, by omega, rfl, by simp [z2], by simp [z3], by simp [zm2], by simp [zs3], by simp [z5], by simp [z6], by simp⟩⟩
  obtain ⟨a, ha⟩ : ∃ a, s.runs[j] = a := ⟨_, rfl⟩
  have hgeta : s.runs[j]? = some a := by rw [← ha]; exact List.getElem?_eq_getElem hjl
  have hps := poss_step (m := m) (out := ord.take i) (id := run) hgeta
  have hwj := wrapS (n := j) (by omega)
  have q5 := f34 m a run h
  have q6 := f33 (ord.take i) a htl
  simp only [List.map_take] at q6
  cases hP : possB m s.runs (ord.take i) run j with
  | false =>
    rw [hP, Bool.false_and] at hps
    rw [hP] at z9
    simp [z3, zs3, z5, z6, z8, z9, z10, hjl, hwj]
    exact ⟨s.runs.length - (j + 1), by omega, hJ3 _ _ ⟨j + 1, by omega, rfl, by simp [z2], by simp [z3], by simp [zm2], by simp [zs3], by simp [z5], by simp [z6], by simp [z7], by simp [z8], by simp [hps], by simp⟩⟩
  | true =>
    rw [hP, Bool.true_and] at hps
    rw [hP] at z9
    cases hB : bef m a run with
    | false =>
      rw [hB] at q5 hps
      simp at hps
      simp [z2, z3, zm2, zs3, z5, z6, z8, z9, z10, hjl, ha, q5, hwj]
      exact ⟨s.runs.length - (j + 1), by omega, hJ3 _ _ ⟨j + 1, by omega, rfl, by simp [z2], by simp [z3], by simp [zm2], by simp [zs3], by simp [z5], by simp [z6], by simp [z7], by simp [z8], by simp [hps], by simp⟩⟩
    | true =>
      rw [hB] at q5 hps
      simp only [Bool.not_true, Bool.false_or] at hps
      rw [← hps] at q6
      obtain ⟨bb, hbb⟩ : ∃ bb, possB m s.runs (ord.take i) run (j + 1) = bb := ⟨_, rfl⟩
      rw [hbb] at q6
      cases bb with
      | true =>
        simp [z2, z3, zm2, zs3, z5, z6, z7, z8, z9, z10, hjl, hil, hile, ha, q5, q6, hwj]
        exact ⟨s.runs.length - (j + 1), by omega, hJ3 _ _ ⟨j + 1, by omega, rfl, by simp [z2], by simp [z3], by simp [zm2], by simp [zs3], by simp [z5], by simp [z6], by simp [z7], by simp [z8], by simp [hbb], by simp⟩⟩
      | false =>
        simp [z2, z3, zm2, zs3, z5, z6, z7, z8, z9, z10, hjl, hil, hile, ha, q5, q6, hwj]
        exact ⟨s.runs.length - (j + 1), by omega, hJ3 _ _ ⟨j + 1, by omega, rfl, by simp [z2], by simp [z3], by simp [zm2], by simp [zs3], by simp [z5], by simp [z6], by simp [z7], by simp [z8], by simp [hbb], by simp⟩⟩
theorem law9 (xs : List FV) (h : FitAll [tyM, tyS] xs) : FC F 9 xs (· = [.c (B true)]) := by
  match xs, h with
  | [x, y], ⟨hx, hy, _⟩ =>
    obtain ⟨m, rfl, hm, _⟩ := open_map hx
    obtain ⟨s, rfl, hs, _⟩ := open_sweep hy
    exact (f9 m s hm hs _).2 rfl
end Go.Proofs.Ytephpcoffonjfaa.Am
