/- Terrain: a valid map without one of its runs or lifts; the law TerrainFewer over the abstract machine. No condition. -/
import Derived.Test.YtmbhpinkiffdgaaTM
namespace Go.Proofs.Ytmbhpinkiffdgaa.Am
open Go

theorem leO_of {n : Int} {p : Option Int} (h : ∀ q, p = some q → q < n) : leO n p = false := by
  cases p with
  | none => rfl
  | some q => have := h q rfl; simp [leO]; omega
theorem runsE_of {m : Mp} : ∀ {l : List Rn} {p : Option Int}, l.Pairwise (fun a b => a.id < b.id) → (∀ q, p = some q → ∀ x ∈ l, q < x.id) → (∀ x ∈ l, rngRn x = true ∧ risesE m x.to x.fr = 0) → runsE m p l = 0
  | [], _, _, _, _ => rfl
  | y :: l, p, h1, h2, h3 => by
    obtain ⟨g1, g2⟩ := List.pairwise_cons.1 h1
    obtain ⟨r1, r2⟩ := h3 y (by simp)
    have hl := leO_of (n := y.id) (p := p) fun q hq => h2 q hq y (by simp)
    have h0 : runE m p y = 0 := by simp [runE, r1, r2, hl]
    simp only [runsE, h0]
    exact runsE_of g2 (fun q hq x hx => by injection hq with hq; subst hq; exact g1 x hx) fun x hx => h3 x (by simp [hx])
theorem liftsE_of {m : Mp} : ∀ {l : List Lf} {p : Option Int}, l.Pairwise (fun a b => a.id < b.id) → (∀ q, p = some q → ∀ x ∈ l, q < x.id) → (∀ x ∈ l, rngLf x = true ∧ risesE m x.fr x.to = 0 ∧ carr x = true) → liftsE m p l = 0
  | [], _, _, _, _ => rfl
  | y :: l, p, h1, h2, h3 => by
    obtain ⟨g1, g2⟩ := List.pairwise_cons.1 h1
    obtain ⟨r1, r2, r3⟩ := h3 y (by simp)
    have hl := leO_of (n := y.id) (p := p) fun q hq => h2 q hq y (by simp)
    have h0 : liftE m p y = 0 := by simp [liftE, r1, r2, r3, hl]
    simp only [liftsE, h0]
    exact liftsE_of g2 (fun q hq x hx => by injection hq with hq; subst hq; exact g1 x hx) fun x hx => h3 x (by simp [hx])
theorem runs_rise {m : Mp} : ∀ {l : List Rn} {p : Option Int}, runsE m p l = 0 → ∀ x ∈ l, risesE m x.to x.fr = 0
  | [], _, _, x, hx => by simp at hx
  | y :: l, p, h, x, hx => by
    simp only [runsE] at h
    by_cases h0 : runE m p y = 0
    · rw [if_neg (by simpa using h0)] at h
      rcases List.mem_cons.1 hx with rfl | hx
      · exact (runE_parts h0).2.2
      · exact runs_rise h x hx
    · rw [if_pos h0] at h; exact absurd h h0
theorem lifts_carr {m : Mp} : ∀ {l : List Lf} {p : Option Int}, liftsE m p l = 0 → ∀ x ∈ l, carr x = true
  | [], _, _, x, hx => by simp at hx
  | y :: l, p, h, x, hx => by
    simp only [liftsE] at h
    by_cases h0 : liftE m p y = 0
    · rw [if_neg (by simpa using h0)] at h
      rcases List.mem_cons.1 hx with rfl | hx
      · exact (liftE_parts h0).2.2.2
      · exact lifts_carr h x hx
    · rw [if_pos h0] at h; exact absurd h h0
theorem out_sub {α : Type} (l : List α) (j : Nat) : (l.take j ++ l.drop (j + 1)).Sublist l := by
  have : l.drop (j + 1) = (l.drop j).drop 1 := by rw [List.drop_drop]
  rw [this]
  exact (List.Sublist.append_left (List.drop_sublist 1 _) _).trans (by rw [List.take_append_drop]; exact List.Sublist.refl _)
/-- A part of the lifts and of the runs is as valid. -/
theorem right_less {m : Mp} (h : rightE m = 0) {ls : List Lf} {rs : List Rn} (hl : ls.Sublist m.lifts) (hr : rs.Sublist m.runs) : rightE ⟨m.nodes, ls, rs, m.bases⟩ = 0 := by
  obtain ⟨h1, h2, h3, h4, h5⟩ := right_parts h
  obtain ⟨l1, _, l3⟩ := lifts_sorted h3
  obtain ⟨r1, _, r3⟩ := runs_sorted h4
  have ll := hl.length_le
  have lr := hr.length_le
  have e1 : tooLong ⟨m.nodes, ls, rs, m.bases⟩ = false := by
    simp only [tooLong, Bool.or_eq_false_iff, decide_eq_false_iff_not] at h1 ⊢
    omega
  have e3 : liftsE ⟨m.nodes, ls, rs, m.bases⟩ none ls = 0 := liftsE_of (l1.sublist hl) (fun q hq => by cases hq) fun x hx => ⟨l3 x (hl.subset hx), lifts_ok h3 x (hl.subset hx), lifts_carr h3 x (hl.subset hx)⟩
  have e4 : runsE ⟨m.nodes, ls, rs, m.bases⟩ none rs = 0 := runsE_of (r1.sublist hr) (fun q hq => by cases hq) fun x hx => ⟨r3 x (hr.subset hx), runs_rise h4 x (hr.subset hx)⟩
  have e5 : basesE ⟨m.nodes, ls, rs, m.bases⟩ = 0 := h5
  simp [rightE, e1, h2, e3, e4, e5]
theorem tmod_nat {n : Int} {k : Nat} (h0 : 0 ≤ n) (hk : 0 < k) : ∃ j : Nat, n.tmod k = (j : Int) ∧ j < k := by
  refine ⟨(n.tmod k).toNat, ?_, ?_⟩
  · have := Int.tmod_nonneg (k : Int) h0; omega
  · have h1 := Int.tmod_lt_of_pos n (show (0 : Int) < k by omega)
    have h2 := Int.tmod_nonneg (k : Int) h0
    omega
set_option maxHeartbeats 8000000 in
theorem f9 (m : Mp) (hm : Okm m) (n : Int) (h0 : 0 ≤ n) (h255 : n ≤ 255) (K : List Vl → Prop) : FC F 9 [.v (.agg (eM m)), .v (.c (.val (.int .u8 n)))] K ↔ K [.c (B true)] := by
  refine FC.rule ?_ K
  rw [fc_run F9]
  have h1 := f13 m hm
  by_cases hl : light m = true
  case neg => simp [b9, f11, f12, hl]
  by_cases c : rightE m = 0
  case neg => simp [b9, f11, f12, hl, h1, c]
  have ht := (right_parts c).1
  simp only [tooLong, Bool.or_eq_false_iff, decide_eq_false_iff_not] at ht
  have hwn : IntKind.i64.wrap n = n := wrap64 ⟨by omega, by omega⟩
  by_cases cr : m.runs.length = 0 <;> by_cases cl : m.lifts.length = 0
  · have gr : ¬ (0 < m.runs.length) := by omega
    have gl : ¬ (0 < m.lifts.length) := by omega
    simp [b9, f11, f12, hl, h1, c, gr, gl]
  · have gr : ¬ (0 < m.runs.length) := by omega
    have gl : 0 < m.lifts.length := by omega
    have nl : ¬ (m.lifts = []) := fun e => by rw [e] at gl; simp at gl
    obtain ⟨j, ej, hj⟩ := tmod_nat (n := n) (k := m.lifts.length) h0 (by omega)
    have hw : IntKind.i64.wrap ((j : Int) + 1) = (j : Int) + 1 := wrap64 ⟨by omega, by omega⟩
    have g1 : j + 1 ≤ m.lifts.length := by omega
    have g2 : j ≤ m.lifts.length := by omega
    have hlim : j ≤ lim := by simp only [lim]; omega
    have hp : (0 : Int) ≤ (j : Int) + 1 := by omega
    have htk : List.take m.lifts.length (List.map eLf m.lifts) = List.map eLf m.lifts := by rw [List.take_of_length_le]; simp
    have hlim2 : j + (m.lifts.length - (j + 1)) ≤ lim := by simp only [lim]; omega
    have hok : Okm ⟨m.nodes, m.lifts.take j ++ m.lifts.drop (j + 1), m.runs, m.bases⟩ := ⟨hm.n, by simp; omega, hm.r, hm.b⟩
    have h2 := f13 _ hok
    rw [right_less c (out_sub _ j) (List.Sublist.refl _)] at h2
    simp only [eM, List.map_append, List.map_take, List.map_drop] at h2
    simp [b9, f11, f12, hl, h1, c, gr, gl, nl, hwn, ej, hw, g1, g2, hlim, hlim2, hp, htk, h2]
  · have gr : 0 < m.runs.length := by omega
    have gl : ¬ (0 < m.lifts.length) := by omega
    have nr : ¬ (m.runs = []) := fun e => by rw [e] at gr; simp at gr
    obtain ⟨j, ej, hj⟩ := tmod_nat (n := n) (k := m.runs.length) h0 (by omega)
    have hw : IntKind.i64.wrap ((j : Int) + 1) = (j : Int) + 1 := wrap64 ⟨by omega, by omega⟩
    have g1 : j + 1 ≤ m.runs.length := by omega
    have g2 : j ≤ m.runs.length := by omega
    have hlim : j ≤ lim := by simp only [lim]; omega
    have hp : (0 : Int) ≤ (j : Int) + 1 := by omega
    have htk : List.take m.runs.length (List.map eRn m.runs) = List.map eRn m.runs := by rw [List.take_of_length_le]; simp
    have hlim2 : j + (m.runs.length - (j + 1)) ≤ lim := by simp only [lim]; omega
    have hok : Okm ⟨m.nodes, m.lifts, m.runs.take j ++ m.runs.drop (j + 1), m.bases⟩ := ⟨hm.n, hm.l, by simp; omega, hm.b⟩
    have h2 := f13 _ hok
    rw [right_less c (List.Sublist.refl _) (out_sub _ j)] at h2
    simp only [eM, List.map_append, List.map_take, List.map_drop] at h2
    simp [b9, f11, f12, hl, h1, c, gr, gl, nr, hwn, ej, hw, g1, g2, hlim, hlim2, hp, htk, h2]
  · have gr : 0 < m.runs.length := by omega
    have gl : 0 < m.lifts.length := by omega
    have nr : ¬ (m.runs = []) := fun e => by rw [e] at gr; simp at gr
    have nl : ¬ (m.lifts = []) := fun e => by rw [e] at gl; simp at gl
    obtain ⟨j, ej, hj⟩ := tmod_nat (n := n) (k := m.runs.length) h0 (by omega)
    obtain ⟨i, ei, hi⟩ := tmod_nat (n := n) (k := m.lifts.length) h0 (by omega)
    have hw : IntKind.i64.wrap ((j : Int) + 1) = (j : Int) + 1 := wrap64 ⟨by omega, by omega⟩
    have hwi : IntKind.i64.wrap ((i : Int) + 1) = (i : Int) + 1 := wrap64 ⟨by omega, by omega⟩
    have g1 : j + 1 ≤ m.runs.length := by omega
    have g2 : j ≤ m.runs.length := by omega
    have g3 : i + 1 ≤ m.lifts.length := by omega
    have g4 : i ≤ m.lifts.length := by omega
    have hlim : j ≤ lim := by simp only [lim]; omega
    have hp : (0 : Int) ≤ (j : Int) + 1 := by omega
    have htk : List.take m.runs.length (List.map eRn m.runs) = List.map eRn m.runs := by rw [List.take_of_length_le]; simp
    have hlim2 : j + (m.runs.length - (j + 1)) ≤ lim := by simp only [lim]; omega
    have hlim3 : i ≤ lim := by simp only [lim]; omega
    have hpi : (0 : Int) ≤ (i : Int) + 1 := by omega
    have htl : List.take m.lifts.length (List.map eLf m.lifts) = List.map eLf m.lifts := by rw [List.take_of_length_le]; simp
    have hlim4 : i + (m.lifts.length - (i + 1)) ≤ lim := by simp only [lim]; omega
    have hok : Okm ⟨m.nodes, m.lifts, m.runs.take j ++ m.runs.drop (j + 1), m.bases⟩ := ⟨hm.n, hm.l, by simp; omega, hm.b⟩
    have h2 := f13 _ hok
    rw [right_less c (List.Sublist.refl _) (out_sub _ j)] at h2
    have hok3 : Okm ⟨m.nodes, m.lifts.take i ++ m.lifts.drop (i + 1), m.runs, m.bases⟩ := ⟨hm.n, by simp; omega, hm.r, hm.b⟩
    have h3 := f13 _ hok3
    rw [right_less c (out_sub _ i) (List.Sublist.refl _)] at h3
    simp only [eM, List.map_append, List.map_take, List.map_drop] at h2 h3
    simp [b9, f11, f12, hl, h1, c, gr, gl, nr, nl, hwn, ej, ei, hw, hwi, g1, g2, g3, g4, hlim, hlim2, hlim3, hlim4, hp, hpi, htk, htl, h2, h3]
theorem open_u8 {x : FV} (h : FitA (false, [.i .u8]) x) : ∃ n, x = .v (.c (.val (.int .u8 n))) ∧ 0 ≤ n ∧ n ≤ 255 := by
  cases x with
  | v x =>
    cases x with
    | c x =>
      cases h with
      | i h1 h2 => exact ⟨_, rfl, by simpa [IntKind.min, IntKind.bits, IntKind.signed] using h1, by simpa [IntKind.max, IntKind.bits, IntKind.signed] using h2⟩
    | agg cs => exact h.elim
  | _ => exact h.elim
theorem law9 (xs : List FV) (h : FitAll [tyM, (false, [.i .u8])] xs) : FC F 9 xs (· = [.c (B true)]) := by
  match xs, h with
  | [x, y], ⟨hx, hy, _⟩ =>
    obtain ⟨m, rfl, hm, _⟩ := open_map hx
    obtain ⟨n, rfl, h1, h2⟩ := open_u8 hy
    exact (f9 m hm n h1 h2 _).2 rfl
end Go.Proofs.Ytmbhpinkiffdgaa.Am
