/- Sweep: noting that a run was swept; the law SweepDoes over the abstract machine. No condition. -/
import Derived.Test.YtephpcoffonjfaaSH
namespace Go.Proofs.Ytephpcoffonjfaa.Am
open Go

theorem nodup_len : ∀ {l k : List Int}, l.Pairwise (· ≠ ·) → (∀ x ∈ l, x ∈ k) → l.length ≤ k.length
  | [], _, _, _ => by simp
  | x :: l, k, h, hs => by
    obtain ⟨h1, h2⟩ := List.pairwise_cons.1 h
    have hx := hs x (by simp)
    have := nodup_len (l := l) (k := k.erase x) h2 fun y hy => (List.mem_erase_of_ne (h1 y hy).symm).2 (hs y (by simp [hy]))
    have hl := List.length_erase_of_mem hx
    have hp : 0 < k.length := List.length_pos_iff.2 fun e => by rw [e] at hx; simp at hx
    simp only [List.length_cons]; omega
theorem chk_zero {m : Mp} {s : Sp} (h : scan (swChk m s) 0 s.swept.length = 0) {k : Nat} {w : Sw} (hk : s.swept[k]? = some w) : s.runs.contains w.run = true ∧ swB (s.swept.take k) w.run = false ∧ freeB m s.runs (s.swept.take k) w.run = true := by
  have hkl := (List.getElem?_eq_some_iff.1 hk).1
  have h0 := scan_zero h k (by omega) (by omega)
  unfold swChk at h0
  rw [hk] at h0
  simp only at h0
  split at h0
  · rename_i c1
    split at h0
    · cases h0
    · rename_i c2
      split at h0
      · split at h0
        · cases h0
        · split at h0
          · rename_i c5; exact ⟨c1, by simpa using c2, c5⟩
          · cases h0
      · cases h0
  · cases h0
theorem right_zero {m : Mp} {s : Sp} (h : rightS m s = 0) : s.runs.length ≤ 64 ∧ runsS m s.runs = 0 ∧ scan (swChk m s) 0 s.swept.length = 0 := by
  unfold rightS at h
  split at h
  · cases h
  · rename_i c1
    split at h
    · rename_i c2; exact absurd h c2
    · rename_i c2
      split at h
      · exact ⟨by omega, by simpa using c2, h⟩
      · cases h
theorem swept_short {m : Mp} {s : Sp} (h : rightS m s = 0) : s.swept.length ≤ 64 := by
  obtain ⟨h1, _, h3⟩ := right_zero h
  have hp : (s.swept.map Sw.run).Pairwise (· ≠ ·) := by
    rw [List.pairwise_iff_getElem]
    intro i j hi hj hij
    simp only [List.length_map] at hi hj
    have hk : s.swept[j]? = some s.swept[j] := List.getElem?_eq_getElem hj
    have := (chk_zero h3 hk).2.1
    simp only [List.getElem_map]
    intro e
    have hin : swB (s.swept.take j) s.swept[j].run = true := by
      refine any_true (k := i) (a := s.swept[i]) ?_ (by simp [e])
      rw [List.getElem?_take_of_lt hij, List.getElem?_eq_getElem hi]
    rw [this] at hin; cases hin
  have := nodup_len hp fun x hx => by
    obtain ⟨w, hw, rfl⟩ := List.mem_map.1 hx
    obtain ⟨k, hk⟩ := List.getElem?_of_mem hw
    exact List.contains_iff_mem.1 (chk_zero h3 hk).1
  simp only [List.length_map] at this
  omega
def addS (s : Sp) (w : Sw) : Sp := ⟨s.runs, s.swept ++ [w], s.begun⟩
def doS (m : Mp) (s : Sp) (op : List Int) (w : Sw) : Sp := if op.contains w.run = true then ⟨[], [], 0⟩ else if rightS m (addS s w) = 0 then addS s w else ⟨[], [], 0⟩
def doE (m : Mp) (s : Sp) (op : List Int) (w : Sw) : Int := if op.contains w.run = true then 13 else rightS m (addS s w)
theorem f55 (l : List Int) (hl : l.length ≤ 1000) (K : List Vl → Prop) : FC F 55 [.v (.c (.ro 1 (l.map e1)))] K ↔ K [.c (.fresh 3 1 (l.map e1))] := by
  rw [fc_clone (K := K) F55]
  have : l.length ≤ lim := by simp only [lim]; omega
  simp [this]
theorem f57 (l : List Sw) (hl : l.length ≤ 1000) (K : List Vl → Prop) : FC F 57 [.v (.c (.ro 4 (l.map eSw)))] K ↔ K [.c (.fresh 39 4 (l.map eSw))] := by
  rw [fc_clone (K := K) F57]
  have : l.length ≤ lim := by simp only [lim]; omega
  simp [this]
set_option maxHeartbeats 4000000 in
theorem f21 (m : Mp) (s : Sp) (op : List Int) (w : Sw) (h : Okm m) (hr : s.runs.length ≤ 1000) (hw : s.swept.length < 1000) (ho : op.length ≤ 9223372036854775807) (K : List Vl → Prop) :
    FC F 21 [.v (.agg (eM m)), .v (.agg (eSp s)), .v (.c (.ro 1 (op.map e1))), .v (.agg (eSw w))] K ↔ K [.agg (eSp (doS m s op w)), .c (I (doE m s op w))] := by
  refine FC.rule ?_ K
  rw [fc_run F21]
  have h1 := f41 op w.run ho
  unfold doS doE
  by_cases c : op.contains w.run = true
  · rw [if_pos c, if_pos c]
    rw [c] at h1
    simp [b21, h1]
  · rw [if_neg c, if_neg c]
    have c' : op.contains w.run = false := by simpa using c
    rw [c'] at h1
    have h2 := f55 s.runs hr
    have h3 := f57 s.swept (by omega)
    have h4 := f13 m (addS s w) h ⟨by show s.runs.length ≤ _; omega, by simp [addS]; omega⟩
    have hlim : s.swept.length + 1 ≤ lim := by simp only [lim]; omega
    simp only [addS, eSp, List.map_append, List.map_cons, List.map_nil] at h4
    by_cases d : rightS m (addS s w) = 0
    · rw [if_pos d, d]
      simp only [addS] at d
      rw [d] at h4
      simp [b21, h1, h2, h3, h4, hlim, addS]
    · rw [if_neg d]
      simp only [addS] at d ⊢
      simp [b21, h1, h2, h3, h4, hlim, d]
set_option maxHeartbeats 4000000 in
theorem f22 (m : Mp) (s : Sp) (op : List Int) (w : Sw) (h : Okm m) (hr : s.runs.length ≤ 1000) (hw : s.swept.length < 1000) (ho : op.length ≤ 9223372036854775807) (K : List Vl → Prop) :
    FC F 22 [.v (.agg (eM m)), .v (.agg (eSp s)), .v (.c (.ro 1 (op.map e1))), .v (.agg (eSw w))] K ↔ K [.agg (eSp (doS m s op w)), .c (I (doE m s op w))] := by
  refine FC.rule ?_ K
  rw [fc_run F22]
  have h1 := f33 op w.run ho
  unfold doS doE
  by_cases c : op.contains w.run = true
  · rw [if_pos c, if_pos c]
    rw [c] at h1
    simp [b22, h1]
  · rw [if_neg c, if_neg c]
    have c' : op.contains w.run = false := by simpa using c
    rw [c'] at h1
    have h4 := f14 m (addS s w) h ⟨by show s.runs.length ≤ _; omega, by simp [addS]; omega⟩
    have hlim : s.swept.length + 1 ≤ lim := by simp only [lim]; omega
    have hlim1 : s.swept.length ≤ lim := by simp only [lim]; omega
    have hlim2 : s.runs.length ≤ lim := by simp only [lim]; omega
    simp only [addS, eSp, List.map_append, List.map_cons, List.map_nil] at h4
    by_cases d : rightS m (addS s w) = 0
    · rw [if_pos d, d]
      simp only [addS] at d
      rw [d] at h4
      simp [b22, h1, h4, hlim, hlim1, hlim2, addS]
    · rw [if_neg d]
      simp only [addS] at d ⊢
      simp [b22, h1, h4, hlim, hlim1, hlim2, d]
theorem f23 (s : Sp) (hs : Oks s) (K : List Vl → Prop) : FC F 23 [.v (.agg (eSp s)), .v (.agg (eSp s))] K ↔ K [.c (B true)] := by
  refine FC.rule ?_ K
  rw [fc_run F23]
  have h1 := f16 s.runs hs.r
  have hw0 := hs.w
  simp [b23, h1]
  refine run_loop (fun q t => ∃ k, k ≤ s.swept.length ∧ q = s.swept.length - k ∧ t.fr 2 = .ptr (0, 2) 0 ∧ t.fr 3 = .ptr (0, 3) 0 ∧ t.mu.box (0, 2) = some (eSp s) ∧ t.mu.box (0, 3) = some (eSp s) ∧ t.fr 5 = vI k) s.swept.length ⟨0, by omega, by omega, by simp, by simp, by simp, by simp, by simp⟩ ?_
  rintro J hJ q ⟨fr, μ⟩ ⟨k, hk, rfl, g2, g3, gm, gs, g5⟩
  simp only at g2 g3 gm gs g5
  by_cases hkl : k < s.swept.length
  · have hws := wrapS (n := k) (by omega)
    simp [g2, g3, gm, gs, g5, hkl, hws]
    exact ⟨s.swept.length - (k + 1), by omega, hJ _ _ ⟨k + 1, by omega, rfl, by simp [g2], by simp [g3], by simp [gm], by simp [gs], by simp⟩⟩
  · simp [g2, gm, g5, hkl]
def doneB (s : Sp) : Bool := !s.runs.any fun id => !swB s.swept id
theorem f59 (s : Sp) (id : Int) (hs : Oks s) (K : List Vl → Prop) : FC F 59 [vI id, .cptr (eSp s) 0] K ↔ K [.c (B (!swB s.swept id))] := by
  rw [fc_run F59]
  have h1 := f42 s.swept id hs.w
  simp [b59, h1]
theorem f24 (s : Sp) (hs : Oks s) (K : List Vl → Prop) : FC F 24 [.v (.agg (eSp s))] K ↔ K [.c (B (doneB s))] := by
  rw [fc_run F24]
  have h1 := f58 s.runs 59 [eSp s] (fun id => !swB s.swept id) (fun n K => f59 s n hs K) hs.r
  simp [b24, h1, doneB]
theorem f25 (s : Sp) (hs : Oks s) (K : List Vl → Prop) : FC F 25 [.v (.agg (eSp s))] K ↔ K [.c (B (doneB s))] := by
  refine FC.rule ?_ K
  rw [fc_run F25]
  have hr0 := hs.r
  simp [b25]
  refine run_loop (fun q t => ∃ k, k ≤ s.runs.length ∧ q = s.runs.length - k ∧ t.fr 1 = .ptr (0, 1) 0 ∧ t.mu.box (0, 1) = some (eSp s) ∧ t.fr 3 = vI k ∧ ∀ (j : Nat) x, j < k → s.runs[j]? = some x → (!swB s.swept x) = false) s.runs.length ⟨0, by omega, by omega, by simp, by simp, by simp, by simp⟩ ?_
  rintro J hJ q ⟨fr, μ⟩ ⟨k, hk, rfl, g1, gs, g3, hn⟩
  simp only at g1 gs g3
  by_cases hkl : k < s.runs.length
  · obtain ⟨x, hx⟩ : ∃ x, s.runs[k] = x := ⟨_, rfl⟩
    have hget : s.runs[k]? = some x := by rw [← hx]; exact List.getElem?_eq_getElem hkl
    have h1 := f47 s.swept x hs.w
    have hws := wrapS (n := k) (by omega)
    by_cases c : swB s.swept x = true
    · rw [c] at h1
      simp [g1, gs, g3, hkl, hx, h1, hws]
      exact ⟨s.runs.length - (k + 1), by omega, hJ _ _ ⟨k + 1, by omega, rfl, by simp [g1], by simp [gs], by simp, more_false hn hget (by simp [c])⟩⟩
    · have c' : swB s.swept x = false := by simpa using c
      rw [c'] at h1
      have : doneB s = false := by unfold doneB; rw [any_true hget (by simp [c'])]; rfl
      simp [g1, gs, g3, hkl, hx, h1, this]
  · have : doneB s = true := by unfold doneB; rw [any_false hn (by omega)]; rfl
    simp [g1, gs, g3, hkl, this]
def foundS (l : List Sw) (k : Nat) : Int := (l.take k).foldl (fun n w => IntKind.i64.wrap (n + w.found)) 0
theorem foundS_step {l : List Sw} {k : Nat} {w : Sw} (h : l[k]? = some w) : foundS l (k + 1) = IntKind.i64.wrap (foundS l k + w.found) := by
  have hk := List.getElem?_eq_some_iff.1 h
  unfold foundS
  rw [List.take_succ_eq_append_getElem hk.1, hk.2, List.foldl_append]
  rfl
theorem f26 (s : Sp) (hs : Oks s) (K : List Vl → Prop) : FC F 26 [.v (.agg (eSp s))] K ↔ K [.c (I (foundS s.swept s.swept.length))] := by
  refine FC.rule ?_ K
  rw [fc_run F26]
  have hr0 := hs.w
  simp [b26]
  refine run_loop (fun q t => ∃ k, k ≤ s.swept.length ∧ q = s.swept.length - k ∧ t.fr 3 = vI (foundS s.swept k) ∧ t.fr 7 = .v (.c (.ro 4 (s.swept.map eSw))) ∧ t.fr 8 = vI s.swept.length ∧ t.fr 9 = vI k) s.swept.length ⟨0, by omega, by omega, by simp [foundS], by simp, by simp, by simp⟩ ?_
  rintro J hJ q ⟨fr, μ⟩ ⟨k, hk, rfl, g3, g7, g8, g9⟩
  simp only at g3 g7 g8 g9
  by_cases hkl : k < s.swept.length
  · obtain ⟨x, hx⟩ : ∃ x, s.swept[k] = x := ⟨_, rfl⟩
    have hget : s.swept[k]? = some x := by rw [← hx]; exact List.getElem?_eq_getElem hkl
    have hf := foundS_step hget
    have hws := wrapS (n := k) (by omega)
    simp [g3, g7, g8, g9, hkl, hx, hws]
    exact ⟨s.swept.length - (k + 1), by omega, hJ _ _ ⟨k + 1, by omega, rfl, by simp [hf], by simp [g7], by simp [g8], by simp⟩⟩
  · have hke : k = s.swept.length := by omega
    subst hke
    simp [g3, g7, g8, g9]
theorem f27 (s : Sp) (hs : Oks s) (K : List Vl → Prop) : FC F 27 [.v (.agg (eSp s))] K ↔ K [.c (I (foundS s.swept s.swept.length))] := by
  refine FC.rule ?_ K
  rw [fc_run F27]
  have hr0 := hs.w
  simp [b27]
  refine run_loop (fun q t => ∃ k, k ≤ s.swept.length ∧ q = s.swept.length - k ∧ t.fr 3 = vI (foundS s.swept k) ∧ t.fr 1 = .ptr (0, 1) 0 ∧ t.mu.box (0, 1) = some (eSp s) ∧ t.fr 4 = vI k) s.swept.length ⟨0, by omega, by omega, by simp [foundS], by simp, by simp, by simp⟩ ?_
  rintro J hJ q ⟨fr, μ⟩ ⟨k, hk, rfl, g3, g1, gs, g4⟩
  simp only at g3 g1 gs g4
  by_cases hkl : k < s.swept.length
  · obtain ⟨x, hx⟩ : ∃ x, s.swept[k] = x := ⟨_, rfl⟩
    have hget : s.swept[k]? = some x := by rw [← hx]; exact List.getElem?_eq_getElem hkl
    have hf := foundS_step hget
    have hws := wrapS (n := k) (by omega)
    simp [g3, g1, gs, g4, hkl, hx, hws]
    exact ⟨s.swept.length - (k + 1), by omega, hJ _ _ ⟨k + 1, by omega, rfl, by simp [hf], by simp [g1], by simp [gs], by simp⟩⟩
  · have hke : k = s.swept.length := by omega
    subst hke
    simp [g3, g1, gs, g4]
theorem f15 (m : Mp) (s : Sp) (h : Okm m) (hs : Oks s) (K : List Vl → Prop) : FC F 15 [.v (.agg (eM m)), .v (.agg (eSp s))] K ↔ K [.c (B (rightE m == 0 && rightS m s == 0))] := by
  rw [fc_run F15]
  have h1 := f12 m h
  have h2 := f14 m s h hs
  by_cases c : rightE m = 0
  · simp [b15, h1, h2, c]
  · have c' : (rightE m == 0) = false := by simpa using c
    simp [b15, h1, c']
theorem oks_do {m : Mp} {s : Sp} {op : List Int} {w : Sw} (hr : s.runs.length ≤ 1000) (hw : s.swept.length < 1000) : Oks (doS m s op w) := by
  unfold doS
  split
  · exact ⟨by simp, by simp⟩
  · split
    · exact ⟨by show s.runs.length ≤ _; omega, by simp [addS]; omega⟩
    · exact ⟨by simp, by simp⟩
set_option maxHeartbeats 4000000 in
theorem f5 (m : Mp) (s : Sp) (op : List Int) (w : Sw) (h : Okm m) (hs : Oks s) (ho : op.length ≤ 9223372036854775807) (K : List Vl → Prop) :
    FC F 5 [.v (.agg (eM m)), .v (.agg (eSp s)), .v (.c (.ro 1 (op.map e1))), .v (.agg (eSw w))] K ↔ K [.c (B true)] := by
  rw [fc_run F5]
  have h1 := f15 m s h hs
  by_cases c : (rightE m == 0 && rightS m s == 0) = true
  case neg =>
    have c' : (rightE m == 0 && rightS m s == 0) = false := by simpa using c
    rw [c'] at h1
    simp [b5, f11, h1]
  rw [c] at h1
  simp only [Bool.and_eq_true, beq_iff_eq] at c
  have hr := (right_zero c.2).1
  have hw := swept_short c.2
  by_cases co : (80 : Int) < op.length
  · simp [b5, f11, h1, co]
  have h2 := f21 m s op w h (by omega) (by omega) ho
  have h3 := f22 m s op w h (by omega) (by omega) ho
  have h4 := f23 (doS m s op w) (oks_do (by omega) (by omega))
  have h5 := f24 s hs
  have h6 := f25 s hs
  have h7 := f26 s hs
  have h8 := f27 s hs
  generalize doS m s op w = x at h2 h3 h4
  simp [b5, f11, h1, co, h2, h3, h4, h5, h6, h7, h8]
theorem open_sw {x : FV} (h : FitA (true, [ti, ti, ti, ti]) x) : ∃ w, x = .v (.agg (eSw w)) := by
  cases x with
  | v x =>
    cases x with
    | c x => exact h.elim
    | agg cs =>
      obtain ⟨hl, hf⟩ := h
      match cs, hl with
      | [c1, c2, c3, c4], _ =>
        obtain ⟨x1, rfl, _⟩ := fit_int (hf 0 _ c1 rfl rfl)
        obtain ⟨x2, rfl, _⟩ := fit_int (hf 1 _ c2 rfl rfl)
        obtain ⟨x3, rfl, _⟩ := fit_int (hf 2 _ c3 rfl rfl)
        obtain ⟨x4, rfl, _⟩ := fit_int (hf 3 _ c4 rfl rfl)
        exact ⟨⟨x1, x2, x3, x4⟩, rfl⟩
  | _ => exact h.elim
theorem law5 (xs : List FV) (h : FitAll [tyM, tyS, (false, [.s [ti]]), (true, [ti, ti, ti, ti])] xs) : FC F 5 xs (· = [.c (B true)]) := by
  match xs, h with
  | [x, y, z, u], ⟨hx, hy, hz, hu, _⟩ =>
    obtain ⟨m, rfl, hm, _⟩ := open_map hx
    obtain ⟨s, rfl, hs, _⟩ := open_sweep hy
    obtain ⟨l, rfl, hl, _⟩ := open_ints hz
    obtain ⟨w, rfl⟩ := open_sw hu
    exact (f5 m s l w hm hs hl _).2 rfl
end Go.Proofs.Ytephpcoffonjfaa.Am
