/- Sweep: exactly the runs of Next can be swept; the law SweepNext over the abstract machine. No condition. -/
import Derived.Test.YtephpcoffonjfaaSM
namespace Go.Proofs.Ytephpcoffonjfaa.Am
open Go

theorem scan_succ {f : Nat → Int} : ∀ {n k : Nat}, scan f k (n + 1) = if scan f k n ≠ 0 then scan f k n else f (k + n)
  | 0, k => by by_cases h : f k = 0 <;> simp [scan, h]
  | n + 1, k => by
    have ih := scan_succ (f := f) (n := n) (k := k + 1)
    rw [show scan f k (n + 1 + 1) = if f k ≠ 0 then f k else scan f (k + 1) (n + 1) from rfl, show scan f k (n + 1) = if f k ≠ 0 then f k else scan f (k + 1) n from rfl, ih]
    by_cases h : f k = 0
    · simp [h, show k + 1 + n = k + (n + 1) by omega]
    · simp [h]
theorem chk_add {m : Mp} {s : Sp} {w : Sw} {j : Nat} (h : j < s.swept.length) : swChk m (addS s w) j = swChk m s j := by
  have e1 : (s.swept ++ [w])[j]? = s.swept[j]? := List.getElem?_append_left h
  have e2 : (s.swept ++ [w]).take j = s.swept.take j := List.take_append_of_le_length (by omega)
  have e3 : prevAt (addS s w) j = prevAt s j := by
    unfold prevAt addS
    simp only
    rw [List.getElem?_append_left (by omega)]
  unfold swChk
  simp only [e3]
  simp only [addS, e1, e2]
theorem right_begun {m : Mp} {s : Sp} (h : rightS m s = 0) : inn s.begun 0 20000000 = true := by
  unfold rightS at h
  split at h
  · cases h
  · split at h
    · rename_i c2; exact absurd h c2
    · split at h
      · assumption
      · cases h
theorem next_iff {m : Mp} {s : Sp} {w : Sw} (h : rightS m s = 0) (h1 : (inn w.who 1 9999 && inn w.found 0 1000 && inn w.at_ s.begun 20000000) = true) (h2 : ¬ (0 < s.swept.length ∧ w.at_ < prevAt s s.swept.length)) :
    rightS m (addS s w) = 0 ↔ (nextL m s.runs s.swept).contains w.run = true := by
  obtain ⟨r1, r2, r3⟩ := right_zero h
  have r4 := right_begun h
  have hlast : prevAt (addS s w) s.swept.length = prevAt s s.swept.length ∨ s.swept.length = 0 := by
    by_cases h0 : s.swept.length = 0
    · exact .inr h0
    · left
      unfold prevAt addS
      simp only
      rw [List.getElem?_append_left (by omega)]
  have e1 : (s.swept ++ [w])[s.swept.length]? = some w := by simp
  have e2 : (s.swept ++ [w]).take s.swept.length = s.swept := by simp
  have hchk : swChk m (addS s w) s.swept.length = if s.runs.contains w.run = true then (if swB s.swept w.run = true then 7 else if freeB m s.runs s.swept w.run = true then 0 else 11) else 8 := by
    unfold swChk
    have h2' : ¬ (0 < s.swept.length ∧ w.at_ < prevAt (addS s w) s.swept.length) := by
      rcases hlast with hl | hl
      · rw [hl]; exact h2
      · rw [hl]; simp
    have hA : (addS s w).swept[s.swept.length]? = some w := e1
    have hB : (addS s w).swept.take s.swept.length = s.swept := e2
    have hC : (addS s w).runs = s.runs := rfl
    have hD : (addS s w).begun = s.begun := rfl
    rw [hA]
    simp only [hB, hC, hD, h2', h1, if_true, if_false]
  have hR : rightS m (addS s w) = swChk m (addS s w) s.swept.length := by
    have hs : scan (swChk m (addS s w)) 0 (s.swept.length + 1) = swChk m (addS s w) s.swept.length := by
      rw [scan_succ, scan_congr (g := swChk m s) fun j _ hj => chk_add (by omega), r3]
      simp
    have hl : (addS s w).swept.length = s.swept.length + 1 := by simp [addS]
    unfold rightS
    rw [hl, hs]
    have a1 : ¬ (64 < (addS s w).runs.length) := by show ¬ (64 < s.runs.length); omega
    have a2 : runsS m (addS s w).runs = 0 := r2
    have a3 : inn (addS s w).begun 0 20000000 = true := r4
    rw [if_neg a1, if_neg (by rw [a2]; simp), if_pos a3]
  have hmem : (nextL m s.runs s.swept).contains w.run = true ↔ w.run ∈ nextL m s.runs s.swept := List.contains_iff_mem
  rw [hR, hchk, hmem]
  unfold nextL
  rw [List.mem_filter]
  by_cases c1 : s.runs.contains w.run = true
  · have c1' := List.contains_iff_mem.1 c1
    rw [if_pos c1]
    by_cases c2 : swB s.swept w.run = true
    · simp [c2]
    · have c2' : swB s.swept w.run = false := by simpa using c2
      by_cases c3 : freeB m s.runs s.swept w.run = true
      · simp [c2', c3, c1']
      · have c3' : freeB m s.runs s.swept w.run = false := by simpa using c3
        simp [c2', c3']
  · have c1' : ¬ w.run ∈ s.runs := fun h => c1 (List.contains_iff_mem.2 h)
    rw [if_neg c1]
    simp [c1']
theorem next_gone {m : Mp} {runs : List Int} {l : List Sw} {w : Sw} : (nextL m runs (l ++ [w])).contains w.run = false := by
  cases h : (nextL m runs (l ++ [w])).contains w.run with
  | false => rfl
  | true =>
    have := List.contains_iff_mem.1 h
    unfold nextL at this
    have h2 := (List.mem_filter.1 this).2
    simp [swB] at h2
theorem found_add {s : Sp} {w : Sw} : foundS (s.swept ++ [w]) (s.swept.length + 1) = IntKind.i64.wrap (foundS s.swept s.swept.length + w.found) := by
  unfold foundS
  rw [List.take_of_length_le (by simp), List.take_length, List.foldl_append]
  rfl
set_option maxHeartbeats 8000000 in
theorem f10 (m : Mp) (s : Sp) (w : Sw) (h : Okm m) (hs : Oks s) (K : List Vl → Prop) :
    FC F 10 [.v (.agg (eM m)), .v (.agg (eSp s)), .v (.agg (eSw w))] K ↔ K [.c (B true)] := by
  refine FC.rule ?_ K
  rw [fc_run F10]
  have h1 := f12 m h
  have h2 := f13 m s h hs
  by_cases c1 : rightE m = 0
  case neg => simp [b10, f11, h1, c1]
  rw [c1] at h1
  by_cases c2 : rightS m s = 0
  case neg => simp [b10, f11, h1, h2, c2]
  rw [c2] at h2
  by_cases y1 : w.who < 1
  case pos => simp [b10, f11, h1, h2, y1]
  by_cases y2 : 9999 < w.who
  case pos => simp [b10, f11, h1, h2, y1, y2]
  by_cases y3 : w.found < 0
  case pos => simp [b10, f11, h1, h2, y1, y2, y3]
  by_cases y4 : 1000 < w.found
  case pos => simp [b10, f11, h1, h2, y1, y2, y3, y4]
  by_cases y5 : w.at_ < s.begun
  case pos => simp [b10, f11, h1, h2, y1, y2, y3, y4, y5]
  by_cases y6 : 20000000 < w.at_
  case pos => simp [b10, f11, h1, h2, y1, y2, y3, y4, y5, y6]
  have hin : (inn w.who 1 9999 && inn w.found 0 1000 && inn w.at_ s.begun 20000000) = true := by
    simp only [inn, Bool.and_eq_true, decide_eq_true_eq]; omega
  obtain ⟨hr, hz, _⟩ := right_zero c2
  have hall := runs_has (runsS_zero hz).1
  have hw := swept_short c2
  have q1 := f21 m s [] w h (by omega) (by omega) (by simp)
  simp only [List.map_nil] at q1
  have q2 := f19 m s h hs hr hall
  have hnl := nextL_len (m := m) (runs := s.runs) (l := s.swept)
  have q3 := f33 (nextL m s.runs s.swept) w.run (by omega)
  have hoks : Oks (addS s w) := ⟨by show s.runs.length ≤ _; omega, by simp [addS]; omega⟩
  have q4 := f13 m (addS s w) h hoks
  have q5 := f19 m (addS s w) h hoks hr hall
  have hnl2 := nextL_len (m := m) (runs := s.runs) (l := s.swept ++ [w])
  have q6 := f33 (nextL m s.runs (s.swept ++ [w])) w.run (by omega)
  rw [next_gone] at q6
  have q7 := f26 (addS s w) hoks
  have q8 := f26 s hs
  have e7 : foundS (addS s w).swept (addS s w).swept.length = IntKind.i64.wrap (foundS s.swept s.swept.length + w.found) := by
    have : (addS s w).swept.length = s.swept.length + 1 := by simp [addS]
    rw [this]; exact found_add
  rw [e7] at q7
  have hws := wrapS (n := s.swept.length) (by omega)
  have hdo : doE m s [] w = rightS m (addS s w) := by simp [doE]
  have hds : doS m s [] w = if rightS m (addS s w) = 0 then addS s w else ⟨[], [], 0⟩ := by simp [doS]
  rw [hdo, hds] at q1
  by_cases n0 : s.swept = []
  · have hni := next_iff c2 hin (by simp [n0])
    simp only [eSp, n0, List.map_nil] at h2
    by_cases d : rightS m (addS s w) = 0
    · rw [hni.1 d] at q3
      rw [d] at q1 q4
      simp only [if_true] at q1
      simp only [addS, eSp, n0, List.nil_append, List.map_nil, List.map_cons] at q1 q2 q3 q4 q5 q6 q7 q8
      simp [b10, f11, h1, h2, y1, y2, y3, y4, y5, y6, n0, q1, q2, q3, q4, q5, q6, q7, q8, wrap1]
    · have d' : (nextL m s.runs s.swept).contains w.run = false := by
        cases hb : (nextL m s.runs s.swept).contains w.run with
        | false => rfl
        | true => exact absurd (hni.2 hb) d
      rw [d'] at q3
      rw [if_neg d] at q1
      simp only [eSp, n0, List.map_nil] at q1 q2 q3
      have hd1 : (rightS m (addS s w) != 0) = true := by simp [d]
      have hd2 : (rightS m (addS s w) == 0) = false := by simp [d]
      generalize rightS m (addS s w) = E at q1 d hd1 hd2
      simp [b10, f11, h1, h2, y1, y2, y3, y4, y5, y6, n0, q1, q2, q3, hd1, hd2]
  · obtain ⟨j, hj⟩ : ∃ j, s.swept.length = j + 1 := ⟨s.swept.length - 1, by have := List.length_pos_iff.2 n0; omega⟩
    have hjl : j < s.swept.length := by omega
    obtain ⟨y, hy⟩ : ∃ y, s.swept[j] = y := ⟨_, rfl⟩
    have hget : s.swept[j]? = some y := by rw [← hy]; exact List.getElem?_eq_getElem hjl
    have hpv : prevAt s s.swept.length = y.at_ := by rw [hj]; simp [prevAt, hget]
    have hw2 := wrapJ (j := j) (by omega)
    have hpos : (0 : Int) < (j : Int) + 1 := by omega
    have hpos2 : 0 < s.swept.length := by omega
    have hw3 : IntKind.i64.wrap ((j : Int) + 1 + 1) = (j : Int) + 1 + 1 := wrap64 ⟨by omega, by omega⟩
    have hjl' : j < j + 1 := by omega
    by_cases y7 : w.at_ < y.at_
    · simp [b10, f11, h1, h2, y1, y2, y3, y4, y5, y6, hj, hpos, hw2, hy, y7]
    have hni := next_iff c2 hin (by rw [hpv]; omega)
    by_cases d : rightS m (addS s w) = 0
    · rw [hni.1 d] at q3
      rw [d] at q1 q4
      simp only [if_true] at q1
      simp only [addS, eSp, List.map_append, List.map_cons, List.map_nil] at q1 q4 q5 q6 q7
      rw [hj] at q8 q7
      simp [b10, f11, h1, h2, y1, y2, y3, y4, y5, y6, hj, hpos, hw2, hw3, hy, y7, q1, q2, q3, q4, q5, q6, q7, q8]
    · have d' : (nextL m s.runs s.swept).contains w.run = false := by
        cases hb : (nextL m s.runs s.swept).contains w.run with
        | false => rfl
        | true => exact absurd (hni.2 hb) d
      rw [d'] at q3
      rw [if_neg d] at q1
      have hd1 : (rightS m (addS s w) != 0) = true := by simp [d]
      have hd2 : (rightS m (addS s w) == 0) = false := by simp [d]
      generalize rightS m (addS s w) = E at q1 d hd1 hd2
      simp [b10, f11, h1, h2, y1, y2, y3, y4, y5, y6, hj, hpos, hw2, hy, y7, q1, q2, q3, hd1, hd2]
theorem law10 (xs : List FV) (h : FitAll [tyM, tyS, (true, [ti, ti, ti, ti])] xs) : FC F 10 xs (· = [.c (B true)]) := by
  match xs, h with
  | [x, y, z], ⟨hx, hy, hz, _⟩ =>
    obtain ⟨m, rfl, hm, _⟩ := open_map hx
    obtain ⟨s, rfl, hs, _⟩ := open_sweep hy
    obtain ⟨w, rfl⟩ := open_sw hz
    exact (f10 m s w hm hs _).2 rfl
end Go.Proofs.Ytephpcoffonjfaa.Am
