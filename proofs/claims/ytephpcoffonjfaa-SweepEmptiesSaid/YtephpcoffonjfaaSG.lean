/- Sweep: the program's check of a sweep; the law SweepChecks over the abstract machine. No condition. -/
import Derived.Test.YtephpcoffonjfaaSF
namespace Go.Proofs.Ytephpcoffonjfaa.Am
open Go

theorem runsS_zero {m : Mp} {l : List Int} (h : runsS m l = 0) : scan (ph1 m l) 0 l.length = 0 ∧ scan (ph2 m l) 0 l.length = 0 := by
  unfold runsS at h
  split at h
  · rename_i h1; exact absurd h h1
  · rename_i h1; exact ⟨by simpa using h1, h⟩
set_option maxHeartbeats 8000000 in
theorem f13 (m : Mp) (s : Sp) (h : Okm m) (hs : Oks s) (K : List Vl → Prop) : FC F 13 [.v (.agg (eM m)), .v (.agg (eSp s))] K ↔ K [.c (I (rightS m s))] := by
  refine FC.rule ?_ K
  rw [fc_run F13]
  have hr := f40 m s.runs h hs.r
  by_cases hlong : 64 < s.runs.length
  case pos =>
    rw [if_pos hlong] at hr
    simp [b13, hr, hlong, rightS]
  rw [if_neg hlong] at hr
  by_cases c0 : runsS m s.runs = 0
  case neg => simp [b13, hr, c0, rightS, hlong]
  have hall := runs_has (runsS_zero c0).1
  by_cases c1 : inn s.begun 0 20000000 = true
  case neg =>
    have hR : rightS m s = 2 := by simp [rightS, hlong, c0, c1]
    rw [hR]
    by_cases z1 : s.begun < 0
    · simp [b13, hr, c0, z1]
    · have z2 : 20000000 < s.begun := by simp only [inn, Bool.and_eq_true, decide_eq_true_eq] at c1; omega
      simp [b13, hr, c0, z1, z2]
  have hR : rightS m s = scan (swChk m s) 0 s.swept.length := by simp [rightS, hlong, c0, c1]
  rw [hR]
  have z1 : ¬ s.begun < 0 := by simp only [inn, Bool.and_eq_true, decide_eq_true_eq] at c1; omega
  have z2 : ¬ 20000000 < s.begun := by simp only [inn, Bool.and_eq_true, decide_eq_true_eq] at c1; omega
  simp [b13, hr, c0, z1, z2]
  refine run_loop (fun q t => ∃ k, k ≤ s.swept.length ∧ q = s.swept.length - k ∧ t.fr 2 = .ptr (0, 2) 0 ∧ t.fr 3 = .ptr (0, 3) 0 ∧ t.mu.box (0, 2) = some (eM m) ∧ t.mu.box (0, 3) = some (eSp s) ∧ t.fr 25 = .v (.c (.ro 4 (s.swept.map eSw))) ∧ t.fr 26 = vI s.swept.length ∧ t.fr 27 = vI k ∧ scan (swChk m s) 0 s.swept.length = scan (swChk m s) k (s.swept.length - k)) s.swept.length ⟨0, by omega, by omega, by simp, by simp, by simp, by simp, by simp, by simp, by simp, rfl⟩ ?_
  rintro J hJ q ⟨fr, μ⟩ ⟨k, hk, rfl, g2, g3, gm, gs, g25, g26, g6, hn⟩
  simp only at g2 g3 gm gs g25 g26 g6
  have hw0 := hs.w
  by_cases hkl : k < s.swept.length
  case neg =>
    rw [scan_end hkl] at hn
    simp [g25, g26, g6, hkl, hn]
  obtain ⟨w, hw⟩ : ∃ w, s.swept[k] = w := ⟨_, rfl⟩
  have hget : s.swept[k]? = some w := by rw [← hw]; exact List.getElem?_eq_getElem hkl
  rw [scan_step hkl] at hn
  have hlt : (s.swept.take k).length ≤ 9223372036854775807 := by simp; omega
  have hkle : k ≤ s.swept.length := by omega
  have q1 := f41 s.runs w.run hs.r
  have q2 := f42 (s.swept.take k) w.run hlt
  have q3 := f43 m s.runs w.run 44 [[.ro 4 ((s.swept.take k).map eSw)]] (swB (s.swept.take k)) h (fun n K => f44 (s.swept.take k) n hlt K) hs.r
  simp only [List.map_take] at q2 q3
  have hws := wrapS (n := k) (by omega)
  have fact : ∀ e, swChk m s k = e → e ≠ 0 → scan (swChk m s) 0 s.swept.length = e := fun e he h0 => by rw [hn, he, if_pos h0]
  have next : swChk m s k = 0 → scan (swChk m s) 0 s.swept.length = scan (swChk m s) (k + 1) (s.swept.length - (k + 1)) := fun he => by rw [hn, he]; rfl
  clear hn
  by_cases d1 : s.runs.contains w.run = true
  case neg =>
    have d1' : s.runs.contains w.run = false := by simpa using d1
    rw [fact 8 (by unfold swChk; rw [hget]; simp only [d1']; simp) (by omega)]
    rw [d1'] at q1
    simp [g3, gs, g25, g26, g6, hkl, hkle, hw, q1]
  rw [d1] at q1
  have hrf : readyB m s.runs w.run (swB (s.swept.take k)) = freeB m s.runs (s.swept.take k) w.run := ready_free hall (hall w.run (List.contains_iff_mem.1 d1))
  rw [hrf] at q3
  by_cases d2 : swB (s.swept.take k) w.run = true
  case pos =>
    rw [fact 7 (by unfold swChk; rw [hget]; simp only [d1, d2]; simp) (by omega)]
    rw [d2] at q2
    simp [g3, gs, g25, g26, g6, hkl, hkle, hw, q1, q2]
  have d2' : swB (s.swept.take k) w.run = false := by simpa using d2
  rw [d2'] at q2
  by_cases d3 : (inn w.who 1 9999 && inn w.found 0 1000 && inn w.at_ s.begun 20000000) = true
  case neg =>
    rw [fact 2 (by unfold swChk; rw [hget]; simp only [d1, d2', d3]; simp) (by omega)]
    by_cases y1 : w.who < 1
    case pos =>
      simp [-run_pick, g3, gs, g25, g26, g6, hkl, hkle, hw, q1, q2, y1]
      simp [-run_cond]
      rw [run_cond]
      simp only [opd_t, put_some]
      simp only [reduceIte, Nat.reduceEqDiff, test_val]
      simp
    by_cases y2 : 9999 < w.who
    case pos =>
      simp [-run_pick, g3, gs, g25, g26, g6, hkl, hkle, hw, q1, q2, y1, y2]
      simp [-run_cond]
      rw [run_cond]
      simp only [opd_t, put_some]
      simp only [reduceIte, Nat.reduceEqDiff, test_val]
      simp
    by_cases y3 : w.found < 0
    case pos =>
      simp [-run_pick, g3, gs, g25, g26, g6, hkl, hkle, hw, q1, q2, y1, y2]
      simp [-run_cond, y3]
      rw [run_cond]
      simp only [opd_t, put_some]
      simp only [reduceIte, Nat.reduceEqDiff, test_val]
      simp
    by_cases y4 : 1000 < w.found
    case pos =>
      simp [-run_pick, g3, gs, g25, g26, g6, hkl, hkle, hw, q1, q2, y1, y2]
      simp [-run_cond, y3, y4]
      rw [run_cond]
      simp only [opd_t, put_some]
      simp only [reduceIte, Nat.reduceEqDiff, test_val]
      simp
    by_cases y5 : w.at_ < s.begun
    case pos =>
      simp [-run_pick, g3, gs, g25, g26, g6, hkl, hkle, hw, q1, q2, y1, y2]
      simp [-run_cond, g3, gs, y3, y4, y5]
      rw [run_cond]
      simp only [opd_t, put_some]
      simp only [reduceIte, Nat.reduceEqDiff, test_val]
      simp
    by_cases y6 : 20000000 < w.at_
    case pos =>
      simp [-run_pick, g3, gs, g25, g26, g6, hkl, hkle, hw, q1, q2, y1, y2]
      simp [-run_cond, g3, gs, y3, y4, y5, y6]
      rw [run_cond]
      simp only [opd_t, put_some]
      simp only [reduceIte, Nat.reduceEqDiff, test_val]
      simp
    exact absurd d3 (by simp only [inn, Bool.and_eq_true, decide_eq_true_eq]; omega)

  have d3' := d3
  simp only [inn, Bool.and_eq_true, decide_eq_true_eq] at d3
  have y1 : ¬ (w.who < 1) := by omega
  have y2 : ¬ (9999 < w.who) := by omega
  have y3 : ¬ (w.found < 0) := by omega
  have y4 : ¬ (1000 < w.found) := by omega
  have y5 : ¬ (w.at_ < s.begun) := by omega
  have y6 : ¬ (20000000 < w.at_) := by omega
  clear d3
  cases k with
  | zero =>
    by_cases d5 : freeB m s.runs (s.swept.take 0) w.run = true
    · have hz : swChk m s 0 = 0 := by unfold swChk; rw [hget]; simp only [d1, d2', d3', d5]; simp
      have hn := next hz
      rw [d5] at q3
      simp at q2 q3
      simp [g2, g3, gm, gs, g25, g26, g6, hkl, hw, q1, q2, q3, y1, y2, y3, y4, y5, y6]
      exact ⟨s.swept.length - 1, by omega, hJ _ _ ⟨1, by omega, rfl, by simp [g2], by simp [g3], by simp [gm], by simp [gs], by simp [g25], by simp [g26], by simp [wrap1], hn⟩⟩
    · have d5' : freeB m s.runs (s.swept.take 0) w.run = false := by simpa using d5
      rw [fact 11 (by unfold swChk; rw [hget]; simp only [d1, d2', d3', d5']; simp) (by omega)]
      rw [d5'] at q3
      simp at q2 q3
      simp [g2, g3, gm, gs, g25, g26, g6, hkl, hw, q1, q2, q3, y1, y2, y3, y4, y5, y6]
  | succ j =>
    obtain ⟨y, hy⟩ : ∃ n, s.swept[j]'(by omega) = n := ⟨_, rfl⟩
    have hget2 : s.swept[j]? = some y := by rw [← hy]; exact List.getElem?_eq_getElem _
    have hpv : prevAt s (j + 1) = y.at_ := by simp [prevAt, hget2]
    have hpos : (0 : Int) < (j : Int) + 1 := by omega
    have hjl : j < s.swept.length := by omega
    have hI : (j : Int) + 1 < s.swept.length := by omega
    have h0I : (0 : Int) ≤ (j : Int) + 1 := by omega
    have hw2 := wrapJ (j := j) (by omega)
    have hw3 : IntKind.i64.wrap ((j : Int) + 1 + 1) = (j : Int) + 1 + 1 := wrap64 ⟨by omega, by omega⟩
    by_cases d4 : w.at_ < y.at_
    · rw [fact 11 (by unfold swChk; rw [hget]; simp only [d1, d2', d3', hpv, d4]; simp) (by omega)]
      simp [g3, gs, g25, g26, g6, hkl, hkle, hw, q1, q2, y1, y2, y3, y4, y5, y6, hpos, hjl, hI, h0I, hw2, hy, d4]
    · by_cases d5 : freeB m s.runs (s.swept.take (j + 1)) w.run = true
      · have hz : swChk m s (j + 1) = 0 := by unfold swChk; rw [hget]; simp only [d1, d2', d3', hpv, d4, d5]; simp
        have hn := next hz
        rw [d5] at q3
        simp [g2, g3, gm, gs, g25, g26, g6, hkl, hkle, hw, q1, q2, q3, y1, y2, y3, y4, y5, y6, hpos, hjl, hI, h0I, hw2, hy, d4, hw3]
        exact ⟨s.swept.length - (j + 1 + 1), by omega, hJ _ _ ⟨j + 1 + 1, by omega, rfl, by simp [g2], by simp [g3], by simp [gm], by simp [gs], by simp [g25], by simp [g26], by simp, hn⟩⟩
      · have d5' : freeB m s.runs (s.swept.take (j + 1)) w.run = false := by simpa using d5
        rw [fact 11 (by unfold swChk; rw [hget]; simp only [d1, d2', d3', hpv, d4, d5']; simp) (by omega)]
        rw [d5'] at q3
        simp [g2, g3, gm, gs, g25, g26, g6, hkl, hkle, hw, q1, q2, q3, y1, y2, y3, y4, y5, y6, hpos, hjl, hI, h0I, hw2, hy, d4]
end Go.Proofs.Ytephpcoffonjfaa.Am
