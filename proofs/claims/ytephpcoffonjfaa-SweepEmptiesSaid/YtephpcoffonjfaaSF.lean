/- Sweep: the check of a sweep; the law SweepChecks over the abstract machine. No condition. -/
import Derived.Test.YtephpcoffonjfaaSE
namespace Go.Proofs.Ytephpcoffonjfaa.Am
open Go

def prevAt (s : Sp) (k : Nat) : Int := ((s.swept[k - 1]?).map Sw.at_).getD 0
def swChk (m : Mp) (s : Sp) (k : Nat) : Int :=
  match s.swept[k]? with
  | none => 0
  | some w =>
    if s.runs.contains w.run = true then
      (if swB (s.swept.take k) w.run = true then 7
      else if (inn w.who 1 9999 && inn w.found 0 1000 && inn w.at_ s.begun 20000000) = true then
        (if 0 < k ∧ w.at_ < prevAt s k then 11 else if freeB m s.runs (s.swept.take k) w.run = true then 0 else 11)
      else 2)
    else 8
def rightS (m : Mp) (s : Sp) : Int := if 64 < s.runs.length then 4 else if runsS m s.runs ≠ 0 then runsS m s.runs else if inn s.begun 0 20000000 = true then scan (swChk m s) 0 s.swept.length else 2
structure Oks (s : Sp) : Prop where
  r : s.runs.length ≤ 9223372036854775807
  w : s.swept.length ≤ 9223372036854775807
set_option maxHeartbeats 8000000 in
theorem f14 (m : Mp) (s : Sp) (h : Okm m) (hs : Oks s) (K : List Vl → Prop) : FC F 14 [.v (.agg (eM m)), .v (.agg (eSp s))] K ↔ K [.c (I (rightS m s))] := by
  refine FC.rule ?_ K
  rw [fc_run F14]
  by_cases hlong : 64 < s.runs.length
  case pos =>
    have e1 : (64 : Int) < s.runs.length := by omega
    simp [b14, e1, hlong, rightS]
  have e1 : ¬ ((64 : Int) < s.runs.length) := by omega
  have hr := f45 m s.runs h hs.r
  by_cases c0 : runsS m s.runs = 0
  case neg => simp [b14, e1, hr, c0, rightS, hlong]
  have hb0 := f46 s.begun 0 20000000
  by_cases c1 : inn s.begun 0 20000000 = true
  case neg =>
    have c1' : inn s.begun 0 20000000 = false := by simpa using c1
    simp [b14, e1, hr, c0, hb0, c1', rightS, hlong]
  have hR : rightS m s = scan (swChk m s) 0 s.swept.length := by simp [rightS, hlong, c0, c1]
  rw [hR]
  simp [b14, e1, hr, c0, hb0, c1]
  refine run_loop (fun q t => ∃ k, k ≤ s.swept.length ∧ q = s.swept.length - k ∧ t.fr 2 = .ptr (0, 2) 0 ∧ t.fr 3 = .ptr (0, 3) 0 ∧ t.mu.box (0, 2) = some (eM m) ∧ t.mu.box (0, 3) = some (eSp s) ∧ t.fr 6 = vI k ∧ scan (swChk m s) 0 s.swept.length = scan (swChk m s) k (s.swept.length - k)) s.swept.length ⟨0, by omega, by omega, by simp, by simp, by simp, by simp, by simp, rfl⟩ ?_
  rintro J hJ q ⟨fr, μ⟩ ⟨k, hk, rfl, g2, g3, gm, gs, g6, hn⟩
  simp only at g2 g3 gm gs g6
  have hw0 := hs.w
  by_cases hkl : k < s.swept.length
  case neg =>
    rw [scan_end hkl] at hn
    simp [g3, gs, g6, hkl, hn]
  obtain ⟨w, hw⟩ : ∃ w, s.swept[k] = w := ⟨_, rfl⟩
  have hget : s.swept[k]? = some w := by rw [← hw]; exact List.getElem?_eq_getElem hkl
  rw [scan_step hkl] at hn
  have hlt : (s.swept.take k).length ≤ 9223372036854775807 := by simp; omega
  have hkle : k ≤ s.swept.length := by omega
  have q1 := f33 s.runs w.run hs.r
  have q2 := f47 (s.swept.take k) w.run hlt
  have q3 := f48 m s.runs (s.swept.take k) w.run h hs.r hlt
  have q4 := f46 w.who 1 9999
  have q5 := f46 w.found 0 1000
  have q6 := f46 w.at_ s.begun 20000000
  simp only [List.map_take] at q2 q3
  have hws := wrapS (n := k) (by omega)
  have fact : ∀ e, swChk m s k = e → e ≠ 0 → scan (swChk m s) 0 s.swept.length = e := fun e he h0 => by rw [hn, he, if_pos h0]
  have next : swChk m s k = 0 → scan (swChk m s) 0 s.swept.length = scan (swChk m s) (k + 1) (s.swept.length - (k + 1)) := fun he => by rw [hn, he]; rfl
  clear hn
  by_cases d1 : s.runs.contains w.run = true
  case neg =>
    have d1' : s.runs.contains w.run = false := by simpa using d1
    rw [fact 8 (by unfold swChk; rw [hget]; simp only [d1']; simp) (by omega)]
    rw [d1'] at q1
    simp [g3, gs, g6, hkl, hw, q1]
  rw [d1] at q1
  by_cases d2 : swB (s.swept.take k) w.run = true
  case pos =>
    rw [fact 7 (by unfold swChk; rw [hget]; simp only [d1, d2]; simp) (by omega)]
    rw [d2] at q2
    simp [g3, gs, g6, hkl, hkle, hw, q1, q2]
  have d2' : swB (s.swept.take k) w.run = false := by simpa using d2
  rw [d2'] at q2
  by_cases d3 : (inn w.who 1 9999 && inn w.found 0 1000 && inn w.at_ s.begun 20000000) = true
  case neg =>
    rw [fact 2 (by unfold swChk; rw [hget]; simp only [d1, d2', d3]; simp) (by omega)]
    by_cases x1 : inn w.who 1 9999 = true
    · rw [x1] at q4
      by_cases x2 : inn w.found 0 1000 = true
      · have x3 : inn w.at_ s.begun 20000000 = false := by simpa [x1, x2] using d3
        rw [x2] at q5
        rw [x3] at q6
        simp [-run_pick, g3, gs, g6, hkl, hkle, hw, q1, q2, q4, q5]
        simp [-run_cond, g3, gs, q6]
        rw [run_cond]
        simp only [opd_t, put_some]
        simp only [reduceIte, Nat.reduceEqDiff, test_val]
        simp
      · have x2' : inn w.found 0 1000 = false := by simpa using x2
        rw [x2'] at q5
        simp [-run_pick, g3, gs, g6, hkl, hkle, hw, q1, q2, q4, q5]
        simp [-run_cond]
        rw [run_cond]
        simp only [opd_t, put_some]
        simp only [reduceIte, Nat.reduceEqDiff, test_val]
        simp
    · have x1' : inn w.who 1 9999 = false := by simpa using x1
      rw [x1'] at q4
      simp [-run_pick, g3, gs, g6, hkl, hkle, hw, q1, q2, q4]
      simp [-run_cond]
      rw [run_cond]
      simp only [opd_t, put_some]
      simp only [reduceIte, Nat.reduceEqDiff, test_val]
      simp
  have d3' := d3
  simp only [Bool.and_eq_true] at d3
  obtain ⟨⟨x1, x2⟩, x3⟩ := d3
  rw [x1] at q4
  rw [x2] at q5
  rw [x3] at q6
  cases k with
  | zero =>
    by_cases d5 : freeB m s.runs (s.swept.take 0) w.run = true
    · have hz : swChk m s 0 = 0 := by unfold swChk; rw [hget]; simp only [d1, d2', d3', d5]; simp
      have hn := next hz
      rw [d5] at q3
      simp at q2 q3
      simp [g2, g3, gm, gs, g6, hkl, hw, q1, q2, q3, q4, q5, q6]
      exact ⟨s.swept.length - 1, by omega, hJ _ _ ⟨1, by omega, rfl, by simp [g2], by simp [g3], by simp [gm], by simp [gs], by simp [wrap1], hn⟩⟩
    · have d5' : freeB m s.runs (s.swept.take 0) w.run = false := by simpa using d5
      rw [fact 11 (by unfold swChk; rw [hget]; simp only [d1, d2', d3', d5']; simp) (by omega)]
      rw [d5'] at q3
      simp at q2 q3
      simp [g2, g3, gm, gs, g6, hkl, hw, q1, q2, q3, q4, q5, q6]
  | succ j =>
    obtain ⟨y, hy⟩ : ∃ n, s.swept[j]'(by omega) = n := ⟨_, rfl⟩
    have hget2 : s.swept[j]? = some y := by rw [← hy]; exact List.getElem?_eq_getElem _
    have hpv : prevAt s (j + 1) = y.at_ := by simp [prevAt, hget2]
    have hpos : (0 : Int) < (j : Int) + 1 := by omega
    have hjl : j < s.swept.length := by omega
    have hI : (j : Int) + 1 < s.swept.length := by omega
    have h0I : (0 : Int) ≤ (j : Int) + 1 := by omega
    have hw2 := wrapJ (j := j) (by omega)
    have hw3 : IntKind.i64.wrap ((j : Int) + 1 + 1) = (j : Int) + 1 + 1 := wrap64 ⟨by omega, by omega⟩
    by_cases d4 : w.at_ < y.at_
    · rw [fact 11 (by unfold swChk; rw [hget]; simp only [d1, d2', d3', hpv, d4]; simp) (by omega)]
      simp [g3, gs, g6, hkl, hkle, hw, q1, q2, q4, q5, q6, hpos, hjl, hI, h0I, hw2, hy, d4]
    · by_cases d5 : freeB m s.runs (s.swept.take (j + 1)) w.run = true
      · have hz : swChk m s (j + 1) = 0 := by unfold swChk; rw [hget]; simp only [d1, d2', d3', hpv, d4, d5]; simp
        have hn := next hz
        rw [d5] at q3
        simp [g2, g3, gm, gs, g6, hkl, hkle, hw, q1, q2, q3, q4, q5, q6, hpos, hjl, hI, h0I, hw2, hy, d4, hw3]
        exact ⟨s.swept.length - (j + 1 + 1), by omega, hJ _ _ ⟨j + 1 + 1, by omega, rfl, by simp [g2], by simp [g3], by simp [gm], by simp [gs], by simp, hn⟩⟩
      · have d5' : freeB m s.runs (s.swept.take (j + 1)) w.run = false := by simpa using d5
        rw [fact 11 (by unfold swChk; rw [hget]; simp only [d1, d2', d3', hpv, d4, d5']; simp) (by omega)]
        rw [d5'] at q3
        simp [g2, g3, gm, gs, g6, hkl, hkle, hw, q1, q2, q3, q4, q5, q6, hpos, hjl, hI, h0I, hw2, hy, d4]
theorem any_congr' {α : Type} {p q : α → Bool} {l : List α} (h : ∀ x ∈ l, p x = q x) : l.any p = l.any q := by
  induction l with
  | nil => rfl
  | cons x l ih => simp only [List.any_cons, h x (by simp), ih fun y hy => h y (by simp [hy])]
theorem ready_free {m : Mp} {l : List Int} {id : Int} {p : Int → Bool} (hall : ∀ x ∈ l, hasRn m x = true) (hid : hasRn m id = true) : readyB m l id p = !l.any fun a => bef m a id && !p a := by
  unfold readyB
  have : (l.any fun k => ((findRn m k).to == (findRn m id).fr) && !p k) = l.any fun a => bef m a id && !p a := any_congr' fun x hx => by simp [bef, hall x hx, hid]
  rw [this]
end Go.Proofs.Ytephpcoffonjfaa.Am
