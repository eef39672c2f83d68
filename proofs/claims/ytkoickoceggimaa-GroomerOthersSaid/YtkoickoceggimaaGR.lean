/- The program's way. No condition. -/
import Derived.Test.YtkoickoceggimaaGQ
namespace Go.Proofs.Ytkoickoceggimaa.Am
open Go

def BoxRow (μ : Mu) (p : Nat) (ys : List (List Cell)) : Prop :=
  (μ.box (p, 12) = some [.nil] ∧ ys = []) ∨ ∃ t, μ.box (p, 12) = some [.own (t, 22)] ∧ μ.arr (t, 22) = some ⟨72, 4, ys⟩ ∧ μ.app (t, 22) = true
theorem f41 (p : Nat) (l : List Ed) (a b d : Int) (μ : Mu) (hl : l.length ≤ 1000) (h : BoxRow μ p (l.map eEd)) :
    IC F 41 [vI a, vI b, vI d, .ptr (p, 12) 0] μ fun vs μ' => vs = [] ∧ BoxRow μ' p ((both l a b d).map eEd) ∧ ∀ j, j ≠ (p, 12) → μ'.box j = μ.box j := by
  obtain ⟨bx, ar, ap, st, t0, mp⟩ := μ
  rw [ic_run F41]
  have hlim : l.length + 2 ≤ lim := by simp only [lim]; omega
  have hlim0 : 2 ≤ lim := by simp [lim]
  have hws := wrapS (n := l.length) (by omega)
  rcases h with ⟨hb, hx⟩ | ⟨t, hb, ha, hp⟩ <;> simp only at hb
  · have hx' : l = [] := by simpa using hx
    subst hx'
    simp [b41, hb, hlim0, wrap1]
    refine ⟨.inr ⟨_, by simp; rfl, by simp [both], by simp⟩, fun a b hj h1 h2 => absurd h2 (hj h1)⟩
  · simp only at ha hp
    simp [b41, hb, ha, hp, hlim, hws]
    refine ⟨.inr ⟨_, by simp; rfl, by simp [both], by simp⟩, fun a b hj h1 h2 => absurd h2 (hj h1)⟩
theorem BoxRow.keep {μ μ' : Mu} {p : Nat} {ys : List (List Cell)} (h : BoxRow μ p ys) (h1 : μ'.box (p, 12) = μ.box (p, 12)) (h2 : μ'.arr = μ.arr) (h3 : μ'.app = μ.app) : BoxRow μ' p ys := by
  unfold BoxRow
  rw [h1, h2, h3]
  exact h
set_option maxHeartbeats 4000000 in
theorem f15 (m : Mp) (fm to : Int) (h : Okm m) (hr : rightE m = 0) (K : List Vl → Prop) :
    FC F 15 [.v (.agg (eM m)), vI fm, vI to] K ↔ K [.c (I ((wayO m fm to).getD 0)), .c (B (wayO m fm to).isSome)] := by
  refine FC.rule ?_ K
  rw [fc_run F15]
  have h1 := f40 m fm h.n
  have h2 := f40 m to h.n
  have hlen := tooLong_parts (right_parts hr).1
  cases c1 : hasNd m fm with
  | false =>
    rw [c1] at h1
    have e : wayO m fm to = none := by unfold wayO; rw [c1]; rfl
    rw [e]
    simp [b15, h1, h2]
  | true =>
  cases c2 : hasNd m to with
  | false =>
    rw [c1] at h1
    rw [c2] at h2
    have e : wayO m fm to = none := by unfold wayO; rw [c1, c2]; rfl
    rw [e]
    simp [b15, h1, h2]
  | true =>
  rw [c1] at h1
  rw [c2] at h2
  have e : wayO m fm to = dist (Sm m) fm to := by unfold wayO; rw [c1, c2]; rfl
  rw [e]
  simp [b15, h1, h2]
  refine run_loop (fun q s => ∃ k p, k ≤ m.lifts.length ∧ q = m.lifts.length - k ∧ s.fr 1 = vI fm ∧ s.fr 2 = vI to ∧ s.fr 3 = .ptr (0, 3) 0 ∧ s.mu.box (0, 3) = some (eM m) ∧ s.fr 12 = .ptr (p, 12) 0 ∧ s.fr 13 = .v (.c (.fn 41 [(p, 12)])) ∧
    s.fr 41 = .v (.c (.ro 8 (m.lifts.map eLf))) ∧ s.fr 42 = vI m.lifts.length ∧ s.fr 43 = vI k ∧ BoxRow s.mu p ((foldE gL [] (m.lifts.take k)).map eEd)) m.lifts.length ?_ ?_
  · exact ⟨0, _, by omega, by omega, by simp, by simp, by simp, by simp, by simp; rfl, by simp, by simp, by simp, by simp, .inl ⟨by simp, by simp [foldE]⟩⟩
  rintro J hJ q ⟨fr, μ⟩ ⟨k, p, hk, rfl, g1, g2, g3, gb, g12, g13, g41, g42, g43, hbr⟩
  simp only at g1 g2 g3 gb g12 g13 g41 g42 g43 hbr
  by_cases hkl : k < m.lifts.length
  · obtain ⟨x, hx⟩ : ∃ x, m.lifts[k] = x := ⟨_, rfl⟩
    have hget : m.lifts[k]? = some x := by rw [← hx]; exact List.getElem?_eq_getElem hkl
    have hws := wrapS (n := k) (by omega)
    have hfl : (foldE gL [] (m.lifts.take k)).length ≤ 1000 := by rw [foldE_len, List.length_take, List.length_nil]; omega
    have hst := foldE_step gL [] hget
    simp [g13, g41, g42, g43, hkl, hx]
    refine IC.mono (f41 p _ x.fr x.to x.len _ hfl (hbr.keep (by simp) (by simp) (by simp))) ?_
    rintro vs μ' ⟨rfl, hb', hfr⟩
    have fb : μ'.box (0, 3) = some (eM m) := by rw [hfr _ (by simp)]; simp [gb]
    simp [hws]
    refine ⟨m.lifts.length - (k + 1), by omega, hJ _ _ ⟨k + 1, p, by omega, rfl, by simp [g1], by simp [g2], by simp [g3], by simp [fb], by simp [g12], by simp [g13], by simp [g41], by simp [g42], by simp, ?_⟩⟩
    rw [hst]
    exact hb'.keep (by simp) (by simp) (by simp)
  have hke : k = m.lifts.length := by omega
  subst hke
  rw [List.take_length] at hbr
  simp [g3, gb, g41, g42, g43]
  refine run_loop (fun q s => ∃ k p, k ≤ m.runs.length ∧ q = m.runs.length - k ∧ s.fr 1 = vI fm ∧ s.fr 2 = vI to ∧ s.fr 12 = .ptr (p, 12) 0 ∧ s.fr 13 = .v (.c (.fn 41 [(p, 12)])) ∧
    s.fr 57 = .v (.c (.ro 7 (m.runs.map eRn))) ∧ s.fr 58 = vI m.runs.length ∧ s.fr 59 = vI k ∧ BoxRow s.mu p ((foldE gR (foldE gL [] m.lifts) (m.runs.take k)).map eEd)) m.runs.length
    ⟨0, p, by omega, by omega, by simp [g1], by simp [g2], by simp [g12], by simp [g13], by simp, by simp, by simp, hbr.keep (by simp) (by simp) (by simp)⟩ ?_
  clear hbr g1 g2 g3 gb g12 g13 g41 g42 g43
  rintro J2 hJ2 q ⟨fr, μ⟩ ⟨k, p, hk, rfl, g1, g2, g12, g13, g57, g58, g59, hbr⟩
  simp only at g1 g2 g12 g13 g57 g58 g59 hbr
  by_cases hkl : k < m.runs.length
  · obtain ⟨x, hx⟩ : ∃ x, m.runs[k] = x := ⟨_, rfl⟩
    have hget : m.runs[k]? = some x := by rw [← hx]; exact List.getElem?_eq_getElem hkl
    have hws := wrapS (n := k) (by omega)
    have hfl : (foldE gR (foldE gL [] m.lifts) (m.runs.take k)).length ≤ 1000 := by rw [foldE_len, foldE_len, List.length_take, List.length_nil]; omega
    have hst := foldE_step gR (foldE gL [] m.lifts) hget
    simp [g12, g13, g57, g58, g59, hkl, hx]
    refine IC.mono (f41 p _ x.fr x.to x.len _ hfl (hbr.keep (by simp) (by simp) (by simp))) ?_
    rintro vs μ' ⟨rfl, hb', hfr⟩
    simp [hws]
    refine ⟨m.runs.length - (k + 1), by omega, hJ2 _ _ ⟨k + 1, p, by omega, rfl, by simp [g1], by simp [g2], by simp [g12], by simp [g13], by simp [g57], by simp [g58], by simp, ?_⟩⟩
    rw [hst]
    exact hb'.keep (by simp) (by simp) (by simp)
  have hke : k = m.runs.length := by omega
  subst hke
  rw [List.take_length] at hbr
  have hE := edges_ok hr
  unfold edges at hE
  have hcall := f42 _ fm to hE
  obtain ⟨E, hEq⟩ : ∃ E, foldE gR (foldE gL [] m.lifts) m.runs = E := ⟨_, rfl⟩
  have hse : Se E = Sm m := by rw [← se_edges]; unfold edges; rw [hEq]
  rw [hEq] at hbr hcall
  have fin : ∀ T : Tab, Good (Se E) to T → dist (Sm m) fm to = (T fm).map Prod.fst := fun T hg => dist_eq (by rw [← hse]; exact hg.dist fm)
  clear hEq hE hJ hJ2
  rcases hbr with ⟨b1, b2⟩ | ⟨t, b1, b2, _⟩
  · have hnil : E = [] := by simpa using b2
    simp only [hnil, rE, List.map_nil] at hcall
    simp [g1, g2, g12, g57, g58, g59, b1]
    refine hcall.mono ?_
    rintro vs ⟨ids, T, hg, rfl⟩
    have := fin T (by rw [hnil]; exact hg)
    rw [this]
    simp
  · simp [g1, g2, g12, g57, g58, g59, b1, b2]
    refine hcall.mono ?_
    rintro vs ⟨ids, T, hg, rfl⟩
    rw [fin T hg]
    simp
end Go.Proofs.Ytkoickoceggimaa.Am
