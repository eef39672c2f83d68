/- The shortest way between two nodes over edges. No condition. -/
import Derived.Test.YtkoickoceggimaaGO
namespace Go.Proofs.Ytkoickoceggimaa.Am
open Go

theorem hit_parts {T : Tab} {node c : Int} {n : Nat} {e : Ed} (h : hitB T node c n e = true) : ∃ c1 n1, T e.c = some (c1, n1) ∧ e.b = node ∧ c = c1 + e.d ∧ n = n1 + 1 := by
  unfold hitB at h
  cases h1 : T e.c with
  | none => rw [h1] at h; cases h
  | some p =>
    obtain ⟨c1, n1⟩ := p
    rw [h1] at h
    simp only [Bool.and_eq_true, beq_iff_eq] at h
    exact ⟨c1, n1, rfl, h.1, h.2.1, by omega⟩
theorem hit_some {E : List Ed} {to : Int} {T : Tab} (h : Good (Se E) to T) {node c : Int} {n : Nat} (ht : T node = some (c, n)) (hne : node ≠ to) : ∃ k, idx (hitB T node c n) E = some k := by
  obtain ⟨u, d, n', ⟨e, he, e1, e2, e3⟩, rfl, hu⟩ := h.next ht hne
  have hh : hitB T node c (n' + 1) e = true := by
    unfold hitB
    rw [e2, hu]
    simp only [Bool.and_eq_true, beq_iff_eq]
    exact ⟨e1, by omega, by omega⟩
  have := idx_any (p := hitB T node c (n' + 1)) (l := E)
  have ha : E.any (hitB T node c (n' + 1)) = true := List.any_eq_true.2 ⟨e, he, hh⟩
  rw [ha] at this
  exact Option.isSome_iff_exists.1 this
set_option maxHeartbeats 4000000 in
theorem f42 (E : List Ed) (fm to : Int) (hE : EOk E) :
    FC F 42 [rE E, vI fm, vI to] fun vs => ∃ ids T, Good (Se E) to T ∧ vs = [.c (.ro 1 ids), .c (I (((T fm).map Prod.fst).getD 0)), .c (B (T fm).isSome)] := by
  rw [fc_run F42]
  simp [b42]
  refine IC.mono (f62 E to hE _ (fun _ => rfl)) ?_
  rintro vs μ1 ⟨i, xs, T, rfl, hm, hrep, hmid, hst⟩
  have hgood := hmid.good hst
  cases h1 : T fm with
  | none =>
    have m1 : mfind xs fm = none := by rw [hrep, h1]; rfl
    simp [hm, m1]
    exact ⟨[], T, hgood, rfl, by simp [h1], h1⟩
  | some p =>
  obtain ⟨c0, n0⟩ := p
  have m1 : mfind xs fm = some (cvP (c0, n0)) := by rw [hrep, h1]; rfl
  simp [hm, m1]
  refine run_loop (fun q s => ∃ node c n a1 a2 a4 ys, q = n ∧ T node = some (c, n) ∧ s.fr 0 = rE E ∧ s.fr 2 = vI to ∧ s.fr 9 = .ptr (a1, 9) 0 ∧ s.mu.box (a1, 9) = some [.mref i] ∧ s.fr 13 = .ptr (a2, 13) 0 ∧ s.mu.box (a2, 13) = some [I node] ∧
    s.fr 10 = .ptr (a4, 10) 0 ∧ s.mu.box (a4, 10) = some [I c0, I n0] ∧ s.mu.mp i = some xs ∧ Rw s 12 3 1 44 ys ∧ ys.length + n = n0) n0 ?_ ?_
  · exact ⟨fm, c0, n0, _, _, _, [], rfl, h1, by simp, by simp, rfl, by simp, rfl, by simp, rfl, by simp, by simp [hm], .inl ⟨by simp, rfl⟩, by simp⟩
  rintro J hJ q ⟨fr, μ⟩ ⟨node, c, n, a1, a2, a4, ys, rfl, ht, g0, g2, g9, gb9, g13, gb13, g10, gb10, gm, hw, hl⟩
  simp only at g0 g2 g9 gb9 g13 gb13 g10 gb10 gm
  by_cases hn : node = to
  · subst hn
    simp [g2, g13, gb13, g10, gb10]
    rcases hw with ⟨h12, _⟩ | ⟨t, h12, ha, _⟩
    · simp only at h12
      simp [h12]
      exact ⟨[], T, hgood, rfl, by simp [h1], by simp [h1]⟩
    · simp only at h12 ha
      simp [h12, ha]
      exact ⟨ys, T, hgood, rfl, by simp [h1], by simp [h1]⟩
  have mt : mfind xs node = some (cvP (c, q)) := by rw [hrep, ht]; rfl
  simp [g0, g2, g9, gb9, g13, gb13, gm, mt, hn]
  refine IC.mono (f63 hE hmid node c q i a1 a2 _ _ ⟨by simp [gb9], by simp [gb13], by simp, xs, by simp [gm], hrep⟩) ?_
  rintro vs μ' ⟨rfl, hf⟩
  have fb9 : μ'.box (a1, 9) = some [.mref i] := by rw [hf.box _ (by simp) (by simp)]; simp [gb9]
  have fb10 : μ'.box (a4, 10) = some [I c0, I n0] := by rw [hf.box _ (by simp) (by simp)]; simp [gb10]
  have fb13 : μ'.box (a2, 13) = some [I node] := by rw [hf.box _ (by simp) (by simp)]; simp [gb13]
  have fm' : μ'.mp i = some xs := by rw [hf.mp]; exact gm
  obtain ⟨k, hk⟩ := hit_some hgood ht hn
  have hx : idxI (hitB T node c q) E = k := by simp only [idxI, hk]
  obtain ⟨e, hget, hhit⟩ := idx_some hk
  have hkl := (List.getElem?_eq_some_iff.1 hget).1
  have hke := (List.getElem?_eq_some_iff.1 hget).2
  obtain ⟨c1, n1, t1, _, _, rfl⟩ := hit_parts hhit
  have nums := hmid.nums hE h1
  have hlim : ys.length + 1 ≤ lim := by simp only [lim]; omega
  have hlim0 : 1 ≤ lim := by simp [lim]
  rcases hw with ⟨h12, rfl⟩ | ⟨t, h12, ha, hp⟩
  · simp only at h12
    simp [g0, g13, h12, fb13, hx, hkl, hke, hlim0]
    exact ⟨n1, by omega, hJ _ _ ⟨e.c, c1, n1, a1, _, a4, [[I e.a]], rfl, t1, by simp [g0], by simp [g2], by simp [g9], by simp [fb9], rfl, by simp, by simp [g10], by simp [fb10], by simp [fm'], .inr ⟨_, rfl, by simp, by simp⟩, by simp at hl ⊢; omega⟩⟩
  · simp only at h12 ha hp
    have fa : μ'.arr (t, 44) = some ⟨3, 1, ys⟩ := by rw [hf.arr]; exact ha
    have fp : μ'.app (t, 44) = true := by rw [hf.app]; exact hp
    simp [g0, g13, h12, fa, fp, fb13, hx, hkl, hke, hlim]
    exact ⟨n1, by omega, hJ _ _ ⟨e.c, c1, n1, a1, _, a4, ys ++ [[I e.a]], rfl, t1, by simp [g0], by simp [g2], by simp [g9], by simp [fb9], rfl, by simp, by simp [g10], by simp [fb10], by simp [fm'], .inr ⟨_, rfl, by simp, by simp⟩, by simp at hl ⊢; omega⟩⟩
end Go.Proofs.Ytkoickoceggimaa.Am
