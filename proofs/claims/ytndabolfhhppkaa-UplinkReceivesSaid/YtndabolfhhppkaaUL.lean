/- Receiving, the program. No condition. -/
import Derived.Test.YtndabolfhhppkaaUK
namespace Go.Proofs.Ytndabolfhhppkaa.Am
open Go

theorem f27b (l : List Rd) (hl : l.length ≤ 1000) (K : List Vl → Prop) : FC F 27 [rR l] K ↔ K [.c (.fresh 26 7 (l.map eRd))] := by
  rw [fc_clone (K := K) F27]
  have : l.length ≤ lim := by simp only [lim]; omega
  simp [this]
set_option maxHeartbeats 4000000 in
theorem f21 (i : Ib) (r : Rd) (h : Oks i) (K : List Vl → Prop) : FC F 21 [.v (.agg (eI i)), .v (.agg (eRd r))] K ↔ K [.agg (eI (recv i r)), .c (I ((recv i r).next - 1))] := by
  refine FC.rule ?_ K
  rw [fc_run F21]
  have hg := h.g
  have hlo := h.lo
  have hhi := h.hi
  have w0 : IntKind.i64.wrap (i.next - 1) = i.next - 1 := wrap64 ⟨by omega, by omega⟩
  have hlimE : i.early.length + 1 ≤ lim := by simp only [lim]; omega
  have hc1 := f27b i.got (by omega)
  have hc2 := f27b i.early (by omega)
  by_cases c1 : r.gate = i.gate
  case neg =>
    have e : recv i r = i := if_pos (.inl c1)
    rw [e]
    simp [b21, c1, w0, hc1, hc2, hitQ, hitN]
  by_cases c2 : r.seq < i.next
  · have e : recv i r = i := if_pos (.inr c2)
    rw [e]
    simp [b21, c1, c2, w0, hc1, hc2, hitQ, hitN]
  have e0 : ¬ (r.gate ≠ i.gate ∨ r.seq < i.next) := by
    rintro (h | h)
    · exact h c1
    · exact c2 h
  by_cases c3 : i.next < r.seq
  · have e : recv i r = if i.early.any (isQ r.seq) = true then i else ⟨i.gate, i.next, i.got, insL i.early r⟩ := by
      unfold recv
      rw [if_neg e0, if_pos c3]
    obtain ⟨R, hR⟩ : ∃ R, recv i r = R := ⟨_, rfl⟩
    rw [hR] at e ⊢
    simp [b21, c1, c2, c3, hc1, hc2]
    refine IC.mono (f30 i.early _ r.seq _ _ _ _ _ _ (.inr ⟨_, 26, rfl, by simp⟩) (by omega)) ?_
    rintro vs μ' ⟨rfl, bx', t', rfl, hbx, htt⟩
    have hb2 := hbx (0, 2) (by simp)
    have hb3 := hbx (0, 3) (by simp)
    have hb4 := hbx (0, 4) (by simp)
    simp at hb2 hb3 hb4
    cases hx : idx (isQ r.seq) i.early with
    | some k =>
      have hk : idxI (isQ r.seq) i.early = k := by simp only [idxI, hx]
      have ha : i.early.any (isQ r.seq) = true := by rw [← idx_any, hx]; rfl
      rw [if_pos ha] at e
      subst e
      have hk0 : ¬ ((k : Int) < 0) := by omega
      simp [hk, hk0, hb2, hb4, w0, hitQ, hitN]
    | none =>
      have hk : idxI (isQ r.seq) i.early = -1 := by simp only [idxI, hx]
      have ha : ¬ (i.early.any (isQ r.seq) = true) := by rw [← idx_any, hx]; simp
      rw [if_neg ha] at e
      simp [hk, hb2]
      refine IC.mono (f31t i.early _ _ (gtQ r.seq) _ _ _ _ _ _ (.inr ⟨_, 26, rfl, by simp⟩) ⟨32, [eRd r], fun box' hb ar' ap' st' t' mp' => ⟨?_, ?_⟩, fun x K => f32 r x K⟩ (by omega)) ?_
      · have h3 := hb (0, 3) (by simp)
        rw [hb3] at h3
        simp [frz, trav, h3]
      · have h3 := hb (0, 3) (by simp)
        rw [hb3] at h3
        simp [fids, h3]
      rintro vs μ' ⟨rfl, t'', rfl, ht2⟩
      cases hy : idx (gtQ r.seq) i.early with
      | some k =>
        have hk2 : idxI (gtQ r.seq) i.early = k := by simp only [idxI, hy]
        have hat : atI i.early r.seq = k := by simp only [atI, hy]; rfl
        have hk0 : ¬ ((k : Int) < 0) := by omega
        have hkl := idx_lt hy
        simp only [insL, hat] at e
        simp [hk2, hk0, hb2, hb3]
        rw [ic_spec (k := 0) (e := 26) (z := 7) F33]
        simp [specStep, specOk, renew, hkl, Nat.le_of_lt hkl, hlimE, hb2, hb4, w0, hitQ, hitN]
        subst e
        simp
      | none =>
        have hk2 : idxI (gtQ r.seq) i.early = -1 := by simp only [idxI, hy]
        have hat : atI i.early r.seq = i.early.length := by simp only [atI, hy]; rfl
        simp only [insL, hat] at e
        simp [hk2, hb2, hb3]
        rw [ic_spec (k := 0) (e := 26) (z := 7) F33]
        simp [specStep, specOk, renew, hlimE, hb2, hb4, w0, hitQ, hitN]
        subst e
        have hE : List.take i.early.length (i.early.map eRd) = i.early.map eRd := List.take_of_length_le (by simp)
        have hD : List.drop i.early.length (i.early.map eRd) = [] := List.drop_eq_nil_of_le (by simp)
        simp [hE, hD]
  have e : recv i r = run (nxtI i r) := by
    unfold recv
    rw [if_neg e0, if_neg c3]
  rw [e]
  have hlim : i.got.length + 1 ≤ lim := by simp only [lim]; omega
  have w1 : IntKind.i64.wrap (i.next + 1) = i.next + 1 := wrap64 ⟨by omega, by omega⟩
  simp [b21, c1, c2, c3, hc1, hc2, hlim, w1]
  refine IC.mono (f30 i.early _ (i.next + 1) _ _ _ _ _ _ (.inr ⟨_, 26, rfl, by simp⟩) (by omega)) ?_
  rintro vs μ' ⟨rfl, bx', t', rfl, hbx, htt⟩
  have hb2 := hbx (0, 2) (by simp)
  have hb4 := hbx (0, 4) (by simp)
  simp at hb2 hb4
  simp
  refine run_loop (fun q s => ∃ (j : Ib) (tg dg te de : Nat), q = j.early.length ∧ s.fr 2 = .ptr (0, 2) 0 ∧ s.mu.box (0, 2) = some [I j.gate, I j.next, .own (tg, dg), .own (te, de)] ∧ s.fr 4 = .ptr (0, 4) 0 ∧ s.mu.box (0, 4) = some [I 0, I 0, .nil, .nil] ∧
      s.fr 7 = vI (idxI (isQ j.next) j.early) ∧ s.mu.arr (tg, dg) = some ⟨26, 7, j.got.map eRd⟩ ∧ s.mu.app (tg, dg) = true ∧ s.mu.arr (te, de) = some ⟨26, 7, j.early.map eRd⟩ ∧ s.mu.app (te, de) = true ∧ s.mu.sto (te, de) = true ∧
      tg < s.mu.t ∧ te < s.mu.t ∧ (dg = 20 ∨ dg = 46) ∧ (de = 13 ∨ de = 7) ∧ run (nxtI i r) = run j ∧ j.got.length + j.early.length ≤ 901 ∧ 1 ≤ j.next ∧ j.next + j.early.length ≤ 1000000001) i.early.length ⟨nxtI i r, 4, 20, 1, 13, rfl, by simp, by simp [hb2, nxtI], by simp, by simp [hb4], by simp [nxtI], by simp [nxtI, c1], by simp, by simp [nxtI], by simp, by simp, ?_, ?_, .inl rfl, .inl rfl, rfl, by simp [nxtI]; omega, by simp [nxtI]; omega, by simp [nxtI]; omega⟩ ?_
  · simp only [St.tick, Mu.tick]
    omega
  · simp only [St.tick, Mu.tick]
    omega
  clear hb2 hb4 hbx hc1 hc2 e e0 c1 c2 c3 w0 w1 hg hlo hhi hlim hlimE
  rintro J hJ q ⟨fr, μ⟩ ⟨j, tg, dg, te, de, rfl, g2, gb, g4, gc, g7, ga, gp, ea, ep, es, htg, hte, hdg, hde, hrun, hg, hlo, hhi⟩
  simp only at g2 gb g4 gc g7 ga gp ea ep es htg hte
  rw [hrun]
  have w0 : IntKind.i64.wrap (j.next - 1) = j.next - 1 := wrap64 ⟨by omega, by omega⟩
  have d0 : ¬ (dg = de) := by omega
  cases hx : idx (isQ j.next) j.early with
  | none =>
    have hk : idxI (isQ j.next) j.early = -1 := by simp only [idxI, hx]
    rw [hk] at g7
    rw [run_none hx]
    simp [g2, gb, g4, gc, g7, ga, ea, w0, hitQ, hitN]
  | some k =>
    have hk : idxI (isQ j.next) j.early = k := by simp only [idxI, hx]
    have hkl := idx_lt hx
    obtain ⟨x, hx2⟩ : ∃ x, j.early[k] = x := ⟨_, rfl⟩
    have hget : j.early[k]? = some x := by rw [← hx2]; exact List.getElem?_eq_getElem hkl
    rw [hk] at g7
    have hk0 : (0 : Int) ≤ k := by omega
    have hws := wrapS (n := k) (by omega)
    have hlim : j.got.length + 1 ≤ lim := by simp only [lim]; omega
    have d1 : ¬ (dg = 45) := by omega
    have d2 : ¬ (de = 45) := by omega
    have d3 : ¬ (de = 46) := by omega
    have d4 : ¬ (de = dg) := by omega
    have t0 : ¬ (tg = μ.t) := by omega
    have t1 : ¬ (tg = μ.t + 1) := by omega
    have t2 : ¬ (tg = μ.t + 1 + 1) := by omega
    simp [g2, gb, g7, ga, gp, ea, ep, es, hk0, hws, hkl, hx2, hlim, d0, d1, d2, d3, d4, t0, t1, t2]
    rw [ic_spec (k := 1) (e := 26) (z := 7) F34]
    have t3 : ¬ (te = μ.t) := by omega
    have t4 : ¬ (te = μ.t + 1) := by omega
    have t5 : ¬ (μ.t + 1 = te) := by omega
    have wn : IntKind.i64.wrap (j.next + 1) = j.next + 1 := wrap64 ⟨by omega, by omega⟩
    have hlen := takeI_len (x := x) hkl
    have hgl : (takeI j k x).got.length = j.got.length + 1 := by simp [takeI]
    have hnx : (takeI j k x).next = j.next + 1 := rfl
    simp [specStep, specOk, renew, ea, ep, es, hkl, d0, d1, d2, d3, d4, t0, t1, t2, t3, t4, gb, g2, wn]
    refine ⟨⟨by omega, by omega⟩, IC.mono (f30 (takeI j k x).early _ (j.next + 1) _ _ _ _ _ _ (.inr ⟨_, 26, rfl, by simp [takeI]⟩) (by omega)) ?_⟩
    rintro vs μ' ⟨rfl, bx', t', rfl, hbx, htt⟩
    have hb2 := hbx (0, 2) (by simp)
    have hb4 := hbx (0, 4) (by simp)
    simp at hb2
    simp [gc] at hb4
    refine ⟨(takeI j k x).early.length, by omega, hJ _ _ ⟨takeI j k x, μ.t + 1, 46, μ.t + 1 + 1 + 1 + 1, 7, rfl, by simp [g2], by simp [hb2, takeI], by simp [g4], by simp [hb4], by simp [hnx], by simp [takeI, t5], by simp [t5], by simp [takeI], by simp, by simp, ?_, ?_, .inr rfl, .inr rfl, hrun.trans (run_some hx hget), by omega, by omega, by omega⟩⟩
    · simp only [St.tick, Mu.tick]
      omega
    · simp only [St.tick, Mu.tick]
      omega
theorem chase_len : ∀ (n : Nat) (i : Ib), (chase n i).got.length + (chase n i).early.length = i.got.length + i.early.length
  | 0, i => rfl
  | n + 1, i => by
    simp only [chase]
    cases h : idx (isQ i.next) i.early with
    | none => rfl
    | some k =>
      simp only
      cases hx : i.early[k]? with
      | none => rfl
      | some x =>
        simp only
        rw [chase_len n]
        have h1 := takeI_len (x := x) (idx_lt h)
        have h2 : (takeI i k x).got.length = i.got.length + 1 := by simp [takeI]
        omega
theorem insL_len (l : List Rd) (r : Rd) : (insL l r).length = l.length + 1 := by
  have := atI_le l r.seq
  simp [insL]; omega
theorem recv_len (i : Ib) (r : Rd) : (recv i r).got.length + (recv i r).early.length ≤ i.got.length + i.early.length + 1 := by
  unfold recv
  split
  · omega
  · split
    · split
      · omega
      · simp only [insL_len]; omega
    · unfold run
      rw [chase_len]
      simp [nxtI]; omega
theorem f4 (i : Ib) (r : Rd) (K : List Vl → Prop) : FC F 4 [.v (.agg (eI i)), .v (.agg (eRd r))] K ↔ K [.c (B true)] := by
  rw [fc_run F4]
  have h2 := f10 i.got
  have h3 := f10 i.early
  by_cases c2 : (i.got.length : Int) ≤ 200
  case neg =>
    rw [decide_eq_false c2] at h2
    simp [b4, f9, h2]
  rw [decide_eq_true c2] at h2
  by_cases c3 : (i.early.length : Int) ≤ 200
  case neg =>
    rw [decide_eq_false c3] at h3
    simp [b4, f9, h2, h3]
  rw [decide_eq_true c3] at h3
  by_cases c4 : i.next < 1
  · simp [b4, f9, h2, h3, c4]
  by_cases c5 : 1000000 < i.next
  · simp [b4, f9, h2, h3, c4, c5]
  have ok : Oks i := ⟨by omega, by omega, by omega⟩
  have h4 := f21 i r ok
  have h5 := f22 i r ok
  have hl := recv_len i r
  have h6 := f16 (recv i r) (recv i r) (by omega) (by omega)
  obtain ⟨R, hR⟩ : ∃ R, recv i r = R := ⟨_, rfl⟩
  rw [hR] at h4 h5 h6
  rw [decide_eq_true rfl] at h6
  obtain ⟨rg, rn, rl, re⟩ := R
  obtain ⟨X, hX⟩ : ∃ X, rl.map eRd = X := ⟨_, rfl⟩
  obtain ⟨Y, hY⟩ : ∃ Y, re.map eRd = Y := ⟨_, rfl⟩
  have k4 : ∀ K, FC F 21 [.v (.agg (eI i)), .v (.agg (eRd r))] K ↔ K [.agg [I rg, I rn, .ro 7 X, .ro 7 Y], .c (I (rn - 1))] := by subst hX hY; exact h4
  have k5 : ∀ K, FC F 22 [.v (.agg (eI i)), .v (.agg (eRd r))] K ↔ K [.agg [I rg, I rn, .ro 7 X, .ro 7 Y], .c (I (rn - 1))] := by subst hX hY; exact h5
  have k6 : ∀ K, FC F 16 [.v (.agg [I rg, I rn, .ro 7 X, .ro 7 Y]), .v (.agg [I rg, I rn, .ro 7 X, .ro 7 Y])] K ↔ K [.c (B true)] := by subst hX hY; exact h6
  simp [b4, f9, h2, h3, c4, c5, k4, k5, k6, hitN]
theorem law4 (xs : List FV) (h : FitAll [tyI, tyRd] xs) : FC F 4 xs (· = [.c (B true)]) := by
  match xs, h with
  | [x, y], ⟨hx, hy, _⟩ =>
    obtain ⟨i, rfl, _⟩ := open_in hx
    obtain ⟨r, rfl, _⟩ := open_ride hy
    exact (f4 i r _).2 rfl
end Go.Proofs.Ytndabolfhhppkaa.Am
