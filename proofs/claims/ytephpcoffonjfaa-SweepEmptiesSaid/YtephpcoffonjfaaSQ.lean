/- Sweep: sweeping all runs in an order that is allowed leaves nobody on them; the law SweepEmpties over the abstract machine. No condition. -/
import Derived.Test.YtephpcoffonjfaaSP
namespace Go.Proofs.Ytephpcoffonjfaa.Am
open Go

theorem bad_good {l : List Int} (h : badL l = false) : goodL l ∧ ∀ x ∈ l, x ≤ 1000000 := by
  have h1 := List.any_eq_false.1 h
  constructor
  · intro x hx
    have := h1 x hx
    simp only [badN, Bool.or_eq_true, decide_eq_true_eq] at this
    omega
  · intro x hx
    have := h1 x hx
    simp only [badN, Bool.or_eq_true, decide_eq_true_eq] at this
    omega
theorem good_bad {l : List Int} (h : goodL l) (hs : ∀ x ∈ l, x ≤ 1000000) : badL l = false := by
  unfold badL
  rw [List.any_eq_false]
  intro x hx
  have h1 := h x hx
  have h2 := hs x hx
  simp only [badN, Bool.or_eq_true, decide_eq_true_eq]
  omega
theorem sumA_full {l : List Int} (h : goodL l) (hs : ∀ x ∈ l, x ≤ 1000000) (hl : l.length ≤ 64) : sumA l l.length = l.sum := by
  have := (sumA_plain h hs hl (Nat.le_refl l.length)).1
  rwa [List.take_length] at this
theorem cnt_of {s : Sp} {l : List Int} (hlen : l.length = s.runs.length) (hb : badL l = false) : cntB s l = true := by
  unfold badL at hb
  simp [cntB, hlen, hb]
/-- One push, as the law looks at it. -/
theorem step_facts {m : Mp} {s : Sp} {ord l : List Int} {n0 : Int} (h : Okm m) (hs : Oks s) (hz : runsS m s.runs = 0) (hr : s.runs.length ≤ 64) (hlt : s.runs.Pairwise (· < ·)) (hv : VOrd m s.runs ord) (hn : n0 ≤ 1000000) (hlen : l.length = s.runs.length) (hg : goodL l) (hsum : l.sum = n0)
    {k : Nat} {x : Int} (hk : k ≤ ord.length) (hget : ord[k]? = some x) :
    ∃ L' kN, (∀ K : List Vl → Prop, FC F 28 [.v (.agg (eM m)), .v (.agg (eSp s)), .v (.c (.ro 1 ((goA m s ord l k).1.map e1))), vI x] K ↔ K [.c (.ro 1 (L'.map e1)), .c (I kN), .c (I 0)]) ∧
      (∀ K : List Vl → Prop, FC F 32 [.v (.c (.ro 1 (L'.map e1)))] K ↔ K [.c (I L'.sum), .c (B true)]) ∧ L'.length = l.length ∧ ¬ kN < 0 ∧ True ∧
      IntKind.i64.wrap ((goA m s ord l k).2 + kN) = (goA m s ord l k).2 + kN ∧ IntKind.i64.wrap ((goA m s ord l k).2 + kN + L'.sum) = n0 ∧ goA m s ord l (k + 1) = (L', (goA m s ord l k).2 + kN) := by
  have hp := go_ok hz hlt hv hn hlen hg hsum hk
  have hxr := hv.mem x (List.mem_of_getElem? hget)
  obtain ⟨i, hi, hil⟩ := idx_mem hxr
  have hidx : idxN s.runs x = i := by simp [idxN, hi]
  have hri := idxN_at hxr
  rw [hidx] at hri
  have hst := push_step hz hlt hv hn hp hget hri
  have hgo : goA m s ord l (k + 1) = (pushL m s (goA m s ord l k).1 i, IntKind.i64.wrap ((goA m s ord l k).2 + pushN m s (goA m s ord l k).1 i)) := by
    simp only [goA, getD_at hget, hidx]
  generalize goA m s ord l k = G at hp hst hgo ⊢
  obtain ⟨p', k0, ks⟩ := hst
  have hsm := hp.sum
  have hg0 := hp.g0
  have hsm' := p'.sum
  have hn1 := sum_nonneg hp.good
  have hn2 := sum_nonneg p'.good
  have hle : ∀ y ∈ G.1, y ≤ 1000000 := fun y hy => by have := le_sum hp.good hy; omega
  have hle' : ∀ y ∈ pushL m s G.1 i, y ≤ 1000000 := fun y hy => by have := le_sum p'.good hy; omega
  have hcnt := cnt_of hp.len (good_bad hp.good hle)
  have hGl := hp.len
  have q1 := f28 m s G.1 x h hs (by omega) hz hr
  have e1 : pushRL m s G.1 x = pushL m s G.1 i := by simp [pushRL, hcnt, hi]
  have e2 : pushRN m s G.1 x = pushN m s G.1 i := by simp [pushRN, hcnt, hi]
  have e3 : pushRE s G.1 x = 0 := by simp [pushRE, hcnt, hi]
  rw [e1, e2, e3] at q1
  have hpl := p'.len
  have q2 := f32 (pushL m s G.1 i) (by omega)
  have hb := good_bad p'.good hle'
  have hsf := sumA_full p'.good hle' (by omega)
  rw [hb, hsf] at q2
  simp only [Bool.false_eq_true, if_false, Bool.not_false] at q2
  have hw : IntKind.i64.wrap (G.2 + pushN m s G.1 i) = G.2 + pushN m s G.1 i := wrap64 ⟨by omega, by omega⟩
  refine ⟨pushL m s G.1 i, pushN m s G.1 i, q1, q2, by omega, by omega, trivial, hw, ?_, by rw [hgo, hw]⟩
  rw [wrap64 ⟨by omega, by omega⟩]; omega
set_option maxHeartbeats 16000000 in
theorem f8 (m : Mp) (s : Sp) (l : List Int) (h : Okm m) (hs : Oks s) (hl : l.length ≤ 9223372036854775807) (K : List Vl → Prop) :
    FC F 8 [.v (.agg (eM m)), .v (.agg (eSp s)), .v (.c (.ro 1 (l.map e1)))] K ↔ K [.c (B true)] := by
  refine FC.rule ?_ K
  rw [fc_run F8]
  have h0 := f32 l hl
  have h1 := f12 m h
  have h2 := f13 m s h hs
  by_cases c1 : rightE m = 0
  case neg => simp [b8, f11, h0, h1, c1]
  rw [c1] at h1
  by_cases c2 : rightS m s = 0
  case neg => simp [b8, f11, h0, h1, h2, c2]
  rw [c2] at h2
  by_cases c3 : badL l = true
  case pos =>
    rw [c3] at h0
    simp [b8, f11, h0, h1, h2]
  have c3' : badL l = false := by simpa using c3
  rw [c3'] at h0
  simp only [Bool.false_eq_true, if_false, Bool.not_false] at h0
  by_cases hlen : l.length = s.runs.length
  case neg =>
    have hlenI : ¬ ((l.length : Int) = s.runs.length) := by omega
    simp [b8, f11, h0, h1, h2, hlenI]
  obtain ⟨hr, hz, _⟩ := right_zero c2
  obtain ⟨hg, hle⟩ := bad_good c3'
  have hsf := sumA_full hg hle (by omega)
  rw [hsf] at h0
  obtain ⟨n0, hsum⟩ : ∃ n0, l.sum = n0 := ⟨_, rfl⟩
  rw [hsum] at h0
  by_cases hn1 : 1000000 < n0
  case pos => simp [b8, f11, h0, h1, h2, hlen, hn1]
  have hn : n0 ≤ 1000000 := by omega
  have hall := runs_has (runsS_zero hz).1
  have hlt := runs_lt (runsS_zero hz).1
  have hcnt := cnt_of hlen c3'
  have hvo := ord_valid c1 hall hlt
  have h3 := f30 m s l h hs hl hz hr
  have hallp := go_ok hz hlt hvo hn hlen hg hsum (Nat.le_refl _)
  obtain ⟨o1, o2, o3⟩ := all_out hvo hallp
  have eG : allG m s l = n0 := by simp only [allG, hcnt, if_true]; exact o2
  have eE : allE s l = 0 := by simp [allE, hcnt]
  have eR : allR m s l = 0 := by
    simp only [allR, hcnt, if_true]
    have hll := goA_len (m := m) (s := s) (ord := ordA m s) (l := l) (ordA m s).length
    have := sumA_full hallp.good (fun x hx => by rw [o3 x hx]; omega) (by omega)
    rw [hll] at this
    rw [this]; exact o1
  rw [eG, eE, eR] at h3
  have h4 : ∀ K : List Vl → Prop, FC F 17 [.v (.agg (eM m)), .v (.agg (eSp s))] K ↔ K [.c (.ro 1 ((ordA m s).map e1))] := f17 m s h hs hr
  have h5 := f24 s hs
  have holen : (ordA m s).length ≤ s.runs.length := iterO_len m s.runs s.runs.length
  clear o1 o2 o3 hallp eG eE eR
  generalize ordA m s = ord at h4 hvo holen
  cases hd : doneB s with
  | false =>
    rw [hd] at h5
    have hv := hvo
    simp [b8, f11, h0, h1, h2, h3, h4, h5, hlen, hn1]
    refine run_loop (fun q t => ∃ k, k ≤ ord.length ∧ q = ord.length - k ∧ t.fr 2 = .v (.c (.ro 1 (l.map e1))) ∧ t.fr 3 = .ptr (0, 3) 0 ∧ t.fr 4 = .ptr (0, 4) 0 ∧ t.mu.box (0, 3) = some (eM m) ∧ t.mu.box (0, 4) = some (eSp s) ∧ t.fr 7 = vI n0 ∧ t.fr 14 = .v (.c (.ro 1 ((goA m s ord l k).1.map e1))) ∧ t.fr 15 = vI (goA m s ord l k).2 ∧ t.fr 16 = vI k ∧ t.fr 12 = .v (.c (.ro 1 (ord.map e1)))) ord.length ⟨0, by omega, by omega, by simp, by simp, by simp, by simp, by simp, by simp, by simp [goA], by simp [goA], by simp, by simp⟩ ?_
    rintro J hJ q ⟨fr, μ⟩ ⟨k, hk, rfl, w2, w3, w4, wm3, ws4, w7, w14, w15, w16, w12⟩
    simp only at w2 w3 w4 wm3 ws4 w7 w14 w15 w16 w12
    by_cases hkl : k < ord.length
    case neg =>
      have hke : k = ord.length := by omega
      subst hke
      have hfin := (all_out hv (go_ok hz hlt hv hn hlen hg hsum (Nat.le_refl _))).2.1
      rw [hfin] at w15
      simp [w3, w4, wm3, ws4, w7, w14, w15, w16, w12]
    obtain ⟨x, hx⟩ : ∃ x, ord[k] = x := ⟨_, rfl⟩
    have hget : ord[k]? = some x := by rw [← hx]; exact List.getElem?_eq_getElem hkl
    obtain ⟨L', kN, q1, q2, e1', e2', e3', e4', e5', e6'⟩ := step_facts h hs hz hr hlt hv hn hlen hg hsum hk hget
    have hws := wrapS (n := k) (by omega)
    generalize goA m s ord l k = G at w14 w15 q1 e4' e5' e6'
    simp [w2, w3, w4, wm3, ws4, w7, w14, w15, w16, w12, hkl, hx, q1, q2, e1', e2', e4', e5', hws]
    exact ⟨ord.length - (k + 1), by omega, hJ _ _ ⟨k + 1, by omega, rfl, by simp [w2], by simp [w3], by simp [w4], by simp [wm3], by simp [ws4], by simp [w7], by simp [e6'], by simp [e6'], by simp, by simp [w12]⟩⟩
  | true =>
    rw [hd] at h5
    have hv0 := swept_valid c2 hd
    have hswl := swept_short c2
    simp [b8, f11, h0, h1, h2, h3, h4, h5, hlen, hn1]
    refine run_loop (fun q t => ∃ k, k ≤ s.swept.length ∧ q = s.swept.length - k ∧ t.fr 2 = .v (.c (.ro 1 (l.map e1))) ∧ t.fr 3 = .ptr (0, 3) 0 ∧ t.fr 4 = .ptr (0, 4) 0 ∧ t.mu.box (0, 3) = some (eM m) ∧ t.mu.box (0, 4) = some (eSp s) ∧ t.fr 7 = vI n0 ∧ t.fr 13 = vI k ∧ Rw t 12 3 1 93 (((s.swept.take k).map Sw.run).map e1)) s.swept.length ⟨0, by omega, by omega, by simp, by simp, by simp, by simp, by simp, by simp, by simp, .inl ⟨by simp, by simp⟩⟩ ?_
    rintro J0 hJ0 q0 ⟨fr0, μ0⟩ ⟨k0, hk0, rfl, y2, y3, y4, ym3, ys4, y7, y13, hrw⟩
    simp only at y2 y3 y4 ym3 ys4 y7 y13
    by_cases hkl0 : k0 < s.swept.length
    case pos =>
      obtain ⟨w, hw⟩ : ∃ w, s.swept[k0] = w := ⟨_, rfl⟩
      have htk : (s.swept.take (k0 + 1)).map Sw.run = (s.swept.take k0).map Sw.run ++ [w.run] := by
        rw [List.take_succ_eq_append_getElem hkl0, hw]; simp
      have hws := wrapS (n := k0) (by omega)
      have hlim : min k0 s.swept.length + 1 ≤ lim := by simp only [lim]; omega
      have hlim1 : k0 + 1 ≤ lim := by simp only [lim]; omega
      have hlim0 : 1 ≤ lim := by simp [lim]
      have hmin : min k0 s.swept.length = k0 := by omega
      rcases hrw with ⟨h12, hx0⟩ | ⟨t0, h12, ha, hp⟩
      · simp only at h12
        have hx' : (s.swept.take k0).map Sw.run = [] := List.map_eq_nil_iff.1 hx0
        simp [y2, y4, ys4, y13, h12, hkl0, hw, hws, hlim0]
        exact ⟨s.swept.length - (k0 + 1), by omega, hJ0 _ _ ⟨k0 + 1, by omega, rfl, by simp [y2], by simp [y3], by simp [y4], by simp [ym3], by simp [ys4], by simp [y7], by simp, .inr ⟨_, rfl, by rw [htk, hx']; simp, by simp⟩⟩⟩
      · simp only at h12 ha hp
        generalize hR : (s.swept.take k0).map Sw.run = R at ha htk
        have hRl : R.length = k0 := by rw [← hR]; simp; omega
        have hlimR : R.length + 1 ≤ lim := by omega
        simp [y2, y4, ys4, y13, h12, ha, hp, hkl0, hw, hws, hlimR]
        exact ⟨s.swept.length - (k0 + 1), by omega, hJ0 _ _ ⟨k0 + 1, by omega, rfl, by simp [y2], by simp [y3], by simp [y4], by simp [ym3], by simp [ys4], by simp [y7], by simp, .inr ⟨_, rfl, by rw [htk]; simp, by simp⟩⟩⟩
    have hke0 : k0 = s.swept.length := by omega
    subst hke0
    rw [List.take_length] at hrw
    have hordl : (s.swept.map Sw.run).length ≤ 64 := by simpa using hswl
    generalize s.swept.map Sw.run = ord at hv0 hrw hordl
    have hv := hv0
    rcases hrw with ⟨h12, hx0⟩ | ⟨tt, h12, ha, hp⟩
    · simp only at h12
      have hnil : ord = [] := List.map_eq_nil_iff.1 hx0
      simp [y2, y4, ys4, y13, h12]
      refine run_loop (fun q t => ∃ k, k ≤ ord.length ∧ q = ord.length - k ∧ t.fr 2 = .v (.c (.ro 1 (l.map e1))) ∧ t.fr 3 = .ptr (0, 3) 0 ∧ t.fr 4 = .ptr (0, 4) 0 ∧ t.mu.box (0, 3) = some (eM m) ∧ t.mu.box (0, 4) = some (eSp s) ∧ t.fr 7 = vI n0 ∧ t.fr 14 = .v (.c (.ro 1 ((goA m s ord l k).1.map e1))) ∧ t.fr 15 = vI (goA m s ord l k).2 ∧ t.fr 16 = vI k ∧ t.fr 12 = .v (.c .nil)) ord.length ⟨0, by omega, by omega, by simp [y2], by simp [y3], by simp [y4], by simp [ym3], by simp [ys4], by simp [y7], by simp [goA], by simp [goA], by simp, by simp [h12]⟩ ?_
      rintro J hJ q ⟨fr, μ⟩ ⟨k, hk, rfl, w2, w3, w4, wm3, ws4, w7, w14, w15, w16, w12⟩
      simp only at w2 w3 w4 wm3 ws4 w7 w14 w15 w16 w12
      by_cases hkl : k < ord.length
      case neg =>
        have hke : k = ord.length := by omega
        subst hke
        have hfin := (all_out hv (go_ok hz hlt hv hn hlen hg hsum (Nat.le_refl _))).2.1
        rw [hfin] at w15
        simp [w3, w4, wm3, ws4, w7, w14, w15, w16, w12]
      exact absurd hkl (by rw [hnil]; simp)
    · simp only at h12 ha hp
      simp [y2, y4, ys4, y13, h12]
      refine run_loop (fun q t => ∃ k, k ≤ ord.length ∧ q = ord.length - k ∧ t.fr 2 = .v (.c (.ro 1 (l.map e1))) ∧ t.fr 3 = .ptr (0, 3) 0 ∧ t.fr 4 = .ptr (0, 4) 0 ∧ t.mu.box (0, 3) = some (eM m) ∧ t.mu.box (0, 4) = some (eSp s) ∧ t.fr 7 = vI n0 ∧ t.fr 14 = .v (.c (.ro 1 ((goA m s ord l k).1.map e1))) ∧ t.fr 15 = vI (goA m s ord l k).2 ∧ t.fr 16 = vI k ∧ t.fr 12 = .v (.c (.own (tt, 93))) ∧ t.mu.arr (tt, 93) = some ⟨3, 1, ord.map e1⟩) ord.length ⟨0, by omega, by omega, by simp [y2], by simp [y3], by simp [y4], by simp [ym3], by simp [ys4], by simp [y7], by simp [goA], by simp [goA], by simp, by simp [h12], by simp [ha]⟩ ?_
      rintro J hJ q ⟨fr, μ⟩ ⟨k, hk, rfl, w2, w3, w4, wm3, ws4, w7, w14, w15, w16, w12, warr⟩
      simp only at w2 w3 w4 wm3 ws4 w7 w14 w15 w16 w12 warr
      by_cases hkl : k < ord.length
      case neg =>
        have hke : k = ord.length := by omega
        subst hke
        have hfin := (all_out hv (go_ok hz hlt hv hn hlen hg hsum (Nat.le_refl _))).2.1
        rw [hfin] at w15
        simp [w3, w4, wm3, ws4, w7, w14, w15, w16, w12, warr]
      obtain ⟨x, hx⟩ : ∃ x, ord[k] = x := ⟨_, rfl⟩
      have hget : ord[k]? = some x := by rw [← hx]; exact List.getElem?_eq_getElem hkl
      obtain ⟨L', kN, q1, q2, e1', e2', e3', e4', e5', e6'⟩ := step_facts h hs hz hr hlt hv hn hlen hg hsum hk hget
      have hws := wrapS (n := k) (by omega)
      generalize goA m s ord l k = G at w14 w15 q1 e4' e5' e6'
      simp [w2, w3, w4, wm3, ws4, w7, w14, w15, w16, w12, warr, hkl, hx, q1, q2, e1', e2', e4', e5', hws]
      exact ⟨ord.length - (k + 1), by omega, hJ _ _ ⟨k + 1, by omega, rfl, by simp [w2], by simp [w3], by simp [w4], by simp [wm3], by simp [ws4], by simp [w7], by simp [e6'], by simp [e6'], by simp, by simp [w12], by simp [warr]⟩⟩

theorem law8 (xs : List FV) (h : FitAll [tyM, tyS, (false, [.s [ti]])] xs) : FC F 8 xs (· = [.c (B true)]) := by
  match xs, h with
  | [x, y, z], ⟨hx, hy, hz, _⟩ =>
    obtain ⟨m, rfl, hm, _⟩ := open_map hx
    obtain ⟨s, rfl, hs, _⟩ := open_sweep hy
    obtain ⟨l, rfl, hl, _⟩ := open_ints hz
    exact (f8 m s l hm hs hl _).2 rfl
end Go.Proofs.Ytephpcoffonjfaa.Am
