/- What the abstract machine comes to, the given model comes to. No condition. -/
import Derived.Test.YtndabolfhhppkaaReg
namespace Go.Proofs.Ytndabolfhhppkaa.Am
open Go Go.RowKit
variable {P : Program} {γ : Gh} {μ ν : Mu} {w : World} {nt : Nat} {D : List Nat} {fr fr' : Fr} {a : Act}

/-! ### Results -/
theorem ret1_unsto (s : St) (l : List Id) (r : SRes) : ret1 ⟨s.fr, unsto s.mu l⟩ r = ret1 s r := by
  have h2 : datL (unsto s.mu l) = datL s.mu := funext fun sh => funext fun cs => datL_unsto s.mu l sh cs
  have h3 : datC (unsto s.mu l) = datC s.mu := funext fun sh => funext fun cs => datC_unsto s.mu l sh cs
  have h4 : (unsto s.mu l).box = s.mu.box := rfl
  unfold ret1
  simp only [h2, h3, h4]
theorem tmp_run (t : Nat) : (pure (a.tmps.getD t undef) : Sem Value).run P w = .ok (a.tmps.getD t undef) w := rfl
theorem compRes_spec {x : ResultVar} {t : TypeId} {r : SRes} (h : compRes P x t = some r) : (∃ k sh, x = .tmp k ∧ r = .t k sh) ∨ (∃ k t' ag sz sh, x = .cell k t' ∧ r = .cell k ag sz sh ∧ aggT P t' = some ag ∧ szOf P t' = some sz) := by
  cases x with
  | tmp k =>
    simp only [compRes] at h
    split at h
    · rename_i sh _; injection h with h; exact .inl ⟨k, sh, rfl, h.symm⟩
    · obtain ⟨_, _, e⟩ := some_pair h; exact .inl ⟨k, _, rfl, e.symm⟩
  | cell k t' =>
    simp only [compRes] at h
    split at h
    · rename_i ag sz sh h1 h2 h3
      injection h with h
      exact .inr ⟨k, t', ag, sz, sh, rfl, h.symm, h1, h2⟩
    · cases h
def resS (a : Act) : ResultVar → Sem Value
  | .tmp t => pure (a.tmps.getD t undef)
  | .cell b t => do loadVar t (← asAddr (a.tmps.getD b undef))
theorem ret1_sim {s : St} {x : ResultVar} {t : TypeId} {r : SRes} {y : Vl} (hc : compRes P x t = some r) (hf : AFR γ s.mu w nt s.fr a) (m : MR γ s.mu w) (hr : ret1 s r = some y) :
    ∃ v γ' l, (resS a x).run P w = .ok v w ∧ MR γ' (unsto s.mu l) w ∧ Ext γ s.mu w γ' (unsto s.mu l) w ∧ VD γ'.st w y v := by
  rcases compRes_spec hc with ⟨k, sh, rfl, rfl⟩ | ⟨k, t', ag, sz, sh, rfl, rfl, h1, h2⟩
  · have hv := hf.at_ k
    simp only [ret1] at hr
    split at hr
    · rename_i c hc'
      rw [hc'] at hv
      split at hr
      · obtain ⟨d, hd, e⟩ := some_pair hr
        subst e
        obtain ⟨γ', m', e', d'⟩ := datC_sim m hv hd
        exact ⟨_, γ', _, rfl, m', e', d'⟩
      · cases hr
    · rename_i cs hc'
      rw [hc'] at hv
      obtain ⟨ds, hd, e⟩ := some_pair hr
      subst e
      obtain ⟨vs, hvs, hcs⟩ := inv_agg hv
      obtain ⟨γ', m', e', d'⟩ := datL_sim m hcs hd
      exact ⟨_, γ', _, rfl, m', e', vs, hvs, d'⟩
    · cases hr
  · have hv := hf.at_ k
    simp only [ret1] at hr
    split at hr
    · rename_i i off hc'
      rw [hc'] at hv
      obtain ⟨_, hp⟩ := hv
      cases hb : s.mu.box i with
      | none => rw [hb] at hr; simp at hr
      | some cs =>
        rw [hb] at hr
        simp only [Option.bind_some] at hr
        obtain ⟨vs, hvs⟩ := m.boxCells hb
        have hld : ∀ {x : FV}, ld ag cs off sz = some x → ∃ v, (resS a (.cell k t')).run P w = .ok v w ∧ FR γ s.mu w x v := by
          intro x hx
          obtain ⟨v, hv, hx'⟩ := ld_sim (P := P) h1 h2 hvs hx
          refine ⟨v, ?_, hx'⟩
          rw [Nat.zero_add] at hv
          simp only [resS, hp, Sem.run_bind]
          simpa [asAddr] using hv
        cases ag with
        | true =>
          simp only [if_true] at hr
          cases hs : sub cs off sz with
          | none => rw [hs] at hr; simp at hr
          | some q =>
            rw [hs] at hr
            simp only [Option.bind_some] at hr
            obtain ⟨ds, hd, e⟩ := some_pair hr
            subst e
            obtain ⟨v, hv, hx⟩ := hld (x := .v (.agg q)) (by simp [ld, hs])
            obtain ⟨us, hus, hcs⟩ := inv_agg hx
            obtain ⟨γ', m', e', d'⟩ := datL_sim m hcs hd
            exact ⟨v, γ', _, hv, m', e', us, hus, d'⟩
        | false =>
          simp only [Bool.false_eq_true, if_false] at hr
          split at hr
          · cases hs : nth cs off with
            | none => rw [hs] at hr; simp at hr
            | some q =>
              rw [hs] at hr
              simp only [Option.bind_some] at hr
              obtain ⟨d, hd, e⟩ := some_pair hr
              subst e
              obtain ⟨v, hv, hx⟩ := hld (x := .v (.c q)) (by simp [ld, hs])
              obtain ⟨γ', m', e', d'⟩ := datC_sim m hx hd
              exact ⟨v, γ', _, hv, m', e', d'⟩
          · cases hr
    · cases hr
theorem rets_sim : ∀ {xs : List ResultVar} {ts : List TypeId} {rs : List SRes} {vs : List Vl} {s : St} {γ : Gh}, ress? P xs ts = some rs → AFR γ s.mu w nt s.fr a → MR γ s.mu w → trav (ret1 s) rs = some vs →
    ∃ (us : List Value) (γ' : Gh) (l : List Id), (xs.mapM (resS a)).run P w = .ok us w ∧ MR γ' (unsto s.mu l) w ∧ Ext γ s.mu w γ' (unsto s.mu l) w ∧ us.length = vs.length ∧ ∀ (j : Nat) (x : Vl) (u : Value), vs[j]? = some x → us[j]? = some u → VD γ'.st w x u
  | [], ts, rs, vs, s, γ, hc, hf, m, hr => by
    cases ts with
    | cons t ts => simp [ress?] at hc
    | nil =>
      simp only [ress?, Option.some.injEq] at hc; subst hc
      simp only [trav, Option.some.injEq] at hr; subst hr
      exact ⟨[], γ, [], by simp, m.unst _, .unst _, rfl, fun j x u h => by simp at h⟩
  | x :: xs, ts, rs, vs, s, γ, hc, hf, m, hr => by
    cases ts with
    | nil => simp [ress?] at hc
    | cons t ts =>
      simp only [ress?] at hc
      split at hc
      case h_2 => cases hc
      rename_i r rs' h1 h2
      injection hc with hc; subst hc
      simp only [trav] at hr
      split at hr
      case h_2 => cases hr
      rename_i y ys k1 k2
      injection hr with hr; subst hr
      obtain ⟨v, γ1, l1, g1, m1, e1, d1⟩ := ret1_sim h1 hf m k1
      have hr' : trav (ret1 ⟨s.fr, unsto s.mu l1⟩) rs' = some ys := by rw [trav_congr (g := ret1 s) fun r _ => ret1_unsto s l1 r]; exact k2
      obtain ⟨us, γ2, l2, g2, m2, e2, hl, d2⟩ := rets_sim (s := ⟨s.fr, unsto s.mu l1⟩) h2 (hf.ext e1) m1 hr'
      simp only at m2 e2
      rw [unsto_unsto] at m2 e2
      refine ⟨v :: us, γ2, l1 ++ l2, ?_, m2, e1.trans e2, by simp [hl], fun j x u hx hu => ?_⟩
      · simp [List.mapM_cons, Sem.run_bind, g1, g2]
      · cases j with
        | zero => simp at hx hu; subst hx; subst hu; exact d1.keep fun b o hb => (e2.st b o hb).1
        | succ j => exact d2 j x u (by simpa using hx) (by simpa using hu)
theorem results_eq (fn : Func) (a : Act) : results fn a.tmps = (do let vs ← fn.results.mapM (resS a); pure (if h : vs.size = 1 then vs[0] else .tuple vs) : Sem Value) := by
  unfold results
  congr 1
theorem results_run {fn : Func} {us : List Value} (h : (fn.results.toList.mapM (resS a)).run P w = .ok us w) : ∃ v, (results fn a.tmps).run P w = .ok v w ∧ (us.length = 1 → us = [v]) ∧ (us.length ≠ 1 → v = .tuple us.toArray) := by
  rw [results_eq, Array.mapM_eq_mapM_toList]
  refine ⟨if h : us.toArray.size = 1 then us.toArray[0] else .tuple us.toArray, ?_, fun h1 => ?_, fun h1 => ?_⟩
  · simp [Sem.run_bind, h]
  · rw [dif_pos (by simpa using h1)]
    match us, h1 with
    | [u], _ => rfl
  · rw [dif_neg (by simpa using h1)]
theorem ret_sim {fn : Func} {rs : List SRes} {vs : List Vl} {s : St} {own : Bool} (hc : ress? P fn.results.toList fn.resultTypes.toList = some rs) (hf : AFR γ s.mu w nt s.fr a) (m : MR γ s.mu w) (hr : retOf own rs s = some vs) :
    ∃ v st', (results fn a.tmps).run P w = .ok v w ∧ (∀ b o, γ.st b o → st' b o) ∧ (∀ b o, st' b o → γ.st b o ∨ γ.lo ≤ b) ∧ (∀ b o, st' b o → b < w.heap.size) ∧ RetR st' γ.lo w vs v := by
  cases own with
  | false =>
    obtain ⟨us, γ', l, h1, m', e, hl, hd⟩ := rets_sim hc hf m hr
    obtain ⟨v, hv, hv1, hv2⟩ := results_run h1
    refine ⟨v, γ'.st, hv, fun b o h => (e.st b o h).1, e.nst, m'.stlt, ?_⟩
    by_cases h : us.length = 1
    · have hus := hv1 h
      match vs, hl with
      | [x], _ => exact .inr (.inl ⟨x, rfl, hd 0 x v rfl (by rw [hus]; rfl)⟩)
      | [], hl => rw [h] at hl; simp at hl
      | x :: y :: r, hl => rw [h] at hl; simp at hl
    · exact .inr (.inr ⟨by rw [← hl]; exact h, us, hv2 h, hl, hd⟩)
  | true =>
    have hr' : retO s rs = some vs := hr
    unfold retO at hr'
    split at hr'
    case h_2 => cases hr'
    rename_i k e z
    have hx : ∃ t, fn.results.toList = [.tmp k] ∧ fn.resultTypes.toList = [t] := by
      cases hx : fn.results.toList with
      | nil => rw [hx] at hc; cases ht : fn.resultTypes.toList <;> rw [ht] at hc <;> simp [ress?] at hc
      | cons x xs =>
        rw [hx] at hc
        cases ht : fn.resultTypes.toList with
        | nil => rw [ht] at hc; simp [ress?] at hc
        | cons t ts =>
          rw [ht] at hc
          simp only [ress?] at hc
          split at hc
          case h_2 => cases hc
          rename_i r rs' h1 h2
          injection hc with hc
          injection hc with e1 e2; subst e1; subst e2
          have hxs : xs = [] ∧ ts = [] := by
            cases xs with
            | nil => cases ts with
              | nil => exact ⟨rfl, rfl⟩
              | cons _ _ => simp [ress?] at h2
            | cons _ _ => cases ts with
              | nil => simp [ress?] at h2
              | cons _ _ => simp only [ress?] at h2; split at h2 <;> cases h2
          rcases compRes_spec h1 with ⟨k', sh, e1, e2⟩ | ⟨_, _, _, _, _, _, e2, _⟩
          · injection e2 with e2 _; subst e2; exact ⟨t, by rw [e1, hxs.1], by rw [hxs.2]⟩
          · cases e2
    obtain ⟨t, hx, _⟩ := hx
    obtain ⟨v, hv, hv1, _⟩ := results_run (P := P) (w := w) (a := a) (fn := fn) (us := [a.tmps.getD k undef]) (by rw [hx]; simp [List.mapM_cons, resS])
    have hv' : v = a.tmps.getD k undef := by have := hv1 rfl; simpa using this.symm
    have hk := hf.at_ k
    rw [← hv'] at hk
    refine ⟨v, γ.st, hv, fun b o h => h, fun b o h => .inl h, m.stlt, ?_⟩
    split at hr'
    · rename_i hn
      rw [hn] at hk
      split at hr'
      · rename_i hz
        injection hr' with hr'; subst hr'
        refine .inl ⟨e, z, [], rfl, by simp, hz, .inl ?_⟩
        cases hk with
        | z h => cases h with
          | dat h => cases h
          | nil => exact ⟨_, rfl, rfl⟩
      · cases hr'
    · rename_i i hn
      rw [hn] at hk
      cases ha : s.mu.arr i with
      | none => rw [ha] at hr'; simp at hr'
      | some q =>
        rw [ha] at hr'
        simp only [Option.bind_some] at hr'
        split at hr'
        · rename_i hcond
          injection hr' with hr'; subst hr'
          obtain ⟨c1, c2, c3, c4, c5⟩ := hcond
          have hev : v = γ.nu i := by
            cases hk with
            | z h => cases h with
              | dat h => cases h
            | own _ => rfl
          obtain ⟨k1, k2, k3⟩ := m.liv ha (by omega)
          rw [c4] at k1 k2
          refine .inl ⟨e, z, q.xs, rfl, k1, k2, ?_⟩
          rcases k3 with ⟨A, k3, k4⟩ | ⟨g, cap, cur, n1, n2, n3, n4, n5, n6, n7, n8, n9⟩
          · exact .inl ⟨A, by rw [hev, k3], k4⟩
          · exact .inr ⟨g, cap, cur, by rw [hev, n1], n2, by rw [← c3]; exact n3, n4, n5, by rw [← c4]; exact n6, n7, n9 c2⟩
        · cases hr'
    · cases hr'
theorem iret1_sim {s : St} {x : ResultVar} {t : TypeId} {r : SRes} {y : Vl} (hc : compRes P x t = some r) (hf : AFR γ s.mu w nt s.fr a) (m : MR γ s.mu w) (hr : iret1 s r = some y) :
    ∃ v, (resS a x).run P w = .ok v w ∧ VR γ s.mu w y v := by
  rcases compRes_spec hc with ⟨k, sh, rfl, rfl⟩ | ⟨k, t', ag, sz, sh, rfl, rfl, h1, h2⟩
  · have hv := hf.at_ k
    simp only [iret1] at hr
    split at hr
    · rename_i c hc'
      injection hr with hr; subst hr
      rw [hc'] at hv
      exact ⟨_, rfl, hv⟩
    · cases hr
  · have hv := hf.at_ k
    simp only [iret1] at hr
    split at hr
    · rename_i i off hc'
      rw [hc'] at hv
      obtain ⟨_, hp⟩ := hv
      cases hb : s.mu.box i with
      | none => rw [hb] at hr; simp at hr
      | some cs =>
        rw [hb] at hr
        simp only [Option.bind_some] at hr
        obtain ⟨vs, hvs⟩ := m.boxCells hb
        have hx : ld ag cs off sz = some (.v y) := by
          unfold ld
          cases ag with
          | true => simp only [if_true] at hr ⊢; obtain ⟨q, hq, e⟩ := some_pair hr; rw [hq, ← e]; rfl
          | false => simp only [Bool.false_eq_true, if_false] at hr ⊢; obtain ⟨q, hq, e⟩ := some_pair hr; rw [hq, ← e]; rfl
        obtain ⟨v, hv, hx'⟩ := ld_sim (P := P) h1 h2 hvs hx
        refine ⟨v, ?_, hx'⟩
        rw [Nat.zero_add] at hv
        simp only [resS, hp, Sem.run_bind]
        simpa [asAddr] using hv
    · cases hr
theorem irets_sim : ∀ {xs : List ResultVar} {ts : List TypeId} {rs : List SRes} {vs : List Vl} {s : St}, ress? P xs ts = some rs → AFR γ s.mu w nt s.fr a → MR γ s.mu w → trav (iret1 s) rs = some vs →
    ∃ us : List Value, (xs.mapM (resS a)).run P w = .ok us w ∧ VRs γ s.mu w vs us
  | [], ts, rs, vs, s, hc, hf, m, hr => by
    cases ts with
    | cons t ts => simp [ress?] at hc
    | nil =>
      simp only [ress?, Option.some.injEq] at hc; subst hc
      simp only [trav, Option.some.injEq] at hr; subst hr
      exact ⟨[], by simp, rfl, fun j x u h => by simp at h⟩
  | x :: xs, ts, rs, vs, s, hc, hf, m, hr => by
    cases ts with
    | nil => simp [ress?] at hc
    | cons t ts =>
      simp only [ress?] at hc
      split at hc
      case h_2 => cases hc
      rename_i r rs' h1 h2
      injection hc with hc; subst hc
      simp only [trav] at hr
      split at hr
      case h_2 => cases hr
      rename_i y ys k1 k2
      injection hr with hr; subst hr
      obtain ⟨v, g1, d1⟩ := iret1_sim h1 hf m k1
      obtain ⟨us, g2, hl, d2⟩ := irets_sim h2 hf m k2
      refine ⟨v :: us, by simp [List.mapM_cons, Sem.run_bind, g1, g2], by simp [hl], fun j x u hx hu => ?_⟩
      cases j with
      | zero => simp at hx hu; subst hx; subst hu; exact d1
      | succ j => exact d2 j x u (by simpa using hx) (by simpa using hu)
theorem iret_sim {fn : Func} {rs : List SRes} {vs : List Vl} {s : St} (hc : ress? P fn.results.toList fn.resultTypes.toList = some rs) (hf : AFR γ s.mu w nt s.fr a) (m : MR γ s.mu w) (hr : trav (iret1 s) rs = some vs) :
    ∃ v, (results fn a.tmps).run P w = .ok v w ∧ FR γ s.mu w (fvOf vs) v := by
  obtain ⟨us, h1, hv⟩ := irets_sim hc hf m hr
  obtain ⟨v, k1, k2, k3⟩ := results_run h1
  refine ⟨v, k1, ?_⟩
  match vs, us, hv with
  | [], [], _ => rw [k3 (by simp)]; rfl
  | [x], [u], hv => have := k2 rfl; injection this with this _; subst this; exact hv.2 0 x u rfl rfl
  | x :: y :: r, u :: u' :: r', hv => rw [k3 (by simp)]; exact ⟨_, rfl, hv⟩
  | [], _ :: _, hv => exact absurd hv.1 (by simp)
  | [_], [], hv => exact absurd hv.1 (by simp)
  | [_], _ :: _ :: _, hv => exact absurd hv.1 (by simp)
  | _ :: _ :: _, [], hv => exact absurd hv.1 (by simp)
  | _ :: _ :: _, [_], hv => exact absurd hv.1 (by simp)
end Go.Proofs.Ytndabolfhhppkaa.Am
