/- One operation: all but the calls, in one law. No condition. -/
import Derived.Test.YtndabolfhhppkaaOpsM
namespace Go.Proofs.Ytndabolfhhppkaa.Am
open Go Go.RowKit
variable {P : Program} {γ : Gh} {μ : Mu} {w : World} {nt : Nat} {D : List Nat} {fr : Fr} {a : Act}

theorem OpOk.more {D' : List Nat} {r : Result Next} {v : FV} {μ' : Mu} (h : OpOk γ μ w D r v μ') (hd : ∀ d ∈ D, d ∈ D') : OpOk γ μ w D' r v μ' := by
  obtain ⟨γ', v', w', h1, h2, h3, h4, h5, h6⟩ := h
  exact ⟨γ', v', w', h1, h2, h3, h4, h5.more hd, h6⟩
theorem sim_store {t : TypeId} {z : Nat} {sh : List Sh} {x y : Operand} {x' y' : Opd} {v : FV} {μ' : Mu} {id : Id} (hf : AFR γ μ w nt fr a) (m : MR γ μ w) (tm : Tm μ D) (hz : szOf P t = some z) (hx : opdOf x = some x') (hy : opdOf y = some y')
    (ha : aop (.store sh z x' y') id fr μ = some (v, μ')) : OpOk γ μ w D ((do Instr.storeAt t (a.eval x) (a.eval y); pure Next.skip : Sem Next).run P w) v μ' := by
  have h1 := opd_rel hf hx
  have h2 := opd_rel hf hy
  simp only [aop] at ha
  split at ha
  · rename_i i off hop
    rw [hop] at h1
    obtain ⟨_, he⟩ := h1
    cases hcs : cells (opd fr y') with
    | none => rw [hcs] at ha; simp at ha
    | some ds =>
      rw [hcs] at ha
      simp only [Option.bind_some] at ha
      split at ha
      case isFalse => cases ha
      rename_i hl
      cases hb : μ.box i with
      | none => rw [hb] at ha; simp at ha
      | some cs =>
        rw [hb] at ha
        simp only [Option.bind_some] at ha
        obtain ⟨cs', hs, e⟩ := some_pair ha
        cases e
        have := sim_storePtr (P := P) (w := w) (γ := γ) (off := off) m tm hz h2 hcs hl hb hs
        rw [he]
        simpa [Instr.storeAt, Instr.sureAddr] using this
  · rename_i i k off hop
    rw [hop] at h1
    obtain ⟨g, o', he, q, hq, hdd⟩ := h1
    cases hcs : cells (opd fr y') with
    | none => rw [hcs] at ha; simp at ha
    | some ds =>
      rw [hcs] at ha
      simp only [Option.bind_some] at ha
      cases hes : datL μ sh ds with
      | none => rw [hes] at ha; simp at ha
      | some es =>
        rw [hes] at ha
        simp only [Option.bind_some] at ha
        split at ha
        case isFalse => cases ha
        rename_i hl
        obtain ⟨hl, hst, ho⟩ := hl
        rw [hq] at ha
        simp only [Option.bind_some] at ha
        cases hr : q.xs[k]? with
        | none => rw [hr] at ha; simp at ha
        | some r =>
          rw [hr] at ha
          simp only [Option.bind_some] at ha
          obtain ⟨r', hs, e⟩ := some_pair ha
          cases e
          rcases hdd with hdd | ⟨cap, hn, hk, rfl⟩
          · exact absurd hdd (m.live hq hr)
          have := sim_storeOptr (P := P) (w := w) m tm hz h2 hcs hes hl hst hq hn hr hs ho
          rw [he]
          simpa [Instr.storeAt, Instr.sureAddr] using this
  · cases ha
theorem args_two {α β : Type} {f : α → β} {xs : Array α} {x y : α} (h : xs.toList = [x, y]) : xs.map f = #[f x, f y] := by
  apply Array.ext'
  simp [h]
theorem args_one {α β : Type} {f : α → β} {xs : Array α} {x : α} (h : xs.toList = [x]) : xs.map f = #[f x] := by
  apply Array.ext'
  simp [h]
theorem arr_two {α : Type} {xs : Array α} {x y : α} (h : xs.toList = [x, y]) : xs = #[x, y] := Array.ext' (by simpa using h)
theorem arr_one {α : Type} {xs : Array α} {x : α} (h : xs.toList = [x]) : xs = #[x] := Array.ext' (by simpa using h)
theorem op_sim {o : Oper} {p : AOp} {v : FV} {μ' : Mu} (hc : compOp P o.op = some p) (hk : p.isCall = false) (hds : (o.dst.isSome || kindOf p == 3 || p.isCall) = true) (hf : AFR γ μ w nt fr a) (m : MR γ μ w) (tm : Tm μ D) (hd : ∀ d, o.dst = some d → d ∉ D)
    (ha : aop p (μ.t, o.dst.getD 0) fr μ = some (v, μ')) : OpOk γ μ w (o.dst.toList ++ D) ((execOp a.eval o).run P w) v μ' := by
  have tm' : Tm μ (o.dst.toList ++ D) := tm.more fun d hd => List.mem_append_right _ hd
  have dst : kindOf p ≠ 3 → ∃ d, o.dst = some d ∧ d ∉ D ∧ o.dst.getD 0 = d ∧ o.dst.toList ++ D = d :: D := fun h3 => by
    cases hdo : o.dst with
    | none => rw [hdo, hk] at hds; simp [h3] at hds
    | some d => exact ⟨d, rfl, hd d hdo, rfl, rfl⟩
  cases hop : o.op <;> rw [hop] at hc <;> simp only [compOp] at hc <;> simp only [execOp, hop]
  case move x =>
    obtain ⟨x', hx, e⟩ := some_pair hc; subst e
    simp only [aop] at ha; injection ha with ha; injection ha with e1 e2; subst e1; subst e2
    exact .same m tm' (opd_rel hf hx)
  case assign x =>
    obtain ⟨x', hx, e⟩ := some_pair hc; subst e
    simp only [aop] at ha; injection ha with ha; injection ha with e1 e2; subst e1; subst e2
    exact .same m tm' (opd_rel hf hx)
  case pick c x y =>
    split at hc
    · rename_i c' x' y' h1 h2 h3; injection hc with hc; subst hc
      exact sim_pick hf m tm' h1 h2 h3 ha
    · cases hc
  case box t x =>
    obtain ⟨x', hx, e⟩ := some_pair hc; subst e
    obtain ⟨d, _, hd', hd'', e⟩ := dst (by simp [kindOf])
    rw [hd''] at ha; rw [e]
    exact sim_box hf m tm hd' hx ha
  case alloc t =>
    obtain ⟨z, hz, e⟩ := some_pair hc; subst e
    obtain ⟨d, _, hd', hd'', e⟩ := dst (by simp [kindOf])
    rw [hd''] at ha; rw [e]
    exact sim_alloc m tm hd' hz ha
  case load t x =>
    split at hc
    · rename_i g z x' h1 h2 h3; injection hc with hc; subst hc
      exact sim_load hf m tm' h1 h2 h3 ha
    · cases hc
  case store t x y =>
    split at hc
    · rename_i z x' y' h1 h2 h3; injection hc with hc; subst hc
      exact sim_store hf m tm' h1 h2 h3 ha
    · cases hc
  case binOp op t x y q =>
    split at hc
    case h_2 => cases hc
    rename_i x' y' h1 h2
    split at hc
    · injection hc with hc; subst hc
      exact sim_bin hf m tm' h1 h2 ha
    · rename_i hu
      split at hc
      · injection hc with hc; subst hc
        exact sim_eqb hf m tm' h1 h2 (.inl ⟨rfl, rfl⟩) hu ha
      · injection hc with hc; subst hc
        exact sim_eqb hf m tm' h1 h2 (.inr ⟨rfl, rfl⟩) hu ha
      · cases hc
    · split at hc
      · cases hc
      · rename_i ks hks
        split at hc
        · injection hc with hc; subst hc
          exact sim_eqa hf m tm' h1 h2 (.inl ⟨rfl, rfl⟩) hks ha
        · injection hc with hc; subst hc
          exact sim_eqa hf m tm' h1 h2 (.inr ⟨rfl, rfl⟩) hks ha
        · cases hc
  case unOp op t x =>
    obtain ⟨x', hx, e⟩ := some_pair hc; subst e
    exact sim_un hf m tm' hx ha
  case convert s d x =>
    split at hc
    · rename_i h1 h2 h3; injection hc with hc; subst hc
      exact sim_conv hf m tm' h3 h1 h2 ha
    · cases hc
  case makeFunc f first caps =>
    cases f with
    | func g =>
      simp only at hc
      split at hc
      · rename_i h0
        obtain ⟨cs, hcs, e⟩ := some_pair hc; subst e
        have : first = #[] := Array.eq_empty_of_size_eq_zero h0
        subst this
        simpa using sim_mkfn (P := P) (g := g) hf m tm' hcs ha
      · cases hc
    | _ => simp at hc
  case build t parts =>
    split at hc
    · rename_i fs z h1 h2
      split at hc
      · rename_i hz
        obtain ⟨ps, hps, e⟩ := some_pair hc; subst e
        obtain ⟨zs, hzs⟩ := Option.isSome_iff_exists.1 hz
        exact sim_build hf m tm' h1 h2 hzs hps ha
      · cases hc
    · cases hc
  case buildSlice t n parts =>
    split at hc
    · cases hc
    · rename_i e h1
      split at hc
      · rename_i z zero ps sh h2 h3 h4 h5
        split at hc
        · rename_i h6
          injection hc with hc; subst hc
          obtain ⟨d, _, hd', hd'', e⟩ := dst (by simp [kindOf])
          rw [hd''] at ha; rw [e]
          exact sim_bsl hf m tm hd' h1 h2 h3 h6.2 h6.1 h4 ha
        · cases hc
      · cases hc
  case makeSlice t l c =>
    split at hc
    · cases hc
    · rename_i e h1
      split at hc
      · rename_i z zero l' h2 h3 h4
        split at hc
        · rename_i h6
          injection hc with hc; subst hc
          obtain ⟨d, _, hd', hd'', e⟩ := dst (by simp [kindOf])
          rw [hd''] at ha; rw [e]
          exact sim_mks hf m tm hd' h1 h2 h3 h6.2.1 h6.2.2 h6.1 h4 ha
        · cases hc
      · cases hc
  case slice t x lo hi mx =>
    split at hc
    · rename_i z x' lo' hi' mx' h1 h2 h3 h4 h5
      injection hc with hc; subst hc
      cases hU : sliceT P t with
      | none => rw [hU] at h1; simp at h1
      | some e =>
        rw [hU] at h1
        exact sim_slc hf m tm' hU h1 h2 h3 h4 h5 ha
    · cases hc
  case fieldAddr s x f =>
    split at hc
    · rename_i fd x' h1 h2
      obtain ⟨z, hz, e⟩ := some_pair hc; subst e
      exact sim_fad hf m tm' h2 h1 hz ha
    · cases hc
  case field s x f =>
    split at hc
    · rename_i fd x' h1 h2
      split at hc
      · rename_i g z h3 h4
        injection hc with hc; subst hc
        exact sim_fld hf m tm' h2 h1 h3 h4 ha
      · cases hc
    · cases hc
  case indexAddr t x i =>
    split at hc
    · rename_i z x' i' h1 h2 h3
      injection hc with hc; subst hc
      cases hU : sliceT P t with
      | none => rw [hU] at h1; simp at h1
      | some e =>
        rw [hU] at h1
        exact sim_iad hf m tm' h2 h3 hU h1 ha
    · rename_i x' i' h1 h2 h3
      split at hc
      · rename_i n e hU
        obtain ⟨z, hz, e'⟩ := some_pair hc; subst e'
        exact sim_iap hf m tm' h2 h3 hU hz ha
      · cases hc
    · cases hc
  case index t x i =>
    split at hc
    · rename_i n e x' i' h1 h2 h3
      split at hc
      · rename_i g z h4 h5
        injection hc with hc; subst hc
        exact sim_idx hf m tm' h2 h3 h1 h4 h5 ha
      · cases hc
    · cases hc
  case extract x k =>
    obtain ⟨x', hx, e⟩ := some_pair hc; subst e
    exact sim_ext hf m tm' hx ha
  case makeMap t r =>
    cases r with
    | some r => cases hc
    | none =>
      obtain ⟨e, he, e'⟩ := some_pair hc; subst e'
      exact sim_mkm m tm' ha
  case insert t x k y =>
    split at hc
    · rename_i e x' k' y' h1 h2 h3 h4
      injection hc with hc; subst hc
      exact sim_mset hf m tm' h1 h2 h3 h4 ha
    · cases hc
  case mapUpdate t x k y =>
    split at hc
    · rename_i e x' k' y' h1 h2 h3 h4
      injection hc with hc; subst hc
      exact sim_mset hf m tm' h1 h2 h3 h4 ha
    · cases hc
  case lookup t x k ok =>
    split at hc
    · rename_i z x' k' h1 h2 h3
      injection hc with hc; subst hc
      cases he : mapT P t with
      | none => rw [he] at h1; simp at h1
      | some e =>
        rw [he] at h1
        exact sim_mget hf m tm' he h1 h2 h3 ha
    · cases hc
  case call c =>
    cases hcal : c.callee with
    | value f =>
      rw [hcal] at hc
      simp only at hc
      split at hc <;> split at hc
      · injection hc with hc; subst hc; simp [AOp.isCall] at hk
      · cases hc
      · injection hc with hc; subst hc; simp [AOp.isCall] at hk
      · cases hc
    | invoke _ _ => rw [hcal] at hc; simp at hc
    | builtin b =>
      rw [hcal] at hc
      cases b <;> simp only at hc <;> try (cases hc; done)
      case len =>
        split at hc
        · rename_i x t hx ht
          split at hc
          · rename_i z x' h1 h2
            injection hc with hc; subst hc
            cases hU : sliceT P t with
            | none => rw [hU] at h1; simp at h1
            | some e =>
              have := sim_len (P := P) (w := w) (tt := o.type) hf m tm' h2 hU ha
              simp only [resolve, hcal, Sem.run_bind, Sem.run_pure, Result.andThen_ok, invoke, builtin, args_one hx, arr_one ht]
              simpa [Sem.run_bind] using this
          · rename_i x' h1 h2
            obtain ⟨e, he, e'⟩ := some_pair hc; subst e'
            have := sim_mlen (P := P) (w := w) (tt := o.type) hf m tm' h2 he ha
            simp only [resolve, hcal, Sem.run_bind, Sem.run_pure, Result.andThen_ok, invoke, builtin, args_one hx, arr_one ht]
            simpa [Sem.run_bind] using this
          · cases hc
        · cases hc
      case delete =>
        split at hc
        · rename_i x k t t' hx ht
          split at hc
          · rename_i e x' k' h1 h2 h3
            injection hc with hc; subst hc
            have := sim_mdel (P := P) (w := w) (u := t') (tt := o.type) hf m tm' h2 h3 h1 ha
            simp only [resolve, hcal, Sem.run_bind, Sem.run_pure, Result.andThen_ok, invoke, builtin, args_two hx, arr_two ht]
            simpa [Sem.run_bind] using this
          · cases hc
        · cases hc
      case append =>
        split at hc
        · rename_i s x t t' hx ht
          split at hc
          · rename_i e s' x' h1 h2 h3
            split at hc
            · rename_i h4
              obtain ⟨z, hz, e'⟩ := some_pair hc; subst e'
              obtain ⟨rfl, h5, h6⟩ := h4
              obtain ⟨d, _, hd', hd'', e⟩ := dst (by simp [kindOf])
              rw [hd''] at ha; rw [e]
              have := sim_app (P := P) (w := w) (ty := o.type) hf m tm hd' h1 hz h5 h6 h2 h3 ha
              simp only [resolve, hcal, Sem.run_bind, Sem.run_pure, Result.andThen_ok, invoke, builtin, args_two hx, arr_two ht]
              simpa [Sem.run_bind] using this
            · cases hc
          · cases hc
        · cases hc
      case clear =>
        split at hc
        · rename_i x t hx ht
          split at hc
          · cases hc
          · rename_i e hU
            split at hc
            · rename_i z zero x' h1 h2 h3
              split at hc
              · rename_i hzl
                injection hc with hc; subst hc
                have := sim_clr (P := P) (w := w) (ty := o.type) hf m tm' hU h1 h2 hzl h3 ha
                simp only [resolve, hcal, Sem.run_bind, Sem.run_pure, Result.andThen_ok, invoke, builtin, args_one hx, arr_one ht]
                simpa [Sem.run_bind] using this
              · cases hc
            · cases hc
        · cases hc
      case min =>
        split at hc
        · rename_i x y hx
          split at hc
          · rename_i x' y' h1 h2
            injection hc with hc; subst hc
            have := sim_mnx (P := P) (w := w) (ty := c.argTypes) (tt := o.type) hf m tm' h1 h2 ha
            simp only [resolve, hcal, Sem.run_bind, Sem.run_pure, Result.andThen_ok, invoke, builtin, args_two hx]
            simpa [Sem.run_bind] using this
          · cases hc
        · cases hc
      case max =>
        split at hc
        · rename_i x y hx
          split at hc
          · rename_i x' y' h1 h2
            injection hc with hc; subst hc
            have := sim_mnx (P := P) (w := w) (ty := c.argTypes) (tt := o.type) hf m tm' h1 h2 ha
            simp only [resolve, hcal, Sem.run_bind, Sem.run_pure, Result.andThen_ok, invoke, builtin, args_two hx]
            simpa [Sem.run_bind] using this
          · cases hc
        · cases hc
  all_goals cases hc
theorem any_cases {ops : Array Oper} {op : Op} {p : AOp} (h : anyOp P ops op = some p) : compOp P op = some p ∨ altOp P ops op = some p := by
  unfold anyOp at h
  split at h
  · rename_i q hq; injection h with h; subst h; exact .inr hq
  · exact .inl h
theorem alt_sim {ops : Array Oper} {o : Oper} {p : AOp} {v : FV} {μ' : Mu} {id : Id} (hc : altOp P ops o.op = some p) (hf : AFR γ μ w nt fr a) (m : MR γ μ w) (tm : Tm μ D)
    (ha : aop p id fr μ = some (v, μ')) : OpOk γ μ w D ((execOp a.eval o).run P w) v μ' := by
  unfold altOp at hc
  split at hc
  · rename_i t x lo hop
    simp only [execOp, hop]
    split at hc
    · split at hc
      · rename_i z x' lo' h1 h2 h3
        injection hc with hc; subst hc
        cases hU : sliceT P t with
        | none => rw [hU] at h1; simp at h1
        | some e =>
          rw [hU] at h1
          exact sim_tl hf m tm hU h1 h2 h3 ha
      · cases hc
    · cases hc
  · rename_i t b hop
    simp only [execOp, hop]
    split at hc
    · split at hc
      · rename_i ag z h1 h2
        injection hc with hc; subst hc
        exact sim_load hf m tm h1 h2 (x := .tmp b) (x' := .t b) rfl (ldo_load ha)
      · cases hc
    · split at hc
      · split at hc
        · rename_i ag z h1 h2
          injection hc with hc; subst hc
          exact sim_load hf m tm h1 h2 (x := .tmp b) (x' := .t b) rfl (ldo_load ha)
        · cases hc
      · cases hc
  · rename_i t d x hop
    simp only [execOp, hop]
    split at hc
    · split at hc
      · rename_i z x' h1 h2
        injection hc with hc; subst hc
        exact sim_store (sh := []) (x := .tmp d) (x' := .t d) hf m tm h1 rfl h2 (stn_store ha)
      · cases hc
    · split at hc
      · split at hc
        · rename_i z x' h1 h2
          injection hc with hc; subst hc
          exact sim_store (sh := []) (x := .tmp d) (x' := .t d) hf m tm h1 rfl h2 (stn_store ha)
        · cases hc
      · cases hc
  · cases hc
theorem alt_call {ops : Array Oper} {op : Op} {p : AOp} (hc : altOp P ops op = some p) : p.isCall = false := by
  unfold altOp at hc
  split at hc
  · split at hc
    · split at hc
      · injection hc with hc; subst hc; rfl
      · cases hc
    · cases hc
  · split at hc
    · split at hc
      · injection hc with hc; subst hc; rfl
      · cases hc
    · split at hc
      · split at hc
        · injection hc with hc; subst hc; rfl
        · cases hc
      · cases hc
  · split at hc
    · split at hc
      · injection hc with hc; subst hc; rfl
      · cases hc
    · split at hc
      · split at hc
        · injection hc with hc; subst hc; rfl
        · cases hc
      · cases hc
  · cases hc
end Go.Proofs.Ytndabolfhhppkaa.Am
