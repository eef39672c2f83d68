/- One operation, the end: a cut, and all operations but the calls in one law. No condition. -/
import Derived.Test.YtndabolfhhppkaaOpsF
namespace Go.Proofs.Ytndabolfhhppkaa.Am
open Go Go.RowKit
variable {P : Program} {γ : Gh} {μ : Mu} {w : World} {nt : Nat} {D : List Nat} {fr : Fr} {a : Act}

theorem run_bound {v : Value} {y k : Nat} {code : BoundsCode} {q : IntKind} (h : v = .int q (k : Int)) (hk : k ≤ y) : (Instr.sliceBound v y code).run P w = .ok k w := by
  subst h
  have := run_sliceBound (P := P) (w := w) q (k : Int) y code (by omega) (by omega)
  simpa using this
theorem bnd_rel (hf : AFR γ μ w nt fr a) {o : Option Operand} {o' : Option Opd} (ho : opdO o = some o') {d k : Nat} (h : bnd fr d o' = some k) :
    (o = none ∧ o' = none ∧ k = d) ∨ (∃ x q, o = some x ∧ a.eval x = .int q (k : Int)) := by
  cases o with
  | none => simp only [opdO, Option.some.injEq] at ho; subst ho; simp only [bnd, Option.some.injEq] at h; exact .inl ⟨rfl, rfl, h.symm⟩
  | some x =>
    simp only [opdO] at ho
    obtain ⟨y, hy, e⟩ := some_pair ho
    subst e
    simp only [bnd] at h
    obtain ⟨q, hq⟩ := nat_relI (opd_rel hf hy) h
    exact .inr ⟨x, q, rfl, hq⟩
theorem sim_slc {t e : TypeId} {z : Nat} {x : Operand} {x' : Opd} {lo hi mx : Option Operand} {lo' hi' mx' : Option Opd} {v : FV} {μ' : Mu} {id : Id} (hf : AFR γ μ w nt fr a) (m : MR γ μ w) (tm : Tm μ D)
    (hU : sliceT P t = some e) (hz : szOf P e = some z) (hx : opdOf x = some x') (hlo : opdO lo = some lo') (hhi : opdO hi = some hi') (hmx : opdO mx = some mx')
    (ha : aop (.slc z x' lo' hi' mx') id fr μ = some (v, μ')) : OpOk γ μ w D ((do pure (Next.value (← Instr.sliceAt t (a.eval x) (lo.map a.eval) (hi.map a.eval) (mx.map a.eval))) : Sem Next).run P w) v μ' := by
  have h1 := opd_rel hf hx
  simp only [aop] at ha
  cases hel : elems μ z (opd fr x') with
  | none => rw [hel] at ha; simp at ha
  | some xs =>
  rw [hel] at ha
  simp only at ha
  obtain ⟨X, cx, hxv, hxc, hxr, hcm, hyc⟩ := elems_rel m h1 hel
  have hT := sliceT_spec hU
  rw [hxv]
  have hrun : ∀ {l h k : Nat}, (Instr.sliceBounds true xs.length cx (lo.map a.eval) (hi.map a.eval) (mx.map a.eval)).run P w = .ok (l, h, k) w →
      (Instr.sliceAt t (.slice X xs.length cx) (lo.map a.eval) (hi.map a.eval) (mx.map a.eval)).run P w = .ok (.slice (if k = l then X else X.map (·.add (l * z))) (h - l) (k - l)) w := by
    intro l h k hb
    simp only [Instr.sliceAt, Sem.run_bind, run_underlying hT, Result.andThen_ok, Instr.slice, hb, run_sizeOf hz, Sem.run_pure]
  split at ha
  · rename_i mo
    split at ha
    · rename_i hc
      injection ha with ha; injection ha with e1 e2; subst e1; subst e2
      obtain ⟨c1, c2, c3⟩ := hc
      cases mx with
      | none => simp [opdO] at hmx
      | some mq =>
        simp only [opdO] at hmx
        obtain ⟨my, hmy, e⟩ := some_pair hmx
        injection e with e; subst e
        obtain ⟨q, hq⟩ := nat_relI (opd_rel hf hmy) c3
        cases lo with
        | some l => simp only [opdO] at hlo; obtain ⟨y, _, e⟩ := some_pair hlo; subst e; simp at c1
        | none =>
          cases hi with
          | none => simp only [opdO, Option.some.injEq] at hhi; subst hhi; simp at c2
          | some hq' =>
            simp only [opdO] at hhi
            obtain ⟨y, hy, e⟩ := some_pair hhi
            subst e
            simp only [Option.bind_some] at c2
            obtain ⟨q2, hq2⟩ := nat_relI (opd_rel hf hy) c2
            have hb : (Instr.sliceBounds true xs.length cx ((none : Option Operand).map a.eval) ((some hq').map a.eval) ((some mq).map a.eval)).run P w = .ok (0, 0, 0) w := by
              simp only [Instr.sliceBounds, Option.map_some, Option.map_none, Sem.run_bind, run_bound hq (Nat.zero_le _), run_bound hq2 (Nat.le_refl _), Result.andThen_ok, Sem.run_pure]
            have := hrun hb
            exact ok_val m tm this (.z .nil)
    · cases ha
  · cases mx with
    | some mq => simp only [opdO] at hmx; obtain ⟨y, _, e⟩ := some_pair hmx; cases e
    | none =>
      cases hl : bnd fr 0 lo' with
      | none => rw [hl] at ha; simp at ha
      | some l =>
      rw [hl] at ha
      simp only [Option.bind_some] at ha
      cases hh : bnd fr xs.length hi' with
      | none => rw [hh] at ha; simp at ha
      | some h =>
      rw [hh] at ha
      simp only [Option.bind_some] at ha
      split at ha
      case isFalse => cases ha
      rename_i hle
      injection ha with ha; injection ha with e1 e2; subst e1; subst e2
      have hb : (Instr.sliceBounds true xs.length cx (lo.map a.eval) (hi.map a.eval) ((none : Option Operand).map a.eval)).run P w = .ok (l, h, cx) w := by
        rcases bnd_rel hf hlo hl with ⟨rfl, _, rfl⟩ | ⟨xl, ql, rfl, hql⟩ <;> rcases bnd_rel hf hhi hh with ⟨rfl, _, rfl⟩ | ⟨xh, qh, rfl, hqh⟩
        · simp only [Instr.sliceBounds, Option.map_none, Sem.run_bind, Result.andThen_ok, Sem.run_pure]
        · simp only [Instr.sliceBounds, Option.map_none, Option.map_some, Sem.run_bind, Result.andThen_ok, Sem.run_pure, if_true, run_bound hqh (show h ≤ cx by omega)]
        · simp only [Instr.sliceBounds, Option.map_none, Option.map_some, Sem.run_bind, Result.andThen_ok, Sem.run_pure, Option.isSome_none, if_false, run_bound hql hle.1]
          try simp [run_bound hql hle.1]
        · simp only [Instr.sliceBounds, Option.map_none, Option.map_some, Sem.run_bind, Result.andThen_ok, Sem.run_pure, if_true, run_bound hqh (show h ≤ cx by omega), run_bound hql hle.1]
          try simp [run_bound hql hle.1]
      rw [Sem.run_bind, hrun hb]
      simp only [Result.andThen_ok, Sem.run_pure]
      have hlen : ((xs.take h).drop l).length = h - l := by simp; omega
      -- the elements are shared
      have hsh : ∃ γ', MR γ' (unsto μ (ownOf (opd fr x'))) w ∧ Ext γ μ w γ' (unsto μ (ownOf (opd fr x'))) w ∧ DR γ'.st w (.ro z xs) (.slice X xs.length cx) := by
        rw [hxv] at h1
        cases hop : opd fr x' with
        | v y =>
          rw [hop] at h1 hel
          cases y with
          | agg cs => simp [elems] at hel
          | c y =>
            simp only [elems] at hel
            cases y with
            | nil =>
              simp only [elemsC, Option.some.injEq] at hel; subst hel
              refine ⟨γ, m.unst _, .unst _, ?_⟩
              generalize hg : Value.slice X ([] : List (List Cell)).length cx = vv at h1
              cases h1 with
              | z h => cases h with
                | dat h => cases h
                | nil => injection hg with g1 g2 g3; subst g3; exact ro_nil
            | ro z' ys =>
              simp only [elemsC] at hel
              split at hel
              · rename_i hz'; injection hel with hel; subst hel; subst hz'
                refine ⟨γ, m.unst _, .unst _, ?_⟩
                cases h1 with
                | z h => cases h with
                  | dat h => exact h
              · cases hel
            | own i =>
              simp only [elemsC] at hel
              cases hi' : μ.arr i with
              | none => rw [hi'] at hel; simp at hel
              | some q =>
                rw [hi'] at hel
                simp only [Option.bind_some] at hel
                split at hel
                · rename_i hz'; obtain ⟨hz', hz0⟩ := hz'; injection hel with hel; subst hel; subst hz'
                  obtain ⟨γ', m', e, hdr⟩ := m.share hi' (by omega)
                  generalize hg : Value.slice X q.xs.length cx = vv at h1
                  cases h1 with
                  | z h => cases h with
                    | dat h => cases h
                  | own _ => exact ⟨γ', m', e, hdr⟩
                · cases hel
            | _ => simp [elemsC] at hel
        | _ => rw [hop] at hel; simp [elems] at hel
      obtain ⟨γ', m', e', hdr⟩ := hsh
      refine ⟨γ', _, w, .inl rfl, ?_, m', e', tm.unst, rfl⟩
      refine .z (.dat ?_)
      cases hdr with
      | @ro _ _ _ _ _ b o vs q1 q2 q3 q4 q5 q6 q7 =>
        have hfl : ((xs.take h).drop l).flatten = (xs.flatten.take (h * z)).drop (l * z) := by
          have : ∀ (xs : List (List Cell)) (k : Nat), (∀ r ∈ xs, r.length = z) → (xs.drop k).flatten = xs.flatten.drop (k * z) ∧ (xs.take k).flatten = xs.flatten.take (k * z) := by
            intro xs
            induction xs with
            | nil => intro k _; simp
            | cons y ys ih =>
              intro k hr
              cases k with
              | zero => simp
              | succ k =>
                have hy : y.length = z := hr y (by simp)
                obtain ⟨i1, i2⟩ := ih k (fun r h => hr r (by simp [h]))
                have hk : (k + 1) * z = y.length + k * z := by rw [hy, Nat.succ_mul]; omega
                rw [hk]
                simp only [List.drop_succ_cons, List.take_succ_cons, List.flatten_cons, List.drop_length_add_append, List.take_length_add_append, i1, i2]
                exact ⟨trivial, trivial⟩
          rw [(this (xs.take h) l (fun r hr => q4 r (List.mem_of_mem_take hr))).1, (this xs h q4).2]
        have hat : ∀ (j : Nat) (y : Cell), ((xs.take h).drop l).flatten[j]? = some y → xs.flatten[l * z + j]? = some y := fun j y hj => by
          rw [hfl, List.getElem?_drop, List.getElem?_take] at hj
          split at hj
          · exact hj
          · cases hj
        refine .ro (b := b) (o := o + l * z) (vs := fun j => vs (l * z + j)) hlen.symm (by omega) (by omega) (fun r hr => q4 r (List.mem_of_mem_take (List.mem_of_mem_drop hr))) (fun hpos => ?_) (fun j y hj => ?_) (fun j y hj => q7 _ y (hat j y hj))
        · have hX := q5 (by omega)
          rw [if_neg (by omega), hX, Option.map_some, at_add]
        · have := q6 _ y (hat j y hj)
          rw [Nat.add_assoc]; exact this
end Go.Proofs.Ytndabolfhhppkaa.Am
