/- One operation, on: numbers, structs, addresses, elements. No condition. -/
import Derived.Test.YtndabolfhhppkaaOps
namespace Go.Proofs.Ytndabolfhhppkaa.Am
open Go Go.RowKit
variable {P : Program} {γ : Gh} {μ : Mu} {w : World} {nt : Nat} {D : List Nat} {fr : Fr} {a : Act}

theorem ok_val {S : Sem Value} {v : FV} {v' : Value} (m : MR γ μ w) (tm : Tm μ D) (h : S.run P w = .ok v' w) (hv : FR γ μ w v v') : OpOk γ μ w D ((do pure (Next.value (← S)) : Sem Next).run P w) v μ := by
  rw [Sem.run_bind, h]
  simp only [Result.andThen_ok, Sem.run_pure]
  exact .same m tm hv
theorem some_pair {α β : Type} {x : Option α} {f : α → β} {y : β} (h : x.map f = some y) : ∃ z, x = some z ∧ f z = y := by cases x <;> simp at h; exact ⟨_, rfl, h⟩
theorem sim_bin {op : BinOp} {t : TypeId} {x y : Operand} {x' y' : Opd} {v : FV} {μ' : Mu} {id : Id} (hf : AFR γ μ w nt fr a) (m : MR γ μ w) (tm : Tm μ D) (hx : opdOf x = some x') (hy : opdOf y = some y')
    (ha : aop (.bin op x' y') id fr μ = some (v, μ')) : OpOk γ μ w D ((do pure (Next.value (← (do eqGuard op t x y (a.eval x) (a.eval y); binOp op t (a.eval x) (a.eval y)))) : Sem Next).run P w) v μ' := by
  have h1 := opd_rel hf hx
  have h2 := opd_rel hf hy
  simp only [aop] at ha
  split at ha
  · rename_i p q hp hq
    rw [hp] at h1; rw [hq] at h2
    obtain ⟨z, hz, e⟩ := some_pair ha
    cases e
    rw [(inv_val h1).1, (inv_val h2).1]
    obtain ⟨hr, hs⟩ := run_binOp (P := P) (w := w) (t := t) (x := x) (y := y) hz
    exact ok_val m tm hr (fr_val hs)
  · cases ha
theorem sim_eqa {op : BinOp} {neg : Bool} {ks : List Bool} {t : TypeId} {x y : Operand} {x' y' : Opd} {v : FV} {μ' : Mu} {id : Id} (hf : AFR γ μ w nt fr a) (m : MR γ μ w) (tm : Tm μ D) (hx : opdOf x = some x') (hy : opdOf y = some y')
    (hop : (op = .eql ∧ neg = false) ∨ (op = .neq ∧ neg = true)) (hks : flatT P t = some ks)
    (ha : aop (.eqa neg ks x' y') id fr μ = some (v, μ')) : OpOk γ μ w D ((do pure (Next.value (← (do eqGuard op t x y (a.eval x) (a.eval y); binOp op t (a.eval x) (a.eval y)))) : Sem Next).run P w) v μ' := by
  have h1 := opd_rel hf hx
  have h2 := opd_rel hf hy
  simp only [aop] at ha
  split at ha
  · rename_i p q hp hq
    rw [hp] at h1; rw [hq] at h2
    obtain ⟨z, hz, e⟩ := some_pair ha
    cases e
    obtain ⟨us, e1, hu⟩ := inv_agg h1
    obtain ⟨vs, e2, hv⟩ := inv_agg h2
    rw [e1, e2]
    unfold flatT at hks
    split at hks
    · rename_i fs hU
      split at hks
      · rename_i hst
        obtain ⟨hst, hgd⟩ := hst
        have hfo : P.fieldsOf t = fs := by simp [Program.fieldsOf, hU]
        have hE : (Op.equalIn 10000 t (.agg us.toArray) (.agg vs.toArray)).run P w = .ok z w := by
          rw [run_equalIn_struct w 9999 t _ _ (by rw [hfo]; exact hU) hst, hfo]
          exact flat_eq (d := 9998) fs.toList 0 ks p q us vs z hks (fun k c hk => by rw [Nat.zero_add]; exact hu.get hk) (fun k c hk => by rw [Nat.zero_add]; exact hv.get hk) hz
        refine ok_val m tm (v' := .bool (if neg = true then !z else z)) ?_ (fr_val rfl)
        rw [Sem.run_bind, run_eqGuard_agg w op t x y _ _ hgd]
        simp only [Result.andThen_ok]
        rcases hop with ⟨rfl, rfl⟩ | ⟨rfl, rfl⟩
        · rw [run_eql_struct, hE]; rfl
        · rw [run_neq_struct, hE]; rfl
      · cases hks
    · cases hks
  · cases ha
theorem sim_eqb {op : BinOp} {neg : Bool} {t : TypeId} {x y : Operand} {x' y' : Opd} {v : FV} {μ' : Mu} {id : Id} (hf : AFR γ μ w nt fr a) (m : MR γ μ w) (tm : Tm μ D) (hx : opdOf x = some x') (hy : opdOf y = some y')
    (hop : (op = .eql ∧ neg = false) ∨ (op = .neq ∧ neg = true)) (hU : P.underlying t = some .bool)
    (ha : aop (.eqb neg x' y') id fr μ = some (v, μ')) : OpOk γ μ w D ((do pure (Next.value (← (do eqGuard op t x y (a.eval x) (a.eval y); binOp op t (a.eval x) (a.eval y)))) : Sem Next).run P w) v μ' := by
  have h1 := opd_rel hf hx
  have h2 := opd_rel hf hy
  simp only [aop] at ha
  split at ha
  · rename_i p q hp hq
    rw [hp] at h1; rw [hq] at h2
    injection ha with ha; injection ha with e1 e2; subst e1; subst e2
    rw [(inv_val h1).1, (inv_val h2).1]
    refine ok_val m tm (v' := .bool (if neg = true then !(p == q) else p == q)) ?_ (fr_val rfl)
    rcases hop with ⟨rfl, rfl⟩ | ⟨rfl, rfl⟩
    · simp [eqGuard, binOp, Op.equal, Op.maxDepth, run_equalIn_bool _ _ _ _ _ hU]
    · simp [eqGuard, binOp, Op.equal, Op.maxDepth, run_equalIn_bool _ _ _ _ _ hU]
  · cases ha
theorem sim_un {op : UnOp} {x : Operand} {x' : Opd} {v : FV} {μ' : Mu} {id : Id} (hf : AFR γ μ w nt fr a) (m : MR γ μ w) (tm : Tm μ D) (hx : opdOf x = some x')
    (ha : aop (.un op x') id fr μ = some (v, μ')) : OpOk γ μ w D ((do pure (Next.value (← Op.unary op (a.eval x))) : Sem Next).run P w) v μ' := by
  have h1 := opd_rel hf hx
  simp only [aop] at ha
  split at ha
  · rename_i p hp
    rw [hp] at h1
    obtain ⟨z, hz, e⟩ := some_pair ha
    cases e
    rw [(inv_val h1).1]
    cases op <;> cases p <;> simp [unV] at hz
    · subst hz; exact ok_val m tm (v' := _) (by simp [Op.unary, Op.intArith]) (fr_val rfl)
    · subst hz; exact ok_val m tm (v' := _) (by simp [Op.unary]) (fr_val rfl)
  · cases ha
theorem sim_conv {s d : TypeId} {k k' : IntKind} {x : Operand} {x' : Opd} {v : FV} {μ' : Mu} {id : Id} (hf : AFR γ μ w nt fr a) (m : MR γ μ w) (tm : Tm μ D) (hx : opdOf x = some x')
    (hs : P.underlying s = some (.int k')) (hd : P.underlying d = some (.int k))
    (ha : aop (.conv k x') id fr μ = some (v, μ')) : OpOk γ μ w D ((do pure (Next.value (← convert s d (a.eval x))) : Sem Next).run P w) v μ' := by
  have h1 := opd_rel hf hx
  simp only [aop] at ha
  split at ha
  · rename_i k2 n hp
    rw [hp] at h1
    injection ha with ha; injection ha with e1 e2; subst e1; subst e2
    rw [(inv_val h1).1]
    exact ok_val m tm (v' := .int k (k.wrap n)) (by simp [convert, run_underlying hs, run_underlying hd, Conv.intToInt]) (fr_val rfl)
  · cases ha
theorem trav_opd_rel (hf : AFR γ μ w nt fr a) : ∀ {xs : List Operand} {ys : List Opd}, trav opdOf xs = some ys → ys.length = xs.length ∧ ∀ (j : Nat) (x : Operand) (y : Opd), xs[j]? = some x → ys[j]? = some y → FR γ μ w (opd fr y) (a.eval x) := by
  intro xs ys h
  obtain ⟨h1, h2⟩ := trav_spec h
  exact ⟨h1, fun j x y hx hy => opd_rel hf (h2 j x y hx hy)⟩
theorem sim_mkfn {g : Nat} {caps : Array Operand} {cs : List Opd} {v : FV} {μ' : Mu} {id : Id} (hf : AFR γ μ w nt fr a) (m : MR γ μ w) (tm : Tm μ D) (hx : trav opdOf caps.toList = some cs)
    (ha : aop (.mkfn g cs) id fr μ = some (v, μ')) : OpOk γ μ w D ((do pure (Next.value (← Instr.makeFunc (.func g) #[] (caps.map a.eval))) : Sem Next).run P w) v μ' := by
  obtain ⟨hl, hr⟩ := trav_opd_rel hf hx
  simp only [aop] at ha
  obtain ⟨ids, hids, e⟩ := some_pair ha
  cases e
  obtain ⟨k1, k2⟩ := trav_spec hids
  have key : ∀ (j : Nat) (i : Id), ids[j]? = some i → (μ.box i).isSome = true ∧ (caps.map a.eval)[j]? = some (.pointer (some (at_ (γ.be i) 0))) := by
    intro j i hi
    have hj : j < cs.length := by rw [← k1]; exact (List.getElem?_eq_some_iff.1 hi).1
    have hc : cs[j]? = some cs[j] := List.getElem?_eq_getElem hj
    have hx' : caps.toList[j]? = some (caps.toList[j]'(by omega)) := List.getElem?_eq_getElem _
    have h1 := hr j _ _ hx' hc
    have h2 := k2 j _ i hc hi
    revert h1
    generalize opd fr cs[j] = z at h2
    intro h1
    cases z <;> simp [capOf] at h2
    rename_i i' off
    cases off <;> simp at h2
    subst h2
    refine ⟨h1.1, ?_⟩
    rw [Array.getElem?_map]
    have : caps[j]? = some (caps.toList[j]'(by omega)) := by simp
    rw [this, Option.map_some, h1.2]
  have he : caps.map a.eval = ptrs (ids.map γ.be) := by
    apply Array.ext_getElem?
    intro j
    by_cases hj : j < ids.length
    · have hi : ids[j]? = some ids[j] := List.getElem?_eq_getElem hj
      rw [(key j _ hi).2]
      simp [ptrs, hi]
    · have h1 : caps.size ≤ j := by
        have h3 : caps.toList.length = caps.size := rfl
        omega
      rw [Array.getElem?_eq_none (by simpa using h1), Array.getElem?_eq_none (by simp [ptrs]; omega)]
  rw [he]
  refine ok_val m tm (v' := .func (.func g) #[] (ptrs (ids.map γ.be))) (by simp [Instr.makeFunc]) ?_
  refine CR.fn fun i hi => ?_
  obtain ⟨j, hj⟩ := List.getElem?_of_mem hi
  exact (key j i hj).1
theorem sim_fad {s : TypeId} {f : Nat} {fd : Field} {z : Nat} {x : Operand} {x' : Opd} {v : FV} {μ' : Mu} {id : Id} (hf : AFR γ μ w nt fr a) (m : MR γ μ w) (tm : Tm μ D) (hx : opdOf x = some x') (hfd : fieldT P s f = some fd) (hz : szOf P fd.type = some z)
    (ha : aop (.fad x' fd.offset) id fr μ = some (v, μ')) : OpOk γ μ w D ((do pure (Next.value (← Instr.fieldAt s (a.eval x) f)) : Sem Next).run P w) v μ' := by
  have h1 := opd_rel hf hx
  unfold fieldT at hfd
  split at hfd
  · rename_i fs hU
    obtain ⟨i, hi, hsz, hne⟩ := szOf_spec hz
    have hpl : ∀ b o : Nat, (fieldPlace (at_ b o) fd).run P w = .ok (at_ b (o + fd.offset)) w := fun b o => by
      simp [fieldPlace, run_sizeOf hz, hne, at_add]
    have go : ∀ b o, a.eval x = .pointer (some (at_ b o)) → (Instr.fieldAt s (a.eval x) f).run P w = .ok (.pointer (some (at_ b (o + fd.offset)))) w := fun b o e => by
      rw [e]; simp [Instr.fieldAt, run_underlying hU, hfd, Instr.sureAddr, hpl]
    simp only [aop] at ha
    split at ha <;> try (cases ha; done)
    · rename_i i o ho
      injection ha with ha; injection ha with e1 e2; subst e1; subst e2
      rw [ho] at h1
      exact ok_val m tm (go _ _ h1.2) ⟨h1.1, rfl⟩
    · rename_i cs o ho
      injection ha with ha; injection ha with e1 e2; subst e1; subst e2
      rw [ho] at h1
      obtain ⟨b, o', vs, e, h⟩ := h1
      exact ok_val m tm (go _ _ e) ⟨b, o', vs, by rw [Nat.add_assoc], h⟩
    · rename_i i k o ho
      injection ha with ha; injection ha with e1 e2; subst e1; subst e2
      rw [ho] at h1
      obtain ⟨b, o', e, h⟩ := h1
      exact ok_val m tm (go _ _ e) ⟨b, o', by rw [Nat.add_assoc], h⟩
  · cases hfd
/-- A part of an aggregate by value. -/
theorem part_sim {g : Bool} {z off : Nat} {t : TypeId} {cs : List Cell} {us : List Value} {x : FV} (hg : aggT P t = some g) (hz : szOf P t = some z) (hc : CRs γ μ w cs us) (h : ld g cs off z = some x) :
    ∃ v, (part t us.toArray off).run P w = .ok v w ∧ FR γ μ w x v := by
  unfold ld at h
  cases g with
  | true =>
    simp only [if_true] at h
    obtain ⟨r, hs, e⟩ := some_pair h
    cases e
    obtain ⟨h1, h2⟩ := sub_spec _ _ _ _ hs
    refine ⟨.agg (us.toArray.extract off (off + z)), by simp [part, run_isAgg hg, run_sizeOf hz], (us.drop off).take z, by simp [List.extract_eq_take_drop], ?_, fun j c v hj hv => ?_⟩
    · by_cases hz0 : z = 0
      · subst hz0; simp [h1]
      · obtain ⟨c, _, hy⟩ := h2 (z - 1) (by omega)
        have := (List.getElem?_eq_some_iff.1 hy).1
        rw [List.length_take, List.length_drop, hc.1, h1]; omega
    · have hjz : j < z := by have := (List.getElem?_eq_some_iff.1 hj).1; omega
      obtain ⟨c', hx, hy⟩ := h2 j hjz
      rw [hj] at hx; cases hx
      rw [List.getElem?_take, if_pos hjz, List.getElem?_drop] at hv
      exact hc.2 _ c v hy hv
  | false =>
    simp only [Bool.false_eq_true, if_false] at h
    rw [nth_spec] at h
    obtain ⟨c, hs, e⟩ := some_pair h
    cases e
    obtain ⟨v, hv, hr⟩ := hc.get hs
    exact ⟨v, by simp [part, run_isAgg hg, hv], hr⟩
theorem sim_fld {s : TypeId} {f : Nat} {fd : Field} {g : Bool} {z : Nat} {x : Operand} {x' : Opd} {v : FV} {μ' : Mu} {id : Id} (hf : AFR γ μ w nt fr a) (m : MR γ μ w) (tm : Tm μ D) (hx : opdOf x = some x') (hfd : fieldT P s f = some fd) (hg : aggT P fd.type = some g) (hz : szOf P fd.type = some z)
    (ha : aop (.fld g fd.offset z x') id fr μ = some (v, μ')) : OpOk γ μ w D ((do pure (Next.value (← Instr.field s (a.eval x) f)) : Sem Next).run P w) v μ' := by
  have h1 := opd_rel hf hx
  unfold fieldT at hfd
  split at hfd
  · rename_i fs hU
    simp only [aop] at ha
    split at ha
    · rename_i cs ho
      rw [ho] at h1
      obtain ⟨us, e, hc⟩ := inv_agg h1
      obtain ⟨y, hy, e'⟩ := some_pair ha
      cases e'
      obtain ⟨v', hr, hv⟩ := part_sim (P := P) hg hz hc hy
      exact ok_val m tm (by rw [e]; simp [Instr.field, run_underlying hU, hfd, asAgg, hr]) hv
    · cases ha
  · cases hfd
theorem nat_rel {x : FV} {v : Value} {k : Nat} (h : FR γ μ w x v) (hn : nat? x = some k) : ∃ q, v = .int q k := by
  unfold nat? at hn
  split at hn
  · rename_i q n
    split at hn
    · rename_i h0
      injection hn with hn
      subst hn
      exact ⟨q, by rw [(inv_val h).1]; congr 1; omega⟩
    · cases hn
  · cases hn
theorem sim_idx {t e : TypeId} {n : Nat} {g : Bool} {z : Nat} {x i : Operand} {x' i' : Opd} {v : FV} {μ' : Mu} {id : Id} (hf : AFR γ μ w nt fr a) (m : MR γ μ w) (tm : Tm μ D) (hx : opdOf x = some x') (hi : opdOf i = some i') (hU : P.underlying t = some (.array n e)) (hg : aggT P e = some g) (hz : szOf P e = some z)
    (ha : aop (.idx g z n x' i') id fr μ = some (v, μ')) : OpOk γ μ w D ((do pure (Next.value (← Instr.index t (a.eval x) (a.eval i))) : Sem Next).run P w) v μ' := by
  have h1 := opd_rel hf hx
  have h2 := opd_rel hf hi
  simp only [aop] at ha
  split at ha
  · rename_i cs ho
    rw [ho] at h1
    obtain ⟨us, e, hc⟩ := inv_agg h1
    cases hn : nat? (opd fr i') with
    | none => rw [hn] at ha; simp at ha
    | some k =>
      rw [hn] at ha
      simp only [Option.bind_some] at ha
      split at ha
      · rename_i hlt
        obtain ⟨y, hy, e'⟩ := some_pair ha
        cases e'
        obtain ⟨q, hq⟩ := nat_rel h2 hn
        obtain ⟨v', hr, hv⟩ := part_sim (P := P) hg hz hc hy
        refine ok_val m tm (v' := v') ?_ hv
        rw [e, hq]
        have hk : (0 : Int) ≤ k ∧ (k : Int) < n := by omega
        simp [Instr.index, asIntOf, run_underlying hU, hlt, run_sizeOf hz, hr]
      · cases ha
  · cases ha
theorem sim_ext {x : Operand} {x' : Opd} {k : Nat} {v : FV} {μ' : Mu} {id : Id} (hf : AFR γ μ w nt fr a) (m : MR γ μ w) (tm : Tm μ D) (hx : opdOf x = some x')
    (ha : aop (.ext x' k) id fr μ = some (v, μ')) : OpOk γ μ w D ((do pure (Next.value (← Instr.extract (a.eval x) k)) : Sem Next).run P w) v μ' := by
  have h1 := opd_rel hf hx
  simp only [aop] at ha
  split at ha
  · rename_i vs ho
    rw [ho] at h1
    obtain ⟨us, e, hl, hr⟩ := h1
    obtain ⟨y, hy, e'⟩ := some_pair ha
    cases e'
    rw [nth_spec] at hy
    have hk : k < us.length := by rw [hl]; exact (List.getElem?_eq_some_iff.1 hy).1
    have hv : us[k]? = some us[k] := List.getElem?_eq_getElem hk
    exact ok_val m tm (v' := us[k]) (by rw [e]; simp [Instr.extract, hk]) (hr k y _ hy hv)
  · cases ha
theorem sim_mnx {mx : Bool} {ty : Array TypeId} {tt : TypeId} {x y : Operand} {x' y' : Opd} {v : FV} {μ' : Mu} {id : Id} (hf : AFR γ μ w nt fr a) (m : MR γ μ w) (tm : Tm μ D) (hx : opdOf x = some x') (hy : opdOf y = some y')
    (ha : aop (.mnx mx x' y') id fr μ = some (v, μ')) : OpOk γ μ w D ((do pure (Next.value (← (if mx = true then Builtin.max_ ty tt #[a.eval x, a.eval y] else Builtin.min_ ty tt #[a.eval x, a.eval y]))) : Sem Next).run P w) v μ' := by
  have h1 := opd_rel hf hx
  have h2 := opd_rel hf hy
  simp only [aop] at ha
  split at ha
  · rename_i k p k' q hp hq
    rw [hp] at h1; rw [hq] at h2
    split at ha
    · rename_i hk
      injection ha with ha; injection ha with e1 e2; subst e1; subst e2; subst hk
      rw [(inv_val h1).1, (inv_val h2).1]
      cases mx
      · refine ok_val m tm (v' := .int k (min p q)) ?_ (fr_val rfl)
        have e : (if q < p then q else p) = min p q := by split <;> omega
        simp [Builtin.min_, Builtin.min2, e]
      · refine ok_val m tm (v' := .int k (max p q)) ?_ (fr_val rfl)
        have e : (if q > p then q else p) = max p q := by split <;> omega
        simp [Builtin.max_, Builtin.max2, e]
    · cases ha
  · cases ha
/-! ### Elements -/
/-- What a slice is: its elements' cells, where they lie. -/
theorem elems_rel (m : MR γ μ w) {z : Nat} {x : FV} {v : Value} {xs : List (List Cell)} (h : FR γ μ w x v) (he : elems μ z x = some xs) :
    ∃ A c, v = .slice A xs.length c ∧ xs.length ≤ c ∧ (∀ r ∈ xs, r.length = z) ∧ c ≤ maxLen ∧
      (0 < xs.length → ∃ (b o : Nat) (vs : Nat → Value), A = some (at_ b o) ∧ ∀ (j : Nat) (y : Cell), xs.flatten[j]? = some y → w.cell? (at_ b (o + j)) = some (vs j) ∧ DR γ.st w y (vs j)) := by
  cases x with
  | v x =>
    cases x with
    | agg cs => simp [elems] at he
    | c x =>
      simp only [elems] at he
      cases x with
      | mref x => simp [elemsC] at he
      | val x => simp [elemsC] at he
      | nil =>
        simp only [elemsC, Option.some.injEq] at he
        subst he
        cases h with
        | z h => cases h with
          | nil => exact ⟨_, 0, rfl, Nat.le_refl _, by simp, by simp [maxLen], by simp⟩
          | dat h => cases h
      | ro z' ys =>
        simp only [elemsC] at he
        split at he
        · injection he with he
          subst he
          rename_i hz
          subst hz
          cases h with
          | z h => cases h with
            | dat h => cases h with
              | ro h1 h2 h3 h4 h5 h6 h7 =>
                subst h1
                exact ⟨_, _, rfl, h2, h4, h3, fun hp => ⟨_, _, _, h5 hp, fun j y hj => ⟨(h6 j y hj).2, h7 j y hj⟩⟩⟩
        · cases he
      | own i =>
        simp only [elemsC] at he
        cases ha : μ.arr i with
        | none => rw [ha] at he; simp at he
        | some q =>
          rw [ha] at he
          simp only [Option.bind_some] at he
          split at he
          · rename_i hz
            injection he with he
            subst he
            obtain ⟨hz, hpos⟩ := hz
            subst hz
            obtain ⟨hr, _, hh⟩ := m.liv ha (by omega)
            cases h with
            | z h => cases h with | dat h => cases h
            | own _ =>
              rcases hh with ⟨A, e, h0⟩ | ⟨g, cap, cur, e, _, hg, hc, hm, _, hcont, _⟩
              · rw [e, h0]; exact ⟨A, 0, rfl, Nat.le_refl _, by simp, by simp [maxLen], by simp⟩
              · rw [e]
                refine ⟨_, cap, rfl, hc, hr, hm, fun _ => ⟨g, 0, fun j => cur.toList.getD j undef, rfl, fun j y hj => ?_⟩⟩
                obtain ⟨v, hv, hd⟩ := hcont j y hj
                have e' : cur.toList.getD j undef = v := by
                  have hv' : cur.toList[j]? = some v := by simpa using hv
                  rw [List.getD_eq_getElem?_getD, hv']; rfl
                show _ = some (cur.toList.getD j undef) ∧ DR γ.st w y (cur.toList.getD j undef)
                rw [e', Nat.zero_add]
                exact ⟨by rw [at_, cell_of_row w _ _ cur _ (0, 0) hg, hv], hd⟩
          · cases he
      | fresh e s ys => simp [elemsC] at he
      | fn g ids => simp [elemsC] at he
      | clo g cs => simp [elemsC] at he
      | any => simp [elemsC] at he
  | _ => simp [elems] at he
theorem sim_len {t e : TypeId} {z : Nat} {x : Operand} {x' : Opd} {v : FV} {μ' : Mu} {id : Id} {tt : TypeId} (hf : AFR γ μ w nt fr a) (m : MR γ μ w) (tm : Tm μ D) (hx : opdOf x = some x') (hU : sliceT P t = some e)
    (ha : aop (.len z x') id fr μ = some (v, μ')) : OpOk γ μ w D ((do pure (Next.value (← Builtin.len_ #[t] tt #[a.eval x])) : Sem Next).run P w) v μ' := by
  have h1 := opd_rel hf hx
  simp only [aop] at ha
  obtain ⟨xs, hxs, e'⟩ := some_pair ha
  cases e'
  obtain ⟨A, c, hv, _⟩ := elems_rel m h1 hxs
  have hu : P.underlying t = some (.slice e) := by
    unfold sliceT at hU
    split at hU
    · rename_i hu; injection hU with hU; subst hU; exact hu
    · cases hU
  exact ok_val m tm (v' := .int .i64 xs.length) (by rw [hv]; simp [Builtin.len_, run_underlying hu, goInt]) (fr_val rfl)
theorem sim_iad {t e : TypeId} {z : Nat} {x i : Operand} {x' i' : Opd} {v : FV} {μ' : Mu} {id : Id} (hf : AFR γ μ w nt fr a) (m : MR γ μ w) (tm : Tm μ D) (hx : opdOf x = some x') (hi : opdOf i = some i') (hU : sliceT P t = some e) (hz : szOf P e = some z)
    (ha : aop (.iad z x' i') id fr μ = some (v, μ')) : OpOk γ μ w D ((do pure (Next.value (← Instr.indexAt t (a.eval x) (a.eval i))) : Sem Next).run P w) v μ' := by
  have h1 := opd_rel hf hx
  have h2 := opd_rel hf hi
  have hu : P.underlying t = some (.slice e) := by
    unfold sliceT at hU
    split at hU
    · rename_i hu; injection hU with hU; subst hU; exact hu
    · cases hU
  have go : ∀ {n c k : Nat} {b o : Nat} {q : IntKind}, a.eval x = .slice (some (at_ b o)) n c → a.eval i = .int q k → k < n → (Instr.indexAt t (a.eval x) (a.eval i)).run P w = .ok (.pointer (some (at_ b (o + k * z)))) w := by
    intro n c k b o q e1 e2 hk
    rw [e1, e2]
    simp [Instr.indexAt, asIntOf, run_underlying hu, hk, run_sizeOf hz, at_add]
  simp only [aop] at ha
  split at ha
  · rename_i z' xs ho
    rw [ho] at h1
    split at ha
    · rename_i hzz
      subst hzz
      cases hn : nat? (opd fr i') with
      | none => rw [hn] at ha; simp at ha
      | some k =>
        rw [hn] at ha
        simp only [Option.bind_some] at ha
        obtain ⟨r, hr, e'⟩ := some_pair ha
        cases e'
        obtain ⟨q, hq⟩ := nat_rel h2 hn
        have hk : k < xs.length := (List.getElem?_eq_some_iff.1 hr).1
        revert h1
        generalize hw : a.eval x = vv
        intro h1
        cases h1 with
        | z h => cases h with
          | dat h => cases h with
            | @ro _ _ A n c b o vs g1 g2 g3 g4 g5 g6 g7 =>
              subst g1
              have hA := g5 (by omega)
              subst hA
              refine ok_val m tm (by rw [← hw]; exact go hw hq hk) ⟨b, o + k * z', fun j => vs (k * z' + j), rfl, fun j c hj => ?_⟩
              have hfl := flatten_at g4 hr hj
              rw [Nat.add_assoc]
              exact ⟨.inr (g6 _ c hfl).1, (g6 _ c hfl).2, .z (.dat (g7 _ c hfl))⟩
    · cases ha
  · rename_i j ho
    rw [ho] at h1
    cases hn : nat? (opd fr i') with
    | none => rw [hn] at ha; simp at ha
    | some k =>
      rw [hn] at ha
      simp only [Option.bind_some] at ha
      cases hb : μ.arr j with
      | none => rw [hb] at ha; simp at ha
      | some q =>
        rw [hb] at ha
        simp only [Option.bind_some] at ha
        split at ha
        · rename_i hc
          obtain ⟨hc1, hc2⟩ := hc
          injection ha with ha; injection ha with e1 e2; subst e1; subst e2
          obtain ⟨qk, hq⟩ := nat_rel h2 hn
          obtain ⟨hr, _, hh⟩ := m.liv hb (m.live hb (List.getElem?_eq_getElem hc2))
          revert h1
          generalize hw : a.eval x = vv
          intro h1
          cases h1 with
          | z h => cases h with | dat h => cases h
          | own _ =>
            rcases hh with ⟨A, _, h0⟩ | ⟨g, cap, cur, e, _⟩
            · rw [h0] at hc2; simp at hc2
            · refine ok_val m tm (by rw [← hw]; exact go (hw.trans e) hq hc2) ⟨g, k * q.sz, ?_, q, hb, .inr ⟨cap, e, hc2, rfl⟩⟩
              rw [hc1, Nat.zero_add]
              rfl
        · cases ha
  · cases ha
end Go.Proofs.Ytndabolfhhppkaa.Am
