/- One operation: what the abstract machine says of it is what the given model does. The ones that make no row. No condition. -/
import Derived.Test.YtndabolfhhppkaaRel
import Derived.Laws.StructEq
import Derived.Laws.Tables
import Derived.Laws.IdiomCopy
namespace Go.Proofs.Ytndabolfhhppkaa.Am
open Go Go.RowKit
variable {P : Program} {γ : Gh} {μ : Mu} {w : World}

structure AFR (γ : Gh) (μ : Mu) (w : World) (nt : Nat) (fr : Fr) (a : Act) : Prop where
  sz : nt ≤ a.tmps.size
  at_ : ∀ s, FR γ μ w (fr s) (a.tmps.getD s undef)
theorem inv_val {x v : Value} (h : FR γ μ w (.v (.c (.val x))) v) : v = x ∧ scalar x = true := by
  cases h with
  | z h => cases h with
    | dat h => cases h with
      | val h => exact ⟨rfl, h⟩
theorem inv_agg {cs : List Cell} {v : Value} (h : FR γ μ w (.v (.agg cs)) v) : ∃ vs : List Value, v = .agg vs.toArray ∧ CRs γ μ w cs vs := h
theorem cr_val {x : Value} (h : scalar x = true) : CR γ μ w (.val x) x := .z (.dat (.val h))
theorem fr_val {x : Value} (h : scalar x = true) : FR γ μ w (.v (.c (.val x))) x := cr_val h
theorem CRs.cons {c : Cell} {cs : List Cell} {v : Value} {vs : List Value} (h : CR γ μ w c v) (hs : CRs γ μ w cs vs) : CRs γ μ w (c :: cs) (v :: vs) :=
  ⟨by simp [hs.1], fun j x y hx hy => by
    cases j with
    | zero => simp at hx hy; subst hx; subst hy; exact h
    | succ j => exact hs.2 j x y (by simpa using hx) (by simpa using hy)⟩
theorem CRs.nil : CRs γ μ w [] [] := ⟨rfl, fun j x y hx => by simp at hx⟩
theorem CRs.get {cs : List Cell} {vs : List Value} (h : CRs γ μ w cs vs) {j : Nat} {c : Cell} (hc : cs[j]? = some c) : ∃ v, vs[j]? = some v ∧ CR γ μ w c v := by
  have hl : j < cs.length := (List.getElem?_eq_some_iff.1 hc).1
  have hv : vs[j]? = some (vs[j]'(by rw [h.1]; exact hl)) := List.getElem?_eq_getElem _
  exact ⟨_, hv, h.2 j c _ hc hv⟩
theorem trav_spec {α β : Type} {f : α → Option β} : ∀ {l : List α} {r : List β}, trav f l = some r → r.length = l.length ∧ ∀ (j : Nat) (a : α) (b : β), l[j]? = some a → r[j]? = some b → f a = some b
  | [], r, h => by simp [trav] at h; subst h; exact ⟨rfl, fun j a b h => by simp at h⟩
  | x :: l, r, h => by
    simp only [trav] at h
    split at h
    · rename_i b q h1 h2
      injection h with h; subst h
      obtain ⟨k1, k2⟩ := trav_spec h2
      refine ⟨by simp [k1], fun j a c ha hc => ?_⟩
      cases j with
      | zero => simp at ha hc; subst ha; subst hc; exact h1
      | succ j => exact k2 j a c (by simpa using ha) (by simpa using hc)
    · cases h
theorem sc_rel {v : Value} {c : Cell} (h : sc v = some c) : CR γ μ w c v := by
  unfold sc at h
  split at h <;> first
    | (injection h with h; subst h; exact cr_val rfl)
    | (injection h with h; subst h; exact .z .nil)
    | (injection h with h; subst h; exact .any)
    | (injection h with h; subst h; exact .anym)
    | cases h
theorem sc_one {v : Value} {c : Cell} (h : sc v = some c) : v.cells = #[v] := by
  unfold sc at h
  split at h <;> first | rfl | cases h
theorem travsc_rel {vs : List Value} {cs : List Cell} (h : trav sc vs = some cs) : CRs γ μ w cs vs := by
  obtain ⟨h1, h2⟩ := trav_spec h
  exact ⟨h1.symm, fun j c v hc hv => sc_rel (h2 j v c hv hc)⟩
theorem vl_rel {v : Value} {x : Vl} (h : vl v = some x) : VR γ μ w x v := by
  unfold vl at h
  split at h
  · rename_i cs
    cases ht : trav sc cs.toList with
    | none => simp [ht] at h
    | some r => simp [ht] at h; subst h; exact ⟨cs.toList, by simp, travsc_rel ht⟩
  · cases hs : sc v with
    | none => simp [hs] at h
    | some r => simp [hs] at h; subst h; exact sc_rel hs
theorem opd_rel {nt : Nat} {fr : Fr} {a : Act} (hf : AFR γ μ w nt fr a) {x : Operand} {y : Opd} (h : opdOf x = some y) : FR γ μ w (opd fr y) (a.eval x) := by
  cases x with
  | tmp t => simp [opdOf] at h; subst h; exact hf.at_ t
  | const v =>
    simp only [opdOf] at h
    cases hv : vl v with
    | none => simp [hv] at h
    | some r => simp [hv] at h; subst h; exact vl_rel hv
  | func f => simp [opdOf] at h; subst h; exact .z (.clo (bs := []) (vs := fun _ _ => undef) rfl (by simp) (by simp) (by simp))
  | global g => simp [opdOf] at h

/-! ### What an operation comes to -/
def OpOk (γ : Gh) (μ : Mu) (w : World) (D : List Nat) (r : Result Next) (v : FV) (μ' : Mu) : Prop :=
  ∃ γ' v' w', (r = .ok (.value v') w' ∨ (r = .ok .skip w' ∧ v' = undef)) ∧ FR γ' μ' w' v v' ∧ MR γ' μ' w' ∧ Ext γ μ w γ' μ' w' ∧ Tm μ' D ∧ μ'.t = μ.t
theorem OpOk.same {D : List Nat} {v : FV} {v' : Value} (m : MR γ μ w) (t : Tm μ D) (h : FR γ μ w v v') : OpOk γ μ w D (.ok (.value v') w) v μ :=
  ⟨γ, v', w, .inl rfl, h, m, Ext.refl _ _ _, t, rfl⟩
theorem Tm.more {D D' : List Nat} (h : Tm μ D) (hd : ∀ d ∈ D, d ∈ D') : Tm μ D' := fun i hi => (h i hi).imp id fun ⟨a, b⟩ => ⟨a, hd _ b⟩

theorem binV_int {op : BinOp} {u v z : Value} (h : binV op u v = some z) : ∃ k a k' b, u = .int k a ∧ v = .int k' b := by
  cases u <;> cases v <;> simp [binV] at h
  exact ⟨_, _, _, _, rfl, rfl⟩
theorem run_binOp {op : BinOp} {t : TypeId} {x y : Operand} {u v z : Value} (h : binV op u v = some z) :
    ((do eqGuard op t x y u v; binOp op t u v : Sem Value)).run P w = .ok z w ∧ scalar z = true := by
  obtain ⟨k, a, k', b, rfl, rfl⟩ := binV_int h
  have hg : (eqGuard op t x y (.int k a) (.int k' b)).run P w = .ok () w := by
    unfold eqGuard
    cases op <;> simp
  rw [Sem.run_bind, hg]
  simp only [Result.andThen_ok]
  cases op <;> simp only [binV] at h <;> (repeat' split at h) <;> (try cases h) <;> (try subst_vars) <;>
    simp_all [binOp, Op.intArith, Op.intDiv, Op.intBits, Op.intCmp, Op.shift, scalar]
  all_goals omega
theorem flat_eq {d : Nat} : ∀ (fs : List Field) (j : Nat) (ks : List Bool) (us bs : List Cell) (xs ys : List Value) (z : Bool), flatF P j fs = some ks →
    (∀ (k : Nat) (c : Cell), us[k]? = some c → ∃ v : Value, xs[j + k]? = some v ∧ CR γ μ w c v) → (∀ (k : Nat) (c : Cell), bs[k]? = some c → ∃ v : Value, ys[j + k]? = some v ∧ CR γ μ w c v) → eqCells ks us bs = some z →
    (Op.eqFields (d + 1) xs.toArray ys.toArray fs).run P w = .ok z w
  | [], j, ks, us, bs, xs, ys, z, hf, _, _, h => by
    simp only [flatF, Option.some.injEq] at hf
    subst hf
    cases us <;> cases bs <;> simp [eqCells] at h
    subst h
    simp [Op.eqFields]
  | f :: fs, j, ks, us, bs, xs, ys, z, hf, hx, hy, h => by
    simp only [flatF] at hf
    split at hf
    · rename_i ho
      obtain ⟨ho, hn⟩ := ho
      have part_ : ∀ {zs : List Value} {x : Value}, (∀ fs, P.underlying f.type ≠ some (.struct fs)) → (∀ n e, P.underlying f.type ≠ some (.array n e)) → (P.underlying f.type).isSome = true → zs[f.offset]? = some x → (part f.type zs.toArray f.offset).run P w = .ok x w := by
        intro zs x h1 h2 h3 hx
        have hg : (isAgg f.type).run P w = .ok false w := by
          cases hu : P.underlying f.type with
          | none => rw [hu] at h3; cases h3
          | some q => cases q <;> first | exact absurd hu (h1 _) | exact absurd hu (h2 _ _) | simp [isAgg, run_underlying hu]
        simp [part, hg, hx]
      have go : ∀ (a b : Cell) (us bs : List Cell) (l : List Bool) (u v : Value) (e : Bool), (∀ (k : Nat) (c : Cell), (a :: us)[k]? = some c → ∃ v : Value, xs[j + k]? = some v ∧ CR γ μ w c v) → (∀ (k : Nat) (c : Cell), (b :: bs)[k]? = some c → ∃ v : Value, ys[j + k]? = some v ∧ CR γ μ w c v) →
          flatF P (j + 1) fs = some l → xs[j]? = some u → ys[j]? = some v → (∀ fs, P.underlying f.type ≠ some (.struct fs)) → (∀ n e, P.underlying f.type ≠ some (.array n e)) → (P.underlying f.type).isSome = true →
          (Op.equalIn (d + 1) f.type u v).run P w = .ok e w → ∀ z, (eqCells l us bs).map (fun q => e && q) = some z → (Op.eqFields (d + 1) xs.toArray ys.toArray (f :: fs)).run P w = .ok z w := by
        intro a b us bs l u v e hx hy hl hu hv h1 h2 h3 he z hz
        cases hq : eqCells l us bs with
        | none => rw [hq] at hz; simp at hz
        | some q =>
          rw [hq] at hz
          simp only [Option.map_some, Option.some.injEq] at hz
          subst hz
          have ih := flat_eq (d := d) fs (j + 1) l us bs xs ys q hl (fun k c hk => by have := hx (k + 1) c (by simpa using hk); rwa [show j + (k + 1) = j + 1 + k by omega] at this)
            (fun k c hk => by have := hy (k + 1) c (by simpa using hk); rwa [show j + (k + 1) = j + 1 + k by omega] at this) hq
          rw [← ho] at hu hv
          have hn' : f.name ≠ "_" := by simpa using hn
          simp only [Op.eqFields, ne_eq, hn', not_false_eq_true, if_true, Sem.run_bind, part_ h1 h2 h3 hu, part_ h1 h2 h3 hv, Result.andThen_ok, he]
          cases e
          · simp
          · simp [ih]
      split at hf
      · rename_i k l hU hl
        injection hf with hf
        subst hf
        cases us with
        | nil => simp [eqCells] at h
        | cons a us =>
          cases bs with
          | nil => cases a <;> (try simp [eqCells] at h) <;> (rename_i p; cases p <;> simp [eqCells] at h)
          | cons b bs =>
            obtain ⟨u, hu, hcu⟩ := hx 0 a rfl
            obtain ⟨v, hv, hcv⟩ := hy 0 b rfl
            cases a <;> try (simp [eqCells] at h; done)
            rename_i p
            cases b <;> try (cases p <;> simp [eqCells] at h; done)
            rename_i q
            obtain ⟨rfl, _⟩ := inv_val (show FR γ μ w (.v (.c (.val p))) u from hcu)
            obtain ⟨rfl, _⟩ := inv_val (show FR γ μ w (.v (.c (.val q))) v from hcv)
            cases u <;> cases v <;> simp only [eqCells] at h <;> try (cases h; done)
            split at h
            · subst_vars
              exact go _ _ us bs l _ _ _ hx hy hl hu hv (fun _ e => by rw [hU] at e; cases e) (fun _ _ e => by rw [hU] at e; cases e) (by rw [hU]; rfl) (run_equalIn_int _ _ _ _ _ _ _ hU) z h
            · cases h
      · rename_i l hU hl
        injection hf with hf
        subst hf
        cases us with
        | nil => simp [eqCells] at h
        | cons a us =>
          cases bs with
          | nil => cases a <;> (try simp [eqCells] at h) <;> (rename_i p; cases p <;> simp [eqCells] at h)
          | cons b bs =>
            obtain ⟨u, hu, hcu⟩ := hx 0 a rfl
            obtain ⟨v, hv, hcv⟩ := hy 0 b rfl
            cases a <;> try (simp [eqCells] at h; done)
            rename_i p
            cases b <;> try (cases p <;> simp [eqCells] at h; done)
            rename_i q
            obtain ⟨rfl, _⟩ := inv_val (show FR γ μ w (.v (.c (.val p))) u from hcu)
            obtain ⟨rfl, _⟩ := inv_val (show FR γ μ w (.v (.c (.val q))) v from hcv)
            cases u <;> cases v <;> simp only [eqCells] at h <;> try (cases h; done)
            exact go _ _ us bs l _ _ _ hx hy hl hu hv (fun _ e => by rw [hU] at e; cases e) (fun _ _ e => by rw [hU] at e; cases e) (by rw [hU]; rfl) (run_equalIn_bool _ _ _ _ _ hU) z h
      · cases hf
    · cases hf
theorem nth_spec {α : Type} : ∀ (l : List α) (k : Nat), nth l k = l[k]?
  | [], k => by simp [nth]
  | c :: l, 0 => rfl
  | c :: l, k + 1 => by simp [nth, nth_spec l k]
theorem sub_spec : ∀ (l : List Cell) (o n : Nat) (r : List Cell), sub l o n = some r → r.length = n ∧ ∀ j, j < n → ∃ c, r[j]? = some c ∧ l[o + j]? = some c
  | l, 0, 0, r, h => by simp [sub] at h; subst h; exact ⟨rfl, fun j hj => absurd hj (Nat.not_lt_zero _)⟩
  | [], 0, n + 1, r, h => by simp [sub] at h
  | [], o + 1, n, r, h => by simp [sub] at h
  | c :: l, 0, n + 1, r, h => by
    simp only [sub] at h
    cases hs : sub l 0 n with
    | none => rw [hs] at h; simp at h
    | some q =>
      rw [hs] at h; simp only [Option.map_some, Option.some.injEq] at h; subst h
      obtain ⟨h1, h2⟩ := sub_spec l 0 n q hs
      refine ⟨by simp [h1], fun j hj => ?_⟩
      cases j with
      | zero => exact ⟨c, rfl, rfl⟩
      | succ j =>
        obtain ⟨x, hx, hy⟩ := h2 j (by omega)
        exact ⟨x, by simpa using hx, by simpa using hy⟩
  | c :: l, o + 1, n, r, h => by
    simp only [sub] at h
    obtain ⟨h1, h2⟩ := sub_spec l o n r h
    refine ⟨h1, fun j hj => ?_⟩
    obtain ⟨x, hx, hy⟩ := h2 j hj
    exact ⟨x, hx, by rw [show o + 1 + j = o + j + 1 by omega]; simpa using hy⟩
theorem at_add (b o j : Nat) : (at_ b o).add j = at_ b (o + j) := Addr.add_mid b o j
theorem szOf_spec {t : TypeId} {z : Nat} (h : szOf P t = some z) : ∃ i, P.info? t = some i ∧ i.size = z ∧ z ≠ 0 := by
  unfold szOf at h
  cases hi : P.info? t with
  | none => rw [hi] at h; simp at h
  | some i =>
    rw [hi] at h
    simp only [Option.bind_some] at h
    split at h
    · cases h
    · injection h with h; subst h; exact ⟨i, rfl, rfl, by assumption⟩
theorem run_sizeOf {t : TypeId} {z : Nat} (h : szOf P t = some z) : (sizeOf t).run P w = .ok z w := by
  obtain ⟨i, hi, hz, _⟩ := szOf_spec h
  simp [sizeOf, typeInfo, hi, hz]
theorem run_isAgg {t : TypeId} {g : Bool} (h : aggT P t = some g) : (isAgg t).run P w = .ok g w := by
  unfold aggT at h
  split at h <;> first
    | (rename_i hu; injection h with h; subst h; simp [isAgg, run_underlying hu]; done)
    | (rename_i d h1 h2 hu; injection h with h; subst h; cases d <;> first | exact absurd rfl (h1 _) | exact absurd rfl (h2 _ _) | simp [isAgg, run_underlying hu])
    | cases h
theorem run_loadCells_fn (b o n : Nat) (vs : Nat → Value) (h : ∀ j, j < n → w.cell? (at_ b (o + j)) = some (vs j)) : (loadCells (at_ b o) n).run P w = .ok ((List.range n).map vs).toArray w := by
  have := run_loadCells_list (P := P) w (at_ b o) ((List.range n).map vs) (fun j v hv => by
    rw [at_add]
    have hj : j < n := by have := (List.getElem?_eq_some_iff.1 hv).1; simpa using this
    rw [h j hj]
    simp [hj] at hv
    rw [hv])
  simpa using this
theorem ld_sim {g : Bool} {z off : Nat} {t : TypeId} {cs : List Cell} {x : FV} {b o : Nat} {vs : Nat → Value} (hg : aggT P t = some g) (hz : szOf P t = some z)
    (hc : ∀ (j : Nat) (c : Cell), cs[j]? = some c → w.cell? (at_ b (o + j)) = some (vs j) ∧ CR γ μ w c (vs j)) (h : ld g cs off z = some x) :
    ∃ v, (loadVar t (at_ b (o + off))).run P w = .ok v w ∧ FR γ μ w x v := by
  unfold ld at h
  cases g with
  | true =>
    simp only [if_true] at h
    cases hs : sub cs off z with
    | none => rw [hs] at h; simp at h
    | some r =>
      rw [hs] at h
      simp only [Option.map_some, Option.some.injEq] at h
      subst h
      obtain ⟨h1, h2⟩ := sub_spec _ _ _ _ hs
      have hl := run_loadCells_fn (P := P) (w := w) b (o + off) z (fun j => vs (off + j)) (fun j hj => by
        obtain ⟨c, _, hy⟩ := h2 j hj
        rw [Nat.add_assoc]; exact (hc _ c hy).1)
      refine ⟨.agg ((List.range z).map fun j => vs (off + j)).toArray, ?_, _, rfl, by simp [h1], fun j c v hj hv => ?_⟩
      · simp [loadVar, run_isAgg hg, run_sizeOf hz, hl]
      · have hjz : j < z := by have := (List.getElem?_eq_some_iff.1 hj).1; omega
        obtain ⟨c', hx, hy⟩ := h2 j hjz
        rw [hj] at hx; cases hx
        simp [hjz] at hv
        subst hv
        exact (hc _ c hy).2
  | false =>
    simp only [Bool.false_eq_true, if_false] at h
    rw [nth_spec] at h
    cases hs : cs[off]? with
    | none => rw [hs] at h; simp at h
    | some c =>
      rw [hs] at h
      simp only [Option.map_some, Option.some.injEq] at h
      subst h
      obtain ⟨h1, h2⟩ := hc off c hs
      refine ⟨vs off, ?_, h2⟩
      simp [loadVar, run_isAgg hg, load, Sem.run, h1]
theorem MR.boxCells (m : MR γ μ w) {i : Id} {cs : List Cell} (h : μ.box i = some cs) : ∃ vs : Nat → Value, ∀ (j : Nat) (c : Cell), cs[j]? = some c → w.cell? (at_ (γ.be i) (0 + j)) = some (vs j) ∧ CR γ μ w c (vs j) := by
  obtain ⟨_, _, us, T, hg, hl, hr⟩ := m.box i cs h
  refine ⟨fun j => us.toList.getD j undef, fun j c hj => ?_⟩
  obtain ⟨v, hv, hc⟩ := CRs.get ⟨hl, hr⟩ hj
  have hv' : us[j]? = some v := by simpa using hv
  have e : us.toList.getD j undef = v := by rw [List.getD_eq_getElem?_getD, hv]; rfl
  show _ = some (us.toList.getD j undef) ∧ CR γ μ w c (us.toList.getD j undef)
  rw [e]
  exact ⟨by rw [Nat.zero_add, at_, cell_of_row w _ j us T (0, 0) hg, hv'], hc⟩
theorem flatten_at {xs : List (List Cell)} {z : Nat} (hr : ∀ r ∈ xs, r.length = z) : ∀ {k : Nat} {r : List Cell}, xs[k]? = some r → ∀ {j : Nat} {c : Cell}, r[j]? = some c → xs.flatten[k * z + j]? = some c := by
  induction xs with
  | nil => intro k r h; simp at h
  | cons x xs ih =>
    intro k r hk j c hj
    have hx : x.length = z := hr x (by simp)
    have hjl : j < z := by
      have h1 := (List.getElem?_eq_some_iff.1 hj).1
      have h2 := hr r (List.mem_of_getElem? hk)
      omega
    rw [List.flatten_cons]
    cases k with
    | zero =>
      simp at hk; subst hk
      rw [List.getElem?_append_left (by omega)]
      simpa using hj
    | succ k =>
      rw [List.getElem?_append_right (by rw [hx, Nat.succ_mul]; omega)]
      have := ih (fun r h => hr r (by simp [h])) (by simpa using hk) hj
      rw [← this]; congr 1; rw [hx, Nat.succ_mul]; omega
theorem flatten_len {xs : List (List Cell)} {z : Nat} (hr : ∀ r ∈ xs, r.length = z) : xs.flatten.length = xs.length * z := by
  induction xs with
  | nil => simp
  | cons x xs ih => rw [List.flatten_cons, List.length_append, hr x (by simp), ih fun r h => hr r (by simp [h]), List.length_cons, Nat.succ_mul]; omega
/-- The cells of an own row's element. -/
theorem MR.arrCells (m : MR γ μ w) {i : Id} {a : Arr} (h : μ.arr i = some a) {g cap : Nat} (hn : γ.nu i = .slice (some (at_ g 0)) a.xs.length cap) {k : Nat} {r : List Cell} (hk : a.xs[k]? = some r) :
    ∃ vs : Nat → Value, ∀ (j : Nat) (c : Cell), r[j]? = some c → w.cell? (at_ g (k * a.sz + j)) = some (vs j) ∧ DR γ.st w c (vs j) := by
  obtain ⟨hr, _, hh⟩ := m.liv h (m.live h hk)
  rcases hh with ⟨A, _, h0⟩ | ⟨g', cap', cur, e, _, hg, _, _, _, hc, _⟩
  · rw [h0] at hk; simp at hk
  · rw [hn] at e
    injection e with e1 e2 e3
    injection e1 with e1
    have : g = g' := by simpa [at_] using e1
    subst this
    refine ⟨fun j => cur.toList.getD (k * a.sz + j) undef, fun j c hj => ?_⟩
    obtain ⟨v, hv, hd⟩ := hc _ c (flatten_at hr hk hj)
    have hv' : cur.toList[k * a.sz + j]? = some v := by simpa using hv
    have e : cur.toList.getD (k * a.sz + j) undef = v := by rw [List.getD_eq_getElem?_getD, hv']; rfl
    show _ = some (cur.toList.getD (k * a.sz + j) undef) ∧ DR γ.st w c (cur.toList.getD (k * a.sz + j) undef)
    rw [e]
    exact ⟨by rw [at_, cell_of_row w _ _ cur _ (0, 0) hg, hv], hd⟩

section
variable {nt : Nat} {D : List Nat} {fr : Fr} {a : Act}
theorem sim_pick {c x y : Operand} {c' x' y' : Opd} {v : FV} {μ' : Mu} (hf : AFR γ μ w nt fr a) (m : MR γ μ w) (tm : Tm μ D) (hc : opdOf c = some c') (hx : opdOf x = some x') (hy : opdOf y = some y') {id : Id}
    (ha : aop (.pick c' x' y') id fr μ = some (v, μ')) : OpOk γ μ w D ((do pure (Next.value (if ← asBool (a.eval c) then a.eval x else a.eval y)) : Sem Next).run P w) v μ' := by
  have h1 := opd_rel hf hc
  simp only [aop] at ha
  split at ha
  · rename_i t ht
    injection ha with ha; injection ha with e1 e2; subst e1; subst e2
    rw [ht] at h1
    rw [(inv_val h1).1]
    cases t
    · simp only [asBool, Sem.run_bind, Sem.run_pure, Result.andThen_ok, Bool.false_eq_true, if_false]
      exact .same m tm (opd_rel hf hy)
    · simp only [asBool, Sem.run_bind, Sem.run_pure, Result.andThen_ok, if_true]
      exact .same m tm (opd_rel hf hx)
  · cases ha
theorem sim_load {t : TypeId} {x : Operand} {x' : Opd} {g : Bool} {z : Nat} {v : FV} {μ' : Mu} (hf : AFR γ μ w nt fr a) (m : MR γ μ w) (tm : Tm μ D) (hg : aggT P t = some g) (hz : szOf P t = some z) (hx : opdOf x = some x') {id : Id}
    (ha : aop (.load g z x') id fr μ = some (v, μ')) : OpOk γ μ w D ((do pure (Next.value (← Instr.loadAt t (a.eval x))) : Sem Next).run P w) v μ' := by
  have h1 := opd_rel hf hx
  have fin : ∀ {b o : Nat} {v' : Value}, a.eval x = .pointer (some (at_ b o)) → (loadVar t (at_ b o)).run P w = .ok v' w → FR γ μ w v v' → OpOk γ μ w D ((do pure (Next.value (← Instr.loadAt t (a.eval x))) : Sem Next).run P w) v μ := by
    intro b o v' he hr hv
    rw [he]
    simp only [Instr.loadAt, Instr.sureAddr, Sem.run_bind, Sem.run_pure, Result.andThen_ok, hr]
    exact .same m tm hv
  simp only [aop] at ha
  split at ha
  · rename_i i off ho
    cases hb : μ.box i with
    | none => rw [hb] at ha; simp at ha
    | some cs =>
      rw [hb] at ha
      simp only [Option.bind_some] at ha
      cases hl : ld g cs off z with
      | none => rw [hl] at ha; simp at ha
      | some q =>
        rw [hl] at ha
        simp only [Option.map_some, Option.some.injEq, Prod.mk.injEq] at ha
        obtain ⟨rfl, rfl⟩ := ha
        rw [ho] at h1
        obtain ⟨vs, hvs⟩ := m.boxCells hb
        obtain ⟨v', hr, hv⟩ := ld_sim (P := P) hg hz hvs hl
        rw [Nat.zero_add] at hr
        exact fin h1.2 hr hv
  · rename_i cs off ho
    cases hl : ld g cs off z with
    | none => rw [hl] at ha; simp at ha
    | some q =>
      rw [hl] at ha
      simp only [Option.map_some, Option.some.injEq, Prod.mk.injEq] at ha
      obtain ⟨rfl, rfl⟩ := ha
      rw [ho] at h1
      obtain ⟨b, o, vs, he, hvs⟩ := h1
      obtain ⟨v', hr, hv⟩ := ld_sim (P := P) hg hz (fun j c hj => (hvs j c hj).2) hl
      exact fin he hr hv
  · rename_i i k off ho
    cases hb : μ.arr i with
    | none => rw [hb] at ha; simp at ha
    | some q =>
      rw [hb] at ha
      simp only [Option.bind_some] at ha
      cases hk : q.xs[k]? with
      | none => rw [hk] at ha; simp at ha
      | some r =>
        rw [hk] at ha
        simp only [Option.bind_some] at ha
        cases hl : ld g r off z with
        | none => rw [hl] at ha; simp at ha
        | some y =>
          rw [hl] at ha
          simp only [Option.map_some, Option.some.injEq, Prod.mk.injEq] at ha
          obtain ⟨rfl, rfl⟩ := ha
          rw [ho] at h1
          obtain ⟨gb, o', he, q', hq, hd⟩ := h1
          rw [hb] at hq; cases hq
          rcases hd with hd | ⟨cap, hn, _, rfl⟩
          · exact absurd hd (m.live hb hk)
          obtain ⟨vs, hvs⟩ := m.arrCells hb hn hk
          obtain ⟨v', hr, hv⟩ := ld_sim (P := P) (γ := γ) (μ := μ) hg hz (fun j c hj => ⟨(hvs j c hj).1, .z (.dat (hvs j c hj).2)⟩) hl
          exact fin he hr hv
  · cases ha
end
end Go.Proofs.Ytndabolfhhppkaa.Am
