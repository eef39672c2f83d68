/- One operation, on: variables in memory, stores, rows made, appended to and cut. No condition. -/
import Derived.Test.YtndabolfhhppkaaOpsC
namespace Go.Proofs.Ytndabolfhhppkaa.Am
open Go Go.RowKit
variable {P : Program} {γ : Gh} {μ : Mu} {w : World} {nt : Nat} {D : List Nat} {fr : Fr} {a : Act}

theorem one_cells {v : Value} (h : v.oneCell' = true) : v.cells = #[v] := by cases v <;> simp_all [Value.oneCell', Value.cells]
theorem cells_rel (m : MR γ μ w) {x : FV} {v : Value} {cs : List Cell} (h : FR γ μ w x v) (hc : cells x = some cs) : CRs γ μ w cs v.cells.toList := by
  cases x with
  | v x =>
    cases x with
    | c x => simp only [cells, Option.some.injEq] at hc; subst hc; rw [one_cells (CR.oneCell m h)]; exact .cons h .nil
    | agg ds => simp only [cells, Option.some.injEq] at hc; subst hc; obtain ⟨vs, rfl, h'⟩ := inv_agg h; simpa [Value.cells] using h'
  | _ => simp [cells] at hc
theorem Tm.addBox {d : Nat} {x : Option (List Cell)} (h : Tm μ D) : Tm { μ with box := upd μ.box (μ.t, d) x } (d :: D) := fun i hi => by
  by_cases he : i = (μ.t, d)
  · subst he; exact .inr ⟨rfl, by simp⟩
  · refine (h i ?_).imp id fun ⟨a, b⟩ => ⟨a, by simp [b]⟩
    rcases hi with hi | hi
    · exact .inl (by simpa [upd_ne _ _ he] using hi)
    · exact .inr hi
theorem Tm.mkRow {d : Nat} {q : Arr} {s : Bool} {l : List Id} (h : Tm μ D) : Tm (mkRow μ (μ.t, d) q s l) (d :: D) := fun i hi => by
  by_cases he : i = (μ.t, d)
  · subst he; exact .inr ⟨rfl, by simp⟩
  · refine (h i ?_).imp id fun ⟨a, b⟩ => ⟨a, by simp [b]⟩
    rcases hi with hi | hi
    · exact .inl hi
    · exact .inr (by simpa [Am.mkRow, upd_ne _ _ he] using hi)
theorem Tm.unst {l : List Id} (h : Tm μ D) : Tm (unsto μ l) D := h
theorem newBox_ok {d : Nat} {cs : List Cell} {vs : Array Value} {T : TypeId} (m : MR γ μ w) (tm : Tm μ D) (hd : d ∉ D) (hc : CRs γ μ w cs vs.toList) :
    OpOk γ μ w (d :: D) (.ok (.value (.pointer (some (at_ w.heap.size 0)))) (w.alloc (.cells vs T))) (.ptr (μ.t, d) 0) { μ with box := upd μ.box (μ.t, d) (some cs) } := by
  have hb := below_alloc w (.cells vs T)
  have e1 := Ext.grow m hb
  have m1 := m.grow hb
  obtain ⟨m2, e2⟩ := m1.addBox (i := (μ.t, d)) (g := w.heap.size) (cs := cs) (vs := vs) (T := T) (tm.fresh hd).1 m.lo (fun o ho => Nat.lt_irrefl _ (m.stlt _ o ho)) (heap_alloc_new w _) (hc.ext e1)
    (fun j hj e => by have := m.beLt hj; omega) (fun j hj e => by have := m.nuLt hj e; omega)
  exact ⟨_, _, _, .inl rfl, ⟨by simp [upd_same], by simp [upd_same]⟩, m2, e1.trans e2, tm.addBox, rfl⟩
theorem run_newVar {t : TypeId} {v : Value} : (newVar t v).run P w = .ok (at_ w.heap.size 0) (w.alloc (.cells v.cells t)) := rfl
theorem sim_box {t : TypeId} {x : Operand} {x' : Opd} {v : FV} {μ' : Mu} {d : Nat} (hf : AFR γ μ w nt fr a) (m : MR γ μ w) (tm : Tm μ D) (hd : d ∉ D) (hx : opdOf x = some x')
    (ha : aop (.box x') (μ.t, d) fr μ = some (v, μ')) : OpOk γ μ w (d :: D) ((do pure (Next.value (← Instr.box t (a.eval x))) : Sem Next).run P w) v μ' := by
  have h1 := opd_rel hf hx
  simp only [aop] at ha
  obtain ⟨cs, hcs, e⟩ := some_pair ha
  cases e
  simp only [Instr.box, Sem.run_bind, run_newVar, Result.andThen_ok, Sem.run_pure]
  exact newBox_ok m tm hd (cells_rel m h1 hcs)
theorem sim_alloc {t : TypeId} {z : List Cell} {v : FV} {μ' : Mu} {d : Nat} (m : MR γ μ w) (tm : Tm μ D) (hd : d ∉ D) (hz : zeroOf P t = some z)
    (ha : aop (.alloc z) (μ.t, d) fr μ = some (v, μ')) : OpOk γ μ w (d :: D) ((do pure (Next.value (← Instr.alloc t true (.tuple #[]))) : Sem Next).run P w) v μ' := by
  simp only [aop] at ha
  injection ha with ha; injection ha with e1 e2; subst e1; subst e2
  unfold zeroOf at hz
  cases hi : P.info? t with
  | none => rw [hi] at hz; simp at hz
  | some i =>
    rw [hi] at hz
    simp only [Option.bind_some] at hz
    cases hz' : i.zero with
    | none => rw [hz'] at hz; simp at hz
    | some u =>
      rw [hz'] at hz
      simp only [Option.bind_some] at hz
      have : (zeroValue t).run P w = .ok u w := by simp [zeroValue, typeInfo, hi, hz']
      simp only [Instr.alloc, Sem.run_bind, this, run_newVar, Result.andThen_ok, Sem.run_pure]
      exact newBox_ok m tm hd (travsc_rel hz)

/-! ### Stores -/
theorem setAt_spec : ∀ (z : List Cell) (o : Nat) (ds r : List Cell), setAt z o ds = some r → o + ds.length ≤ z.length ∧ r = z.take o ++ ds ++ z.drop (o + ds.length)
  | z, 0, [], r, h => by simp [setAt] at h; subst h; simp
  | [], 0, d :: ds, r, h => by simp [setAt] at h
  | [], o + 1, ds, r, h => by simp [setAt] at h
  | c :: z, 0, d :: ds, r, h => by
    simp only [setAt] at h
    obtain ⟨q, hq, e⟩ := some_pair h
    subst e
    obtain ⟨h1, h2⟩ := setAt_spec z 0 ds q hq
    refine ⟨by simp at h1 ⊢; omega, ?_⟩
    rw [h2]; simp
  | c :: z, o + 1, ds, r, h => by
    simp only [setAt] at h
    obtain ⟨q, hq, e⟩ := some_pair h
    subst e
    obtain ⟨h1, h2⟩ := setAt_spec z o ds q hq
    refine ⟨by simp; omega, ?_⟩
    rw [h2, show o + 1 + ds.length = o + ds.length + 1 by omega]; simp
theorem CRs.append {cs ds : List Cell} {us vs : List Value} (h : CRs γ μ w cs us) (k : CRs γ μ w ds vs) : CRs γ μ w (cs ++ ds) (us ++ vs) := by
  refine ⟨by simp [h.1, k.1], fun j c v hc hv => ?_⟩
  by_cases hj : j < cs.length
  · rw [List.getElem?_append_left hj] at hc
    rw [List.getElem?_append_left (by rw [h.1]; exact hj)] at hv
    exact h.2 j c v hc hv
  · rw [List.getElem?_append_right (by omega)] at hc
    rw [List.getElem?_append_right (by rw [h.1]; omega), h.1] at hv
    exact k.2 _ c v hc hv
theorem CRs.take {cs : List Cell} {us : List Value} (h : CRs γ μ w cs us) (n : Nat) : CRs γ μ w (cs.take n) (us.take n) :=
  ⟨by simp [h.1], fun j c v hc hv => by
    rw [List.getElem?_take] at hc hv
    split at hc
    · rename_i hj; rw [if_pos hj] at hv; exact h.2 j c v hc hv
    · cases hc⟩
theorem CRs.drop {cs : List Cell} {us : List Value} (h : CRs γ μ w cs us) (n : Nat) : CRs γ μ w (cs.drop n) (us.drop n) :=
  ⟨by simp [h.1], fun j c v hc hv => by
    rw [List.getElem?_drop] at hc hv
    exact h.2 _ c v hc hv⟩
theorem below_setRow (w : World) {g lo : Nat} (hg : lo ≤ g) (cs : Array Value) : Below lo w (w.setRow g cs) :=
  ⟨rfl, rfl, rfl, by simp, fun k hk => setRow_other w g k cs (by omega)⟩
theorem map_setRow {g k : Nat} {old cs : Array Value} {T : TypeId} {fr : Nat × Nat} (hg : w.heap[g]? = some (.cells old T fr)) (en : Array MapEntry) (c : Nat) (h : w.heap[k]? = some (Obj.map en c)) : (w.setRow g cs).heap[k]? = some (Obj.map en c) := by
  have : k ≠ g := fun e => by rw [e, hg] at h; cases h
  exact (setRow_other w g k cs this).trans h
theorem Ext.setRow {g : Nat} {cs : Array Value} (hlo : γ.lo ≤ g) (hst : ∀ o, ¬ γ.st g o) : Ext γ μ w γ μ (w.setRow g cs) :=
  ⟨rfl, fun b o h => ⟨h, cell_setRow_other w g cs (at_ b o) (fun e => hst o (by rw [← e]; exact h))⟩, fun _ _ h => .inl h, below_setRow w hlo cs, fun _ h => ⟨h, rfl⟩, fun _ a h => ⟨rfl, a, h, .inr ⟨rfl, rfl, rfl⟩⟩, fun _ h => ⟨h, rfl⟩⟩
theorem run_storeVar {t : TypeId} {z g o : Nat} {v : Value} {old : Array Value} {T : TypeId} (hz : szOf P t = some z) (hv : v.cells.size = z) (hg : w.heap[g]? = some (.cells old T (0, 0))) (ho : o + z ≤ old.size) (h1 : ∀ u ∈ v.cells.toList, u.oneCell' = true) :
    (storeVar t (at_ g o) v).run P w = .ok () (w.setRow g (old.toList.take o ++ v.cells.toList ++ old.toList.drop (o + v.cells.toList.length)).toArray) := by
  have hl : v.cells.toList.length = z := by simpa using hv
  have h := run_storeCells_at P g o T v.cells.toList 0 old w hg (by rw [hl]; omega) h1
  simp only [Nat.add_zero] at h
  simp only [storeVar, Sem.run_bind, run_sizeOf hz, Result.andThen_ok, hv, ne_eq, not_true_eq_false, if_false]
  exact h
theorem CRs.ones (m : MR γ μ w) {cs : List Cell} {us : List Value} (h : CRs γ μ w cs us) : ∀ u ∈ us, u.oneCell' = true := by
  intro u hu
  obtain ⟨j, hj⟩ := List.getElem?_of_mem hu
  have hl : j < cs.length := by rw [← h.1]; exact (List.getElem?_eq_some_iff.1 hj).1
  exact CR.oneCell m (h.2 j cs[j] u (List.getElem?_eq_getElem hl) hj)
theorem sim_storePtr {t : TypeId} {z : Nat} {i : Id} {off : Nat} {u : Value} {x : FV} {ds cs cs' : List Cell} (m : MR γ μ w) (tm : Tm μ D) (hz : szOf P t = some z) (hx : FR γ μ w x u) (hds : cells x = some ds) (hl : ds.length = z) (hb : μ.box i = some cs) (hs : setAt cs off ds = some cs') :
    OpOk γ μ w D ((do storeVar t (at_ (γ.be i) off) u; pure Next.skip : Sem Next).run P w) .skip { μ with box := upd μ.box i (some cs') } := by
  have hcr := cells_rel m hx hds
  obtain ⟨k1, k2, vs, T, k3, k4⟩ := m.box i cs hb
  obtain ⟨h1, h2⟩ := setAt_spec _ _ _ _ hs
  have hsz : u.cells.toList.length = z := by rw [hcr.1, hl]
  have hvs : vs.toList.length = cs.length := k4.1
  have hvs' : vs.toList.length = vs.size := rfl
  have hrun := run_storeVar (P := P) (w := w) (g := γ.be i) (o := off) hz (by simpa using hsz) k3 (by omega) (hcr.ones m)
  generalize hnw : (vs.toList.take off ++ u.cells.toList ++ vs.toList.drop (off + u.cells.toList.length)) = nw at hrun
  have hnwl : nw.length = vs.size := by rw [← hnw]; simp only [List.length_append, List.length_take, List.length_drop]; omega
  have e0 : Ext γ μ w γ μ (w.setRow (γ.be i) nw.toArray) := Ext.setRow k1 k2
  have hnc : CRs γ μ w cs' nw := by
    rw [h2, ← hnw, show u.cells.toList.length = ds.length from hcr.1]
    exact ((k4.take off).append hcr).append (k4.drop (off + ds.length))
  have hsome : (μ.box i).isSome = true := by rw [hb]; rfl
  have some0 : ∀ j, (μ.box j).isSome = true → (upd μ.box i (some cs') j).isSome = true := fun j hj => by
    by_cases h : j = i
    · subst h; simp [upd_same]
    · simp [upd_ne _ _ h, hj]
  have e : Ext γ μ w γ { μ with box := upd μ.box i (some cs') } (w.setRow (γ.be i) nw.toArray) :=
    ⟨rfl, e0.st, e0.nst, e0.bel, fun j hj => ⟨some0 j hj, rfl⟩, e0.arr, e0.mp⟩
  have some_ : ∀ j, (upd μ.box i (some cs') j).isSome = true → (μ.box j).isSome = true := fun j hj => by
    by_cases h : j = i
    · subst h; exact hsome
    · simpa [upd_ne _ _ h] using hj
  refine ⟨γ, undef, w.setRow (γ.be i) nw.toArray, .inr ⟨by rw [Sem.run_bind, hrun]; rfl, rfl⟩, rfl, ⟨?_, ?_, fun j ds' hj => ?_, fun j q hj => ?_, fun j k hj hk => m.bb j k (some_ j hj) (some_ k hk), fun j k g hj hk => m.ba j k g (some_ j hj) hk, m.aa, m.sa, m.mm.keep rfl rfl fun b en c h => map_setRow k3 en c h⟩, e, ?_, rfl⟩
  · rw [setRow_size]; exact m.lo
  · intro b o h; rw [setRow_size]; exact m.stlt b o h
  · by_cases h : j = i
    · subst h
      simp only [upd_same, Option.some.injEq] at hj
      subst hj
      exact ⟨k1, k2, nw.toArray, T, setRow_heap w _ vs _ T (0, 0) k3, hnc.ext e⟩
    · simp only [upd_ne _ _ h] at hj
      obtain ⟨l1, l2, us, T', l3, l4⟩ := m.box j ds' hj
      have hne : γ.be j ≠ γ.be i := fun e' => h (m.bb j i (by rw [hj]; rfl) hsome e')
      exact ⟨l1, l2, us, T', (setRow_other w _ _ _ hne).trans l3, l4.ext e⟩
  · rcases m.arr j q hj with hd | ⟨l1, l2, l3⟩
    · exact .inl (hd.keep rfl (Nat.le_of_eq (setRow_size ..).symm))
    refine .inr ⟨l1, l2, l3.imp id ?_⟩
    rintro ⟨g, cap, cur, n1, n2, n3, n4, n5, n6, n7, n8⟩
    by_cases hg : g = γ.be i
    · have hcap : cap = 0 := by
        apply Classical.byContradiction
        intro hc
        exact m.ba i j g hsome (by rw [hj]; rfl) (by rw [n1]; simp only [blk]; rw [if_neg hc]; rfl) hg.symm
      have hcur : cur = vs := by rw [hg, k3] at n3; injection n3 with n3; injection n3 with n3; exact n3.symm
      have hT : T = q.e := by rw [hg, k3] at n3; injection n3 with n3; injection n3
      refine ⟨g, cap, nw.toArray, n1, n2, by rw [hg, ← hT]; exact setRow_heap w _ vs _ T (0, 0) k3, n4, n5, by simp [hnwl, ← hcur, n6], fun k x hk => ?_, n8⟩
      have : q.xs = [] := List.eq_nil_of_length_eq_zero (by omega)
      rw [this] at hk; simp at hk
    · exact ⟨g, cap, cur, n1, n2, (setRow_other w _ _ _ hg).trans n3, n4, n5, n6, fun k x hk => (n7 k x hk).imp fun v hv => ⟨hv.1, hv.2.keep e.st⟩, n8⟩
  · intro j hj
    refine tm j (hj.imp (fun h => some_ j h) id)

/-! ### What is handed on -/
def DRs (st : Nat → Nat → Prop) (w : World) (cs : List Cell) (vs : List Value) : Prop := vs.length = cs.length ∧ ∀ (j : Nat) (c : Cell) (v : Value), cs[j]? = some c → vs[j]? = some v → DR st w c v
theorem unsto_unsto (μ : Mu) (l k : List Id) : unsto (unsto μ l) k = unsto μ (l ++ k) := by
  simp only [unsto, Mu.mk.injEq, true_and]
  refine ⟨funext fun j => ?_, trivial⟩
  simp [List.contains_eq_mem, Bool.and_assoc]
theorem datC_unsto (μ : Mu) (l : List Id) (sh : Sh) (c : Cell) : datC (unsto μ l) sh c = datC μ sh c := by cases sh <;> cases c <;> rfl
theorem datL_unsto (μ : Mu) (l : List Id) : ∀ (sh : List Sh) (cs : List Cell), datL (unsto μ l) sh cs = datL μ sh cs
  | [], [] => rfl
  | [], _ :: _ => rfl
  | _ :: _, [] => rfl
  | h :: q, c :: r => by simp only [datL, datC_unsto, datL_unsto μ l q r]
theorem datC_sim (m : MR γ μ w) {sh : Sh} {c d : Cell} {v : Value} (h : CR γ μ w c v) (hd : datC μ sh c = some d) :
    ∃ γ', MR γ' (unsto μ (ownC c)) w ∧ Ext γ μ w γ' (unsto μ (ownC c)) w ∧ DR γ'.st w d v := by
  cases sh with
  | d =>
    cases c <;> simp [datC] at hd
    subst hd
    refine ⟨γ, m.unst _, .unst _, ?_⟩
    obtain ⟨rfl, hs⟩ := inv_val (show FR γ μ w (.v (.c (.val _))) v from h)
    exact .val hs
  | s e z =>
    have hd' : (elemsC μ z c).map (.ro z) = some d := by cases c <;> exact hd
    obtain ⟨xs, hx, e'⟩ := some_pair hd'
    subst e'
    cases c with
    | nil =>
      simp only [elemsC, Option.some.injEq] at hx; subst hx
      refine ⟨γ, m.unst _, .unst _, ?_⟩
      cases h with
      | z h => cases h with
        | dat h => cases h
        | nil => exact .ro (b := 0) (o := 0) (vs := fun _ => undef) rfl (Nat.le_refl _) (by simp [maxLen]) (by simp) (fun h => absurd h (Nat.lt_irrefl _)) (fun j x hj => by simp at hj) (fun j x hj => by simp at hj)
    | ro z' ys =>
      simp only [elemsC] at hx
      split at hx
      · injection hx with hx; subst hx
        rename_i hz; subst hz
        refine ⟨γ, m.unst _, .unst _, ?_⟩
        cases h with
        | z h => cases h with
          | dat h => exact h
      · cases hx
    | own i =>
      simp only [elemsC] at hx
      cases ha : μ.arr i with
      | none => rw [ha] at hx; simp at hx
      | some q =>
        rw [ha] at hx
        simp only [Option.bind_some] at hx
        split at hx
        · rename_i hz
          obtain ⟨hz, hz0⟩ := hz
          injection hx with hx; subst hx; subst hz
          obtain ⟨γ', m', e, hdr⟩ := m.share ha (by omega)
          cases h with
          | z h => cases h with | dat h => cases h
          | own _ => exact ⟨γ', m', e, hdr⟩
        · cases hx
    | _ => simp [elemsC] at hx
  | f => cases c <;> simp [datC] at hd
theorem DRs.keep {st st' : Nat → Nat → Prop} {w w' : World} {cs : List Cell} {vs : List Value} (h : DRs st w cs vs) (hs : ∀ b o, st b o → st' b o ∧ w'.cell? (at_ b o) = w.cell? (at_ b o)) : DRs st' w' cs vs :=
  ⟨h.1, fun j c v hc hv => (h.2 j c v hc hv).keep hs⟩
theorem DRs.crs {cs : List Cell} {vs : List Value} (h : DRs γ.st w cs vs) : CRs γ μ w cs vs := ⟨h.1, fun j c v hc hv => .z (.dat (h.2 j c v hc hv))⟩
theorem datL_sim : ∀ {sh : List Sh} {cs ds : List Cell} {vs : List Value} {γ : Gh} {μ : Mu}, MR γ μ w → CRs γ μ w cs vs → datL μ sh cs = some ds →
    ∃ γ', MR γ' (unsto μ (cs.flatMap ownC)) w ∧ Ext γ μ w γ' (unsto μ (cs.flatMap ownC)) w ∧ DRs γ'.st w ds vs
  | [], [], ds, vs, γ, μ, m, h, hd => by
    simp only [datL, Option.some.injEq] at hd; subst hd
    exact ⟨γ, m.unst _, .unst _, h.1, fun j c v hc => by simp at hc⟩
  | [], _ :: _, ds, vs, γ, μ, m, h, hd => by simp [datL] at hd
  | _ :: _, [], ds, vs, γ, μ, m, h, hd => by simp [datL] at hd
  | s :: sh, c :: cs, ds, vs, γ, μ, m, h, hd => by
    simp only [datL] at hd
    split at hd
    · rename_i d q h1 h2
      injection hd with hd; subst hd
      obtain ⟨hl, hr⟩ := h
      cases vs with
      | nil => simp at hl
      | cons v vs =>
        obtain ⟨γ1, m1, e1, d1⟩ := datC_sim m (hr 0 c v rfl rfl) h1
        have hcs : CRs γ μ w cs vs := ⟨by simpa using hl, fun j x y hx hy => hr (j + 1) x y (by simpa using hx) (by simpa using hy)⟩
        obtain ⟨γ2, m2, e2, d2⟩ := datL_sim m1 (hcs.ext e1) (by rw [datL_unsto]; exact h2)
        rw [unsto_unsto] at m2 e2
        refine ⟨γ2, m2, e1.trans e2, by simp [d2.1], fun j x y hx hy => ?_⟩
        cases j with
        | zero => simp at hx hy; subst hx; subst hy; exact d1.keep e2.st
        | succ j => exact d2.2 j x y (by simpa using hx) (by simpa using hy)
    · cases hd
theorem unsto_nil (μ : Mu) : unsto μ [] = μ := by simp [unsto]
theorem flatten_set {xs : List (List Cell)} {z k : Nat} {r : List Cell} (hr : ∀ r ∈ xs, r.length = z) (hk : k < xs.length) (hl : r.length = z) :
    (xs.set k r).flatten = xs.flatten.take (k * z) ++ r ++ xs.flatten.drop (k * z + z) := by
  induction xs generalizing k with
  | nil => simp at hk
  | cons x xs ih =>
    have hx : x.length = z := hr x (by simp)
    cases k with
    | zero => simp [List.set_cons_zero, List.flatten_cons, hx]
    | succ k =>
      have h1 : (k + 1) * z = x.length + k * z := by rw [hx, Nat.succ_mul]; omega
      rw [List.set_cons_succ, List.flatten_cons, List.flatten_cons, ih (fun r h => hr r (by simp [h])) (by simpa using hk), h1]
      rw [List.take_length_add_append, show x.length + k * z + z = x.length + (k * z + z) by omega, List.drop_length_add_append]
      simp
theorem sim_storeOptr {t : TypeId} {z : Nat} {i : Id} {q : Arr} {k off g cap : Nat} {u : Value} {x : FV} {sh : List Sh} {ds es r r' : List Cell} (m : MR γ μ w) (tm : Tm μ D) (hz : szOf P t = some z) (hx : FR γ μ w x u) (hcs : cells x = some ds) (hds : datL μ sh ds = some es) (hl : es.length = z) (hst : μ.sto i = true)
    (hb : μ.arr i = some q) (hn : γ.nu i = .slice (some (at_ g 0)) q.xs.length cap) (hk : q.xs[k]? = some r) (hs : setAt r off es = some r') (ho : ds.flatMap ownC = []) :
    OpOk γ μ w D ((do storeVar t (at_ g (k * q.sz + off)) u; pure Next.skip : Sem Next).run P w) .skip { μ with arr := upd μ.arr i (some { q with xs := q.xs.set k r' }) } := by
  obtain ⟨γ0, m0, e00, hdr⟩ := datL_sim m (cells_rel m hx hcs) hds
  rw [ho, unsto_nil] at m0 e00
  have hn0 : γ0.nu i = .slice (some (at_ g 0)) q.xs.length cap := by rw [(e00.arr i q hb).1, hn]
  suffices h : OpOk γ0 μ w D ((do storeVar t (at_ g (k * q.sz + off)) u; pure Next.skip : Sem Next).run P w) .skip { μ with arr := upd μ.arr i (some { q with xs := q.xs.set k r' }) } by
    obtain ⟨γ', v', w', h1, h2, h3, h4, h5, h6⟩ := h
    exact ⟨γ', v', w', h1, h2, h3, e00.trans h4, h5, h6⟩
  clear hn e00 m hx
  obtain ⟨k1, k2, k3⟩ := m0.liv hb (m0.live hb hk)
  have hkl : k < q.xs.length := (List.getElem?_eq_some_iff.1 hk).1
  rcases k3 with ⟨A, _, h0⟩ | ⟨g', cap', cur, n1, n2, n3, n4, n5, n6, n7, n8, n9⟩
  · rw [h0] at hkl; simp at hkl
  rw [hn0] at n1
  injection n1 with n1 _ n1'
  injection n1 with n1
  have hgg : g = g' := by simpa [at_] using n1
  subst hgg; subst n1'
  obtain ⟨h1, h2⟩ := setAt_spec _ _ _ _ hs
  have hrl : r.length = q.sz := k1 r (List.mem_of_getElem? hk)
  have hr'l : r'.length = q.sz := by rw [h2]; simp; omega
  have hul : u.cells.toList.length = z := by rw [hdr.1, hl]
  have hkk : (k + 1) * q.sz ≤ cap * q.sz := Nat.mul_le_mul_right _ (by omega)
  rw [Nat.succ_mul] at hkk
  have hcl : cur.toList.length = cur.size := rfl
  have hrun := run_storeVar (P := P) (w := w) (g := g) (o := k * q.sz + off) hz (by simpa using hul) n3 (by rw [n6]; omega) ((DRs.crs (γ := γ0) (μ := μ) hdr).ones m0)
  generalize hnw : (cur.toList.take (k * q.sz + off) ++ u.cells.toList ++ cur.toList.drop (k * q.sz + off + u.cells.toList.length)) = nw at hrun
  have hnwl : nw.length = cur.size := by rw [← hnw]; simp only [List.length_append, List.length_take, List.length_drop]; omega
  have e0 : Ext γ0 μ w γ0 μ (w.setRow g nw.toArray) := Ext.setRow n2 (n9 hst)
  let q' : Arr := { q with xs := q.xs.set k r' }
  have hq'l : q'.xs.length = q.xs.length := by simp [q']
  have e : Ext γ0 μ w γ0 { μ with arr := upd μ.arr i (some q') } (w.setRow g nw.toArray) :=
    ⟨rfl, e0.st, e0.nst, e0.bel, e0.box, fun j b hj => ⟨rfl, by
      by_cases h : j = i
      · subst h; rw [hb] at hj; injection hj with hj; subst hj; exact ⟨q', by simp [upd_same], .inr ⟨rfl, rfl, hq'l⟩⟩
      · exact ⟨b, by simp [upd_ne _ _ h, hj], .inr ⟨rfl, rfl, rfl⟩⟩⟩, e0.mp⟩
  have some_ : ∀ j b, upd μ.arr i (some q') j = some b → (j = i ∧ b = q') ∨ (j ≠ i ∧ μ.arr j = some b) := fun j b hj => by
    by_cases h : j = i
    · subst h; rw [upd_same] at hj; injection hj with hj; exact .inl ⟨rfl, hj.symm⟩
    · rw [upd_ne _ _ h] at hj; exact .inr ⟨h, hj⟩
  have hcap : cap ≠ 0 := by omega
  have hblk : blk (γ0.nu i) = some g := by rw [hn0]; simp only [blk]; rw [if_neg hcap]; rfl
  have hisome : (μ.arr i).isSome = true := by rw [hb]; rfl
  refine ⟨γ0, undef, w.setRow g nw.toArray, .inr ⟨by rw [Sem.run_bind, hrun]; rfl, rfl⟩, rfl, ⟨?_, ?_, fun j cs hj => ?_, fun j b hj => ?_, m0.bb, fun j b g' hj hb' hg' => ?_, fun j b x y g' hj hb' hjb hg1 hg2 => ?_, m0.sa, m0.mm.keep rfl rfl fun b en c h => map_setRow n3 en c h⟩, e, ?_, rfl⟩
  · rw [setRow_size]; exact m0.lo
  · intro b o h; rw [setRow_size]; exact m0.stlt b o h
  · obtain ⟨l1, l2, us, T', l3, l4⟩ := m0.box j cs hj
    have hne : γ0.be j ≠ g := m0.ba j i g (by show (μ.box j).isSome = true; rw [show μ.box j = some cs from hj]; rfl) hisome hblk
    exact ⟨l1, l2, us, T', (setRow_other w _ _ _ hne).trans l3, l4.ext e⟩
  · rcases some_ j b hj with ⟨rfl, rfl⟩ | ⟨hne, hj'⟩
    · refine .inr ⟨fun x hx => ?_, k2, .inr ⟨g, cap, nw.toArray, by rw [hq'l]; exact hn0, n2, setRow_heap w _ cur _ _ (0, 0) n3, by rw [hq'l]; exact n4, n5, by simp [hnwl, n6, q'], fun p c hp => ?_, by rw [hq'l]; exact n8, n9⟩⟩
      · rcases List.mem_or_eq_of_mem_set hx with hx | hx
        · exact k1 x hx
        · rw [hx]; exact hr'l
      · have hfl : q'.xs.flatten = q.xs.flatten.take (k * q.sz) ++ r' ++ q.xs.flatten.drop (k * q.sz + q.sz) := flatten_set k1 hkl hr'l
        rw [hfl] at hp
        have hfll := flatten_len k1
        have htk : (q.xs.flatten.take (k * q.sz)).length = k * q.sz := by rw [List.length_take, hfll]; have := Nat.mul_le_mul_right q.sz (show k ≤ q.xs.length by omega); omega
        -- what a place that was not written holds
        have keep : ∀ p' c', q.xs.flatten[p']? = some c' → (p' < k * q.sz + off ∨ k * q.sz + off + z ≤ p') → ∃ v : Value, nw.toArray[p']? = some v ∧ DR γ0.st (w.setRow g nw.toArray) c' v := by
          intro p' c' hc hp'
          obtain ⟨v, hv, hd⟩ := n7 p' c' hc
          have hv' : cur.toList[p']? = some v := by simpa using hv
          have hpl : p' < cur.toList.length := (List.getElem?_eq_some_iff.1 hv').1
          refine ⟨v, ?_, hd.keep e.st⟩
          rw [List.getElem?_toArray, ← hnw]
          rcases hp' with hp' | hp'
          · rw [List.append_assoc, List.getElem?_append_left (by rw [List.length_take]; omega), List.getElem?_take, if_pos hp']; exact hv'
          · have hlt : (cur.toList.take (k * q.sz + off)).length = k * q.sz + off := by rw [List.length_take]; omega
            rw [List.append_assoc, List.getElem?_append_right (by omega), List.getElem?_append_right (by omega), List.getElem?_drop, hlt, hul]
            rw [show k * q.sz + off + z + (p' - (k * q.sz + off) - z) = p' by omega]; exact hv'
        by_cases hp1 : p < k * q.sz
        · rw [List.append_assoc, List.getElem?_append_left (by omega), List.getElem?_take, if_pos hp1] at hp
          exact keep p c hp (.inl (by omega))
        · rw [List.append_assoc, List.getElem?_append_right (by omega), htk] at hp
          by_cases hp2 : p < k * q.sz + q.sz
          · rw [List.getElem?_append_left (by omega), h2] at hp
            have hto : (r.take off).length = off := by rw [List.length_take]; omega
            by_cases hp3 : p < k * q.sz + off
            · rw [List.append_assoc, List.getElem?_append_left (by omega), List.getElem?_take, if_pos (by omega)] at hp
              have := flatten_at k1 hk hp
              rw [show k * q.sz + (p - k * q.sz) = p by omega] at this
              exact keep p c this (.inl hp3)
            · rw [List.append_assoc, List.getElem?_append_right (by omega), hto] at hp
              by_cases hp4 : p < k * q.sz + off + z
              · rw [List.getElem?_append_left (by omega)] at hp
                have hvl : p - k * q.sz - off < u.cells.toList.length := by omega
                have hv : u.cells.toList[p - k * q.sz - off]? = some (u.cells.toList[p - k * q.sz - off]) := List.getElem?_eq_getElem hvl
                refine ⟨u.cells.toList[p - k * q.sz - off], ?_, (hdr.2 _ c _ hp hv).keep e.st⟩
                have hlt : (cur.toList.take (k * q.sz + off)).length = k * q.sz + off := by rw [List.length_take]; omega
                rw [List.getElem?_toArray, ← hnw, List.append_assoc, List.getElem?_append_right (by omega), hlt, List.getElem?_append_left (by omega), show p - (k * q.sz + off) = p - k * q.sz - off by omega]
                exact hv
              · rw [List.getElem?_append_right (by omega), List.getElem?_drop] at hp
                rw [show off + es.length + (p - k * q.sz - off - es.length) = p - k * q.sz by omega] at hp
                have := flatten_at k1 hk hp
                rw [show k * q.sz + (p - k * q.sz) = p by omega] at this
                exact keep p c this (.inr (by omega))
          · rw [List.getElem?_append_right (by omega), List.getElem?_drop, hr'l] at hp
            rw [show k * q.sz + q.sz + (p - k * q.sz - q.sz) = p by omega] at hp
            exact keep p c hp (.inr (by omega))
    · rcases m0.arr j b hj' with hd | ⟨l1, l2, l3⟩
      · exact .inl (hd.keep rfl (Nat.le_of_eq (setRow_size ..).symm))
      refine .inr ⟨l1, l2, l3.imp id ?_⟩
      rintro ⟨g2, cap2, cur2, p1, p2, p3, p4, p5, p6, p7, p8⟩
      by_cases hg : g2 = g
      · subst hg
        have hcur : cur2 = cur := by rw [n3] at p3; injection p3 with p3; injection p3 with p3; exact p3.symm
        have hT : b.e = q.e := by rw [n3] at p3; injection p3 with p3; injection p3 with _ p3; exact p3.symm
        have hbx : b.xs = [] := by
          by_cases hc : cap2 = 0
          · exact List.eq_nil_of_length_eq_zero (by omega)
          · exact (m0.aa i j q b g2 hb hj' (Ne.symm hne) hblk (by rw [p1]; simp only [blk]; rw [if_neg hc]; rfl)).2 hst
        exact ⟨g2, cap2, nw.toArray, p1, p2, by rw [hT]; exact setRow_heap w _ cur _ _ (0, 0) n3, p4, p5, by simp [hnwl, ← hcur, p6], fun p c hp => by rw [hbx] at hp; simp at hp, p8⟩
      · exact ⟨g2, cap2, cur2, p1, p2, (setRow_other w _ _ _ hg).trans p3, p4, p5, p6, fun p c hp => (p7 p c hp).imp fun v hv => ⟨hv.1, hv.2.keep e.st⟩, p8⟩
  · refine m0.ba j b g' hj ?_ hg'
    obtain ⟨y, hy⟩ := Option.isSome_iff_exists.1 hb'
    rcases some_ b y hy with ⟨rfl, rfl⟩ | ⟨_, h⟩
    · exact hisome
    · rw [h]; rfl
  · rcases some_ j x hj with ⟨rfl, rfl⟩ | ⟨hnj, hj'⟩
    · rcases some_ b y hb' with ⟨rfl, rfl⟩ | ⟨hnb, hb''⟩
      · exact absurd rfl hjb
      · obtain ⟨z1, z2⟩ := m0.aa j b q y g' hb hb'' hjb hg1 hg2
        exact ⟨fun h => ⟨by rw [hq'l]; exact (z1 h).1, (z1 h).2⟩, z2⟩
    · rcases some_ b y hb' with ⟨rfl, rfl⟩ | ⟨hnb, hb''⟩
      · obtain ⟨z1, z2⟩ := m0.aa j b x q g' hj' hb hjb hg1 hg2
        refine ⟨fun h => ⟨by rw [hq'l]; exact (z1 h).1, (z1 h).2.1, (z1 h).2.2.imp id fun e => by rw [e] at hkl; simp at hkl⟩, fun h => ?_⟩
        have := z2 h
        rw [this] at hkl; simp at hkl
      · exact m0.aa j b x y g' hj' hb'' hjb hg1 hg2
  · intro j hj
    refine tm j (hj.imp id fun h => ?_)
    obtain ⟨y, hy⟩ := Option.isSome_iff_exists.1 h
    rcases some_ j y hy with ⟨rfl, _⟩ | ⟨_, h⟩
    · exact hisome
    · rw [h]; rfl
end Go.Proofs.Ytndabolfhhppkaa.Am
