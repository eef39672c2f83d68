/- One operation, on: rows made, appended to and cut; structs built. No condition. -/
import Derived.Test.YtndabolfhhppkaaOpsD
namespace Go.Proofs.Ytndabolfhhppkaa.Am
open Go Go.RowKit
variable {P : Program} {γ : Gh} {μ : Mu} {w : World} {nt : Nat} {D : List Nat} {fr : Fr} {a : Act}

theorem sliceT_spec {t e : TypeId} (h : sliceT P t = some e) : P.underlying t = some (.slice e) := by
  unfold sliceT at h
  split at h
  · rename_i hu; injection h with h; subst h; exact hu
  · cases h
/-! ### Structs built -/
theorem CRs.set {cs : List Cell} {us : List Value} (h : CRs γ μ w cs us) {o : Nat} {ds r : List Cell} {vs : List Value} (hd : CRs γ μ w ds vs) (hs : setAt cs o ds = some r) : CRs γ μ w r (us.take o ++ vs ++ us.drop (o + vs.length)) := by
  obtain ⟨_, h2⟩ := setAt_spec _ _ _ _ hs
  rw [h2, hd.1]
  exact ((h.take o).append hd).append (h.drop _)
theorem foldl_set : ∀ (vs : List Value) (o k : Nat) (us : List Value), o + k + vs.length ≤ us.length →
    ((vs.zipIdx k).foldl (fun (cs : Array Value) (x : Value × Nat) => cs.setIfInBounds (o + x.2) x.1) us.toArray).toList = us.take (o + k) ++ vs ++ us.drop (o + k + vs.length)
  | [], o, k, us, h => by simp
  | v :: vs, o, k, us, h => by
    simp only [List.zipIdx_cons, List.foldl_cons]
    have e : us.toArray.setIfInBounds (o + k) v = (us.set (o + k) v).toArray := by simp
    rw [e, foldl_set vs o (k + 1) (us.set (o + k) v) (by simp at h ⊢; omega)]
    simp only [List.length_cons] at h ⊢
    rw [show o + (k + 1) = o + k + 1 by omega, List.take_set, List.drop_set_of_lt (by omega)]
    have h1 : (us.take (o + k + 1)).set (o + k) v = us.take (o + k) ++ [v] := by
      rw [List.take_succ_eq_append_getElem (by omega), List.set_append_right _ _ (by simp only [List.length_take]; omega), List.length_take]
      rw [show o + k - min (o + k) us.length = 0 by omega]
      simp
    rw [h1, show o + k + 1 + vs.length = o + k + (vs.length + 1) by omega]
    simp
theorem bld_sim (hf : AFR γ μ w nt fr a) (m : MR γ μ w) {fs : Array Field} {place : Nat → Option (Nat × Nat)} (hp : ∀ k f z, fs[k]? = some f → szOf P f.type = some z → place k = some (f.offset, z)) :
    ∀ {parts : List (Nat × Operand)} {ps : List (Nat × Nat × Opd)} {z r : List Cell} {us : List Value}, bld? P fs parts = some ps → CRs γ μ w z us → bld fr z ps = some r →
      ∃ vs : List Value, Instr.fill place us.toArray (parts.map fun x => (x.1, a.eval x.2)) = some vs.toArray ∧ CRs γ μ w r vs
  | [], ps, z, r, us, hb, hc, hr => by
    simp only [bld?, Option.some.injEq] at hb; subst hb
    simp only [bld, Option.some.injEq] at hr; subst hr
    exact ⟨us, rfl, hc⟩
  | (k, x) :: parts, ps, z, r, us, hb, hc, hr => by
    simp only [bld?] at hb
    split at hb
    · rename_i f y q h1 h2 h3
      obtain ⟨sz, hsz, e⟩ := some_pair hb
      subst e
      simp only [bld] at hr
      split at hr
      · rename_i cs hcs
        split at hr
        · rename_i hl
          cases hz : setAt z f.offset cs with
          | none => rw [hz] at hr; simp at hr
          | some z' =>
            rw [hz] at hr
            simp only [Option.bind_some] at hr
            have hcr := cells_rel m (opd_rel hf h2) hcs
            obtain ⟨g1, _⟩ := setAt_spec _ _ _ _ hz
            obtain ⟨vs, hv, hvr⟩ := bld_sim hf m hp h3 (hc.set hcr hz) hr
            refine ⟨vs, ?_, hvr⟩
            simp only [List.map_cons, Instr.fill, hp k f sz h1 hsz]
            have hcl : (a.eval x).cells.size = sz := by have := hcr.1; simp at this; omega
            have hul : us.toArray.size = z.length := by simp [hc.1]
            rw [if_neg]
            · rw [← hv]
              congr 1
              apply Array.ext'
              have := foldl_set (a.eval x).cells.toList f.offset 0 us (by have := hcr.1; rw [hc.1]; omega)
              simp only [Nat.add_zero] at this
              rw [← this, ← Array.foldl_toList]
              simp [Array.toList_zipIdx]
            · simp only [hcl, ne_eq, not_true_eq_false, decide_false, Bool.false_or, decide_eq_true_eq, hul]
              have := hcr.1; simp at this; omega
        · cases hr
      · cases hr
    · cases hb
theorem travsz_places : ∀ {fs : List Field} {zs : List Nat}, trav (fun f : Field => szOf P f.type) fs = some zs → ∃ ps, fs.mapM (fun f => (P.info? f.type).map fun i => (f.offset, i.size)) = some ps ∧ ps.length = fs.length ∧ ∀ (k : Nat) (f : Field) (z : Nat), fs[k]? = some f → szOf P f.type = some z → ps[k]? = some (f.offset, z)
  | [], zs, h => ⟨[], by simp, rfl, fun k f z hk => by simp at hk⟩
  | f :: fs, zs, h => by
    simp only [trav] at h
    split at h
    · rename_i b q h1 h2
      obtain ⟨ps, hp1, hp2, hp3⟩ := travsz_places h2
      obtain ⟨i, hi, hz, _⟩ := szOf_spec h1
      refine ⟨(f.offset, i.size) :: ps, by simp [hi, hp1], by simp [hp2], fun k f' z hk hz' => ?_⟩
      cases k with
      | zero => simp at hk; subst hk; rw [h1] at hz'; injection hz' with hz'; subst hz'; simp [hz]
      | succ k => exact hp3 k f' z (by simpa using hk) hz'
    · cases h
theorem zeroOf_spec {t : TypeId} {z : List Cell} (h : zeroOf P t = some z) : ∃ i u, P.info? t = some i ∧ i.zero = some u ∧ CRs γ μ w z u.cells.toList ∧ trav sc u.cells.toList = some z := by
  unfold zeroOf at h
  cases hi : P.info? t with
  | none => rw [hi] at h; simp at h
  | some i =>
    rw [hi] at h
    simp only [Option.bind_some] at h
    cases hz' : i.zero with
    | none => rw [hz'] at h; simp at h
    | some u => rw [hz'] at h; exact ⟨i, u, rfl, hz', travsc_rel h, h⟩
theorem sim_build {t : TypeId} {fs : Array Field} {zs : List Nat} {z : List Cell} {parts : Array (Nat × Operand)} {ps : List (Nat × Nat × Opd)} {v : FV} {μ' : Mu} {id : Id} (hf : AFR γ μ w nt fr a) (m : MR γ μ w) (tm : Tm μ D)
    (hU : P.underlying t = some (.struct fs)) (hz : zeroOf P t = some z) (hzs : trav (fun f : Field => szOf P f.type) fs.toList = some zs) (hps : bld? P fs parts.toList = some ps)
    (ha : aop (.build z ps) id fr μ = some (v, μ')) : OpOk γ μ w D ((do pure (Next.value (← Instr.build t (parts.map fun (i, x) => (i, a.eval x)))) : Sem Next).run P w) v μ' := by
  simp only [aop] at ha
  obtain ⟨r, hr, e⟩ := some_pair ha
  cases e
  obtain ⟨i, u, hi, hu, hcr, _⟩ := zeroOf_spec (γ := γ) (μ := μ) (w := w) hz
  obtain ⟨pl, hpl, hpl2, hpl3⟩ := travsz_places hzs
  obtain ⟨vs, hfill, hvs⟩ := bld_sim (P := P) hf m (fs := fs) (place := fun k => pl[k]?) (fun k f z hk hz => hpl3 k f z (by simpa using hk) hz) hps hcr hr
  have hb : P.built t (parts.map fun (i, x) => (i, a.eval x)).toList = some vs.toArray := by
    unfold Program.built
    simp only [hi, hU, hu, hpl]
    rw [← hfill]
    simp
  exact ok_val m tm (run_build w t _ _ hb) ⟨vs, rfl, hvs⟩

/-! ### Rows made -/
theorem newArr_ok {d e sz cap : Nat} {xs : List (List Cell)} {cur : Array Value} {sto : Bool} {old : List Id} {w' : World} (m : MR γ μ w) (tm : Tm μ D) (hd : d ∉ D) (hb : Below w.heap.size w w') (hg : w'.heap[w.heap.size]? = some (.cells cur e (0, 0)))
    (hr : ∀ r ∈ xs, r.length = sz) (hsz : 0 < sz) (hcap : xs.length ≤ cap) (hm : cap ≤ maxLen) (hcur : cur.size = cap * sz) (hc : ∀ (j : Nat) (x : Cell), xs.flatten[j]? = some x → ∃ v : Value, cur[j]? = some v ∧ DR γ.st w x v) :
    OpOk γ μ w (d :: D) (.ok (.value (.slice (some (at_ w.heap.size 0)) xs.length cap)) w') (.v (.c (.own (μ.t, d)))) (mkRow μ (μ.t, d) ⟨e, sz, xs⟩ sto old) := by
  have e1 := Ext.grow m hb
  have m1 := m.grow hb
  have nost : ∀ o, ¬ γ.st w.heap.size o := fun o h => Nat.lt_irrefl _ (m.stlt _ o h)
  have hbv : ∀ g, blk (.slice (some (at_ w.heap.size 0)) xs.length cap) = some g → g = w.heap.size := fun g h => by
    simp only [blk] at h
    split at h
    · cases h
    · injection h with h; exact h.symm
  obtain ⟨m2, e2⟩ := m1.addArr (i := (μ.t, d)) (q := ⟨e, sz, xs⟩) (v := .slice (some (at_ w.heap.size 0)) xs.length cap) (sto := sto) (old := old) (tm.fresh hd).2
    ⟨hr, hsz, .inr ⟨w.heap.size, cap, cur, upd_same _ _ _, m.lo, hg, hcap, hm, hcur, fun j x hj => (hc j x hj).imp fun v hv => ⟨hv.1, hv.2.keep e1.st⟩, fun _ o _ => nost o, fun _ o => nost o⟩⟩
    (fun j g hj hg' => by rw [hbv g hg']; intro h; have := m.beLt hj; omega)
    (fun j b g hj hg' hn => by rw [hbv g hg'] at hn; have := m.nuLt (by rw [hj]; rfl) hn; omega)
  refine ⟨_, _, _, .inl rfl, ?_, m2, e1.trans e2, tm.mkRow, rfl⟩
  have hsome : ((mkRow μ (μ.t, d) ⟨e, sz, xs⟩ sto old).arr (μ.t, d)).isSome = true := by simp [mkRow, upd_same]
  have := CR.own (γ := { γ with nu := upd γ.nu (μ.t, d) (.slice (some (at_ w.heap.size 0)) xs.length cap) }) (w := w') hsome
  simpa [upd_same, FR, VR] using this
def LR (R : Cell → Value → Prop) (cs : List Cell) (vs : List Value) : Prop := vs.length = cs.length ∧ ∀ (j : Nat) (c : Cell) (v : Value), cs[j]? = some c → vs[j]? = some v → R c v
section
variable {R : Cell → Value → Prop}
theorem LR.append {cs ds : List Cell} {us vs : List Value} (h : LR R cs us) (k : LR R ds vs) : LR R (cs ++ ds) (us ++ vs) := by
  refine ⟨by simp [h.1, k.1], fun j c v hc hv => ?_⟩
  by_cases hj : j < cs.length
  · rw [List.getElem?_append_left hj] at hc
    rw [List.getElem?_append_left (by rw [h.1]; exact hj)] at hv
    exact h.2 j c v hc hv
  · rw [List.getElem?_append_right (by omega)] at hc
    rw [List.getElem?_append_right (by rw [h.1]; omega), h.1] at hv
    exact k.2 _ c v hc hv
theorem LR.take {cs : List Cell} {us : List Value} (h : LR R cs us) (n : Nat) : LR R (cs.take n) (us.take n) :=
  ⟨by simp [h.1], fun j c v hc hv => by
    rw [List.getElem?_take] at hc hv
    split at hc
    · rename_i hj; rw [if_pos hj] at hv; exact h.2 j c v hc hv
    · cases hc⟩
theorem LR.drop {cs : List Cell} {us : List Value} (h : LR R cs us) (n : Nat) : LR R (cs.drop n) (us.drop n) :=
  ⟨by simp [h.1], fun j c v hc hv => by
    rw [List.getElem?_drop] at hc hv
    exact h.2 _ c v hc hv⟩
theorem LR.get {cs : List Cell} {vs : List Value} (h : LR R cs vs) {j : Nat} {c : Cell} (hc : cs[j]? = some c) : ∃ v, vs[j]? = some v ∧ R c v := by
  have hl : j < cs.length := (List.getElem?_eq_some_iff.1 hc).1
  have hv : vs[j]? = some (vs[j]'(by rw [h.1]; exact hl)) := List.getElem?_eq_getElem _
  exact ⟨_, hv, h.2 j c _ hc hv⟩
theorem LR.nil : LR R [] [] := ⟨rfl, fun j x y hx => by simp at hx⟩
theorem LR.cons {c : Cell} {cs : List Cell} {v : Value} {vs : List Value} (h : R c v) (hs : LR R cs vs) : LR R (c :: cs) (v :: vs) :=
  ⟨by simp [hs.1], fun j x y hx hy => by
    cases j with
    | zero => simp at hx hy; subst hx; subst hy; exact h
    | succ j => exact hs.2 j x y (by simpa using hx) (by simpa using hy)⟩
end
theorem ro_nil {st : Nat → Nat → Prop} {z : Nat} {A : Option Addr} : DR st w (.ro z []) (.slice A 0 0) :=
  .ro (b := 0) (o := 0) (vs := fun _ => undef) rfl (Nat.le_refl _) (by simp [maxLen]) (by simp) (fun h => absurd h (Nat.lt_irrefl _)) (fun j x hj => by simp at hj) (fun j x hj => by simp at hj)
theorem zero_rel {st : Nat → Nat → Prop} : ∀ {sh : List Sh} {us : List Value} {zc z : List Cell}, trav sc us = some zc → datL mu0 sh zc = some z → DRs st w z us
  | sh, [], zc, z, h, hd => by
    simp only [trav, Option.some.injEq] at h; subst h
    cases sh <;> simp [datL] at hd
    subst hd; exact LR.nil
  | sh, u :: us, zc, z, h, hd => by
    simp only [trav] at h
    split at h
    · rename_i c q h1 h2
      injection h with h; subst h
      cases sh with
      | nil => simp [datL] at hd
      | cons s sh =>
        simp only [datL] at hd
        split at hd
        · rename_i x y g1 g2
          injection hd with hd; subst hd
          refine LR.cons ?_ (zero_rel h2 g2)
          unfold sc at h1
          split at h1
          · injection h1 with h1; subst h1
            cases s <;> simp [datC, elemsC] at g1
            subst g1; exact .val rfl
          · injection h1 with h1; subst h1
            cases s <;> simp [datC, elemsC] at g1
            subst g1; exact .val rfl
          · injection h1 with h1; subst h1
            cases s <;> simp [datC, elemsC] at g1
            subst g1; exact ro_nil
          · injection h1 with h1; subst h1
            cases s <;> simp [datC, elemsC] at g1
          · injection h1 with h1; subst h1
            cases s <;> simp [datC, elemsC] at g1
          · cases h1
        · cases hd
    · cases h
theorem DRs.lr {st : Nat → Nat → Prop} {cs : List Cell} {vs : List Value} (h : DRs st w cs vs) : LR (DR st w) cs vs := h
theorem replicate_rel {st : Nat → Nat → Prop} {z : List Cell} {us : List Value} (h : DRs st w z us) : ∀ n, DRs st w (List.replicate n z).flatten (List.replicate n us).flatten
  | 0 => LR.nil
  | n + 1 => by
    simp only [List.replicate_succ, List.flatten_cons]
    exact LR.append h (replicate_rel h n)
theorem zeros_list (u : Array Value) (n : Nat) : ((Array.range (n * u.size)).map (u[· % u.size]!)).toList = (List.replicate n u.toList).flatten := by
  apply List.ext_getElem?
  intro j
  have hl : (List.replicate n u.toList).flatten.length = n * u.size := by
    induction n with
    | zero => simp
    | succ n ih => simp [List.replicate_succ, ih, Nat.succ_mul]; omega
  by_cases hj : j < n * u.size
  · have h1 : ((Array.range (n * u.size)).map (u[· % u.size]!)).toList[j]? = some (u[j % u.size]!) := by simp [hj]
    rw [h1]
    have h2 : ∀ n j, j < n * u.size → (List.replicate n u.toList).flatten[j]? = some (u[j % u.size]!) := by
      intro n
      induction n with
      | zero => intro j h; simp at h
      | succ n ih =>
        intro j h
        simp only [List.replicate_succ, List.flatten_cons]
        by_cases hlt : j < u.size
        · rw [List.getElem?_append_left (by simpa using hlt), Nat.mod_eq_of_lt hlt]
          simp [hlt]
        · rw [List.getElem?_append_right (by simp; omega)]
          have := ih (j - u.size) (by rw [Nat.succ_mul] at h; omega)
          simp only [Array.length_toList]
          have hm : j % u.size = (j - u.size) % u.size := Nat.mod_eq_sub_mod (by omega)
          rw [hm]
          exact this
    rw [h2 n j hj]
  · rw [List.getElem?_eq_none (by simp; omega), List.getElem?_eq_none (by omega)]
theorem bldS_unsto (fr : Fr) (μ : Mu) (l : List Id) (sh : List Sh) (sz : Nat) : ∀ (z : List (List Cell)) (ps : List (Nat × Opd)), bldS fr (unsto μ l) sh sz z ps = bldS fr μ sh sz z ps
  | z, [] => rfl
  | z, (k, x) :: r => by
    have h : (datL (unsto μ l) sh) = datL μ sh := funext fun cs => datL_unsto μ l sh cs
    simp only [bldS, h]
    split
    · split
      · exact bldS_unsto fr μ l sh sz _ r
      · rfl
    · rfl
theorem FR.unst {x : FV} {v : Value} {l : List Id} (h : FR γ μ w x v) : FR γ (unsto μ l) w x v := h.ext (.unst l)
theorem flatten_set_lr {st : Nat → Nat → Prop} {z : List (List Cell)} {us vs : List Value} {cs : List Cell} {sz k : Nat} (hr : ∀ r ∈ z, r.length = sz) (hk : k < z.length) (hl : cs.length = sz) (h : DRs st w z.flatten us) (hc : DRs st w cs vs) :
    DRs st w (z.set k cs).flatten (us.take (k * sz) ++ vs ++ us.drop (k * sz + vs.length)) := by
  rw [flatten_set hr hk hl, show vs.length = sz by rw [hc.1, hl]]
  exact LR.append (LR.append (LR.take h _) hc) (LR.drop h _)
theorem bldS_sim {sz : Nat} {sh : List Sh} : ∀ {parts : List (Nat × Operand)} {ps : List (Nat × Opd)} {z r : List (List Cell)} {us : List Value} {γ : Gh} {μ : Mu}, AFR γ μ w nt fr a → MR γ μ w → bsl? parts = some ps → (∀ x ∈ z, x.length = sz) → DRs γ.st w z.flatten us → bldS fr μ sh sz z ps = some r →
      ∃ (vs : List Value) (γ' : Gh), MR γ' (unsto μ (ps.flatMap fun p => ((cells (opd fr p.2)).getD []).flatMap ownC)) w ∧ Ext γ μ w γ' (unsto μ (ps.flatMap fun p => ((cells (opd fr p.2)).getD []).flatMap ownC)) w ∧
        Instr.fill (fun i => some (i * sz, sz)) us.toArray (parts.map fun x => (x.1, a.eval x.2)) = some vs.toArray ∧ (∀ x ∈ r, x.length = sz) ∧ r.length = z.length ∧ DRs γ'.st w r.flatten vs
  | [], ps, z, r, us, γ, μ, hf, m, hb, hz, hc, hr => by
    simp only [bsl?, Option.some.injEq] at hb; subst hb
    simp only [bldS, Option.some.injEq] at hr; subst hr
    exact ⟨us, γ, m.unst _, .unst _, rfl, hz, rfl, hc⟩
  | (k, x) :: parts, ps, z, r, us, γ, μ, hf, m, hb, hz, hc, hr => by
    simp only [bsl?] at hb
    split at hb
    · rename_i y q h1 h2
      injection hb with hb; subst hb
      simp only [bldS] at hr
      split at hr
      · rename_i cs hcs
        split at hr
        · rename_i hl
          obtain ⟨hl, hk⟩ := hl
          cases hcl : cells (opd fr y) with
          | none => rw [hcl] at hcs; simp at hcs
          | some ds =>
            rw [hcl] at hcs
            simp only [Option.bind_some] at hcs
            obtain ⟨γ1, m1, e1, d1⟩ := datL_sim m (cells_rel m (opd_rel hf h1) hcl) hcs
            have hf1 : AFR γ1 (unsto μ (ds.flatMap ownC)) w nt fr a := ⟨hf.sz, fun s => (hf.at_ s).ext e1⟩
            have hc1 : DRs γ1.st w z.flatten us := hc.keep e1.st
            obtain ⟨vs, γ2, m2, e2, hfill, g1, g2, g3⟩ := bldS_sim (sz := sz) (sh := sh) hf1 m1 h2 (fun x hx => by
              rcases List.mem_or_eq_of_mem_set hx with hx | hx
              · exact hz x hx
              · rw [hx]; exact hl) (flatten_set_lr hz hk hl hc1 d1) (by rw [bldS_unsto]; exact hr)
            rw [unsto_unsto] at m2 e2
            refine ⟨vs, γ2, ?_, ?_, ?_, g1, by rw [g2, List.length_set], g3⟩
            · simpa [hcl] using m2
            · simpa [hcl] using e1.trans e2
            · simp only [List.map_cons, Instr.fill]
              have hvl : (a.eval x).cells.toList.length = sz := by rw [d1.1, hl]
              have hcs2 : (a.eval x).cells.size = sz := by simpa using hvl
              have hfl : us.length = z.length * sz := by rw [hc.1, flatten_len hz]
              have hkm : (k + 1) * sz ≤ z.length * sz := Nat.mul_le_mul_right _ hk
              rw [Nat.succ_mul] at hkm
              rw [if_neg]
              · rw [← hfill]
                congr 1
                apply Array.ext'
                have := foldl_set (a.eval x).cells.toList (k * sz) 0 us (by omega)
                simp only [Nat.add_zero] at this
                rw [← this, ← Array.foldl_toList]
                simp [Array.toList_zipIdx]
              · simp only [hcs2, ne_eq, not_true_eq_false, decide_false, Bool.false_or, decide_eq_true_eq, List.size_toArray]
                omega
        · cases hr
      · cases hr
    · cases hb
theorem zeroD_spec {e : TypeId} {z : Nat} {zero : List Cell} {st : Nat → Nat → Prop} (hz : szOf P e = some z) (h : (zeroOf P e).bind (zeroD (datSh P e)) = some zero) (hl : zero.length = z) :
    ∃ u : Value, (zeroValue e).run P w = .ok u w ∧ DRs st w zero u.cells.toList ∧ u.cells.size = z := by
  cases h0 : zeroOf P e with
  | none => rw [h0] at h; simp at h
  | some zc =>
    rw [h0] at h
    simp only [Option.bind_some, zeroD] at h
    unfold zeroOf at h0
    cases hi : P.info? e with
    | none => rw [hi] at h0; simp at h0
    | some i =>
      rw [hi] at h0
      simp only [Option.bind_some] at h0
      cases hz' : i.zero with
      | none => rw [hz'] at h0; simp at h0
      | some u =>
        rw [hz'] at h0
        simp only [Option.bind_some] at h0
        cases hs : datSh P e with
        | none => rw [hs] at h; simp at h
        | some sh =>
          rw [hs] at h
          simp only [Option.bind_some] at h
          have hd := zero_rel (w := w) (st := st) h0 h
          refine ⟨u, by simp [zeroValue, typeInfo, hi, hz'], hd, ?_⟩
          have := hd.1; simp at this; omega
theorem sim_bsl {t e : TypeId} {n z : Nat} {zero : List Cell} {sh : List Sh} {parts : Array (Nat × Operand)} {ps : List (Nat × Opd)} {v : FV} {μ' : Mu} {d : Nat} (hf : AFR γ μ w nt fr a) (m : MR γ μ w) (tm : Tm μ D) (hd : d ∉ D)
    (hU : sliceT P t = some e) (hz : szOf P e = some z) (h0 : (zeroOf P e).bind (zeroD (datSh P e)) = some zero) (hzl : zero.length = z) (hn : n * z ≤ 4096) (hps : bsl? parts.toList = some ps)
    (ha : aop (.bsl e z sh (List.replicate n zero) ps) (μ.t, d) fr μ = some (v, μ')) : OpOk γ μ w (d :: D) ((do pure (Next.value (← Instr.buildSlice t n (parts.map fun (i, x) => (i, a.eval x)))) : Sem Next).run P w) v μ' := by
  simp only [aop] at ha
  obtain ⟨r, hr, e'⟩ := some_pair ha
  cases e'
  obtain ⟨u, hu, hdu, hus⟩ := zeroD_spec (P := P) (w := w) (st := γ.st) hz h0 hzl
  obtain ⟨i, hi, hsz, hne⟩ := szOf_spec hz
  obtain ⟨vs, γ', m', e1, hfill, g1, g2, g3⟩ := bldS_sim (w := w) (sz := z) (sh := sh) hf m hps (fun x hx => by rw [List.eq_of_mem_replicate hx]; exact hzl) (replicate_rel hdu n) hr
  have hrl : r.length = n := by rw [g2]; simp
  have hrun : (Instr.buildSlice t n (parts.map fun (i, x) => (i, a.eval x))).run P w = .ok (.slice (some (at_ w.heap.size 0)) n n) (w.alloc (.cells vs.toArray e)) := by
    have hfl : Instr.fill (fun i => some (i * z, z)) ((List.replicate n u.cells.toList).flatten).toArray (parts.map fun (i, x) => (i, a.eval x)).toList = some vs.toArray := by rw [← hfill]; simp
    unfold Instr.buildSlice
    simp only [Sem.run_bind, run_underlying (sliceT_spec hU), Result.andThen_ok, run_sizeOf hz]
    rw [if_neg (by omega)]
    by_cases h : n * z = 0
    · have hn0 : n = 0 := by rcases Nat.mul_eq_zero.1 h with h | h; exact h; exact absurd h hne
      subst hn0
      have hz1 : (Array.range (0 * z)).map (fun x => (#[] : Array Value)[x % (#[] : Array Value).size]!) = ((List.replicate 0 u.cells.toList).flatten).toArray := by simp
      rw [if_pos h]
      simp only [Sem.run_bind, Sem.run_pure, Result.andThen_ok, hz1, hfl]
      rfl
    · have hz1 : (Array.range (n * z)).map (fun x => u.cells[x % u.cells.size]!) = ((List.replicate n u.cells.toList).flatten).toArray := by
        apply Array.ext'
        have := zeros_list u.cells n
        rw [hus] at this ⊢
        simpa using this
      rw [if_neg h]
      simp only [Sem.run_bind, Sem.run_pure, Result.andThen_ok, hu, hz1, hfl]
      rfl
  rw [Sem.run_bind, hrun]
  simp only [Result.andThen_ok, Sem.run_pure]
  have tm' : Tm (unsto μ (ps.flatMap fun p => ((cells (opd fr p.2)).getD []).flatMap ownC)) D := tm
  have hvl : vs.length = n * z := by rw [g3.1, flatten_len g1, hrl]
  have := newArr_ok (e := e) (sz := z) (cap := n) (xs := r) (cur := vs.toArray) (sto := true) (old := []) m' tm' hd (below_alloc w _) (heap_alloc_new w _) g1 (by omega) (by omega) (by have : n ≤ n * z := Nat.le_mul_of_pos_right _ (by omega); simp only [maxLen]; omega) (by simp [hvl])
    (fun j x hj => by obtain ⟨v, hv, hd⟩ := LR.get g3 hj; exact ⟨v, by simpa using hv, hd⟩)
  rw [hrl] at this
  obtain ⟨γ2, v2, w2, k1, k2, k3, k4, k5, k6⟩ := this
  exact ⟨γ2, v2, w2, k1, k2, k3, e1.trans k4, k5, k6⟩
end Go.Proofs.Ytndabolfhhppkaa.Am
