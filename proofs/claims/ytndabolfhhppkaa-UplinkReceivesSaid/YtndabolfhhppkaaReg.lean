/- Regions: in their order, and in any. No condition. -/
import Derived.Test.YtndabolfhhppkaaComD
namespace Go.Proofs.Ytndabolfhhppkaa.Am
open Go Go.RowKit
variable {P : Program} {γ : Gh} {μ ν : Mu} {w : World} {nt : Nat} {D : List Nat} {fr fr' : Fr} {a : Act}

theorem dstsOk_spec : ∀ {l : List SOp}, dstsOk l = true → l.Pairwise (fun p q => ∀ d, p.dst = some d → q.dst ≠ some d)
  | [], _ => .nil
  | o :: r, h => by
    simp only [dstsOk, Bool.and_eq_true] at h
    refine .cons (fun q hq d hd => ?_) (dstsOk_spec h.2)
    have h1 := h.1
    rw [hd] at h1
    have := List.all_eq_true.1 h1 q hq
    simpa using this
def Done (P : Program) (nt : Nat) (γ : Gh) (μ : Mu) (w : World) (a : Act) (s' : St) (K : Act → World → Prop) : Prop :=
  ∀ γ' a' w', AFR γ' s'.mu w' nt s'.fr a' → MR γ' s'.mu w' → Ext γ μ w γ' s'.mu w' → (∃ D', Tm s'.mu D') → a'.defers = a.defers → K a' w'
theorem Done.next {γ1 : Gh} {μ1 : Mu} {w1 : World} {a1 : Act} {s' : St} {K : Act → World → Prop} (h : Done P nt γ μ w a s' K) (e : Ext γ μ w γ1 μ1 w1) (hd : a1.defers = a.defers) : Done P nt γ1 μ1 w1 a1 s' K :=
  fun γ' a' w' h1 h2 h3 h4 h6 => h γ' a' w' h1 h2 (e.trans h3) h4 (h6.trans hd)
theorem plain_sim {ops : Array Oper} {l : List SOp} {Q : Exit → Act → World → Prop} {s' : St} (hl : trav (compOper P nt ops) ops.toList = some l) : ∀ {r : List SOp} {k : Nat} {s : St} {γ : Gh} {a : Act} {w : World} {D : List Nat}, l.drop k = r →
    r.Pairwise (fun p q => ∀ d, p.dst = some d → q.dst ≠ some d) → Chain (CS P) r s s' → AFR γ s.mu w nt s.fr a → MR γ s.mu w → Tm s.mu D → (∀ o ∈ r, ∀ d, o.dst = some d → d ∉ D) → Done P nt γ s.mu w a s' (Q .normal) → wpOps P ops Q ((List.range ops.size).drop k) a w := by
  intro r
  obtain ⟨hlen, hat⟩ := trav_spec hl
  have hlen' : l.length = ops.size := by rw [hlen]; rfl
  induction r with
  | nil =>
    intro k s γ a w D hk _ hc hf m tm _ hQ
    have hkn : ops.size ≤ k := by
      have := congrArg List.length hk; simp at this; omega
    rw [List.drop_eq_nil_of_le (by simpa using hkn)]
    cases hc
    exact hQ γ a w hf m (.refl _ _ _) ⟨D, tm⟩ rfl
  | cons so r ih =>
    intro k s γ a w D hk hpw hc hf m tm hD hQ
    have hkn : k < ops.size := by
      apply Classical.byContradiction
      intro h
      rw [List.drop_eq_nil_of_le (by omega)] at hk; cases hk
    rw [List.drop_eq_getElem_cons (by simpa using hkn), wpOps_cons]
    have hko : (List.range ops.size)[k]'(by simpa using hkn) = k := by simp
    rw [hko]
    have hlk : l[k]? = some so := by
      have := congrArg (·[0]?) hk
      simpa using this
    have hdr : l.drop (k + 1) = r := by rw [← List.drop_drop, hk]; rfl
    have hok : ops.toList[k]? = some ops[k] := by simp [hkn]
    cases hc with
    | @cons _ _ _ s1 _ h1 h2 =>
    have hpw' := List.pairwise_cons.1 hpw
    refine step_sim (D := D) (so := so) (by simp [hkn]) (hat k _ _ hok hlk) hf m tm (hD so (by simp)) h1 (fun γ' a' w' k1 k2 k3 k4 k6 => ?_)
    obtain ⟨D', k4, k5⟩ := k4
    refine ih hdr hpw'.2 h2 k1 k2 k4 (fun o ho d hd hm => ?_) (hQ.next k3 k6)
    rcases List.mem_append.1 (k5 d hm) with hm | hm
    · exact hpw'.1 o ho d (by simpa using hm) hd
    · exact hD o (List.mem_cons_of_mem _ ho) d hd hm

/-! ### Any order -/
theorem mask_spec {acc : Array Nat} {i : Nat} : ∀ {l : List Edge} {s : Nat}, (l.foldl (fun s e => if Region.binds .any e then s ||| 2 ^ e.on ||| acc.getD e.on 0 else s) s).testBit i = true →
    s.testBit i = true ∨ ∃ e ∈ l, Region.binds .any e = true ∧ (i = e.on ∨ (acc.getD e.on 0).testBit i = true)
  | [], s, h => .inl h
  | e :: l, s, h => by
    simp only [List.foldl_cons] at h
    rcases mask_spec h with h | ⟨e', he, h1⟩
    · split at h
      · rename_i hb
        simp only [Nat.testBit_or, Bool.or_eq_true, Nat.testBit_two_pow, decide_eq_true_eq] at h
        rcases h with (h | h) | h
        · exact .inl h
        · exact .inr ⟨e, by simp, hb, .inl h.symm⟩
        · exact .inr ⟨e, by simp, hb, .inr h⟩
      · exact .inl h
    · exact .inr ⟨e', List.mem_cons_of_mem _ he, h1⟩
theorem before_fold {i : Nat} : ∀ (xs : List Oper) (acc : Array Nat),
    (∀ j, j < acc.size → (xs.foldl (fun acc o => acc.push (o.after.foldl (fun s e => if Region.binds .any e then s ||| 2 ^ e.on ||| acc.getD e.on 0 else s) 0)) acc).getD j 0 = acc.getD j 0) ∧
    (∀ j, acc.size ≤ j → ((xs.foldl (fun acc o => acc.push (o.after.foldl (fun s e => if Region.binds .any e then s ||| 2 ^ e.on ||| acc.getD e.on 0 else s) 0)) acc).getD j 0).testBit i = true →
      ∃ o, xs[j - acc.size]? = some o ∧ ∃ e ∈ o.after, Region.binds .any e = true ∧ (i = e.on ∨ ((xs.foldl (fun acc o => acc.push (o.after.foldl (fun s e => if Region.binds .any e then s ||| 2 ^ e.on ||| acc.getD e.on 0 else s) 0)) acc).getD e.on 0).testBit i = true))
  | [], acc => ⟨fun _ _ => rfl, fun j hj h => by
      simp only [List.foldl_nil] at h
      rw [Array.getD_eq_getD_getElem?, Array.getElem?_eq_none hj] at h
      simp at h⟩
  | o :: xs, acc => by
    simp only [List.foldl_cons]
    obtain ⟨ih1, ih2⟩ := before_fold (i := i) xs (acc.push (o.after.foldl (fun s e => if Region.binds .any e then s ||| 2 ^ e.on ||| acc.getD e.on 0 else s) 0))
    generalize hm : o.after.foldl (fun s e => if Region.binds .any e then s ||| 2 ^ e.on ||| acc.getD e.on 0 else s) 0 = mk at *
    have hold : ∀ j, j < acc.size → (acc.push mk).getD j 0 = acc.getD j 0 := fun j hj => by
      simp [Array.getD_eq_getD_getElem?, Array.getElem?_push_lt hj, hj]
    refine ⟨fun j hj => (ih1 j (by simp; omega)).trans (hold j hj), fun j hj h => ?_⟩
    by_cases he : j = acc.size
    · subst he
      rw [ih1 acc.size (by simp)] at h
      have hn : (acc.push mk).getD acc.size 0 = mk := by simp
      rw [hn, ← hm, ← Array.foldl_toList] at h
      rcases mask_spec h with h | ⟨e, he, hb, h⟩
      · simp at h
      · refine ⟨o, by simp, e, by simpa using he, hb, h.imp id fun h => ?_⟩
        by_cases hlt : e.on < acc.size
        · rw [ih1 _ (by simp; omega), hold _ hlt]; exact h
        · rw [Array.getD_eq_getD_getElem?, Array.getElem?_eq_none (by omega)] at h
          simp at h
    · obtain ⟨o', ho', h'⟩ := ih2 j (by simp; omega) h
      refine ⟨o', ?_, h'⟩
      rw [Array.size_push] at ho'
      rw [show j - acc.size = (j - (acc.size + 1)) + 1 by omega]
      simpa using ho'
theorem before_spec {ops : Array Oper} {i j : Nat} (h : ((Region.before ops).getD j 0).testBit i = true) : ∃ o, ops[j]? = some o ∧ ∃ e ∈ o.after, Region.binds .any e = true ∧ (i = e.on ∨ ((Region.before ops).getD e.on 0).testBit i = true) := by
  have e : Region.before ops = ops.toList.foldl (fun acc o => acc.push (o.after.foldl (fun s e => if Region.binds .any e then s ||| 2 ^ e.on ||| acc.getD e.on 0 else s) 0)) #[] := by
    unfold Region.before
    rw [Array.foldl_toList]
  rw [e] at h ⊢
  obtain ⟨o, ho, h'⟩ := (before_fold (i := i) ops.toList #[]).2 j (by simp) h
  exact ⟨o, by simpa using ho, h'⟩
def so0 : SOp := ⟨none, .mv (.k (.c .nil)), none⟩
def gl (l : List SOp) (j : Nat) : SOp := (l[j]?).getD so0
theorem edgesOk_spec {ops : Array Oper} (h : edgesOk ops = true) {i : Nat} {o : Oper} (hi : ops[i]? = some o) : ∀ e ∈ o.after, Region.binds .any e = true → e.on < i := by
  intro e he hb
  have hlt : i < ops.size := (Array.getElem?_eq_some_iff.1 hi).1
  have := List.all_eq_true.1 h i (List.mem_range.2 hlt)
  rw [hi] at this
  have := Array.all_eq_true_iff_forall_mem.1 this e he
  simp [hb] at this
  exact this
theorem drawOk_spec {ops : Array Oper} {l : List SOp} (h : drawOk ops l = true) (hl : l.length = ops.size) : (∀ o ∈ l, ∀ x ∈ opds o.op, okO x = true) ∧ ∀ i j, i < j → j < ops.size → ((Region.before ops).getD j 0).testBit i = true ∨ apartS (gl l i) (gl l j) = true := by
  unfold drawOk at h
  simp only [Bool.and_eq_true] at h
  refine ⟨fun o ho x hx => List.all_eq_true.1 (List.all_eq_true.1 h.1 o ho) x hx, fun i j hij hj => ?_⟩
  have h1 := List.all_eq_true.1 (List.all_eq_true.1 h.2 j (List.mem_range.2 hj)) i (List.mem_range.2 hij)
  rw [Bool.or_eq_true] at h1
  refine h1.imp id fun h2 => ?_
  have hi' : l[i]? = some (l[i]'(by omega)) := List.getElem?_eq_getElem _
  have hj' : l[j]? = some (l[j]'(by omega)) := List.getElem?_eq_getElem _
  rw [hi', hj'] at h2
  simp only [gl, hi', hj', Option.getD_some]
  exact h2
theorem gl_pairwise {l : List SOp} (h : l.Pairwise (fun p q => ∀ d, p.dst = some d → q.dst ≠ some d)) : ∀ {R : List Nat}, R.Pairwise (· < ·) → (∀ j ∈ R, j < l.length) → (R.map (gl l)).Pairwise (fun p q => ∀ d, p.dst = some d → q.dst ≠ some d) := by
  intro R hR hlt
  rw [List.pairwise_map]
  refine hR.imp_of_mem fun {a b} ha hb hab => ?_
  have := (List.pairwise_iff_getElem.1 h) a b (hlt a ha) (hlt b hb) hab
  simpa [gl, hlt a ha, hlt b hb] using this
theorem any_sim {ops : Array Oper} {l : List SOp} {Q : Exit → Act → World → Prop} {s' : St} (hl : trav (compOper P nt ops) ops.toList = some l) (hds : dstsOk l = true) (hdr : drawOk ops l = true) (hed : edgesOk ops = true) :
    ∀ {n : Nat} {R : List Nat} {listed : Array Bool} {s : St} {γ : Gh} {a : Act} {w : World} {D : List Nat}, R.length = n → R.Pairwise (· < ·) → listed.size = ops.size → (∀ j, j ∈ R ↔ j < ops.size ∧ listed.getD j true = false) →
    (∀ j i, listed.getD j false = true → ((Region.before ops).getD j 0).testBit i = true → listed.getD i false = true) → Chain (CS P) (R.map (gl l)) s s' → AFR γ s.mu w nt s.fr a → MR γ s.mu w → Tm s.mu D → (∀ j ∈ R, ∀ d, (gl l j).dst = some d → d ∉ D) →
    Done P nt γ s.mu w a s' (Q .normal) → wpAny P .any ops Q n listed a w := by
  obtain ⟨hlen, hat⟩ := trav_spec hl
  have hlen' : l.length = ops.size := by rw [hlen]; rfl
  obtain ⟨hok, hap⟩ := drawOk_spec hdr hlen'
  have hpw := dstsOk_spec hds
  have notl : ∀ {listed : Array Bool}, listed.size = ops.size → ∀ {j : Nat}, j < ops.size → (listed.getD j true = false ↔ ¬ listed.getD j false = true) := by
    intro listed hsz j hj
    have : j < listed.size := by omega
    simp [Array.getD_eq_getD_getElem?, Array.getElem?_eq_getElem this]
  intro n
  induction n with
  | zero =>
    intro R listed s γ a w D hn _ hsz hR _ hc hf m tm _ hQ
    have : R = [] := List.eq_nil_of_length_eq_zero hn
    subst this
    refine ⟨?_, ?_⟩
    · rw [List.eq_nil_iff_forall_not_mem]
      intro j hj
      obtain ⟨h1, o, ho, _⟩ := mem_ready.1 hj
      have := (hR j).2 ⟨(Array.getElem?_eq_some_iff.1 ho).1, h1⟩
      simp at this
    · cases hc; exact hQ γ a w hf m (.refl _ _ _) ⟨D, tm⟩ rfl
  | succ n ih =>
    intro R listed s γ a w D hn hlt hsz hR hcl hc hf m tm hD hQ
    have hRn : ∀ j ∈ R, j < ops.size := fun j hj => ((hR j).1 hj).1
    refine ⟨fun hready => ?_, fun i hi => ?_⟩
    · cases R with
      | nil => simp at hn
      | cons j R =>
        exfalso
        have hj := (hR j).1 (by simp)
        have : j ∈ Region.ready .any ops listed := by
          refine mem_ready.2 ⟨hj.2, ops[j], by simp [hj.1], fun e he hb => ?_⟩
          have hlt' := edgesOk_spec hed (i := j) (o := ops[j]) (by simp [hj.1]) e he hb
          apply Classical.byContradiction
          intro hno
          have hm : e.on ∈ j :: R := (hR e.on).2 ⟨by omega, (notl hsz (by omega)).2 hno⟩
          rcases List.mem_cons.1 hm with hm | hm
          · omega
          · have := (List.pairwise_cons.1 hlt).1 e.on hm; omega
        rw [hready] at this; simp at this
    · obtain ⟨h1, o, ho, hall⟩ := mem_ready.1 hi
      have hin : i < ops.size := (Array.getElem?_eq_some_iff.1 ho).1
      have hiR : i ∈ R := (hR i).2 ⟨hin, h1⟩
      obtain ⟨R1, R2, hsplit⟩ := List.append_of_mem hiR
      have hpred : ∀ q, ((Region.before ops).getD i 0).testBit q = true → listed.getD q false = true := fun q hq => by
        obtain ⟨o', ho', e, he, hb, h⟩ := before_spec hq
        rw [ho] at ho'; injection ho' with ho'; subst ho'
        have hl := hall e he hb
        rcases h with h | h
        · rw [h]; exact hl
        · exact hcl _ _ hl h
      have hlt' := hlt
      rw [hsplit] at hlt' hc
      rw [List.map_append, List.map_cons] at hc
      have hp1 := List.pairwise_append.1 hlt'
      have hp2 := List.pairwise_cons.1 hp1.2.1
      have hsub : (R1 ++ R2).Pairwise (· < ·) := List.pairwise_append.2 ⟨hp1.1, hp2.2, fun x hx y hy => hp1.2.2 x hx y (List.mem_cons_of_mem _ hy)⟩
      have hin1 : ∀ j ∈ R1, j ∈ R := fun j hj => by rw [hsplit]; simp [hj]
      have hin2 : ∀ j ∈ R2, j ∈ R := fun j hj => by rw [hsplit]; simp [hj]
      have hgl : l[i]? = some (gl l i) := by simp [gl, show i < l.length by omega]
      have hcomp : ∀ j, j < ops.size → ∃ o, ops[j]? = some o ∧ compOper P nt ops o = some (gl l j) := fun j hj => by
        refine ⟨ops[j], by simp [hj], hat j _ _ (by simp [hj]) ?_⟩
        simp [gl, show j < l.length by omega]
      have hdst : ∀ j, j < ops.size → ((gl l j).dst.isSome || kindOf (gl l j).op == 3 || (gl l j).op.isCall) = true := fun j hj => by
        obtain ⟨o, _, hc⟩ := hcomp j hj
        obtain ⟨_, _, h3, _, _, h6⟩ := compOper_spec hc
        rw [h3]; exact h6
      have hRpw := gl_pairwise hpw hlt (fun j hj => by rw [hlen']; exact hRn j hj)
      rw [hsplit, List.map_append, List.map_cons] at hRpw
      have hRpw' := List.pairwise_append.1 hRpw
      obtain ⟨s1, hs1, hrest⟩ := chain_front (D := D) hc (fun p hp => by
          obtain ⟨j, hj, rfl⟩ := List.mem_map.1 hp
          have hji := hp1.2.2 j hj i (by simp)
          rcases hap j i hji hin with h | h
          · have := hpred j h
            exact absurd this ((notl hsz (hRn j (hin1 j hj))).1 ((hR j).1 (hin1 j hj)).2)
          · exact h)
        (fun p hp => by
          rcases List.mem_cons.1 hp with rfl | hp
          · exact hdst i hin
          · obtain ⟨j, hj, rfl⟩ := List.mem_map.1 hp; exact hdst j (hRn j (hin1 j hj)))
        hRpw'.1 tm
        (fun p hp d hd => by
          rcases List.mem_cons.1 hp with rfl | hp
          · exact hD i hiR d hd
          · obtain ⟨j, hj, rfl⟩ := List.mem_map.1 hp; exact hD j (hin1 j hj) d hd)
        m.exB (fun x => (hf.at_ x).ex) (hok (gl l i) (List.mem_of_getElem? hgl))
      obtain ⟨o', ho', hcc⟩ := hcomp i hin
      refine step_sim (D := D) (so := gl l i) ho' hcc hf m tm (hD i hiR) hs1 (fun γ' a' w' k1 k2 k3 k4 k6 => ?_)
      obtain ⟨D', k4, k5⟩ := k4
      have hget : ∀ j d, j ≠ i → (listed.setIfInBounds i true).getD j d = listed.getD j d := fun j d h => getD_set_ne d (Ne.symm h)
      have hgi : ∀ d, (listed.setIfInBounds i true).getD i d = true := fun d => by
        simp [Array.getD_eq_getD_getElem?, show i < listed.size by omega]
      refine ih (R := R1 ++ R2) (D := D') ?_ hsub (by simpa using hsz) (fun j => ?_) (fun j q hj hq => ?_) (by rw [List.map_append]; exact hrest) k1 k2 k4 (fun j hj d hd hm => ?_) (hQ.next k3 k6)
      · have := congrArg List.length hsplit
        simp at this ⊢; omega
      · by_cases hji : j = i
        · subst hji
          rw [hgi]
          simp only [Bool.true_eq_false, and_false, iff_false]
          intro h
          rcases List.mem_append.1 h with h | h
          · have := hp1.2.2 j h j (by simp); omega
          · have := hp2.1 j h; omega
        · rw [hget j true hji, ← hR j, hsplit]
          simp [hji]
      · by_cases hji : j = i
        · subst hji
          by_cases hqi : q = j
          · subst hqi; exact hgi _
          · rw [hget q false hqi]; exact hpred q hq
        · rw [hget j false hji] at hj
          by_cases hqi : q = i
          · subst hqi; exact hgi _
          · rw [hget q false hqi]; exact hcl j q hj hq
      · rcases List.mem_append.1 (k5 d hm) with hm | hm
        · have hdi : (gl l i).dst = some d := by simpa using hm
          rcases List.mem_append.1 hj with hj | hj
          · exact hRpw'.2.2 (gl l j) (List.mem_map.2 ⟨j, hj, rfl⟩) (gl l i) (by simp) d hd hdi
          · exact (List.pairwise_cons.1 hRpw'.2.1).1 (gl l j) (List.mem_map.2 ⟨j, hj, rfl⟩) d hdi hd
        · exact hD j (by rcases List.mem_append.1 hj with h | h; exact hin1 j h; exact hin2 j h) d hd hm
end Go.Proofs.Ytndabolfhhppkaa.Am
