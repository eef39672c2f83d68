/- Steps of a region that may be taken either way: one that is apart from those ahead of it may be taken first. No condition. -/
import Derived.Test.YtndabolfhhppkaaComC
namespace Go.Proofs.Ytndabolfhhppkaa.Am
open Go Go.RowKit
variable {P : Program} {γ : Gh} {μ ν : Mu} {w : World} {nt : Nat} {D : List Nat} {fr fr' : Fr} {a : Act} {C : CC}

inductive Chain (C : CC) : List SOp → St → St → Prop where
  | nil (s : St) : Chain C [] s s
  | cons {o : SOp} {r : List SOp} {s s1 s2 : St} : StepR C o s s1 → Chain C r s1 s2 → Chain C (o :: r) s s2
theorem Chain.split : ∀ {p q : List SOp} {s s' : St}, Chain C (p ++ q) s s' → ∃ sm, Chain C p s sm ∧ Chain C q sm s'
  | [], q, s, s', h => ⟨s, .nil s, h⟩
  | o :: p, q, s, s', h => by
    cases h with
    | cons h1 h2 => obtain ⟨sm, k1, k2⟩ := Chain.split h2; exact ⟨sm, .cons h1 k1, k2⟩
theorem Chain.append {p q : List SOp} {s sm s' : St} (h : Chain C p s sm) (k : Chain C q sm s') : Chain C (p ++ q) s s' := by
  induction h with
  | nil s => exact k
  | cons h1 _ ih => exact .cons h1 (ih k)
def Agree (fr fr' : Fr) (o : SOp) : Prop := ∀ x ∈ looksS o, fr' x = fr x
theorem Agree.opd {o : SOp} (h : Agree fr fr' o) : ∀ x ∈ opds o.op, opd fr' x = opd fr x := fun x hx => by
  cases x with
  | k x => rfl
  | t s => exact h s (List.mem_append_left _ (List.mem_flatMap.2 ⟨.t s, hx, by simp [looksO]⟩))
theorem Agree.gon {o : SOp} (h : Agree fr fr' o) : Am.gon fr' o.gd = Am.gon fr o.gd := gon_agree fun q hq => h q.1 (List.mem_append_right _ (by rw [hq]; simp))
def lv (t : Nat) (d : Option Nat) (vs : List Vl) : FV :=
  match d, vs with
  | some k, [.c (.fresh _ _ _)] => .v (.c (.own (t, k)))
  | _, vs => fvOf vs
def ldl (t : Nat) (d : Option Nat) (fz : List Id) (vs : List Vl) : Dl :=
  match d, vs with
  | some k, [.c (.fresh e z xs)] => .row fz (t, k) ⟨e, z, xs⟩ true []
  | _, _ => .uns fz
theorem landed_form (s : St) (d : Option Nat) (fz : List Id) (vs : List Vl) : landed s d fz vs = ⟨put s.fr d (lv s.mu.t d vs), (ldl s.mu.t d fz vs).ap s.mu⟩ := by
  unfold landed lv ldl
  split
  · rfl
  · rename_i h
    split
    · exact absurd rfl (h _ _ _ _ rfl)
    · rfl
theorem ldl_ids {t : Nat} {d : Option Nat} {fz : List Id} {vs : List Vl} : ∀ i ∈ (ldl t d fz vs).ids, ∃ k, d = some k ∧ i = (t, k) := by
  unfold ldl
  split
  · intro i hi; simp [Dl.ids] at hi; exact ⟨_, rfl, hi⟩
  · intro i hi; simp [Dl.ids] at hi
theorem ldl_refs {t : Nat} {d : Option Nat} {fz : List Id} {vs : List Vl} : (ldl t d fz vs).refs = fz := by
  unfold ldl
  split <;> simp [Dl.refs]
theorem ldl_olds {t : Nat} {d : Option Nat} {fz : List Id} {vs : List Vl} : (ldl t d fz vs).olds = [] := by
  unfold ldl
  split <;> rfl
theorem args_agree {us : List (Opd × List Sh)} (h : ∀ u ∈ us, opd fr' u.1 = opd fr u.1) : trav (fun a => frzA μ a.2 (opd fr' a.1)) us = trav (fun a => frzA μ a.2 (opd fr a.1)) us ∧ us.flatMap (fun a => fidsA μ (opd fr' a.1)) = us.flatMap (fun a => fidsA μ (opd fr a.1)) :=
  ⟨trav_congr fun u hu => by rw [h u hu], flatMap_congr' fun u hu => by rw [h u hu]⟩
theorem icallee_agree {f : Opd} (h : opd fr f = opd fr' f) : icallee ⟨fr, μ⟩ f = icallee ⟨fr', μ⟩ f := by simp only [icallee, h]
/-- A step's form, and that it sees only what it looks at. -/
theorem step_form {o : SOp} {s s1 : St} (h : StepR C o s s1) : ∃ v μ1, s1 = ⟨put s.fr o.dst v, μ1⟩ ∧ (∀ fr', Agree s.fr fr' o → StepR C o ⟨fr', s.mu⟩ ⟨put fr' o.dst v, μ1⟩) ∧
    (kindOf o.op = 0 → μ1 = s.mu ∧ ∀ fr' ν, Agree s.fr fr' o → StepR C o ⟨fr', ν⟩ ⟨put fr' o.dst v, ν⟩) := by
  cases h with
  | off hg => exact ⟨_, _, rfl, fun fr' ha => .off (by rw [ha.gon]; exact hg), fun _ => ⟨rfl, fun fr' ν ha => .off (by rw [ha.gon]; exact hg)⟩⟩
  | @op v μ' hg hop =>
    refine ⟨v, μ', rfl, fun fr' ha => .op (by rw [ha.gon]; exact hg) ?_, fun hk => ?_⟩
    · rw [aop_agree (fr := fr') (fr' := s.fr) fun x hx => ha.opd x hx]; exact hop
    · obtain ⟨h1, h2⟩ := aop_zero hk hop
      refine ⟨h1, fun fr' ν ha => .op (by rw [ha.gon]; exact hg) ?_⟩
      rw [aop_agree (fr := fr') (fr' := s.fr) fun x hx => ha.opd x hx]; exact h2 ν _
  | @call f us g caps args vs hg ho hc ha hC =>
    refine ⟨lv s.mu.t o.dst vs, (ldl s.mu.t o.dst (fzIds s f us) vs).ap s.mu, landed_form _ _ _ _, fun fr' hag => ?_, fun hk => by rw [ho] at hk; simp [kindOf] at hk⟩
    have hf : opd fr' f = opd s.fr f := hag.opd f (by rw [ho]; simp [opds])
    obtain ⟨a1, a2⟩ := args_agree (μ := s.mu) (us := us) (fr := s.fr) (fr' := fr') fun u hu => hag.opd u.1 (by rw [ho]; exact List.mem_cons_of_mem _ (List.mem_map.2 ⟨u, hu, rfl⟩))
    have hfz : fzIds ⟨fr', s.mu⟩ f us = fzIds s f us := by simp only [fzIds, hf, a2]
    have := StepR.call (C := C) (o := o) (s := ⟨fr', s.mu⟩) (by rw [hag.gon]; exact hg) ho (by rw [callee_agree hf]; exact hc) (by rw [a1]; exact ha) hC
    rw [hfz, landed_form] at this
    exact this
  | @icall f us g caps vs μ' hg ho hc hC =>
    refine ⟨fvOf vs, μ', rfl, fun fr' hag => ?_, fun hk => by rw [ho] at hk; simp [kindOf] at hk⟩
    have hf : opd fr' f = opd s.fr f := hag.opd f (by rw [ho]; simp [opds])
    have hu : us.map (opd fr') = us.map (opd s.fr) := List.map_congr_left fun u hu => hag.opd u (by rw [ho]; exact List.mem_cons_of_mem _ hu)
    exact StepR.icall (C := C) (o := o) (s := ⟨fr', s.mu⟩) (by rw [hag.gon]; exact hg) ho (by rw [icallee_agree hf]; exact hc) (by rw [hu]; exact hC)
/-- A step that stores nothing, told by what it adds; and it can be taken in a memory with more. -/
theorem step_told {o : SOp} {s s1 : St} (hk : kindOf o.op ≤ 2) (hd : (o.dst.isSome || kindOf o.op == 3 || o.op.isCall) = true) (h : StepR C o s s1) :
    ∃ v, ∃ p : Dl, s1 = ⟨put s.fr o.dst v, p.ap s.mu⟩ ∧ (∀ i ∈ p.ids, ∃ d, o.dst = some d ∧ i = (s.mu.t, d)) ∧ (∀ i ∈ p.refs, (s.mu.arr i).isSome = true) ∧ (kindOf o.op ≠ 2 → p.olds = []) ∧
      ∀ s2 : St, Agree s.fr s2.fr o → Sub s.mu s2.mu → (kindOf o.op = 2 → ∀ i, (s.mu.arr i).isSome = true → s2.mu.app i = s.mu.app i) → StepR C o s2 ⟨put s2.fr o.dst v, p.ap s2.mu⟩ := by
  cases h with
  | off hg => exact ⟨.skip, .no, rfl, by simp [Dl.ids], by simp [Dl.refs], fun _ => rfl, fun s2 ha _ _ => .off (by rw [ha.gon]; exact hg)⟩
  | @op v μ' hg hop =>
    by_cases h0 : kindOf o.op = 0
    · obtain ⟨h1, h2⟩ := aop_zero h0 hop
      refine ⟨v, .no, by rw [h1]; rfl, by simp [Dl.ids], by simp [Dl.refs], fun _ => rfl, fun s2 ha _ _ => .op (by rw [ha.gon]; exact hg) ?_⟩
      rw [aop_agree (fr := s2.fr) (fr' := s.fr) fun x hx => ha.opd x hx]; exact h2 _ _
    · have hc : o.op.isCall = false := by
        cases hop' : o.op <;> rw [hop'] at hop <;> first | rfl | (simp [aop] at hop)
      have hds : ∃ d, o.dst = some d := by
        cases hd' : o.dst with
        | some d => exact ⟨d, rfl⟩
        | none => rw [hd', hc] at hd; simp at hd; omega
      obtain ⟨d, hd'⟩ := hds
      obtain ⟨p, h1, h2, h3, h4, h5⟩ := aop_fwd (by omega) hc hop
      refine ⟨v, p, by rw [h1], fun i hi => ⟨d, hd', ?_⟩, h3, fun h => h4 (by omega), fun s2 ha hs hap => .op (by rw [ha.gon]; exact hg) ?_⟩
      · rw [h2 i hi, idOf, hd']; rfl
      · have hid : idOf s2 o.dst = idOf s o.dst := by simp only [idOf, hs.t]
        rw [aop_agree (fr := s2.fr) (fr' := s.fr) fun x hx => ha.opd x hx, hid]
        exact h5 s2.mu hs hap
  | @call f us g caps args vs hg ho hc ha hC =>
    have hcal : ∃ x cs, opd s.fr f = .v (.c x) ∧ frz s.mu depth x = some (.clo g cs) ∧ caps = cs.map fun c => .cptr c 0 := by
      unfold callee at hc
      split at hc
      · rename_i x hx
        split at hc
        · rename_i g' cs hfz
          injection hc with hc; injection hc with e1 e2; subst e1
          exact ⟨x, cs, hx, hfz, e2.symm⟩
        · cases hc
      · cases hc
    obtain ⟨x, cs, hx, hfz, hcaps⟩ := hcal
    have hus : ∀ u ∈ us, ∃ y, frzA s.mu u.2 (opd s.fr u.1) = some y := fun u hu => trav_some ha u hu
    refine ⟨lv s.mu.t o.dst vs, ldl s.mu.t o.dst (fzIds s f us) vs, landed_form _ _ _ _, ldl_ids, fun i hi => ?_, fun _ => ldl_olds, fun s2 hag hs _ => ?_⟩
    · rw [ldl_refs] at hi
      simp only [fzIds, List.mem_append, List.mem_flatMap] at hi
      rcases hi with hi | ⟨u, hu, hi⟩
      · rw [hx] at hi; exact (frz_fwd (Sub.refl s.mu) hfz).2.2 i hi
      · obtain ⟨y, hy⟩ := hus u hu
        exact (frzA_fwd (Sub.refl s.mu) hy).2.2 i hi
    · have hf : opd s2.fr f = opd s.fr f := hag.opd f (by rw [ho]; simp [opds])
      have hu' : ∀ u ∈ us, opd s2.fr u.1 = opd s.fr u.1 := fun u hu => hag.opd u.1 (by rw [ho]; exact List.mem_cons_of_mem _ (List.mem_map.2 ⟨u, hu, rfl⟩))
      have h1 : callee s2 f = some (g, caps) := by
        unfold callee
        rw [hf, hx]
        simp only [(frz_fwd hs hfz).1]
        rw [hcaps]
      have h2 : trav (fun a => frzA s2.mu a.2 (opd s2.fr a.1)) us = some args := trav_fwd (fun u hu y hy => by rw [hu' u hu]; exact (frzA_fwd hs hy).1) ha
      have h3 : fzIds s2 f us = fzIds s f us := by
        simp only [fzIds, hf, hx]
        congr 1
        · exact (frz_fwd hs hfz).2.1
        · refine flatMap_congr' fun u hu => ?_
          obtain ⟨y, hy⟩ := hus u hu
          rw [hu' u hu]; exact (frzA_fwd hs hy).2.1
      have := StepR.call (C := C) (o := o) (s := s2) (by rw [hag.gon]; exact hg) ho h1 h2 hC
      rw [h3, landed_form, hs.t] at this
      exact this
  | icall _ ho _ _ => rw [ho] at hk; simp [kindOf] at hk
/-- What could be taken behind others can be taken at once. -/
theorem step_back {o : SOp} {s sm sm' : St} (hk : kindOf o.op ≤ 2) (hd : (o.dst.isSome || kindOf o.op == 3 || o.op.isCall) = true) (h : StepR C o sm sm') (hag : Agree sm.fr s.fr o) (hs : Sub s.mu sm.mu) (hap : kindOf o.op = 2 → ∀ i, (s.mu.arr i).isSome = true → sm.mu.app i = s.mu.app i)
    (hb : ExB s.mu) (hx : ∀ x ∈ opds o.op, ExV s.mu (opd s.fr x)) :
    ∃ v, ∃ p : Dl, StepR C o s ⟨put s.fr o.dst v, p.ap s.mu⟩ ∧ sm' = ⟨put sm.fr o.dst v, p.ap sm.mu⟩ ∧ (∀ i ∈ p.ids, ∃ d, o.dst = some d ∧ i = (s.mu.t, d)) ∧ (∀ i ∈ p.refs, (s.mu.arr i).isSome = true) ∧ (kindOf o.op ≠ 2 → p.olds = []) := by
  cases h with
  | off hg => exact ⟨.skip, .no, .off (by rw [hag.gon]; exact hg), rfl, by simp [Dl.ids], by simp [Dl.refs], fun _ => rfl⟩
  | @op v μ' hg hop =>
    by_cases h0 : kindOf o.op = 0
    · obtain ⟨h1, h2⟩ := aop_zero h0 hop
      refine ⟨v, .no, .op (by rw [hag.gon]; exact hg) ?_, by rw [h1]; rfl, by simp [Dl.ids], by simp [Dl.refs], fun _ => rfl⟩
      rw [aop_agree (fr := s.fr) (fr' := sm.fr) fun x hx => hag.opd x hx]; exact h2 _ _
    · have hc : o.op.isCall = false := by
        cases hop' : o.op <;> rw [hop'] at hop <;> first | rfl | (simp [aop] at hop)
      have hds : ∃ d, o.dst = some d := by
        cases hd' : o.dst with
        | some d => exact ⟨d, rfl⟩
        | none => rw [hd', hc] at hd; simp at hd; omega
      obtain ⟨d, hd'⟩ := hds
      have hid : idOf sm o.dst = idOf s o.dst := by simp only [idOf, hs.t]
      rw [hid, ← aop_agree (fr := s.fr) (fr' := sm.fr) fun x hx => hag.opd x hx] at hop
      have hk2 : kindOf o.op = 1 ∨ kindOf o.op = 2 := by omega
      obtain ⟨⟨v2, μ2⟩, hq⟩ : ∃ q, aop o.op (idOf s o.dst) s.fr s.mu = some q := by
        by_cases h2 : kindOf o.op = 2
        · exact aop_bwd hs (fun i hi h => by rw [← hap h2 i hi]; exact h) hk2 hx hop
        · have h1 : kindOf o.op = 1 := by omega
          obtain ⟨p, _, _, _, _, k⟩ := aop_fwd hk2 hc hop
          have k' := k ⟨sm.mu.box, sm.mu.arr, fun i => s.mu.app i && sm.mu.app i, sm.mu.sto, sm.mu.t, sm.mu.mp⟩ ⟨rfl, fun _ _ h => h, fun _ _ h => h⟩ fun h => absurd h h2
          exact aop_bwd (μ := s.mu) (ν := ⟨sm.mu.box, sm.mu.arr, fun i => s.mu.app i && sm.mu.app i, sm.mu.sto, sm.mu.t, sm.mu.mp⟩) ⟨hs.t, hs.box, hs.arr⟩ (fun i _ h => by simp only [Bool.and_eq_true] at h; exact h.1) hk2 hx k'
      obtain ⟨p, h1, h2, h3, h4, h5⟩ := aop_fwd hk2 hc hq
      have h6 := h5 sm.mu hs hap
      rw [h6] at hop
      injection hop with hop; injection hop with e1 e2; subst e1; subst e2
      subst h1
      exact ⟨v2, p, .op (by rw [hag.gon]; exact hg) hq, rfl, fun i hi => ⟨d, hd', by rw [h2 i hi, idOf, hd']; rfl⟩, h3, fun h => h4 (by omega)⟩
  | @call f us g caps args vs hg ho hc ha hC =>
    have hf : opd s.fr f = opd sm.fr f := hag.opd f (by rw [ho]; simp [opds])
    have hu' : ∀ u ∈ us, opd s.fr u.1 = opd sm.fr u.1 := fun u hu => hag.opd u.1 (by rw [ho]; exact List.mem_cons_of_mem _ (List.mem_map.2 ⟨u, hu, rfl⟩))
    have hxf : ExV s.mu (opd s.fr f) := hx f (by rw [ho]; simp [opds])
    have hxu : ∀ u ∈ us, ExV s.mu (opd s.fr u.1) := fun u hu => hx u.1 (by rw [ho]; exact List.mem_cons_of_mem _ (List.mem_map.2 ⟨u, hu, rfl⟩))
    have hcal : ∃ x cs, opd s.fr f = .v (.c x) ∧ frz s.mu depth x = some (.clo g cs) ∧ caps = cs.map fun c => .cptr c 0 := by
      unfold callee at hc
      rw [← hf] at hc
      split at hc
      · rename_i x hx
        split at hc
        · rename_i g' cs hfz
          injection hc with hc; injection hc with e1 e2; subst e1
          rw [hx] at hxf
          rw [frz_bwd hs hb hxf] at hfz
          exact ⟨x, cs, hx, hfz, e2.symm⟩
        · cases hc
      · cases hc
    obtain ⟨x, cs, hx', hfz, hcaps⟩ := hcal
    have hargs : trav (fun a => frzA s.mu a.2 (opd s.fr a.1)) us = some args := trav_fwd (fun u hu y hy => by
      rw [← hu' u hu, frzA_bwd hs hb (hxu u hu)] at hy; exact hy) ha
    have hus : ∀ u ∈ us, ∃ y, frzA s.mu u.2 (opd s.fr u.1) = some y := fun u hu => trav_some hargs u hu
    have h1 : callee s f = some (g, caps) := by
      unfold callee
      rw [hx']
      simp only [hfz]
      rw [hcaps]
    have h3 : fzIds sm f us = fzIds s f us := by
      simp only [fzIds, ← hf, hx']
      congr 1
      · exact (frz_fwd hs hfz).2.1
      · refine flatMap_congr' fun u hu => ?_
        obtain ⟨y, hy⟩ := hus u hu
        rw [← hu' u hu]; exact (frzA_fwd hs hy).2.1
    refine ⟨lv s.mu.t o.dst vs, ldl s.mu.t o.dst (fzIds s f us) vs, ?_, ?_, ldl_ids, fun i hi => ?_, fun _ => ldl_olds⟩
    · have := StepR.call (C := C) (o := o) (s := s) (by rw [hag.gon]; exact hg) ho h1 hargs hC
      rw [landed_form] at this
      exact this
    · rw [h3, landed_form, hs.t]
    · rw [ldl_refs] at hi
      simp only [fzIds, List.mem_append, List.mem_flatMap] at hi
      rcases hi with hi | ⟨u, hu, hi⟩
      · rw [hx'] at hi; exact (frz_fwd (Sub.refl s.mu) hfz).2.2 i hi
      · obtain ⟨y, hy⟩ := hus u hu
        exact (frzA_fwd (Sub.refl s.mu) hy).2.2 i hi
  | icall _ ho _ _ => rw [ho] at hk; simp [kindOf] at hk
theorem mono_apart {p q : SOp} (h : apartS p q = true) : (∀ d, p.dst = some d → d ∉ looksS q) ∧ (∀ d, p.dst = some d → q.dst ≠ some d) ∧ (∀ d, q.dst = some d → d ∉ looksS p) ∧ apartK p.op q.op = true := by
  unfold apartS at h
  simp only [Bool.and_eq_true] at h
  obtain ⟨⟨h1, h2⟩, h3⟩ := h
  refine ⟨fun d hd => ?_, fun d hd => ?_, fun d hd => ?_, h3⟩
  · rw [hd] at h1; simp at h1; exact h1.1
  · rw [hd] at h1; simp at h1; exact h1.2
  · rw [hd] at h2; simpa using h2
theorem put_comm (fr : Fr) {d e : Option Nat} (h : ∀ k, d = some k → e ≠ some k) (v u : FV) : put (put fr d v) e u = put (put fr e u) d v := by
  cases d with
  | none => rfl
  | some d =>
    cases e with
    | none => rfl
    | some e =>
      have hne : d ≠ e := fun h' => h d rfl (by rw [h'])
      funext s
      simp only [put]
      by_cases h1 : s = e
      · subst h1; rw [if_pos rfl, if_neg (Ne.symm hne), if_pos rfl]
      · rw [if_neg h1, if_neg h1]
theorem agree_put {fr : Fr} {d : Option Nat} {v : FV} {o : SOp} (h : ∀ k, d = some k → k ∉ looksS o) : Agree fr (put fr d v) o := fun x hx => by
  cases d with
  | none => rfl
  | some d => simp only [put]; rw [if_neg fun e => h d rfl (by rw [← e]; exact hx)]
theorem Agree.symm {o : SOp} (h : Agree fr fr' o) : Agree fr' fr o := fun x hx => (h x hx).symm
theorem Agree.trans {fr'' : Fr} {o : SOp} (h : Agree fr fr' o) (k : Agree fr' fr'' o) : Agree fr fr'' o := fun x hx => (k x hx).trans (h x hx)
/-- Behind steps that store nothing: the memory has what it had, and what these look at is as it was. -/
theorem chain_sub : ∀ {pre : List SOp} {s sm : St} {D : List Nat}, Chain C pre s sm → (∀ p ∈ pre, kindOf p.op ≤ 2 ∧ (p.dst.isSome || kindOf p.op == 3 || p.op.isCall) = true) → Tm s.mu D → (∀ p ∈ pre, ∀ d, p.dst = some d → d ∉ D) → pre.Pairwise (fun p q => ∀ d, p.dst = some d → q.dst ≠ some d) →
    Sub s.mu sm.mu ∧ ((∀ p ∈ pre, kindOf p.op ≠ 2) → ∀ i, (s.mu.arr i).isSome = true → sm.mu.app i = s.mu.app i)
  | [], s, sm, D, h, _, _, _, _ => by cases h; exact ⟨.refl _, fun _ _ _ => rfl⟩
  | p :: pre, s, sm, D, h, hk, tm, hd, hpw => by
    cases h with
    | @cons _ _ _ s1 _ h1 h2 =>
    obtain ⟨k1, k2⟩ := hk p (by simp)
    obtain ⟨v, q, e, g1, g2, g3, _⟩ := step_told k1 k2 h1
    have hfr : ∀ i ∈ q.ids, s.mu.box i = none ∧ s.mu.arr i = none := fun i hi => by
      obtain ⟨d, hd', rfl⟩ := g1 i hi
      exact tm.fresh (hd p (by simp) d hd')
    have hs1 : Sub s.mu s1.mu := by rw [e]; exact Dl.sub hfr
    have tm1 : Tm s1.mu (p.dst.toList ++ D) := fun i hi => by
      rw [hs1.t]
      rw [e] at hi
      rcases Dl.isSome hi with hi | hi
      · exact (tm i hi).imp id fun ⟨a, b⟩ => ⟨a, List.mem_append_right _ b⟩
      · obtain ⟨d, hd', rfl⟩ := g1 i hi
        exact .inr ⟨rfl, by rw [hd']; simp⟩
    have hpw' := List.pairwise_cons.1 hpw
    obtain ⟨i1, i2⟩ := chain_sub h2 (fun p' hp' => hk p' (List.mem_cons_of_mem _ hp')) tm1 (fun p' hp' d hd' hm => by
      rcases List.mem_append.1 hm with hm | hm
      · have : p.dst = some d := by simpa using hm
        exact hpw'.1 p' hp' d this hd'
      · exact hd p' (List.mem_cons_of_mem _ hp') d hd' hm) hpw'.2
    refine ⟨hs1.trans i1, fun h2' i hi => ?_⟩
    rw [i2 (fun p' hp' => h2' p' (List.mem_cons_of_mem _ hp')) i (by rw [arr_bwd hs1 hi]; exact hi), e]
    refine Dl.app_eq (fun hm => ?_) (g3 (h2' p (by simp)))
    rw [(hfr i hm).2] at hi; cases hi
theorem chain_agree {so : SOp} : ∀ {pre : List SOp} {s sm : St}, Chain C pre s sm → (∀ p ∈ pre, ∀ d, p.dst = some d → d ∉ looksS so) → Agree sm.fr s.fr so
  | [], s, sm, h, _ => by cases h; exact fun _ _ => rfl
  | p :: pre, s, sm, h, hk => by
    cases h with
    | cons h1 h2 =>
      obtain ⟨v, μ1, e, _⟩ := step_form h1
      have := chain_agree h2 fun p' hp' => hk p' (List.mem_cons_of_mem _ hp')
      rw [e] at this
      exact this.trans (agree_put (hk p (by simp))).symm
theorem chain_mu0 : ∀ {pre : List SOp} {s sm : St}, Chain C pre s sm → (∀ p ∈ pre, kindOf p.op = 0) → sm.mu = s.mu
  | [], s, sm, h, _ => by cases h; rfl
  | p :: pre, s, sm, h, hk => by
    cases h with
    | cons h1 h2 =>
      obtain ⟨v, μ1, e, _, h0⟩ := step_form h1
      rw [chain_mu0 h2 fun p' hp' => hk p' (List.mem_cons_of_mem _ hp'), e]
      exact (h0 (hk p (by simp))).1
/-- Steps taken behind one more: its target holds 'v', the memory is 'E' of what it was. -/
theorem chain_move {d : Option Nat} {v : FV} {E : Mu → Mu} {Inv : St → Prop} : ∀ {pre : List SOp} {s sm : St}, Inv s →
    (∀ p ∈ pre, ∀ t t1, Inv t → StepR C p t t1 → Inv t1 ∧ StepR C p ⟨put t.fr d v, E t.mu⟩ ⟨put t1.fr d v, E t1.mu⟩) → Chain C pre s sm → Chain C pre ⟨put s.fr d v, E s.mu⟩ ⟨put sm.fr d v, E sm.mu⟩
  | [], s, sm, _, _, h => by cases h; exact .nil _
  | p :: pre, s, sm, hi, hs, h => by
    cases h with
    | cons h1 h2 =>
      obtain ⟨i1, k1⟩ := hs p (by simp) _ _ hi h1
      exact .cons k1 (chain_move i1 (fun p' hp' => hs p' (List.mem_cons_of_mem _ hp')) h2)
def ldq : AOp → Option Nat
  | .ldo q _ _ _ => q
  | _ => none
theorem ldo_step {p : SOp} {t t1 : St} (hp : isLdo p.op = true) (h : StepR C p t t1) : ∃ v, t1 = ⟨put t.fr p.dst v, t.mu⟩ ∧
    ∀ fr' ν, Agree t.fr fr' p → ν.t = t.mu.t → (∀ i : Id, hitQ (ldq p.op) t.mu.t i = false → ν.box i = t.mu.box i) → StepR C p ⟨fr', ν⟩ ⟨put fr' p.dst v, ν⟩ := by
  cases h with
  | off hg => exact ⟨_, rfl, fun fr' ν ha _ _ => .off (by rw [ha.gon]; exact hg)⟩
  | @op v μ' hg hop =>
    have hq : ∃ lq ag z x, p.op = .ldo lq ag z x := by cases hh : p.op <;> rw [hh] at hp <;> simp [isLdo] at hp; exact ⟨_, _, _, _, rfl⟩
    obtain ⟨lq, ag, z, x, hpo⟩ := hq
    rw [hpo] at hop
    have hop' := hop
    simp only [aop] at hop
    split at hop
    case h_2 => cases hop
    rename_i i off hx
    split at hop
    · cases hop
    · rename_i hi
      cases hb : t.mu.box i with
      | none => rw [hb] at hop; simp at hop
      | some cs =>
        rw [hb] at hop; obtain ⟨u, hu, e⟩ := some_pair hop; cases e
        refine ⟨_, rfl, fun fr' ν ha ht hbox => .op (by rw [ha.gon]; exact hg) ?_⟩
        have hx' : opd fr' x = .ptr i off := by rw [ha.opd x (by rw [hpo]; simp [opds])]; exact hx
        rw [hpo]
        simp only [aop, hx']
        rw [if_neg (by rw [ht]; exact hi), hbox i (by rw [hpo]; simpa [ldq] using hi), hb]
        simp [hu]
  | call _ ho _ _ _ => rw [ho] at hp; simp [isLdo] at hp
  | icall _ ho _ _ => rw [ho] at hp; simp [isLdo] at hp
theorem stn_step {p : SOp} {t t1 : St} (hp : isStn p.op = true) (h : StepR C p t t1) : ∃ v μ1, t1 = ⟨put t.fr p.dst v, μ1⟩ ∧ μ1.t = t.mu.t ∧ ∀ (l : AOp), ldSt l p.op = true → ∀ i : Id, hitQ (ldq l) t.mu.t i = false → μ1.box i = t.mu.box i := by
  cases h with
  | off hg => exact ⟨_, _, rfl, rfl, fun _ _ _ _ => rfl⟩
  | @op v μ' hg hop =>
    have hq : ∃ so d z x, p.op = .stn so d z x := by cases hh : p.op <;> rw [hh] at hp <;> simp [isStn] at hp; exact ⟨_, _, _, _, rfl⟩
    obtain ⟨so, d, z, x, hpo⟩ := hq
    rw [hpo] at hop
    simp only [aop] at hop
    split at hop
    case h_2 => cases hop
    rename_i i off hx
    split at hop
    case isFalse => cases hop
    rename_i hi
    cases hcs : cells (opd t.fr x) with
    | none => rw [hcs] at hop; simp at hop
    | some ds =>
      rw [hcs] at hop
      simp only [Option.bind_some] at hop
      split at hop
      case isFalse => cases hop
      cases hb : t.mu.box i with
      | none => rw [hb] at hop; simp at hop
      | some cs =>
        rw [hb] at hop
        simp only [Option.bind_some] at hop
        obtain ⟨cs', hs, e⟩ := some_pair hop
        cases e
        refine ⟨_, _, rfl, rfl, fun l hl j hj => upd_ne _ _ fun e => ?_⟩
        subst e
        rw [hpo] at hl
        cases l <;> simp only [ldSt, Bool.false_eq_true] at hl
        rename_i lq _ _ _
        cases so with
        | true =>
          simp only [if_true, beq_iff_eq] at hl
          subst hl
          simp only [hitN, hitQ, ldq, if_true] at hi hj
          rw [hi] at hj; cases hj
        | false =>
          simp only [Bool.false_eq_true, if_false, beq_iff_eq] at hl
          subst hl
          simp only [hitN, hitQ, ldq, Bool.false_eq_true, if_false, beq_iff_eq] at hi hj
          rw [hi] at hj; simp at hj
  | call _ ho _ _ _ => rw [ho] at hp; simp [isStn] at hp
  | icall _ ho _ _ => rw [ho] at hp; simp [isStn] at hp
theorem chain_mu1 : ∀ {pre : List SOp} {s sm : St}, Chain C pre s sm → (∀ p ∈ pre, kindOf p.op = 0 ∨ isLdo p.op = true) → sm.mu = s.mu
  | [], s, sm, h, _ => by cases h; rfl
  | p :: pre, s, sm, h, hk => by
    cases h with
    | cons h1 h2 =>
      rw [chain_mu1 h2 fun p' hp' => hk p' (List.mem_cons_of_mem _ hp')]
      rcases hk p (by simp) with hp | hp
      · obtain ⟨v, μ1, e, _, h0⟩ := step_form h1
        rw [e]; exact (h0 hp).1
      · obtain ⟨v, e, _⟩ := ldo_step hp h1
        rw [e]
/-- A step that is apart from all ahead of it may be taken first. -/
theorem chain_front {so : SOp} {pre post : List SOp} {s s' : St} {D : List Nat} (h : Chain C (pre ++ so :: post) s s') (hap : ∀ p ∈ pre, apartS p so = true)
    (hds : ∀ p ∈ so :: pre, (p.dst.isSome || kindOf p.op == 3 || p.op.isCall) = true) (hpw : pre.Pairwise (fun p q => ∀ d, p.dst = some d → q.dst ≠ some d)) (tm : Tm s.mu D) (hD : ∀ p ∈ so :: pre, ∀ d, p.dst = some d → d ∉ D)
    (hb : ExB s.mu) (hx : ∀ x, ExV s.mu (s.fr x)) (hok : ∀ x ∈ opds so.op, okO x = true) : ∃ s1, StepR C so s s1 ∧ Chain C (pre ++ post) s1 s' := by
  obtain ⟨sm, hpre, hrest⟩ := h.split
  cases hrest with
  | @cons _ _ _ sm' _ hso hpost =>
  have hag : Agree sm.fr s.fr so := chain_agree hpre fun p hp d hd => (mono_apart (hap p hp)).1 d hd
  have hdst : ∀ p ∈ pre, ∀ k, so.dst = some k → p.dst ≠ some k := fun p hp k hk h => (mono_apart (hap p hp)).2.1 k h hk
  have hlook : ∀ p ∈ pre, ∀ k, so.dst = some k → k ∉ looksS p := fun p hp k hk => (mono_apart (hap p hp)).2.2.1 k hk
  have hkk0 : ∀ p ∈ pre, (kindOf p.op = 0 ∨ kindOf so.op = 0 ∨ kindOf p.op + kindOf so.op ≤ 3) ∨ ldSt p.op so.op = true := fun p hp => by
    have := (mono_apart (hap p hp)).2.2.2
    simp only [apartK, Bool.or_eq_true, Bool.and_eq_true, beq_iff_eq, decide_eq_true_eq] at this
    rcases this with ((h | h) | h) | h
    · exact .inl (.inl h)
    · exact .inl (.inr (.inl h))
    · exact .inl (.inr (.inr h))
    · exact .inr h
  have hk3 : kindOf so.op ≤ 4 := by cases so.op <;> simp [kindOf]
  -- one that touches the frame alone may stand behind any other
  have zero : ∀ {p : SOp}, p ∈ pre → kindOf p.op = 0 → ∀ (v : FV) (E : Mu → Mu) {t t1 : St}, StepR C p t t1 → StepR C p ⟨put t.fr so.dst v, E t.mu⟩ ⟨put t1.fr so.dst v, E t1.mu⟩ := by
    intro p hp h0 v E t t1 ht
    obtain ⟨u, μ1, e, _, k⟩ := step_form ht
    obtain ⟨k1, k2⟩ := k h0
    subst e
    have := k2 (put t.fr so.dst v) (E t.mu) (agree_put (hlook p hp))
    rw [put_comm _ (hdst p hp)] at this
    rw [k1]; exact this
  have fin : ∀ {v : FV} {E : Mu → Mu} {s1 : St}, s1 = ⟨put s.fr so.dst v, E s.mu⟩ → sm' = ⟨put sm.fr so.dst v, E sm.mu⟩ → StepR C so s s1 → Chain C pre ⟨put s.fr so.dst v, E s.mu⟩ ⟨put sm.fr so.dst v, E sm.mu⟩ → ∃ s1, StepR C so s s1 ∧ Chain C (pre ++ post) s1 s' := by
    intro v E s1 e1 e2 hs hc
    subst e1
    rw [e2] at hpost
    exact ⟨_, hs, hc.append hpost⟩
  by_cases hstn : isStn so.op = true
  · have hp1' : ∀ p ∈ pre, kindOf p.op = 0 ∨ ldSt p.op so.op = true := fun p hp => by
      have k3 : kindOf so.op = 3 := by cases hh : so.op <;> rw [hh] at hstn <;> simp [isStn] at hstn; rfl
      rcases hkk0 p hp with h | h
      · left; omega
      · exact .inr h
    have hp1 : ∀ p ∈ pre, kindOf p.op = 0 ∨ isLdo p.op = true := fun p hp => (hp1' p hp).imp id fun h => by
      cases hh : p.op <;> rw [hh] at h <;> simp [ldSt] at h
      rfl
    have hmu := chain_mu1 hpre hp1
    obtain ⟨v, μ1, e, k, _⟩ := step_form hso
    obtain ⟨v', μ1', e', t1, b1⟩ := stn_step hstn hso
    have hμ : μ1' = μ1 := by rw [e] at e'; injection e' with _ e'; exact e'.symm
    subst hμ
    have hs1 := k s.fr hag
    rw [hmu] at hs1 t1 b1
    refine fin (v := v) (E := fun _ => μ1') rfl e hs1 (chain_move (d := so.dst) (v := v) (E := fun _ => μ1') (Inv := fun t => t.mu = s.mu) rfl (fun p hp t tt hi ht => ?_) hpre)
    rcases hp1' p hp with h0 | hls
    · refine ⟨?_, zero hp h0 v (fun _ => μ1') ht⟩
      obtain ⟨u, ν, e2, _, q⟩ := step_form ht
      rw [e2]; exact (q h0).1.trans hi
    · have h0 : isLdo p.op = true := by
        cases hh : p.op <;> rw [hh] at hls <;> simp [ldSt] at hls
        rfl
      obtain ⟨u, e2, q⟩ := ldo_step h0 ht
      refine ⟨by rw [e2]; exact hi, ?_⟩
      have := q (put t.fr so.dst v) μ1' (agree_put (hlook p hp)) (by rw [hi]; exact t1) (by rw [hi]; exact b1 p.op hls)
      rw [put_comm _ (hdst p hp)] at this
      rw [e2]; exact this
  have hkk : ∀ p ∈ pre, kindOf p.op = 0 ∨ kindOf so.op = 0 ∨ kindOf p.op + kindOf so.op ≤ 3 := fun p hp => by
    rcases hkk0 p hp with h | h
    · exact h
    · exact absurd (by cases hh : so.op <;> rw [hh] at h <;> cases hh2 : p.op <;> rw [hh2] at h <;> simp [ldSt] at h; rfl) hstn
  by_cases h0 : kindOf so.op = 0
  · obtain ⟨v, μ1, e, _, k⟩ := step_form hso
    obtain ⟨k1, k2⟩ := k h0
    refine fin (v := v) (E := fun μ => μ) rfl (by rw [e, k1]) (k2 s.fr s.mu hag) (chain_move (d := so.dst) (v := v) (E := fun μ => μ) (Inv := fun _ => True) trivial (fun p hp t t1 _ ht => ⟨trivial, ?_⟩) hpre)
    obtain ⟨u, μ1', e', k', _⟩ := step_form ht
    subst e'
    have := k' (put t.fr so.dst v) (agree_put (hlook p hp))
    rw [put_comm _ (hdst p hp)] at this
    exact this
  · by_cases h3 : 3 ≤ kindOf so.op
    · have hp0 : ∀ p ∈ pre, kindOf p.op = 0 := fun p hp => by have := hkk p hp; omega
      have hmu := chain_mu0 hpre hp0
      obtain ⟨v, μ1, e, k, _⟩ := step_form hso
      have hs1 := k s.fr hag
      rw [hmu] at hs1
      exact fin (v := v) (E := fun _ => μ1) rfl e hs1 (chain_move (d := so.dst) (v := v) (E := fun _ => μ1) (Inv := fun _ => True) trivial (fun p hp t t1 _ ht => ⟨trivial, zero hp (hp0 p hp) v (fun _ => μ1) ht⟩) hpre)
    · have hk2 : kindOf so.op ≤ 2 := by omega
      have hp2 : ∀ p ∈ pre, kindOf p.op ≤ 2 := fun p hp => by have := hkk p hp; omega
      have hp2' : kindOf so.op = 2 → ∀ p ∈ pre, kindOf p.op ≠ 2 := fun h p hp => by have := hkk p hp; omega
      obtain ⟨hsub, happ⟩ := chain_sub hpre (fun p hp => ⟨hp2 p hp, hds p (List.mem_cons_of_mem _ hp)⟩) tm (fun p hp => hD p (List.mem_cons_of_mem _ hp)) hpw
      obtain ⟨v, q, hs1, e, q1, q2, q3⟩ := step_back hk2 (hds so (by simp)) hso hag hsub (fun h => happ (hp2' h)) hb (fun x hx' => okO_ex (hok x hx') hx)
      refine fin (v := v) (E := q.ap) rfl e hs1 (chain_move (Inv := fun t => t.mu.t = s.mu.t ∧ ∀ i ∈ q.ids, t.mu.box i = none ∧ t.mu.arr i = none) ?_ (fun p hp t t1 hi ht => ?_) hpre)
      · refine ⟨rfl, fun i hi => ?_⟩
        obtain ⟨d, hd, rfl⟩ := q1 i hi
        exact tm.fresh (hD so (by simp) d hd)
      · obtain ⟨u, p', e', p1, p2, p3, p4⟩ := step_told (hp2 p hp) (hds p (List.mem_cons_of_mem _ hp)) ht
        obtain ⟨hi1, hi2⟩ := hi
        have hids : ∀ i ∈ q.ids, i ∉ p'.ids := fun i hi hi' => by
          obtain ⟨d, hd, rfl⟩ := q1 i hi
          obtain ⟨d', hd', e2⟩ := p1 _ hi'
          injection e2 with _ e2
          exact hdst p hp d hd (by rw [hd', e2])
        have hrefs : ∀ i ∈ q.ids, i ∉ p'.refs := fun i hi hi' => by
          have := p2 i hi'
          rw [(hi2 i hi).2] at this; cases this
        have hrefs' : ∀ i ∈ p'.ids, i ∉ q.refs := fun i hi hi' => by
          obtain ⟨d, hd, rfl⟩ := p1 i hi
          have := q2 _ hi'
          rw [hi1, (tm.fresh (hD p (List.mem_cons_of_mem _ hp) d hd)).2] at this; cases this
        constructor
        · rw [e']
          constructor
          · have : (p'.ap t.mu).t = t.mu.t := by cases p' <;> rfl
            rw [this]; exact hi1
          · intro i hi
            have hn := hids i hi
            have hno : ¬ (((p'.ap t.mu).box i).isSome = true ∨ ((p'.ap t.mu).arr i).isSome = true) := fun h => by
              rcases Dl.isSome h with h | h
              · rw [(hi2 i hi).1, (hi2 i hi).2] at h; simp at h
              · exact hn h
            constructor
            · cases hbx : (p'.ap t.mu).box i with
              | none => rfl
              | some _ => exact absurd (.inl (by rw [hbx]; rfl)) hno
            · cases hbx : (p'.ap t.mu).arr i with
              | none => rfl
              | some _ => exact absurd (.inr (by rw [hbx]; rfl)) hno
        · have hstep := p4 ⟨put t.fr so.dst v, q.ap t.mu⟩ (agree_put (hlook p hp)) (Dl.sub hi2) (fun h2 i hi => Dl.app_eq (fun hm => by rw [(hi2 i hm).2] at hi; cases hi) (q3 fun h => hp2' h p hp h2))
          rw [e']
          simp only at hstep ⊢
          rw [put_comm _ (hdst p hp), Dl.comm p' q t.mu (fun i hi => ⟨fun h => hids i h hi, hrefs' i hi⟩) hrefs] at hstep
          exact hstep
end Go.Proofs.Ytndabolfhhppkaa.Am
