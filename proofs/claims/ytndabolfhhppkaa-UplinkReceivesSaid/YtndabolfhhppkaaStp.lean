/- One step of a region in the given model. No condition. -/
import Derived.Test.YtndabolfhhppkaaCal
namespace Go.Proofs.Ytndabolfhhppkaa.Am
open Go Go.RowKit
variable {P : Program} {γ : Gh} {μ : Mu} {w : World} {nt : Nat} {D : List Nat} {fr : Fr} {a : Act}

theorem AFR.ext {γ' : Gh} {μ' : Mu} {w' : World} (h : AFR γ μ w nt fr a) (e : Ext γ μ w γ' μ' w') : AFR γ' μ' w' nt fr a := ⟨h.sz, fun s => (h.at_ s).ext e⟩
theorem AFR.put (h : AFR γ μ w nt fr a) {d : Option Nat} {x : FV} {v : Value} (hd : d.all (· < nt) = true) (hv : FR γ μ w x v) : AFR γ μ w nt (Am.put fr d x) (a.put d v) := by
  cases d with
  | none => exact h
  | some d =>
    have hlt : d < nt := by simpa using hd
    refine ⟨by simpa [Act.put] using h.sz, fun s => ?_⟩
    simp only [Am.put, Act.put]
    by_cases hs : s = d
    · subst hs
      rw [if_pos rfl, Array.getD_eq_getD_getElem?, Array.getElem?_setIfInBounds_self_of_lt (Nat.lt_of_lt_of_le hlt h.sz)]
      exact hv
    · rw [if_neg hs, Array.getD_eq_getD_getElem?, Array.getElem?_setIfInBounds_ne (Ne.symm hs), ← Array.getD_eq_getD_getElem?]
      exact h.at_ s
theorem not_bool (m : MR γ μ w) {x : FV} {b : Bool} (h : FR γ μ w x (.bool b)) : x = vB b := by
  cases x with
  | v x =>
    cases x with
    | c x =>
      generalize hv : Value.bool b = v at h
      cases h with
      | z h =>
        cases h with
        | dat h =>
          cases h with
          | val h => subst hv; rfl
          | ro _ _ _ _ _ _ _ => cases hv
        | nil => cases hv
        | clo _ _ _ _ => cases hv
      | own h => obtain ⟨A, n, c, e⟩ := m.nuSlice h; rw [e] at hv; cases hv
      | fn _ => cases hv
      | any => cases hv
      | anym => cases hv
      | mref _ => cases hv
    | agg cs => obtain ⟨vs, e, _⟩ := h; cases e
  | tup xs => obtain ⟨vs, e, _⟩ := h; cases e
  | ptr i off => obtain ⟨_, e⟩ := h; cases e
  | cptr cs off => obtain ⟨_, _, _, e, _⟩ := h; cases e
  | optr i k off => obtain ⟨_, _, e, _⟩ := h; cases e
  | otl i lo => obtain ⟨e, _⟩ := h; exact absurd rfl (e _)
  | skip => cases h
theorem gon_sim {ops : Array Oper} {o : Oper} {gd : Option (Nat × Bool)} (hf : AFR γ μ w nt fr a) (m : MR γ μ w) (hg : guardOf ops o.guard = some gd) (hlt : (gd.all fun q => decide (q.1 < nt)) = true) : Region.wanted o (yielded ops a.tmps) = gon fr gd := by
  unfold Region.wanted
  cases hgd : o.guard with
  | none => rw [hgd] at hg; simp only [guardOf, Option.some.injEq] at hg; subst hg; rfl
  | some q =>
    obtain ⟨j, b⟩ := q
    rw [hgd] at hg
    simp only [guardOf] at hg
    obtain ⟨d, hd, e⟩ := some_pair hg
    subst e
    have hdl : d < a.tmps.size := Nat.lt_of_lt_of_le (by simpa using hlt) hf.sz
    have hv := hf.at_ d
    have hget : a.tmps[d]? = some (a.tmps.getD d undef) := by rw [Array.getD_eq_getD_getElem?, Array.getElem?_eq_getElem hdl]; rfl
    have hy : ∀ v, a.tmps[d]? = some v → FR γ μ w (fr d) v → (yielded ops a.tmps j == some b) = gon fr (some (d, b)) := fun v hg hv => by
      have hbind : ((ops[j]?).bind (·.dst)).bind (a.tmps[·]?) = some v := by rw [hd]; exact hg
      have hno : (∀ c, v ≠ .bool c) → (yielded ops a.tmps j == some b) = false ∧ gon fr (some (d, b)) = false := fun hb => by
        constructor
        · unfold yielded
          rw [hbind]
          cases v <;> first | rfl | exact absurd rfl (hb _)
        · have h3 : ∀ c, fr d ≠ .v (.c (.val (.bool c))) := fun c h => by rw [h] at hv; exact hb c (inv_val hv).1
          simp only [gon]
      by_cases hb : ∃ c, v = .bool c
      · obtain ⟨c, rfl⟩ := hb
        have h1 := not_bool m hv
        simp only [yielded, hbind, gon, h1]
        cases c <;> cases b <;> rfl
      · obtain ⟨h1, h2⟩ := hno fun c h => hb ⟨c, h⟩
        rw [h1, h2]
    exact hy _ hget hv
theorem compOper_spec {ops : Array Oper} {o : Oper} {so : SOp} (hc : compOper P nt ops o = some so) :
    anyOp P ops o.op = some so.op ∧ guardOf ops o.guard = some so.gd ∧ so.dst = o.dst ∧ o.dst.all (· < nt) = true ∧ (so.gd.all fun q => decide (q.1 < nt)) = true ∧ (o.dst.isSome || kindOf so.op == 3 || so.op.isCall) = true := by
  unfold compOper at hc
  split at hc
  · rename_i p g h1 h2
    split at hc
    · rename_i h3
      injection hc with hc; subst hc
      exact ⟨h1, h2, rfl, h3⟩
    · cases hc
  · cases hc
theorem compOp_call {op : Op} {f : Opd} {us : List (Opd × List Sh)} (hc : compOp P op = some (.call f us)) : ∃ c fo, op = .call c ∧ c.callee = .value fo ∧ opdOf fo = some f ∧ args? P c.args.toList c.argTypes.toList = some us := by
  cases op
  case call c =>
    simp only [compOp] at hc
    cases hce : c.callee with
    | invoke _ _ => rw [hce] at hc; cases hc
    | value fo =>
      rw [hce] at hc
      simp only at hc
      split at hc <;> split at hc
      · injection hc with hc; cases hc
      · cases hc
      · rename_i h1 h2
        injection hc with hc
        injection hc with e1 e2; subst e1; subst e2
        exact ⟨c, fo, rfl, hce, h1, h2⟩
      · cases hc
    | builtin b =>
      rw [hce] at hc
      exfalso
      cases b
      case len => simp only at hc; (repeat' split at hc) <;> first | (cases hc; done) | (obtain ⟨_, _, e⟩ := some_pair hc; cases e)
      case delete => simp only at hc; (repeat' split at hc) <;> cases hc
      case append => simp only at hc; (repeat' split at hc) <;> first | (cases hc; done) | (obtain ⟨_, _, e⟩ := some_pair hc; cases e)
      case clear => simp only at hc; (repeat' split at hc) <;> cases hc
      case min => simp only at hc; (repeat' split at hc) <;> cases hc
      case max => simp only at hc; (repeat' split at hc) <;> cases hc
      all_goals cases hc
  all_goals exfalso
  all_goals simp only [compOp] at hc
  all_goals (repeat' split at hc)
  all_goals first | contradiction | (cases hc; done) | (obtain ⟨_, _, e⟩ := some_pair hc; cases e; done)
theorem compOp_icall {op : Op} {f : Opd} {us : List Opd} (hc : compOp P op = some (.icall f us)) : ∃ c fo, op = .call c ∧ c.callee = .value fo ∧ opdOf fo = some f ∧ trav opdOf c.args.toList = some us := by
  cases op
  case call c =>
    simp only [compOp] at hc
    cases hce : c.callee with
    | invoke _ _ => rw [hce] at hc; cases hc
    | value fo =>
      rw [hce] at hc
      simp only at hc
      split at hc <;> split at hc
      · rename_i h1 h2
        injection hc with hc
        injection hc with e1 e2; subst e1; subst e2
        exact ⟨c, fo, rfl, hce, h1, h2⟩
      · cases hc
      · injection hc with hc; cases hc
      · cases hc
    | builtin b =>
      rw [hce] at hc
      exfalso
      cases b
      case len => simp only at hc; (repeat' split at hc) <;> first | (cases hc; done) | (obtain ⟨_, _, e⟩ := some_pair hc; cases e)
      case delete => simp only at hc; (repeat' split at hc) <;> cases hc
      case append => simp only at hc; (repeat' split at hc) <;> first | (cases hc; done) | (obtain ⟨_, _, e⟩ := some_pair hc; cases e)
      case clear => simp only at hc; (repeat' split at hc) <;> cases hc
      case min => simp only at hc; (repeat' split at hc) <;> cases hc
      case max => simp only at hc; (repeat' split at hc) <;> cases hc
      all_goals cases hc
  all_goals exfalso
  all_goals simp only [compOp] at hc
  all_goals (repeat' split at hc)
  all_goals first | contradiction | (cases hc; done) | (obtain ⟨_, _, e⟩ := some_pair hc; cases e; done)
theorem call_sim {o : Oper} {f : Opd} {us : List (Opd × List Sh)} {g : Nat} {caps args : List FV} {vs : List Vl} {K : Act → World → Prop} {Q : Exit → Act → World → Prop} (hc : compOp P o.op = some (.call f us)) (hdn : o.dst.all (· < nt) = true) (hf : AFR γ μ w nt fr a) (m : MR γ μ w) (tm : Tm μ D) (hd : ∀ d, o.dst = some d → d ∉ D)
    (hcal : callee ⟨fr, μ⟩ f = some (g, caps)) (hargs : trav (fun a => frzA μ a.2 (opd fr a.1)) us = some args) (hC : CallSim P g (args ++ caps) vs)
    (hK : ∀ γ' a' w', AFR γ' (landed ⟨fr, μ⟩ o.dst (fzIds ⟨fr, μ⟩ f us) vs).mu w' nt (landed ⟨fr, μ⟩ o.dst (fzIds ⟨fr, μ⟩ f us) vs).fr a' → MR γ' (landed ⟨fr, μ⟩ o.dst (fzIds ⟨fr, μ⟩ f us) vs).mu w' →
      Ext γ μ w γ' (landed ⟨fr, μ⟩ o.dst (fzIds ⟨fr, μ⟩ f us) vs).mu w' → Tm (landed ⟨fr, μ⟩ o.dst (fzIds ⟨fr, μ⟩ f us) vs).mu (o.dst.toList ++ D) → (landed ⟨fr, μ⟩ o.dst (fzIds ⟨fr, μ⟩ f us) vs).mu.t = μ.t → a'.defers = a.defers → K a' w') : o.wp P a w K Q := by
  obtain ⟨c, fo, hop, hce, h1, h2⟩ := compOp_call hc
  -- the callee
  have hfv := opd_rel hf h1
  unfold callee at hcal
  split at hcal
  case h_2 => cases hcal
  rename_i x hx
  split at hcal
  case h_2 => cases hcal
  rename_i g' cs hfz
  injection hcal with hcal; injection hcal with e1 e2; subst e1; subst e2
  simp only at hx
  rw [hx] at hfv
  obtain ⟨γ1, m1, e1, z1⟩ := frz_sim m hfv hfz
  have hfid : fids μ depth x = fidsA μ (opd fr f) := by rw [hx]; rfl
  rw [hfid] at m1 e1
  obtain ⟨γ2, m2, e2, hl, d2⟩ := args_sim (P := P) (hf.ext e1) m1 h2 (by simp only [frzA_unsto]; exact hargs)
  simp only [fidsA_unsto] at m2 e2
  rw [unsto_unsto] at m2 e2
  have hfzi : fidsA μ (opd fr f) ++ us.flatMap (fun a => fidsA μ (opd fr a.1)) = fzIds ⟨fr, μ⟩ f us := rfl
  rw [hfzi] at m2 e2
  have e12 := e1.trans e2
  generalize hfzl : fzIds ⟨fr, μ⟩ f us = fz at *
  have z2 : ZR γ2.st w.heap.size w (.clo g' cs) (a.eval fo) := z1.keep e2.st (Nat.le_refl _) fun _ _ _ => rfl
  generalize hfo : a.eval fo = fv at z2
  cases z2 with
  | dat h => cases h
  | @clo _ _ bs vsf q1 q2 q3 q4 =>
  obtain ⟨⟨fn, c', hP, hbody, hname⟩, hcall⟩ := hC
  have hcs := hcall w γ2.st (c.args.map a.eval ++ ptrs bs) m2.stlt (by simp [ptrs, q1, ← hl]) (fun j y v hy hv => by
    by_cases hj : j < args.length
    · rw [List.getElem?_append_left hj] at hy
      rw [Array.getElem?_append_left (by simpa [← hl] using hj)] at hv
      have hjl : j < c.args.toList.length := by omega
      have := d2 j y c.args.toList[j] hy (List.getElem?_eq_getElem hjl)
      have hv' : v = a.eval c.args.toList[j] := by
        rw [Array.getElem?_map] at hv
        have : c.args[j]? = some (c.args.toList[j]) := by
          rw [← Array.getElem?_toList]; exact List.getElem?_eq_getElem hjl
        rw [this] at hv; injection hv with hv; exact hv.symm
      rw [hv']; exact this
    · rw [List.getElem?_append_right (by omega), List.getElem?_map] at hy
      obtain ⟨cc, hcc, e⟩ := some_pair hy
      subst e
      have hsz : (c.args.map a.eval).size = args.length := by simpa using hl
      rw [Array.getElem?_append_right (by omega)] at hv
      rw [hsz] at hv
      have hb : ∃ b, bs[j - args.length]? = some b ∧ v = .pointer (some (at_ b 0)) := by
        simp only [ptrs, List.getElem?_toArray, List.getElem?_map] at hv
        obtain ⟨b, hb, e⟩ := some_pair hv
        exact ⟨b, hb, e.symm⟩
      obtain ⟨b, hb, rfl⟩ := hb
      exact ⟨b, rfl, q2 b (List.mem_of_getElem? hb), fun k => vsf (j - args.length) k, fun k x hx => ⟨q3 _ cc b k x hcc hb hx, q4 _ cc k x hcc hx⟩⟩)
  have hrun : (execOp a.eval o).run P w = .ok (.enter g' (c.args.map a.eval ++ ptrs bs)) w := by
    simp only [execOp, hop, resolve, hce, hfo, Deferred.ofValue, Sem.run_bind, Sem.run_pure, Result.andThen_ok, invoke, callFunc]
    have hname' : ¬ fn.name = "runtime.NumGoroutine" := by simpa using hname
    simp [hP, hname', hbody]
  simp only [Oper.wp, hrun, Oper.upon]
  refine Calls.mono hcs fun e w' hR => ?_
  obtain ⟨v, st', rfl, hb, s1, s2, s3, hret⟩ := hR
  obtain ⟨m3, e3⟩ := m2.back hb s1 s2 s3
  have hf3 := (hf.ext e12).ext e3
  have plain : (∀ e z xs, vs ≠ [.c (.fresh e z xs)]) → landed ⟨fr, μ⟩ o.dst fz vs = ⟨put fr o.dst (fvOf vs), unsto μ fz⟩ → K (a.put o.dst v) w' := fun hn hl' => by
    have hv : FR { γ2 with st := st' } (unsto μ fz) w' (fvOf vs) v := fvOf_rel hret hn
    refine hK { γ2 with st := st' } _ _ ?_ ?_ ?_ ?_ ?_ ?_ <;> try rw [hl']
    · exact hf3.put hdn hv
    · exact m3
    · exact e12.trans e3
    · exact tm.more fun d hd => List.mem_append_right _ hd
    · rfl
    · cases o.dst <;> rfl
  by_cases hn : ∃ e z xs, vs = [.c (.fresh e z xs)]
  · obtain ⟨e, z, xs, rfl⟩ := hn
    rcases hret with ⟨e', z', xs', he, hfr⟩ | ⟨x, he, hvd⟩ | ⟨hlen, _⟩
    · injection he with he; injection he with he; injection he with he1 he2 he3; subst he1; subst he2; subst he3
      cases hdo : o.dst with
      | none =>
        rw [hdo] at hK
        exact hK { γ2 with st := st' } _ _ hf3 m3 (e12.trans e3) (tm.more fun d hd => List.mem_append_right _ hd) rfl rfl
      | some d =>
        rw [hdo] at hK
        have hdD := hd d hdo
        have tm3 : Tm (unsto μ fz) D := tm
        obtain ⟨r1, r2, r3⟩ := hfr
        have haddr := m3.addArr (i := (μ.t, d)) (q := ⟨e, z, xs⟩) (v := v) (sto := true) (old := []) (tm3.fresh hdD).2
          ⟨r1, r2, by
            rcases r3 with ⟨A, r3, r4⟩ | ⟨gb, cap, cur, n1, n2, n3, n4, n5, n6, n7, n8⟩
            · exact .inl ⟨A, by simp [upd_same, r3], r4⟩
            · exact .inr ⟨gb, cap, cur, by simp [upd_same, n1], Nat.le_trans m2.lo n2, n3, n4, n5, n6, n7, fun _ o _ => n8 o, fun _ o => n8 o⟩⟩
          (fun j gb hj hg' => by
            rcases r3 with ⟨A, r3, r4⟩ | ⟨gb', cap, cur, n1, n2, n3, n4, n5, n6, n7, n8⟩
            · rw [r3] at hg'; cases A <;> simp [blk] at hg'
            · rw [n1] at hg'
              obtain ⟨ad, n, cc, e', hc0, hb'⟩ := blk_form hg'
              injection e' with e' _ _; injection e' with e'; subst e'
              have h1 := m2.beLt hj
              intro h2
              rw [← hb'] at h2
              change γ2.be j = gb' at h2
              omega)
          (fun j b gb hj hg' hn' => by
            rcases r3 with ⟨A, r3, r4⟩ | ⟨gb', cap, cur, n1, n2, n3, n4, n5, n6, n7, n8⟩
            · rw [r3] at hg'; cases A <;> simp [blk] at hg'
            · rw [n1] at hg'
              obtain ⟨ad, n, cc, e', hc0, hb'⟩ := blk_form hg'
              injection e' with e' _ _; injection e' with e'; subst e'
              have h1 := m2.nuLt (i := j) (by rw [hj]; rfl) hn'
              rw [← hb'] at h1
              have h1' : gb' < w.heap.size := h1
              omega)
        obtain ⟨m4, e4⟩ := haddr
        refine hK _ _ _ ?_ m4 ((e12.trans e3).trans e4) ?_ rfl rfl
        · have := (hf3.ext e4).put (d := some d) (by rw [← hdo]; exact hdn) (row_rel (γ := { γ2 with st := st' }) (μ := unsto μ fz) (w := w') (d := d) (e := e) (z := z) (xs := xs) (sto := true) (old := []) (v := v))
          exact this
        · exact tm3.mkRow
    · injection he with he; subst he; cases hvd
    · simp at hlen
  · refine plain (fun e z xs h => hn ⟨e, z, xs, h⟩) ?_
    unfold landed
    split
    · rename_i h; exact absurd ⟨_, _, _, rfl⟩ hn
    · rfl
theorem Mu.tick_tm (h : Tm μ D) : Tm μ.tick [] := fun i hi => by
  rcases h i hi with h | h
  · exact .inl (Nat.lt_succ_of_lt h)
  · exact .inl (by rw [h.1]; exact Nat.lt_succ_self _)
theorem Ext.mtick (γ : Gh) (μ : Mu) (w : World) : Ext γ μ w γ μ.tick w := ⟨rfl, fun _ _ h => ⟨h, rfl⟩, fun _ _ h => .inl h, Below.refl _ _, fun _ h => ⟨h, rfl⟩, fun _ a h => ⟨rfl, a, h, .inr ⟨rfl, rfl, rfl⟩⟩, fun _ h => ⟨h, rfl⟩⟩
theorem MR.mtick (m : MR γ μ w) : MR γ μ.tick w :=
  ⟨m.lo, m.stlt, fun i cs h => by
    obtain ⟨h1, h2, vs, T, h3, h4⟩ := m.box i cs h
    exact ⟨h1, h2, vs, T, h3, h4.ext (.mtick γ μ w)⟩, m.arr, m.bb, m.ba, m.aa, m.sa, m.mm⟩
theorem icall_sim {o : Oper} {f : Opd} {us : List Opd} {g : Nat} {caps : List FV} {vs : List Vl} {μ' : Mu} {K : Act → World → Prop} {Q : Exit → Act → World → Prop} (hc : compOp P o.op = some (.icall f us)) (hdn : o.dst.all (· < nt) = true) (hf : AFR γ μ w nt fr a) (m : MR γ μ w) (tm : Tm μ D)
    (hcal : icallee ⟨fr, μ⟩ f = some (g, caps)) (hC : ICallSim P g (us.map (opd fr) ++ caps) μ.tick vs μ')
    (hK : ∀ γ' a' w', AFR γ' μ' w' nt (put fr o.dst (fvOf vs)) a' → MR γ' μ' w' → Ext γ μ w γ' μ' w' → (∃ D', Tm μ' D' ∧ ∀ d ∈ D', d ∈ o.dst.toList ++ D) → a'.defers = a.defers → K a' w') : o.wp P a w K Q := by
  obtain ⟨c, fo, hop, hce, h1, h2⟩ := compOp_icall hc
  have hfv := opd_rel hf h1
  obtain ⟨hl, hargs⟩ := trav_opd_rel hf h2
  -- the callee's value, and what it captures
  have hcl : ∃ bs : List Nat, a.eval fo = .func (.func g) #[] (ptrs bs) ∧ bs.length = caps.length ∧ ∀ (j : Nat) (b : Nat) (x : FV), bs[j]? = some b → caps[j]? = some x → FR γ μ w x (.pointer (some (at_ b 0))) := by
    unfold icallee at hcal
    split at hcal
    · rename_i g' cs hx
      injection hcal with hcal; injection hcal with e1 e2; subst e1; subst e2
      simp only at hx
      rw [hx] at hfv
      generalize a.eval fo = fv at hfv
      cases hfv with
      | z h =>
        cases h with
        | dat h => cases h
        | @clo _ _ bs vsf q1 q2 q3 q4 =>
          refine ⟨bs, rfl, by simp [q1], fun j b x hb hx => ?_⟩
          rw [List.getElem?_map] at hx
          obtain ⟨cc, hcc, e⟩ := some_pair hx
          subst e
          exact ⟨b, 0, vsf j, by simp, fun k x hx => by rw [Nat.zero_add]; exact ⟨.inl (q2 b (List.mem_of_getElem? hb)), q3 j cc b k x hcc hb hx, .z (q4 j cc k x hcc hx)⟩⟩
    · rename_i g' ids hx
      injection hcal with hcal; injection hcal with e1 e2; subst e1; subst e2
      simp only at hx
      rw [hx] at hfv
      generalize a.eval fo = fv at hfv
      cases hfv with
      | z h => cases h with | dat h => cases h
      | fn hids =>
        refine ⟨ids.map γ.be, rfl, by simp, fun j b x hb hx => ?_⟩
        rw [List.getElem?_map] at hx hb
        obtain ⟨i, hi, e⟩ := some_pair hx
        obtain ⟨i', hi', e'⟩ := some_pair hb
        rw [hi] at hi'; injection hi' with hi'; subst hi'; subst e; subst e'
        exact ⟨hids i (List.mem_of_getElem? hi), rfl⟩
    · cases hcal
  obtain ⟨bs, hfo, hbl, hcaps⟩ := hcl
  obtain ⟨⟨fn, c', hP, hbody, hname⟩, hcall⟩ := hC
  have hsz : (c.args.map a.eval).size = us.length := by simp [hl]
  have hcs := hcall γ w (c.args.map a.eval ++ ptrs bs) (by simp [ptrs, hbl, hl]) (fun j y v hy hv => by
    refine FR.ext ?_ (.mtick γ μ w)
    by_cases hj : j < us.length
    · rw [List.getElem?_append_left (by simpa using hj), List.getElem?_map] at hy
      obtain ⟨x', hx', e⟩ := some_pair hy
      subst e
      rw [Array.getElem?_append_left (by omega), Array.getElem?_map] at hv
      obtain ⟨x, hx, e⟩ := some_pair hv
      subst e
      exact hargs j x x' (by simpa using hx) hx'
    · rw [List.getElem?_append_right (by simp; omega), List.length_map] at hy
      rw [Array.getElem?_append_right (by omega), hsz] at hv
      simp only [ptrs, List.getElem?_toArray, List.getElem?_map] at hv
      obtain ⟨b, hb, e⟩ := some_pair hv
      subst e
      exact hcaps _ b y hb hy) m.mtick (Mu.tick_tm tm)
  have hrun : (execOp a.eval o).run P w = .ok (.enter g (c.args.map a.eval ++ ptrs bs)) w := by
    simp only [execOp, hop, resolve, hce, hfo, Deferred.ofValue, Sem.run_bind, Sem.run_pure, Result.andThen_ok, invoke, callFunc]
    have hname' : ¬ fn.name = "runtime.NumGoroutine" := by simpa using hname
    simp [hP, hname', hbody]
  simp only [Oper.wp, hrun, Oper.upon]
  refine Calls.mono hcs fun e w' hR => ?_
  obtain ⟨v, γ', rfl, hret, m', e', tm'⟩ := hR
  have ee := (Ext.mtick γ μ w).trans e'
  exact hK γ' _ w' ((hf.ext ee).put hdn hret) m' ee ⟨[], tm', by simp⟩ (by cases o.dst <;> rfl)
theorem step_sim {ops : Array Oper} {i : Nat} {o : Oper} {so : SOp} {s' : St} {K : Act → World → Prop} {Q : Exit → Act → World → Prop} (hi : ops[i]? = some o) (hc : compOper P nt ops o = some so) (hf : AFR γ μ w nt fr a) (m : MR γ μ w) (tm : Tm μ D) (hd : ∀ d, so.dst = some d → d ∉ D)
    (hs : StepR (CS P) so ⟨fr, μ⟩ s')
    (hK : ∀ γ' a' w', AFR γ' s'.mu w' nt s'.fr a' → MR γ' s'.mu w' → Ext γ μ w γ' s'.mu w' → (∃ D', Tm s'.mu D' ∧ ∀ d ∈ D', d ∈ so.dst.toList ++ D) → a'.defers = a.defers → K a' w') : wpOp P ops Q i K a w := by
  obtain ⟨h1, h2, h3, h4, h5, h6⟩ := compOper_spec hc
  have hg := gon_sim hf m h2 h5
  have defers : ∀ v, (a.put o.dst v).defers = a.defers := fun v => by cases o.dst <;> rfl
  unfold wpOp
  simp only [hi]
  rw [hg]
  have h1c : so.op.isCall = true → compOp P o.op = some so.op := fun hk => by
    rcases any_cases h1 with h | h
    · exact h
    · rw [alt_call h] at hk; cases hk
  cases hs with
  | off hoff =>
    simp only at hoff
    rw [hoff]
    simp only [Bool.false_eq_true, if_false]
    refine hK γ _ w ?_ m (.refl _ _ _) ⟨D, tm, fun d hd => List.mem_append_right _ hd⟩ (defers _)
    rw [h3]; exact hf.put h4 rfl
  | @op v μ' hon ha =>
    simp only at hon ha
    rw [hon]
    simp only [if_true]
    refine .inl ?_
    have hid : idOf ⟨fr, μ⟩ so.dst = (μ.t, o.dst.getD 0) := by rw [h3]; rfl
    rw [hid] at ha
    by_cases hk : so.op.isCall = true
    · cases hso : so.op <;> rw [hso] at hk ha <;> simp [AOp.isCall] at hk
      all_goals simp [aop] at ha
    · have hk' : so.op.isCall = false := by simpa using hk
      have hok : OpOk γ μ w (o.dst.toList ++ D) ((execOp a.eval o).run P w) v μ' := by
        rcases any_cases h1 with h | h
        · exact op_sim h hk' h6 hf m tm (by rw [← h3]; exact hd) ha
        · exact alt_sim h hf m (tm.more fun d hd => List.mem_append_right _ hd) ha
      obtain ⟨γ', v', w', k1, k2, k3, k4, k5, k6⟩ := hok
      have hK' : K (a.put o.dst v') w' := hK γ' _ w' (by rw [h3]; exact (hf.ext k4).put h4 k2) k3 k4 ⟨_, k5, by rw [h3]; exact fun d hd => hd⟩ (defers _)
      unfold Oper.wp
      rcases k1 with k1 | ⟨k1, e⟩
      · rw [k1]; exact hK'
      · rw [k1]; subst e; exact hK'
  | @call f us g caps args vs hon ho hcal hargs hC =>
    simp only at hon hargs
    rw [hon]
    simp only [if_true]
    refine .inl ?_
    have h1 := h1c (by rw [ho]; rfl)
    rw [ho] at h1
    rw [h3] at hK
    exact call_sim h1 h4 hf m tm (by rw [← h3]; exact hd) hcal hargs hC fun γ' a' w' q1 q2 q3 q4 _ q6 => hK γ' a' w' q1 q2 q3 ⟨_, q4, fun d hd => hd⟩ q6
  | @icall f us g caps vs μ' hon ho hcal hC =>
    simp only at hon
    rw [hon]
    simp only [if_true]
    refine .inl ?_
    have h1 := h1c (by rw [ho]; rfl)
    rw [ho] at h1
    rw [h3] at hK
    exact icall_sim h1 h4 hf m tm hcal hC hK
end Go.Proofs.Ytndabolfhhppkaa.Am
