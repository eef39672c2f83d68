/- What the abstract machine comes to, the given model comes to: the law. No condition. -/
import Derived.Test.YtmbhpinkiffdgaaSim
namespace Go.Proofs.Ytmbhpinkiffdgaa.Am
open Go Go.RowKit
variable {P : Program} {γ : Gh} {μ ν : Mu} {w : World} {nt : Nat} {D : List Nat} {fr fr' : Fr} {a : Act}

/-- A loop whose body is about to be run. -/
def WpL (P : Program) (c : Code) (Q : Exit → Act → World → Prop) (a : Act) (w : World) : Prop :=
  ∀ (b : Frame) (k : List Item) (cs : List Frame), ∃ e a' w', Q e a' w' ∧ Arrives P (lone (b.at a (.code c :: .inLoop c :: k)) cs w) b k cs e a' w'
theorem wpL_next {c : Code} {Q : Exit → Act → World → Prop} (h : c.wp P (Exit.then (WpL P c Q) Q) a w) : WpL P c Q a w := by
  intro b k cs
  obtain ⟨e, a₁, w₁, hq, harr⟩ := h b (.inLoop c :: k) cs
  cases e with
  | normal =>
    obtain ⟨e₂, a₂, w₂, hq₂, harr₂⟩ := hq b k cs
    exact ⟨e₂, a₂, w₂, hq₂, .of_steps (Steps.trans harr (.one step_inLoop)) harr₂⟩
  | exit id => exact ⟨_, a₁, w₁, hq, .pass (x := .inLoop c) rfl (fun _ _ => .inl (by simp)) harr⟩
  | goto l => exact ⟨_, a₁, w₁, hq, .pass (x := .inLoop c) rfl (fun _ _ => .inl (by simp)) harr⟩
  | ret => exact ⟨_, a₁, w₁, hq, .pass (x := .inLoop c) rfl (fun _ _ => .inl (by simp)) harr⟩
  | panic ch => exact ⟨_, a₁, w₁, hq, .pass (x := .inLoop c) rfl (fun _ _ => .inl (by simp)) harr⟩
  | outgrown => exact ⟨_, a₁, w₁, hq, .pass (x := .inLoop c) rfl (fun _ _ => .inl (by simp)) harr⟩
theorem wp_of_wpL {c : Code} {Q : Exit → Act → World → Prop} (h : WpL P c Q a w) : (Code.loop c).wp P Q a w := fun b k cs => by
  obtain ⟨e, a', w', q, r⟩ := h b k cs
  exact ⟨e, a', w', q, .of_steps (.one step_loop) r⟩
/-- How a piece of code ends. -/
def Ends : Out → Exit → Option St
  | .norm s, .normal => some s
  | .exit n s, .exit m => if n = m then some s else none
  | .ret s, .ret => some s
  | _, _ => none
def Post (nt : Nat) (γ : Gh) (μ : Mu) (w : World) (a : Act) (out : Out) (e : Exit) (a' : Act) (w' : World) : Prop :=
  ∃ γ' s', Ends out e = some s' ∧ AFR γ' s'.mu w' nt s'.fr a' ∧ MR γ' s'.mu w' ∧ Ext γ μ w γ' s'.mu w' ∧ Tm s'.mu [] ∧ a'.defers = a.defers
theorem Post.mk {out : Out} {e : Exit} {s : St} (h : Ends out e = some s) (hf : AFR γ s.mu w nt s.fr a) (m : MR γ s.mu w) (tm : Tm s.mu []) : Post nt γ s.mu w a out e a w := ⟨γ, s, h, hf, m, .refl _ _ _, tm, rfl⟩
theorem Post.next {γ1 : Gh} {μ1 : Mu} {w1 w' : World} {a1 a' : Act} {out out' : Out} {e e' : Exit} (h : Post nt γ1 μ1 w1 a1 out e a' w') (ho : ∀ s, Ends out e = some s → Ends out' e' = some s) (ext : Ext γ μ w γ1 μ1 w1) (hd : a1.defers = a.defers) : Post nt γ μ w a out' e' a' w' := by
  obtain ⟨γ', s', h1, h2, h3, h4, h5, h6⟩ := h
  exact ⟨γ', s', ho s' h1, h2, h3, ext.trans h4, h5, h6.trans hd⟩
def SimCode (P : Program) (c : SCode) (s : St) (out : Out) : Prop :=
  ∀ {code : Code} {nt : Nat} {γ : Gh} {a : Act} {w : World}, compCode P nt code = some c → AFR γ s.mu w nt s.fr a → MR γ s.mu w → Tm s.mu [] →
    code.wp P (Post nt γ s.mu w a out) a w ∧ ∀ c', code = .loop c' → WpL P c' (Post nt γ s.mu w a out) a w
def Motive (P : Program) : Task → Out → Prop
  | .code c s, out => SimCode P c s out
  | .ops l s, out => ∃ s', out = .norm s' ∧ Chain (CS P) l s s'
  | .call g args, out => ∃ vs, out = .res vs ∧ CallSim P g args vs
  | .icall g args μ, out => ∃ vs μ', out = .ires vs μ' ∧ ICallSim P g args μ vs μ'
theorem Tm.tick {s : St} (h : Tm s.mu D) : Tm s.tick.mu [] := fun i hi => by
  rcases h i hi with h | h
  · exact .inl (Nat.lt_succ_of_lt h)
  · exact .inl (by rw [h.1]; exact Nat.lt_succ_self _)
theorem Ext.tick (γ : Gh) (s : St) (w : World) : Ext γ s.mu w γ s.tick.mu w := ⟨rfl, fun _ _ h => ⟨h, rfl⟩, fun _ _ h => .inl h, Below.refl _ _, fun _ h => ⟨h, rfl⟩, fun _ a h => ⟨rfl, a, h, rfl, rfl, rfl⟩⟩
theorem MR.tick {s : St} (m : MR γ s.mu w) : MR γ s.tick.mu w :=
  ⟨m.lo, m.stlt, fun i cs h => by
    obtain ⟨h1, h2, vs, T, h3, h4⟩ := m.box i cs h
    exact ⟨h1, h2, vs, T, h3, h4.ext (.tick γ s w)⟩, m.arr, m.bb, m.ba, m.aa, m.sa⟩
theorem code_ops (hm : P.follows .mixedOrders = true) {l : List SOp} {s s' : St} (h : Chain (CS P) l s s') : SimCode P (.ops l) s (.norm s'.tick) := by
  intro code nt γ a w hc hf m tm
  have fin : ∀ {γ1 : Gh} {w1 : World}, Ext γ s.mu w γ1 s.mu w1 → Done P nt γ1 s.mu w1 a s' (Post nt γ s.mu w a (.norm s'.tick) .normal) := by
    intro γ1 w1 e γ' a' w' h1 h2 h3 h4 h6
    obtain ⟨D', h4⟩ := h4
    exact ⟨γ', s'.tick, rfl, (h1.ext (.tick γ' s' w')), h2.tick, (e.trans h3).trans (.tick γ' s' w'), h4.tick, h6⟩
  cases code <;> simp only [compCode] at hc <;> (try (cases hc; done)) <;> (try ((repeat' split at hc) <;> cases hc; done)) <;> (try (obtain ⟨_, _, e⟩ := some_pair hc; cases e; done))
  case region id ops draw =>
    split at hc
    case h_2 => cases hc
    rename_i l' hl
    split at hc
    case isFalse => cases hc
    rename_i hok
    injection hc with hc; injection hc with hc; subst hc
    refine ⟨?_, fun c' h => by cases h⟩
    have hlen : l'.length = ops.size := by have := (trav_spec hl).1; simpa using this
    cases draw with
    | false =>
      refine wp_region ?_
      have := plain_sim (Q := Post nt γ s.mu w a (.norm s'.tick)) hl (k := 0) (r := l') (D := []) rfl (dstsOk_spec hok.1) h hf m tm (by simp) (fin (.refl _ _ _))
      simpa using this
    | true =>
      obtain ⟨hd, he, _⟩ := hok.2 rfl
      refine wp_region_any hm ?_
      have hb : Below w.heap.size w { w with drawn := w.drawn + 1 } := (Below.refl _ w).drew
      have e1 := Ext.grow m hb
      have hmap : (List.range ops.size).map (gl l') = l' := by
        apply List.ext_getElem?
        intro j
        by_cases hj : j < ops.size
        · simp [hj, gl, show j < l'.length by omega]
        · rw [List.getElem?_eq_none (by simp; omega), List.getElem?_eq_none (by omega)]
      refine any_sim (R := List.range ops.size) (D := []) hl hok.1 hd he (by simp) List.pairwise_lt_range (by simp) (fun j => ?_) (fun j i hj => ?_) (by rw [hmap]; exact h) (hf.ext e1) (m.grow hb) tm (by simp) (fin e1)
      · simp only [List.mem_range]
        constructor
        · intro hj; exact ⟨hj, by simp [Array.getD_eq_getD_getElem?, hj]⟩
        · exact fun h => h.1
      · exfalso
        by_cases hlt : j < ops.size <;> simp [Array.getD_eq_getD_getElem?, hlt] at hj
theorem sim {F : Nat → Option SFun} (hF : ∀ g f, F g = some f → comp P g = some f) (hm : P.follows .mixedOrders = true) {t : Task} {out : Out} (h : Ev F t out) : Motive P t out := by
  induction h with
  | skip s =>
    intro code nt γ a w hc hf m tm
    cases code <;> simp only [compCode] at hc <;> (try (cases hc; done)) <;> (try ((repeat' split at hc) <;> cases hc; done)) <;> (try (obtain ⟨_, _, e⟩ := some_pair hc; cases e; done))
    case skip => exact ⟨Go.wp_skip (.mk rfl hf m tm), fun c' h => by cases h⟩
  | ops _ ih =>
    obtain ⟨s', e, hch⟩ := ih
    injection e with e; subst e
    exact code_ops hm hch
  | nil s => exact ⟨s, rfl, .nil s⟩
  | off hg _ ih => obtain ⟨s', rfl, hch⟩ := ih; exact ⟨s', rfl, .cons (.off hg) hch⟩
  | op hg ha _ ih => obtain ⟨s', rfl, hch⟩ := ih; exact ⟨s', rfl, .cons (.op hg ha) hch⟩
  | call hg ho hc ha _ _ ih1 ih2 =>
    obtain ⟨s', rfl, hch⟩ := ih2
    obtain ⟨vs, e, hcs⟩ := ih1
    injection e with e; subst e
    exact ⟨s', rfl, .cons (.call hg ho hc ha hcs) hch⟩
  | icall hg ho hc _ _ ih1 ih2 =>
    obtain ⟨s', rfl, hch⟩ := ih2
    obtain ⟨vs, μ', e, hcs⟩ := ih1
    injection e with e1 e2; subst e1; subst e2
    exact ⟨s', rfl, .cons (.icall hg ho hc hcs) hch⟩
  | seqn _ _ ih1 ih2 =>
    intro code nt γ a w hc hf m tm
    cases code <;> simp only [compCode] at hc <;> (try (cases hc; done)) <;> (try ((repeat' split at hc) <;> cases hc; done)) <;> (try (obtain ⟨_, _, e⟩ := some_pair hc; cases e; done))
    case seq x y =>
      split at hc
      · rename_i x' y' hx hy
        injection hc with hc; injection hc with e1 e2; subst e1; subst e2
        refine ⟨Go.wp_seq (Go.wp_mono (ih1 hx hf m tm).1 fun e a' w' hp => ?_), fun c' h => by cases h⟩
        obtain ⟨γ', s', h1, h2, h3, h4, h5, h6⟩ := hp
        cases e <;> simp only [Ends] at h1 <;> (try (cases h1; done))
        injection h1 with h1; subst h1
        exact Go.wp_mono (ih2 hy h2 h3 h5).1 fun e a'' w'' hp => hp.next (fun s h => h) h4 h6
      · cases hc
  | @seqx x0 y0 s out _ hx ih =>
    intro code nt γ a w hc hf m tm
    cases code <;> simp only [compCode] at hc <;> (try (cases hc; done)) <;> (try ((repeat' split at hc) <;> cases hc; done)) <;> (try (obtain ⟨_, _, e⟩ := some_pair hc; cases e; done))
    case seq x y =>
      split at hc
      · rename_i x' y' hx' hy
        injection hc with hc; injection hc with e1 e2; subst e1; subst e2
        refine ⟨Go.wp_seq (Go.wp_mono (ih hx' hf m tm).1 fun e a' w' hp => ?_), fun c' h => by cases h⟩
        cases e with
        | normal =>
          obtain ⟨γ', s', h1, _⟩ := hp
          cases out <;> simp [Ends, Out.abrupt] at h1 hx
        | _ => exact hp
      · cases hc
  | @cond c0 x0 y0 s b out hc' _ ih =>
    intro code nt γ a w hc hf m tm
    cases code <;> simp only [compCode] at hc <;> (try (cases hc; done)) <;> (try ((repeat' split at hc) <;> cases hc; done)) <;> (try (obtain ⟨_, _, e⟩ := some_pair hc; cases e; done))
    case cond c x y =>
      split at hc
      · rename_i c1 x' y' h1 h2 h3
        injection hc with hc; injection hc with e1 e2 e3; subst e1; subst e2; subst e3
        have hv := opd_rel hf h1
        rw [hc'] at hv
        obtain ⟨hv, _⟩ := inv_val hv
        refine ⟨Go.wp_cond hv ?_, fun c' h => by cases h⟩
        cases b with
        | true => exact (ih h2 hf m tm).1
        | false => exact (ih h3 hf m tm).1
      · cases hc
  | @block id c s out _ ih =>
    intro code nt γ a w hc hf m tm
    cases code <;> simp only [compCode] at hc <;> (try (cases hc; done)) <;> (try ((repeat' split at hc) <;> cases hc; done)) <;> (try (obtain ⟨_, _, e⟩ := some_pair hc; cases e; done))
    case block id' x =>
      obtain ⟨x', hx, e⟩ := some_pair hc
      injection e with e1 e2; subst e1; subst e2
      refine ⟨Go.wp_block (Go.wp_mono (ih hx hf m tm).1 fun e a' w' hp => ?_), fun c' h => by cases h⟩
      cases e with
      | exit n =>
        simp only [Exit.inBlock]
        split
        · rename_i hn
          refine hp.next (fun s' h => ?_) (.refl _ _ _) rfl
          cases out <;> simp [Ends] at h
          rename_i k _
          obtain ⟨h1, h2⟩ := h
          subst h2
          simp [Out.blk, Ends, h1, hn]
        · rename_i hn
          refine hp.next (fun s' h => ?_) (.refl _ _ _) rfl
          cases out <;> simp [Ends] at h
          rename_i k _
          obtain ⟨h1, h2⟩ := h
          subst h2
          simp [Out.blk, Ends, h1, hn]
      | _ =>
        refine Post.next (e := _) hp (fun s' h => ?_) (.refl _ _ _) rfl
        cases out <;> simp [Ends] at h <;> simp [Out.blk, Ends, h]
  | loopn _ _ ih1 ih2 =>
    intro code nt γ a w hc hf m tm
    have hc0 := hc
    cases code <;> simp only [compCode] at hc <;> (try (cases hc; done)) <;> (try ((repeat' split at hc) <;> cases hc; done)) <;> (try (obtain ⟨_, _, e⟩ := some_pair hc; cases e; done))
    case loop x =>
      obtain ⟨x', hx, e⟩ := some_pair hc
      injection e with e1; subst e1
      have hL : WpL P x _ a w := wpL_next (Go.wp_mono (ih1 hx hf m tm).1 fun e a' w' hp => by
        obtain ⟨γ', s', h1, h2, h3, h4, h5, h6⟩ := hp
        cases e <;> simp only [Ends] at h1 <;> (try (cases h1; done))
        injection h1 with h1; subst h1
        intro b k cs
        obtain ⟨e2, a2, w2, hq, har⟩ := (ih2 hc0 h2 h3 h5).2 x rfl b k cs
        exact ⟨e2, a2, w2, hq.next (fun s h => h) h4 h6, har⟩)
      exact ⟨wp_of_wpL hL, fun c' h => by injection h with h; subst h; exact hL⟩
  | @loopx c s out _ hx ih =>
    intro code nt γ a w hc hf m tm
    cases code <;> simp only [compCode] at hc <;> (try (cases hc; done)) <;> (try ((repeat' split at hc) <;> cases hc; done)) <;> (try (obtain ⟨_, _, e⟩ := some_pair hc; cases e; done))
    case loop x =>
      obtain ⟨x', hx', e⟩ := some_pair hc
      injection e with e1; subst e1
      have hL : WpL P x (Post nt γ s.mu w a out) a w := wpL_next (Go.wp_mono (ih hx' hf m tm).1 fun e a' w' hp => by
        cases e with
        | normal =>
          obtain ⟨γ', s', h1, _⟩ := hp
          cases out <;> simp [Ends, Out.abrupt] at h1 hx
        | _ => exact hp)
      exact ⟨wp_of_wpL hL, fun c' h => by injection h with h; subst h; exact hL⟩
  | exit n s =>
    intro code nt γ a w hc hf m tm
    cases code <;> simp only [compCode] at hc <;> (try (cases hc; done)) <;> (try ((repeat' split at hc) <;> cases hc; done)) <;> (try (obtain ⟨_, _, e⟩ := some_pair hc; cases e; done))
    case exit id =>
      injection hc with hc; injection hc with hc; subst hc
      exact ⟨Go.wp_exit (.mk (by simp [Ends]) hf m tm), fun c' h => by cases h⟩
  | ret s =>
    intro code nt γ a w hc hf m tm
    cases code <;> simp only [compCode] at hc <;> (try (cases hc; done)) <;> (try ((repeat' split at hc) <;> cases hc; done)) <;> (try (obtain ⟨_, _, e⟩ := some_pair hc; cases e; done))
    case ret => exact ⟨Go.wp_ret (.mk rfl hf m tm), fun c' h => by cases h⟩
  | @fn g f args out s' vs hFg _ hfin hret ih =>
    refine ⟨vs, rfl, ?_⟩
    have hcomp := hF g f hFg
    unfold comp at hcomp
    cases hP : P.funcs[g]? with
    | none => rw [hP] at hcomp; simp at hcomp
    | some fn =>
    rw [hP] at hcomp
    simp only [Option.bind_some, compFun] at hcomp
    cases hbody : fn.body with
    | none => rw [hbody] at hcomp; simp at hcomp
    | some c =>
    rw [hbody] at hcomp
    simp only at hcomp
    split at hcomp
    case isFalse => cases hcomp
    rename_i hname
    split at hcomp
    case h_2 => cases hcomp
    rename_i sc rs hsc hrs
    injection hcomp with hcomp; subst hcomp
    refine ⟨⟨fn, c, hP, hbody, ?_⟩, fun w st us hst hsz har => ?_⟩
    · have : ¬ fn.name = "runtime.NumGoroutine" := fun e => by rw [e] at hname; simp at hname
      simpa using this
    · let γ0 : Gh := ⟨fun _ => undef, fun _ => 0, st, w.heap.size⟩
      have m0 : MR γ0 (entry args).mu w := ⟨Nat.le_refl _, hst, (fun i cs h => by cases h), (fun i q h => by cases h), (fun i j h => by cases h), (fun i j g h => by cases h), (fun i j q b g h => by cases h), (fun i h => by cases h)⟩
      have tm0 : Tm (entry args).mu [] := fun i hi => by rcases hi with hi | hi <;> cases hi
      have hf0 : AFR γ0 (entry args).mu w fn.ntmps (entry args).fr { tmps := us ++ Array.replicate (fn.ntmps - us.size) undef, defers := [] } := by
        refine ⟨by simp; omega, fun k => ?_⟩
        have hnth : (entry args).fr k = (args[k]?).getD .skip := by simp only [entry, nth_spec]
        rw [hnth]
        by_cases hk : k < args.length
        · have h1 : args[k]? = some args[k] := List.getElem?_eq_getElem hk
          have h2 : us[k]? = some (us[k]'(by omega)) := Array.getElem?_eq_getElem _
          rw [h1, Array.getD_eq_getD_getElem?, Array.getElem?_append_left (by omega), h2]
          exact AR.rel (γ := γ0) (har k _ _ h1 h2)
        · rw [List.getElem?_eq_none (by omega), Array.getD_eq_getD_getElem?, Array.getElem?_append_right (by omega)]
          have : ((Array.replicate (fn.ntmps - us.size) undef)[k - us.size]?).getD undef = undef := by
            rw [Array.getElem?_replicate]
            split <;> rfl
          rw [this]; rfl
      refine calls_of_wp hP hbody (Go.wp_mono (ih hsc hf0 m0 tm0).1 fun e a' w' hp => ?_)
      obtain ⟨γ', s2, h1, h2, h3, h4, h5, h6⟩ := hp
      obtain ⟨v, st', k1, k2, k3, k4, k5⟩ := ret_sim (own := ownFn fn.name) (vs := vs) (s := s2) hrs h2 h3 (by
        have : s2 = s' := by
          cases out <;> simp [Out.fin] at hfin <;> cases e <;> simp [Ends] at h1 <;> (subst hfin; exact h1.symm)
        rw [this]; exact hret)
      have hlo : γ'.lo = w.heap.size := h4.lo
      rw [hlo] at k3 k5
      have hR : ∃ v st', Ending.returned v = Ending.returned v ∧ True := ⟨v, st', rfl, trivial⟩
      have hend : ∃ v' st'', Ending.returned v = Ending.returned v' ∧ Below w.heap.size w w' ∧ (∀ b o, st b o → st'' b o) ∧ (∀ b o, st'' b o → st b o ∨ w.heap.size ≤ b) ∧ (∀ b o, st'' b o → b < w'.heap.size) ∧ RetR st'' w.heap.size w' vs v' :=
        ⟨v, st', rfl, h4.bel, fun b o h => k2 b o (h4.st b o h).1, fun b o h => (k3 b o h).elim (fun h => h4.nst b o h) .inr, k4, k5⟩
      cases out <;> simp [Out.fin] at hfin <;> cases e <;> simp [Ends] at h1 <;> exact ⟨h6, v, k1, hend⟩
  | @ifn g f args μ out s' vs hFg _ hfin hret ih =>
    refine ⟨vs, _, rfl, ?_⟩
    have hcomp := hF g f hFg
    unfold comp at hcomp
    cases hP : P.funcs[g]? with
    | none => rw [hP] at hcomp; simp at hcomp
    | some fn =>
    rw [hP] at hcomp
    simp only [Option.bind_some, compFun] at hcomp
    cases hbody : fn.body with
    | none => rw [hbody] at hcomp; simp at hcomp
    | some c =>
    rw [hbody] at hcomp
    simp only at hcomp
    split at hcomp
    case isFalse => cases hcomp
    rename_i hname
    split at hcomp
    case h_2 => cases hcomp
    rename_i sc rs hsc hrs
    injection hcomp with hcomp; subst hcomp
    refine ⟨⟨fn, c, hP, hbody, ?_⟩, fun γ w us hsz har m tm => ?_⟩
    · have : ¬ fn.name = "runtime.NumGoroutine" := fun e => by rw [e] at hname; simp at hname
      simpa using this
    · have hf0 : AFR γ μ w fn.ntmps (fun k => (nth args k).getD .skip) { tmps := us ++ Array.replicate (fn.ntmps - us.size) undef, defers := [] } := by
        refine ⟨by simp; omega, fun k => ?_⟩
        simp only [nth_spec]
        by_cases hk : k < args.length
        · have h1 : args[k]? = some args[k] := List.getElem?_eq_getElem hk
          have h2 : us[k]? = some (us[k]'(by omega)) := Array.getElem?_eq_getElem _
          rw [h1, Array.getD_eq_getD_getElem?, Array.getElem?_append_left (by omega), h2]
          exact har k _ _ h1 h2
        · rw [List.getElem?_eq_none (by omega), Array.getD_eq_getD_getElem?, Array.getElem?_append_right (by omega)]
          have : ((Array.replicate (fn.ntmps - us.size) undef)[k - us.size]?).getD undef = undef := by
            rw [Array.getElem?_replicate]
            split <;> rfl
          rw [this]; rfl
      refine calls_of_wp hP hbody (Go.wp_mono (ih hsc hf0 m tm).1 fun e a' w' hp => ?_)
      obtain ⟨γ', s2, h1, h2, h3, h4, h5, h6⟩ := hp
      obtain ⟨v, k1, k2⟩ := iret_sim (vs := vs) (s := s2) hrs h2 h3 (by
        have : s2 = s' := by
          cases out <;> simp [Out.fin] at hfin <;> cases e <;> simp [Ends] at h1 <;> (subst hfin; exact h1.symm)
        rw [this]; exact hret)
      have hss : s2 = s' := by
        cases out <;> simp [Out.fin] at hfin <;> cases e <;> simp [Ends] at h1 <;> (subst hfin; exact h1.symm)
      subst hss
      have hend : ∃ v' γ'', Ending.returned v = Ending.returned v' ∧ RetI γ'' s2.mu.tick w' vs v' ∧ MR γ'' s2.mu.tick w' ∧ Ext γ μ w γ'' s2.mu.tick w' ∧ Tm s2.mu.tick [] :=
        ⟨v, γ', rfl, FR.ext k2 (.mtick γ' s2.mu w'), h3.mtick, h4.trans (.mtick γ' s2.mu w'), Mu.tick_tm h5⟩
      cases out <;> simp [Out.fin] at hfin <;> cases e <;> simp [Ends] at h1 <;> exact ⟨h6, v, k1, hend⟩
end Go.Proofs.Ytmbhpinkiffdgaa.Am
