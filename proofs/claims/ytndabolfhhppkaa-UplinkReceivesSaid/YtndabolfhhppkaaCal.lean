/- Calls: what is handed over, what comes back. No condition. -/
import Derived.Test.YtndabolfhhppkaaFrz
namespace Go.Proofs.Ytndabolfhhppkaa.Am
open Go Go.RowKit
variable {P : Program} {γ : Gh} {μ : Mu} {w : World} {nt : Nat} {D : List Nat} {fr : Fr} {a : Act}

/-- What is handed over. -/
def AR (st : Nat → Nat → Prop) (lo : Nat) (w : World) : FV → Value → Prop
  | .v (.c x), v => ZR st lo w x v
  | .v (.agg cs), v => ∃ vs : List Value, v = .agg vs.toArray ∧ ZRs st lo w cs vs
  | .cptr cs off, v => ∃ b, v = .pointer (some (at_ b off)) ∧ b < lo ∧ ∃ vs : Nat → Value, ∀ (j : Nat) (c : Cell), cs[j]? = some c → w.cell? (at_ b j) = some (vs j) ∧ ZR st lo w c (vs j)
  | _, _ => False
theorem AR.keep {st st' : Nat → Nat → Prop} {lo : Nat} {x : FV} {v : Value} (h : AR st lo w x v) (hs : ∀ b o, st b o → st' b o) : AR st' lo w x v := by
  have k : ∀ {c : Cell} {v : Value}, ZR st lo w c v → ZR st' lo w c v := fun h => h.keep (fun b o hb => ⟨hs b o hb, rfl⟩) (Nat.le_refl _) fun _ _ _ => rfl
  cases x with
  | v x =>
    cases x with
    | c x => exact k h
    | agg cs => obtain ⟨vs, e, h⟩ := h; exact ⟨vs, e, h.keep hs⟩
  | cptr cs off => obtain ⟨b, e, hb, vs, h⟩ := h; exact ⟨b, e, hb, vs, fun j c hc => ⟨(h j c hc).1, k (h j c hc).2⟩⟩
  | _ => exact h.elim
theorem AR.rel {x : FV} {v : Value} (h : AR γ.st γ.lo w x v) : FR γ μ w x v := by
  cases x with
  | v x =>
    cases x with
    | c x => exact .z h
    | agg cs => obtain ⟨vs, e, h⟩ := h; exact ⟨vs, e, h.1, fun j c v hc hv => .z (h.2 j c v hc hv)⟩
  | cptr cs off =>
    obtain ⟨b, e, hb, vs, h⟩ := h
    exact ⟨b, 0, vs, by rw [Nat.zero_add]; exact e, fun j c hc => by rw [Nat.zero_add]; exact ⟨.inl hb, (h j c hc).1, .z (h j c hc).2⟩⟩
  | _ => exact h.elim
def VD (st : Nat → Nat → Prop) (w : World) : Vl → Value → Prop
  | .c x, v => DR st w x v
  | .agg cs, v => ∃ vs : List Value, v = .agg vs.toArray ∧ DRs st w cs vs
theorem VD.vr {x : Vl} {v : Value} (h : VD γ.st w x v) : VR γ μ w x v := by
  cases x with
  | c x => exact .z (.dat h)
  | agg cs => obtain ⟨vs, e, h⟩ := h; exact ⟨vs, e, h.crs⟩
theorem VD.keep {st st' : Nat → Nat → Prop} {x : Vl} {v : Value} (h : VD st w x v) (hs : ∀ b o, st b o → st' b o) : VD st' w x v := by
  cases x with
  | c x => exact DR.keep h fun b o hb => ⟨hs b o hb, rfl⟩
  | agg cs => obtain ⟨vs, e, h⟩ := h; exact ⟨vs, e, h.keep fun b o hb => ⟨hs b o hb, rfl⟩⟩
/-- A row that its caller owns. -/
def FreshR (st : Nat → Nat → Prop) (lo : Nat) (w : World) (e z : Nat) (xs : List (List Cell)) (v : Value) : Prop :=
  (∀ r ∈ xs, r.length = z) ∧ 0 < z ∧ ((∃ A, v = .slice A 0 0 ∧ xs = []) ∨
   ∃ (g cap : Nat) (cur : Array Value), v = .slice (some (at_ g 0)) xs.length cap ∧ lo ≤ g ∧ w.heap[g]? = some (.cells cur e (0, 0)) ∧ xs.length ≤ cap ∧ cap ≤ maxLen ∧ cur.size = cap * z ∧
     (∀ (j : Nat) (x : Cell), xs.flatten[j]? = some x → ∃ v : Value, cur[j]? = some v ∧ DR st w x v) ∧ ∀ o, ¬ st g o)
def RetR (st : Nat → Nat → Prop) (lo : Nat) (w : World) (vs : List Vl) (v : Value) : Prop :=
  (∃ e z xs, vs = [.c (.fresh e z xs)] ∧ FreshR st lo w e z xs v) ∨ (∃ x, vs = [x] ∧ VD st w x v) ∨ (vs.length ≠ 1 ∧ ∃ us : List Value, v = .tuple us.toArray ∧ us.length = vs.length ∧ ∀ (j : Nat) (x : Vl) (u : Value), vs[j]? = some x → us[j]? = some u → VD st w x u)
def Callable (P : Program) (g : Nat) : Prop := ∃ fn c, P.funcs[g]? = some fn ∧ fn.body = some c ∧ (fn.name == "runtime.NumGoroutine") = false
def CallSim (P : Program) (g : Nat) (args : List FV) (vs : List Vl) : Prop :=
  Callable P g ∧ ∀ (w : World) (st : Nat → Nat → Prop) (us : Array Value), (∀ b o, st b o → b < w.heap.size) → us.size = args.length → (∀ (j : Nat) (x : FV) (v : Value), args[j]? = some x → us[j]? = some v → AR st w.heap.size w x v) →
    Calls P g us w fun e w' => ∃ v st', e = .returned v ∧ Below w.heap.size w w' ∧ (∀ b o, st b o → st' b o) ∧ (∀ b o, st' b o → st b o ∨ w.heap.size ≤ b) ∧ (∀ b o, st' b o → b < w'.heap.size) ∧ RetR st' w.heap.size w' vs v
/-- What a call in the caller's memory hands back. -/
def RetI (γ : Gh) (μ : Mu) (w : World) (vs : List Vl) (v : Value) : Prop := FR γ μ w (fvOf vs) v
def ICallSim (P : Program) (g : Nat) (args : List FV) (μ : Mu) (vs : List Vl) (μ' : Mu) : Prop :=
  Callable P g ∧ ∀ (γ : Gh) (w : World) (us : Array Value), us.size = args.length → (∀ (j : Nat) (x : FV) (v : Value), args[j]? = some x → us[j]? = some v → FR γ μ w x v) → MR γ μ w → Tm μ [] →
    Calls P g us w fun e w' => ∃ v γ', e = .returned v ∧ RetI γ' μ' w' vs v ∧ MR γ' μ' w' ∧ Ext γ μ w γ' μ' w' ∧ Tm μ' []
/-- What calls come to. -/
structure CC where
  c : Nat → List FV → List Vl → Prop
  i : Nat → List FV → Mu → List Vl → Mu → Prop
def CS (P : Program) : CC := ⟨CallSim P, ICallSim P⟩
/-- One step of a region, with calls as 'C' says. -/
inductive StepR (C : CC) (o : SOp) (s : St) : St → Prop where
  | off : gon s.fr o.gd = false → StepR C o s ⟨put s.fr o.dst .skip, s.mu⟩
  | op {v : FV} {μ : Mu} : gon s.fr o.gd = true → aop o.op (idOf s o.dst) s.fr s.mu = some (v, μ) → StepR C o s ⟨put s.fr o.dst v, μ⟩
  | call {f : Opd} {us : List (Opd × List Sh)} {g : Nat} {caps args : List FV} {vs : List Vl} : gon s.fr o.gd = true → o.op = .call f us →
      callee s f = some (g, caps) → trav (fun a => frzA s.mu a.2 (opd s.fr a.1)) us = some args → C.c g (args ++ caps) vs → StepR C o s (landed s o.dst (fzIds s f us) vs)
  | icall {f : Opd} {us : List Opd} {g : Nat} {caps : List FV} {vs : List Vl} {μ : Mu} : gon s.fr o.gd = true → o.op = .icall f us →
      icallee s f = some (g, caps) → C.i g (us.map (opd s.fr) ++ caps) s.mu.tick vs μ → StepR C o s ⟨put s.fr o.dst (fvOf vs), μ⟩

/-! ### What is handed over -/
theorem frzA_sim (m : MR γ μ w) {sh : List Sh} {x y : FV} {v : Value} (h : FR γ μ w x v) (hf : frzA μ sh x = some y) :
    ∃ γ', MR γ' (unsto μ (fidsA μ x)) w ∧ Ext γ μ w γ' (unsto μ (fidsA μ x)) w ∧ AR γ'.st w.heap.size w y v := by
  have own_ : ∀ {sh : Sh} {c d : Cell}, datC μ sh c = some d → ownC c = fids μ depth c := by
    intro sh c d hd
    cases c with
    | own i => exact (fids_own μ depth i).symm
    | fn g ids => cases sh <;> simp [datC, elemsC] at hd
    | _ => rfl
  cases x with
  | v x =>
    cases x with
    | c x =>
      have dat_ : ∀ {s : Sh}, (datC μ s x).map (fun y => FV.v (.c y)) = some y → ∃ γ', MR γ' (unsto μ (fidsA μ (.v (.c x)))) w ∧ Ext γ μ w γ' (unsto μ (fidsA μ (.v (.c x)))) w ∧ AR γ'.st w.heap.size w y v := by
        intro s hf
        obtain ⟨d, hd, e⟩ := some_pair hf
        subst e
        have := datC_sim m h hd
        rw [own_ hd] at this
        obtain ⟨γ', m', e', d'⟩ := this
        exact ⟨γ', m', e', .dat d'⟩
      simp only [frzA] at hf
      split at hf
      · obtain ⟨d, hd, e⟩ := some_pair hf
        subst e
        exact frz_sim m h hd
      · exact dat_ hf
      · cases hf
    | agg cs =>
      simp only [frzA] at hf
      obtain ⟨ds, hd, e⟩ := some_pair hf
      subst e
      obtain ⟨vs, rfl, hcs⟩ := inv_agg h
      obtain ⟨γ', m', e', d'⟩ := datL_sim m hcs hd
      exact ⟨γ', m', e', vs, rfl, d'.1, fun j c v hc hv => .dat (d'.2 j c v hc hv)⟩
  | _ => simp [frzA] at hf
theorem frzA_unsto (μ : Mu) (l : List Id) (sh : List Sh) (x : FV) : frzA (unsto μ l) sh x = frzA μ sh x := by
  have h1 : frz (unsto μ l) depth = frz μ depth := funext (frz_unsto _ _ _)
  have h2 : datL (unsto μ l) = datL μ := funext fun sh => funext fun cs => datL_unsto μ l sh cs
  have h3 : datC (unsto μ l) = datC μ := funext fun sh => funext fun cs => datC_unsto μ l sh cs
  unfold frzA
  simp only [h1, h2, h3]
theorem fidsA_unsto (μ : Mu) (l : List Id) (x : FV) : fidsA (unsto μ l) x = fidsA μ x := by
  have h1 : fids (unsto μ l) depth = fids μ depth := funext (fids_unsto _ _ _)
  unfold fidsA
  simp only [h1]
theorem args_sim : ∀ {us : List (Opd × List Sh)} {xs : List Operand} {ts : List TypeId} {args : List FV} {γ : Gh} {μ : Mu}, AFR γ μ w nt fr a → MR γ μ w → args? P xs ts = some us → trav (fun a => frzA μ a.2 (opd fr a.1)) us = some args →
    ∃ γ', MR γ' (unsto μ (us.flatMap fun a => fidsA μ (opd fr a.1))) w ∧ Ext γ μ w γ' (unsto μ (us.flatMap fun a => fidsA μ (opd fr a.1))) w ∧ xs.length = args.length ∧
      ∀ (j : Nat) (y : FV) (x : Operand), args[j]? = some y → xs[j]? = some x → AR γ'.st w.heap.size w y (a.eval x)
  | [], xs, ts, args, γ, μ, hf, m, hu, ht => by
    simp only [trav, Option.some.injEq] at ht; subst ht
    have : xs = [] := by
      cases xs with
      | nil => rfl
      | cons x xs =>
        cases ts with
        | nil => simp [args?] at hu
        | cons t ts => simp only [args?] at hu; split at hu <;> cases hu
    subst this
    exact ⟨γ, m.unst _, .unst _, rfl, fun j y x hy => by simp at hy⟩
  | u :: us, xs, ts, args, γ, μ, hf, m, hu, ht => by
    simp only [trav] at ht
    split at ht
    case h_2 => cases ht
    rename_i y ys h1 h2
    injection ht with ht; subst ht
    cases xs with
    | nil => cases ts <;> simp [args?] at hu
    | cons x xs =>
      cases ts with
      | nil => simp [args?] at hu
      | cons t ts =>
        simp only [args?] at hu
        split at hu
        case h_2 => cases hu
        rename_i o h l g1 g2 g3
        injection hu with hu
        injection hu with hu1 hu2
        subst hu1; subst hu2
        obtain ⟨γ1, m1, e1, d1⟩ := frzA_sim m (opd_rel hf g1) h1
        have hf1 : AFR γ1 (unsto μ (fidsA μ (opd fr o))) w nt fr a := ⟨hf.sz, fun s => (hf.at_ s).ext e1⟩
        obtain ⟨γ2, m2, e2, hl, d2⟩ := args_sim hf1 m1 g3 (by simp only [frzA_unsto]; exact h2)
        simp only [fidsA_unsto] at m2 e2
        rw [unsto_unsto] at m2 e2
        refine ⟨γ2, ?_, ?_, by simp [hl], fun j y' x' hy hx => ?_⟩
        · simpa using m2
        · simpa using e1.trans e2
        · cases j with
          | zero => simp at hy hx; subst hy; subst hx; exact d1.keep fun b o hb => (e2.st b o hb).1
          | succ j => exact d2 j y' x' (by simpa using hy) (by simpa using hx)
/-! ### What comes back -/
theorem MR.back (m : MR γ μ w) {w' : World} {st' : Nat → Nat → Prop} (hb : Below w.heap.size w w') (h1 : ∀ b o, γ.st b o → st' b o) (h2 : ∀ b o, st' b o → γ.st b o ∨ w.heap.size ≤ b) (h3 : ∀ b o, st' b o → b < w'.heap.size) :
    MR { γ with st := st' } μ w' ∧ Ext γ μ w { γ with st := st' } μ w' := by
  have e : Ext γ μ w { γ with st := st' } μ w' :=
    ⟨rfl, fun b o h => ⟨h1 b o h, hb.cell (p := at_ b o) (m.stlt b o h)⟩, fun b o h => (h2 b o h).imp id fun h => Nat.le_trans m.lo h, hb.mono m.lo, fun _ h => ⟨h, rfl⟩, fun _ a h => ⟨rfl, a, h, .inr ⟨rfl, rfl, rfl⟩⟩, fun _ h => ⟨h, rfl⟩⟩
  refine ⟨⟨Nat.le_trans m.lo hb.size, h3, fun i cs h => ?_, fun i q h => ?_, m.bb, m.ba, m.aa, m.sa, m.mm.keep rfl rfl fun b en c h => (hb.block _ (lt_of_some h)).trans h⟩, e⟩
  · obtain ⟨k1, k2, vs, T, k3, k4⟩ := m.box i cs h
    refine ⟨k1, fun o ho => ?_, vs, T, (hb.block _ (lt_of_some k3)).trans k3, k4.ext e⟩
    rcases h2 _ _ ho with h | h
    · exact k2 o h
    · have := lt_of_some k3; exact absurd h (by simp only; omega)
  · rcases m.arr i q h with hd | ⟨k1, k2, k3⟩
    · exact .inl (hd.keep rfl hb.size)
    refine .inr ⟨k1, k2, k3.imp id ?_⟩
    rintro ⟨g, cap, cur, n1, n2, n3, n4, n5, n6, n7, n8, n9⟩
    have hg := lt_of_some n3
    have hno : ∀ o, st' g o → γ.st g o := fun o h => (h2 _ _ h).resolve_right (by omega)
    exact ⟨g, cap, cur, n1, n2, (hb.block _ hg).trans n3, n4, n5, n6, fun j x hj => (n7 j x hj).imp fun v hv => ⟨hv.1, hv.2.keep e.st⟩, fun h o ho hs => n8 h o ho (hno o hs), fun h o hs => n9 h o (hno o hs)⟩
theorem fvOf_rel {vs : List Vl} {v : Value} {lo : Nat} (h : RetR γ.st lo w vs v) (hn : ∀ e z xs, vs ≠ [.c (.fresh e z xs)]) : FR γ μ w (fvOf vs) v := by
  rcases h with ⟨e, z, xs, rfl, _⟩ | ⟨x, rfl, h⟩ | ⟨hl, us, rfl, hu, h⟩
  · exact absurd rfl (hn _ _ _)
  · exact h.vr
  · have : VRs γ μ w vs us := ⟨hu, fun j x v hx hv => (h j x v hx hv).vr⟩
    cases vs with
    | nil => have : us = [] := List.eq_nil_of_length_eq_zero hu; subst this; rfl
    | cons x vs =>
      cases vs with
      | nil => simp at hl
      | cons y vs => exact ⟨us, rfl, this⟩
end Go.Proofs.Ytndabolfhhppkaa.Am
