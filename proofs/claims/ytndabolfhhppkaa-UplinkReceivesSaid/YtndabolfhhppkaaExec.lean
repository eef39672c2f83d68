/- An evaluator of the abstract machine, for calls at known arguments; what it answers is so. No condition. -/
import Derived.Test.YtndabolfhhppkaaAm
import Derived.KernelRfl
namespace Go.Proofs.Ytndabolfhhppkaa.Am
open Go

def ev (F : Nat → Option SFun) : Nat → Task → Option Out
  | 0, _ => none
  | n + 1, .code c s =>
    match c with
    | .skip => some (.norm s)
    | .ops l =>
      match ev F n (.ops l s) with
      | some (.norm s') => some (.norm s'.tick)
      | _ => none
    | .seq a b =>
      match ev F n (.code a s) with
      | some (.norm s') => ev F n (.code b s')
      | some o => if o.abrupt = true then some o else none
      | none => none
    | .cond c x y =>
      match opd s.fr c with
      | .v (.c (.val (.bool b))) => ev F n (.code (if b = true then x else y) s)
      | _ => none
    | .block id c => (ev F n (.code c s)).map (Out.blk id)
    | .loop c =>
      match ev F n (.code c s) with
      | some (.norm s') => ev F n (.code (.loop c) s')
      | some o => if o.abrupt = true then some o else none
      | none => none
    | .exit k => some (.exit k s)
    | .ret => some (.ret s)
    | .clone _ _ => none
    | .spec _ _ _ => none
  | _ + 1, .ops [] s => some (.norm s)
  | n + 1, .ops (o :: r) s =>
    match gon s.fr o.gd with
    | false => ev F n (.ops r ⟨put s.fr o.dst .skip, s.mu⟩)
    | true =>
      match o.op with
      | .call f us =>
        match callee s f, trav (fun a => frzA s.mu a.2 (opd s.fr a.1)) us with
        | some (g, caps), some args =>
          match ev F n (.call g (args ++ caps)) with
          | some (.res vs) => ev F n (.ops r (landed s o.dst (fzIds s f us) vs))
          | _ => none
        | _, _ => none
      | .icall f us =>
        match icallee s f with
        | some (g, caps) =>
          match ev F n (.icall g (us.map (opd s.fr) ++ caps) s.mu.tick) with
          | some (.ires vs μ) => ev F n (.ops r ⟨put s.fr o.dst (fvOf vs), μ⟩)
          | _ => none
        | none => none
      | op =>
        match aop op (idOf s o.dst) s.fr s.mu with
        | some (v, μ) => ev F n (.ops r ⟨put s.fr o.dst v, μ⟩)
        | none => none
  | n + 1, .call g args =>
    match F g with
    | none => none
    | some f =>
      match f.code, args with
      | .clone e z, [.v (.c (.ro z' ys))] => if z' = z ∧ ys.length ≤ lim then some (.res [.c (.fresh e z ys)]) else none
      | code, args =>
        match ev F n (.code code (entry args)) with
        | some out =>
          match out.fin with
          | some s' => (retOf f.own f.res s').map .res
          | none => none
        | none => none
  | n + 1, .icall g args μ =>
    match F g with
    | none => none
    | some f =>
      match f.code, args with
      | .clone e z, [x] =>
        match elems μ z x with
        | some ys => if ys.length ≤ lim then some (.ires [.c (.own (μ.t + 1, 7))] (mkRow (mkRow μ.tick (μ.t + 1, 5) ⟨e, z, []⟩ true []) (μ.t + 1, 7) ⟨e, z, ys⟩ true [(μ.t + 1, 5)]).tick) else none
        | none => none
      | .spec k e z, args => (specStep k e z args μ).map fun r => .ires r.1 r.2
      | code, args =>
        match ev F n (.code code ⟨fun k => (nth args k).getD .skip, μ⟩) with
        | some out =>
          match out.fin with
          | some s' => (trav (iret1 s') f.res).map fun vs => .ires vs s'.mu.tick
          | none => none
        | none => none
theorem ev_sound {F : Nat → Option SFun} : ∀ {n : Nat} {t : Task} {out : Out}, ev F n t = some out → Ev F t out := by
  intro n
  induction n with
  | zero => intro t out h; simp [ev] at h
  | succ n ih =>
    intro t out h
    cases t with
    | code c s =>
      cases c with
      | skip => simp only [ev, Option.some.injEq] at h; subst h; exact .skip s
      | ops l =>
        simp only [ev] at h
        split at h
        · rename_i s' hs; injection h with h; subst h; exact .ops (ih hs)
        · cases h
      | seq a b =>
        simp only [ev] at h
        split at h
        · rename_i s' hs; exact .seqn (ih hs) (ih h)
        · rename_i o _ hs
          split at h
          · rename_i ha; injection h with h; subst h; exact .seqx (ih hs) ha
          · cases h
        · cases h
      | cond c x y =>
        simp only [ev] at h
        split at h
        · rename_i b hb; exact .cond hb (ih h)
        · cases h
      | block id c =>
        simp only [ev] at h
        cases hc : ev F n (.code c s) with
        | none => rw [hc] at h; cases h
        | some o => rw [hc] at h; injection h with h; subst h; exact .block (ih hc)
      | loop c =>
        simp only [ev] at h
        split at h
        · rename_i s' hs; exact .loopn (ih hs) (ih h)
        · rename_i o _ hs
          split at h
          · rename_i ha; injection h with h; subst h; exact .loopx (ih hs) ha
          · cases h
        · cases h
      | exit k => simp only [ev, Option.some.injEq] at h; subst h; exact .exit k s
      | ret => simp only [ev, Option.some.injEq] at h; subst h; exact .ret s
      | clone e z => simp [ev] at h
      | spec k e z => simp [ev] at h
    | ops l s =>
      cases l with
      | nil => simp only [ev, Option.some.injEq] at h; subst h; exact .nil s
      | cons o r =>
        simp only [ev] at h
        split at h
        · rename_i hg; exact .off hg (ih h)
        · rename_i hg
          split at h
          · rename_i f us ho
            split at h
            · rename_i g caps args hc ha
              split at h
              · rename_i vs hv; exact .call hg ho hc ha (ih hv) (ih h)
              · cases h
            · cases h
          · rename_i f us ho
            split at h
            · rename_i g caps hc
              split at h
              · rename_i vs μ hv; exact .icall hg ho hc (ih hv) (ih h)
              · cases h
            · cases h
          · split at h
            · rename_i v μ ha; exact .op hg ha (ih h)
            · cases h
    | call g args =>
      simp only [ev] at h
      split at h
      · cases h
      · rename_i f hf
        split at h
        · rename_i e z z' ys hc
          split at h
          · rename_i hl; obtain ⟨rfl, hl⟩ := hl; injection h with h; subst h; exact .ccl hf hc hl
          · cases h
        · split at h
          · rename_i o ho
            split at h
            · rename_i s' hs
              cases hr : retOf f.own f.res s' with
              | none => rw [hr] at h; cases h
              | some vs => rw [hr] at h; injection h with h; subst h; exact .fn hf (ih ho) hs hr
            · cases h
          · cases h
    | icall g args μ =>
      simp only [ev] at h
      split at h
      · cases h
      · rename_i f hf
        split at h
        · rename_i e z x hc
          split at h
          · rename_i ys he
            split at h
            · rename_i hl; injection h with h; subst h; exact .icl hf hc he hl
            · cases h
          · cases h
        · rename_i k e z args hc
          obtain ⟨r, hr, e2⟩ := Option.map_eq_some_iff.1 h
          obtain ⟨vs, μ'⟩ := r
          subst e2
          exact .spi hf hc hr
        · split at h
          · rename_i o ho
            split at h
            · rename_i s' hs
              cases hr : trav (iret1 s') f.res with
              | none => rw [hr] at h; cases h
              | some vs => rw [hr] at h; injection h with h; subst h; exact .ifn hf (ih ho) hs hr
            · cases h
          · cases h
theorem fc_ev {F : Nat → Option SFun} {n g : Nat} {args : List FV} {vs : List Vl} (h : ev F n (.call g args) = some (.res vs)) (K : List Vl → Prop) : FC F g args K ↔ K vs := FC.of (ev_sound h) K
theorem ic_ev {F : Nat → Option SFun} {n g : Nat} {args : List FV} {μ μ' : Mu} {vs : List Vl} (h : ev F n (.icall g args μ) = some (.ires vs μ')) : Ev F (.icall g args μ) (.ires vs μ') := ev_sound h
end Go.Proofs.Ytndabolfhhppkaa.Am
