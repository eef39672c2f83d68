/- Operations that may be taken either way. No condition. -/
import Derived.Test.YtndabolfhhppkaaStp
namespace Go.Proofs.Ytndabolfhhppkaa.Am
open Go Go.RowKit
variable {P : Program} {γ : Gh} {μ ν : Mu} {w : World} {nt : Nat} {D : List Nat} {fr fr' : Fr} {a : Act}

/-! ### What an operation sees of the frame -/
theorem bld_agree : ∀ {ps : List (Nat × Nat × Opd)} {z : List Cell}, (∀ p ∈ ps, opd fr p.2.2 = opd fr' p.2.2) → bld fr z ps = bld fr' z ps
  | [], z, _ => rfl
  | (o, sz, x) :: r, z, h => by
    simp only [bld, h (o, sz, x) (by simp)]
    have ih : ∀ z, bld fr z r = bld fr' z r := fun z => bld_agree fun p hp => h p (by simp [hp])
    simp only [ih]
theorem bldS_agree {sh : List Sh} {sz : Nat} : ∀ {ps : List (Nat × Opd)} {z : List (List Cell)}, (∀ p ∈ ps, opd fr p.2 = opd fr' p.2) → bldS fr μ sh sz z ps = bldS fr' μ sh sz z ps
  | [], z, _ => rfl
  | (k, x) :: r, z, h => by
    simp only [bldS, h (k, x) (by simp)]
    have ih : ∀ z, bldS fr μ sh sz z r = bldS fr' μ sh sz z r := fun z => bldS_agree fun p hp => h p (by simp [hp])
    simp only [ih]
theorem trav_congr {α β : Type} {f g : α → Option β} : ∀ {l : List α}, (∀ x ∈ l, f x = g x) → trav f l = trav g l
  | [], _ => rfl
  | x :: l, h => by
    have ih : trav f l = trav g l := trav_congr fun y hy => h y (List.mem_cons_of_mem _ hy)
    simp only [trav, h x (by simp), ih]
theorem flatMap_congr' {α β : Type} {f g : α → List β} : ∀ {l : List α}, (∀ x ∈ l, f x = g x) → l.flatMap f = l.flatMap g
  | [], _ => rfl
  | x :: l, h => by
    have ih : l.flatMap f = l.flatMap g := flatMap_congr' fun y hy => h y (List.mem_cons_of_mem _ hy)
    simp only [List.flatMap_cons, h x (by simp), ih]
theorem bnd_agree {d : Nat} {o : Option Opd} (h : ∀ x, o = some x → opd fr x = opd fr' x) : bnd fr d o = bnd fr' d o := by
  cases o with
  | none => rfl
  | some x => simp only [bnd, h x rfl]
theorem aop_agree {o : AOp} {id : Id} (h : ∀ x ∈ opds o, opd fr x = opd fr' x) : aop o id fr μ = aop o id fr' μ := by
  cases o <;> simp only [opds, List.mem_cons, List.not_mem_nil, or_false, forall_eq_or_imp, forall_eq, List.mem_map, List.mem_append] at h
  case mkfn g caps => simp only [aop, trav_congr (f := fun x => capOf (opd fr x)) (g := fun x => capOf (opd fr' x)) fun x hx => by rw [h x hx]]
  case build z parts => simp only [aop, bld_agree (fr := fr) (fr' := fr') fun p hp => h _ ⟨p, hp, rfl⟩]
  case bsl e sz sh z parts =>
    have h' : ∀ p ∈ parts, opd fr p.2 = opd fr' p.2 := fun p hp => h _ ⟨p, hp, rfl⟩
    simp only [aop, bldS_agree (fr := fr) (fr' := fr') h', flatMap_congr' (l := parts) (f := fun p => ((cells (opd fr p.2)).getD []).flatMap ownC) (g := fun p => ((cells (opd fr' p.2)).getD []).flatMap ownC) fun p hp => by rw [h' p hp]]
  case slc sz x lo hi mx =>
    obtain ⟨hx, hr⟩ := h
    have h1 : ∀ x, lo = some x → opd fr x = opd fr' x := fun x e => hr x (.inl (.inl (by simp [e])))
    have h2 : ∀ x, hi = some x → opd fr x = opd fr' x := fun x e => hr x (.inl (.inr (by simp [e])))
    have h3 : ∀ x, mx = some x → opd fr x = opd fr' x := fun x e => hr x (.inr (by simp [e]))
    have h4 : (hi.bind fun h => nat? (opd fr h)) = (hi.bind fun h => nat? (opd fr' h)) := by
      cases hi with
      | none => rfl
      | some y => simp only [Option.bind_some, h2 y rfl]
    simp only [aop, hx, bnd_agree h1, bnd_agree h2, h4]
    cases mx with
    | none => rfl
    | some m => simp only [h3 m rfl]
  case call f us => rfl
  case icall f us => rfl
  case stn so d sz x =>
    obtain ⟨h1, h2⟩ := h
    have h1 : fr d = fr' d := h1
    simp only [aop, h1, h2]
  all_goals simp only [aop, h]
theorem gon_agree {g : Option (Nat × Bool)} (h : ∀ q, g = some q → fr q.1 = fr' q.1) : gon fr g = gon fr' g := by
  cases g with
  | none => rfl
  | some q => obtain ⟨s, b⟩ := q; simp only [gon, h _ rfl]
theorem callee_agree {f : Opd} (h : opd fr f = opd fr' f) : callee ⟨fr, μ⟩ f = callee ⟨fr', μ⟩ f := by simp only [callee, h]

/-! ### What it does to the memory -/
inductive Dl where
  | no
  | box (id : Id) (cs : List Cell)
  | row (fz : List Id) (id : Id) (a : Arr) (sto : Bool) (old : List Id)
  | uns (l : List Id)
def Dl.ap : Dl → Mu → Mu
  | .no, μ => μ
  | .box id cs, μ => { μ with box := upd μ.box id (some cs) }
  | .row fz id a sto old, μ => mkRow (unsto μ fz) id a sto old
  | .uns l, μ => unsto μ l
def Dl.ids : Dl → List Id
  | .box id _ => [id]
  | .row _ id _ _ _ => [id]
  | _ => []
def Dl.refs : Dl → List Id
  | .row fz _ _ _ old => fz ++ old
  | .uns l => l
  | _ => []
def Dl.olds : Dl → List Id
  | .row _ _ _ _ old => old
  | _ => []
theorem mu_ext {μ ν : Mu} (h1 : ∀ i, μ.box i = ν.box i) (h2 : ∀ i, μ.arr i = ν.arr i) (h3 : ∀ i, μ.app i = ν.app i) (h4 : ∀ i, μ.sto i = ν.sto i) (h5 : μ.t = ν.t) (h6 : ∀ i, μ.mp i = ν.mp i) : μ = ν := by
  cases μ; cases ν
  simp only [Mu.mk.injEq]
  exact ⟨funext h1, funext h2, funext h3, funext h4, h5, funext h6⟩
theorem Dl.comm (p q : Dl) (μ : Mu) (h1 : ∀ i ∈ p.ids, i ∉ q.ids ∧ i ∉ q.refs) (h2 : ∀ i ∈ q.ids, i ∉ p.refs) : p.ap (q.ap μ) = q.ap (p.ap μ) := by
  apply mu_ext
  · intro i
    cases p <;> cases q <;> simp only [Dl.ap, mkRow, unsto, upd]
    rename_i id cs id' cs'
    have : id ≠ id' := fun e => (h1 id (by simp [Dl.ids])).1 (by simp [Dl.ids, e])
    by_cases h : i = id <;> by_cases h' : i = id' <;> simp [h, h'] <;> simp_all
  · intro i
    cases p <;> cases q <;> simp only [Dl.ap, mkRow, unsto, upd]
    rename_i fz id ar st old fz' id' ar' st' old'
    have : id ≠ id' := fun e => (h1 id (by simp [Dl.ids])).1 (by simp [Dl.ids, e])
    by_cases h : i = id <;> by_cases h' : i = id' <;> simp [h, h'] <;> simp_all
  · intro i
    cases p <;> cases q <;> simp only [Dl.ap, mkRow, unsto, upd]
    rename_i fz id ar st old fz' id' ar' st' old'
    have h0 : id ≠ id' := fun e => (h1 id (by simp [Dl.ids])).1 (by simp [Dl.ids, e])
    have h3 : id ∉ old' := fun e => (h1 id (by simp [Dl.ids])).2 (by simp [Dl.refs, e])
    have h4 : id' ∉ old := fun e => h2 id' (by simp [Dl.ids]) (by simp [Dl.refs, e])
    by_cases h : i = id
    · subst h; simp [h0, h3]
    · by_cases h' : i = id'
      · subst h'; simp [h, h4]
      · simp [h, h', Bool.and_assoc, Bool.and_comm, Bool.and_left_comm]
  · intro i
    cases p with
    | no => rfl
    | box id cs => cases q <;> rfl
    | uns l =>
      cases q with
      | no => rfl
      | box _ _ => rfl
      | uns l' => simp [Dl.ap, unsto, Bool.and_assoc, Bool.and_comm, Bool.and_left_comm]
      | row fz' id' ar' st' old' =>
        have h4 : id' ∉ l := fun e => h2 id' (by simp [Dl.ids]) (by simp [Dl.refs, e])
        by_cases h' : i = id'
        · subst h'; simp [Dl.ap, unsto, mkRow, h4]
        · simp [Dl.ap, unsto, mkRow, h', Bool.and_assoc, Bool.and_comm, Bool.and_left_comm]
    | row fz id ar st old =>
      cases q with
      | no => rfl
      | box _ _ => rfl
      | uns l' =>
        have h4 : id ∉ l' := fun e => (h1 id (by simp [Dl.ids])).2 (by simp [Dl.refs, e])
        by_cases h' : i = id
        · subst h'; simp [Dl.ap, unsto, mkRow, h4]
        · simp [Dl.ap, unsto, mkRow, h', Bool.and_assoc, Bool.and_comm, Bool.and_left_comm]
      | row fz' id' ar' st' old' =>
        have h0 : id ≠ id' := fun e => (h1 id (by simp [Dl.ids])).1 (by simp [Dl.ids, e])
        have h3 : id ∉ old' := fun e => (h1 id (by simp [Dl.ids])).2 (by simp [Dl.refs, e])
        have h3' : id ∉ fz' := fun e => (h1 id (by simp [Dl.ids])).2 (by simp [Dl.refs, e])
        have h4 : id' ∉ old := fun e => h2 id' (by simp [Dl.ids]) (by simp [Dl.refs, e])
        have h4' : id' ∉ fz := fun e => h2 id' (by simp [Dl.ids]) (by simp [Dl.refs, e])
        by_cases h : i = id
        · subst h; simp [Dl.ap, unsto, mkRow, h0, h3, h3']
        · by_cases h' : i = id'
          · subst h'; simp [Dl.ap, unsto, mkRow, h, h4, h4']
          · simp [Dl.ap, unsto, mkRow, h, h', Bool.and_assoc, Bool.and_comm, Bool.and_left_comm]
  · cases p <;> cases q <;> rfl
  · intro i; cases p <;> cases q <;> rfl
structure Sub (μ ν : Mu) : Prop where
  t : ν.t = μ.t
  box : ∀ i cs, μ.box i = some cs → ν.box i = some cs
  arr : ∀ i a, μ.arr i = some a → ν.arr i = some a
theorem Sub.refl (μ : Mu) : Sub μ μ := ⟨rfl, fun _ _ h => h, fun _ _ h => h⟩
theorem Sub.trans {μ ν ξ : Mu} (h : Sub μ ν) (k : Sub ν ξ) : Sub μ ξ := ⟨k.t.trans h.t, fun i c e => k.box i c (h.box i c e), fun i c e => k.arr i c (h.arr i c e)⟩
theorem Dl.sub {p : Dl} (h : ∀ i ∈ p.ids, μ.box i = none ∧ μ.arr i = none) : Sub μ (p.ap μ) := by
  cases p with
  | no => exact .refl _
  | uns l => exact ⟨rfl, fun _ _ h => h, fun _ _ h => h⟩
  | box id cs =>
    refine ⟨rfl, fun i c e => ?_, fun _ _ h => h⟩
    have : i ≠ id := fun e' => by rw [e', (h id (by simp [Dl.ids])).1] at e; cases e
    simpa [Dl.ap, upd, this] using e
  | row fz id ar st old =>
    refine ⟨rfl, fun _ _ h => h, fun i c e => ?_⟩
    have : i ≠ id := fun e' => by rw [e', (h id (by simp [Dl.ids])).2] at e; cases e
    simpa [Dl.ap, mkRow, unsto, upd, this] using e
theorem Dl.app_le {p : Dl} {i : Id} (hi : i ∉ p.ids) (h : (p.ap μ).app i = true) : μ.app i = true := by
  cases p with
  | no => exact h
  | uns l => exact h
  | box id cs => exact h
  | row fz id ar st old =>
    have hne : i ≠ id := fun e => hi (by simp [Dl.ids, e])
    simp [Dl.ap, mkRow, unsto, hne] at h
    exact h.1
theorem Dl.app_eq {p : Dl} {i : Id} (hi : i ∉ p.ids) (ho : p.olds = []) : (p.ap μ).app i = μ.app i := by
  cases p with
  | no => rfl
  | uns l => rfl
  | box id cs => rfl
  | row fz id ar st old =>
    have hne : i ≠ id := fun e => hi (by simp [Dl.ids, e])
    simp only [Dl.olds] at ho
    subst ho
    simp [Dl.ap, mkRow, unsto, hne]
theorem Dl.isSome {p : Dl} {i : Id} (h : ((p.ap μ).box i).isSome = true ∨ ((p.ap μ).arr i).isSome = true) : ((μ.box i).isSome = true ∨ (μ.arr i).isSome = true) ∨ i ∈ p.ids := by
  by_cases hi : i ∈ p.ids
  · exact .inr hi
  · refine .inl ?_
    cases p with
    | no => exact h
    | uns l => exact h
    | box id cs => simp [Dl.ids] at hi; simpa [Dl.ap, upd, hi] using h
    | row fz id ar st old => simp [Dl.ids] at hi; simpa [Dl.ap, mkRow, unsto, upd, hi] using h
end Go.Proofs.Ytndabolfhhppkaa.Am
