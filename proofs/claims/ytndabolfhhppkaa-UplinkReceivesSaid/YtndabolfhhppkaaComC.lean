/- Operations that may be taken either way: what is there already is read already. No condition. -/
import Derived.Test.YtndabolfhhppkaaComB
namespace Go.Proofs.Ytndabolfhhppkaa.Am
open Go Go.RowKit
variable {P : Program} {γ : Gh} {μ ν : Mu} {w : World} {nt : Nat} {D : List Nat} {fr fr' : Fr} {a : Act}

def ExC (μ : Mu) : Cell → Prop
  | .own i => (μ.arr i).isSome = true
  | .fn _ ids => ∀ i ∈ ids, (μ.box i).isSome = true
  | _ => True
def ExV (μ : Mu) : FV → Prop
  | .v (.c x) => ExC μ x
  | .v (.agg cs) => ∀ c ∈ cs, ExC μ c
  | .ptr i _ => (μ.box i).isSome = true
  | .optr i _ _ => (μ.arr i).isSome = true
  | .otl i _ => (μ.arr i).isSome = true
  | _ => True
def ExB (μ : Mu) : Prop := ∀ i cs, μ.box i = some cs → ∀ c ∈ cs, ExC μ c
theorem CR.ex {c : Cell} {v : Value} (h : CR γ μ w c v) : ExC μ c := by
  cases h with
  | z h =>
    cases h with
    | dat h => cases h <;> trivial
    | nil => trivial
    | clo _ _ _ _ => trivial
  | own h => exact h
  | fn h => exact h
  | any => trivial
  | anym => trivial
  | mref _ => trivial
theorem CRs.ex {cs : List Cell} {vs : List Value} (h : CRs γ μ w cs vs) : ∀ c ∈ cs, ExC μ c := fun c hc => by
  obtain ⟨j, hj⟩ := List.getElem?_of_mem hc
  obtain ⟨v, _, hv⟩ := h.get hj
  exact hv.ex
theorem FR.ex {x : FV} {v : Value} (h : FR γ μ w x v) : ExV μ x := by
  cases x with
  | v x =>
    cases x with
    | c x => exact CR.ex h
    | agg cs => obtain ⟨vs, _, h⟩ := h; exact h.ex
  | ptr i off => exact h.1
  | optr i k off => obtain ⟨_, _, _, a, h1, _⟩ := h; simp [ExV, h1]
  | otl i lo => obtain ⟨_, a, h1, _⟩ := h; simp [ExV, h1]
  | _ => trivial
theorem okO_ex {x : Opd} (h : okO x = true) (hf : ∀ s, ExV μ (fr s)) : ExV μ (opd fr x) := by
  have c_ : ∀ c, okC c = true → ExC μ c := fun c hc => by cases c <;> simp [okC] at hc <;> trivial
  cases x with
  | t s => exact hf s
  | k x =>
    cases x with
    | c x => exact c_ x h
    | agg cs => exact fun c hc => c_ c (List.all_eq_true.1 h c hc)
theorem MR.exB (m : MR γ μ w) : ExB μ := fun i cs h => by
  obtain ⟨_, _, vs, T, _, h4⟩ := m.box i cs h
  exact h4.ex
theorem arr_bwd (h : Sub μ ν) {i : Id} (hi : (μ.arr i).isSome = true) : ν.arr i = μ.arr i := by
  obtain ⟨a, ha⟩ := Option.isSome_iff_exists.1 hi
  rw [ha, h.arr i a ha]
theorem box_bwd (h : Sub μ ν) {i : Id} (hi : (μ.box i).isSome = true) : ν.box i = μ.box i := by
  obtain ⟨a, ha⟩ := Option.isSome_iff_exists.1 hi
  rw [ha, h.box i a ha]
theorem elemsC_bwd (h : Sub μ ν) {z : Nat} {c : Cell} (hc : ExC μ c) : elemsC ν z c = elemsC μ z c := by
  cases c with
  | own i => simp only [elemsC, arr_bwd h hc]
  | _ => rfl
theorem datC_bwd (h : Sub μ ν) {sh : Sh} {c : Cell} (hc : ExC μ c) : datC ν sh c = datC μ sh c := by
  cases sh with
  | d => cases c <;> rfl
  | f => cases c <;> rfl
  | s e z =>
    have : (elemsC ν z c).map (Cell.ro z) = (elemsC μ z c).map (.ro z) := by rw [elemsC_bwd h hc]
    cases c <;> exact this
theorem datL_bwd (h : Sub μ ν) : ∀ {sh : List Sh} {cs : List Cell}, (∀ c ∈ cs, ExC μ c) → datL ν sh cs = datL μ sh cs
  | [], [], _ => rfl
  | [], _ :: _, _ => rfl
  | _ :: _, [], _ => rfl
  | s :: sh, c :: cs, hc => by simp only [datL, datC_bwd h (hc c (by simp)), datL_bwd h fun d hd => hc d (List.mem_cons_of_mem _ hd)]
theorem elems_bwd (h : Sub μ ν) {z : Nat} {x : FV} (hx : ExV μ x) : elems ν z x = elems μ z x := by
  cases x with
  | v x => cases x with
    | c x => exact elemsC_bwd h hx
    | agg cs => rfl
  | _ => rfl
theorem cells_ex {x : FV} (hx : ExV μ x) {cs : List Cell} (hc : cells x = some cs) : ∀ c ∈ cs, ExC μ c := by
  cases x with
  | v x => cases x with
    | c x => simp only [cells, Option.some.injEq] at hc; subst hc; intro c hc; simp at hc; subst hc; exact hx
    | agg cs => simp only [cells, Option.some.injEq] at hc; subst hc; exact hx
  | _ => simp [cells] at hc
theorem bldS_bwd (h : Sub μ ν) {sh : List Sh} {sz : Nat} : ∀ {ps : List (Nat × Opd)} {z : List (List Cell)}, (∀ p ∈ ps, ExV μ (opd fr p.2)) → bldS fr ν sh sz z ps = bldS fr μ sh sz z ps
  | [], z, _ => rfl
  | (k, x) :: ps, z, hp => by
    have ih : ∀ z, bldS fr ν sh sz z ps = bldS fr μ sh sz z ps := fun z => bldS_bwd h fun p hp' => hp p (List.mem_cons_of_mem _ hp')
    have hx := hp (k, x) (by simp)
    have : (cells (opd fr x)).bind (datL ν sh) = (cells (opd fr x)).bind (datL μ sh) := by
      cases hc : cells (opd fr x) with
      | none => rfl
      | some cs => exact datL_bwd h (cells_ex hx hc)
    simp only [bldS, this, ih]
theorem frz_bwd (h : Sub μ ν) (hb : ExB μ) : ∀ {n : Nat} {c : Cell}, ExC μ c → frz ν n c = frz μ n c := by
  intro n
  induction n with
  | zero =>
    intro c hc
    cases c with
    | own i => rw [frz_own, frz_own, arr_bwd h hc]
    | _ => rfl
  | succ n ih =>
    intro c hc
    cases c with
    | own i => rw [frz_own, frz_own, arr_bwd h hc]
    | fn g ids =>
      simp only [frz]
      congr 1
      refine trav_congr fun i hi => ?_
      rw [box_bwd h (hc i hi)]
      cases hbi : μ.box i with
      | none => rfl
      | some bs => exact trav_congr fun c hc' => ih (hb i bs hbi c hc')
    | _ => rfl
theorem frzA_bwd (h : Sub μ ν) (hb : ExB μ) {sh : List Sh} {x : FV} (hx : ExV μ x) : frzA ν sh x = frzA μ sh x := by
  cases x with
  | v x => cases x with
    | c x =>
      simp only [frzA]
      split
      · rw [frz_bwd h hb hx]
      · rw [datC_bwd h hx]
      · rfl
    | agg cs => simp only [frzA]; rw [datL_bwd h hx]
  | _ => rfl
theorem baseOf_bwd (h : Sub μ ν) (hap : ∀ i, (μ.arr i).isSome = true → ν.app i = true → μ.app i = true) {e z : Nat} {x : FV} (hx : ExV μ x) {b : List (List Cell) × List Id} (he : baseOf ν e z x = some b) : baseOf μ e z x = some b := by
  unfold baseOf at he ⊢
  split at he
  · exact he
  · rename_i i
    have hi : (μ.arr i).isSome = true := hx
    rw [arr_bwd h hi] at he
    cases ha : μ.arr i with
    | none => rw [ha] at he; simp at he
    | some q =>
      rw [ha] at he
      simp only [Option.bind_some] at he ⊢
      split at he
      · rename_i hc; rw [if_pos ⟨hap i hi hc.1, hc.2⟩]; exact he
      · cases he
  · cases he
theorem some_eta {α : Type} {x : Option α} {y : α} (h : x = some y) : x.isSome = true := by rw [h]; rfl
/-- What can be done behind others can be done at once. -/
theorem aop_bwd {o : AOp} {id : Id} {r : FV × Mu} (h : Sub μ ν) (hap : ∀ i, (μ.arr i).isSome = true → ν.app i = true → μ.app i = true) (hk : kindOf o = 1 ∨ kindOf o = 2) (hx : ∀ x ∈ opds o, ExV μ (opd fr x)) (ha : aop o id fr ν = some r) :
    ∃ q, aop o id fr μ = some q := by
  cases o <;> simp only [kindOf] at hk <;> (try (rcases hk with hk | hk <;> cases hk; done)) <;> simp only [aop] at ha ⊢ <;> simp only [opds, List.mem_cons, List.not_mem_nil, or_false, forall_eq_or_imp, forall_eq] at hx
  case box x => obtain ⟨cs, hcs, e⟩ := some_pair ha; rw [hcs]; exact ⟨_, rfl⟩
  case alloc z => exact ⟨_, rfl⟩
  case load g z x =>
    revert hx ha
    cases opd fr x with
    | ptr i off =>
      intro ha hx
      simp only at ha ⊢
      have hi : (μ.box i).isSome = true := hx
      rw [box_bwd h hi] at ha
      cases hb : μ.box i with
      | none => rw [hb] at ha; simp at ha
      | some cs => rw [hb] at ha; obtain ⟨u, hu, _⟩ := some_pair ha; simp only [Option.bind_some, hu]; exact ⟨_, rfl⟩
    | cptr cs off => intro ha hx; obtain ⟨u, hu, _⟩ := some_pair ha; simp only [hu]; exact ⟨_, rfl⟩
    | optr i k off =>
      intro ha hx
      simp only at ha ⊢
      have hi : (μ.arr i).isSome = true := hx
      rw [arr_bwd h hi] at ha
      cases hb : μ.arr i with
      | none => rw [hb] at ha; simp at ha
      | some q =>
        rw [hb] at ha
        simp only [Option.bind_some] at ha ⊢
        cases hr : q.xs[k]? with
        | none => rw [hr] at ha; simp at ha
        | some r => rw [hr] at ha; obtain ⟨u, hu, _⟩ := some_pair ha; simp only [Option.bind_some, hu]; exact ⟨_, rfl⟩
    | _ => intro ha hx; simp at ha
  case bsl e sz sh z parts =>
    obtain ⟨xs, hxs, _⟩ := some_pair ha
    rw [bldS_bwd h (fun p hp => hx p.2 (List.mem_map.2 ⟨p, hp, rfl⟩))] at hxs
    rw [hxs]; exact ⟨_, rfl⟩
  case mks e sz z n =>
    cases hn : nat? (opd fr n) with
    | none => rw [hn] at ha; simp at ha
    | some k =>
      rw [hn] at ha
      simp only [Option.bind_some] at ha ⊢
      split at ha
      · rename_i hl; rw [if_pos hl]; exact ⟨_, rfl⟩
      · cases ha
  case slc sz x lo hi mx =>
    rw [elems_bwd h hx.1] at ha
    cases he : elems μ sz (opd fr x) with
    | none => rw [he] at ha; simp at ha
    | some xs =>
      rw [he] at ha
      simp only at ha ⊢
      split at ha
      · split at ha
        · rename_i hl; rw [if_pos hl]; exact ⟨_, rfl⟩
        · cases ha
      · cases hl : bnd fr 0 lo with
        | none => rw [hl] at ha; simp at ha
        | some l =>
          rw [hl] at ha
          simp only [Option.bind_some] at ha ⊢
          cases hh : bnd fr xs.length hi with
          | none => rw [hh] at ha; simp at ha
          | some h =>
            rw [hh] at ha
            simp only [Option.bind_some] at ha ⊢
            split at ha
            · rename_i hle; rw [if_pos hle]; exact ⟨_, rfl⟩
            · cases ha
  case iad sz x i =>
    have hx1 := hx.1
    revert hx1 ha
    cases opd fr x with
    | v y =>
      cases y with
      | agg cs => intro hx ha; first | (cases ha; done) | (cases hx; done)
      | c y =>
        cases y with
        | ro z xs =>
          intro ha hx
          simp only at ha ⊢
          split at ha
          · rename_i hz
            rw [if_pos hz]
            cases hn : nat? (opd fr i) with
            | none => rw [hn] at ha; simp at ha
            | some k => rw [hn] at ha; obtain ⟨u, hu, _⟩ := some_pair ha; simp only [Option.bind_some, hu]; exact ⟨_, rfl⟩
          · cases ha
        | own j =>
          intro ha hx
          simp only at ha ⊢
          have hi : (μ.arr j).isSome = true := hx
          rw [arr_bwd h hi] at ha
          cases hn : nat? (opd fr i) with
          | none => rw [hn] at ha; simp at ha
          | some k =>
            rw [hn] at ha
            simp only [Option.bind_some] at ha ⊢
            cases hb : μ.arr j with
            | none => rw [hb] at ha; simp at ha
            | some q =>
              rw [hb] at ha
              simp only [Option.bind_some] at ha ⊢
              split at ha
              · rename_i hz; rw [if_pos hz]; exact ⟨_, rfl⟩
              · cases ha
        | _ => intro ha hx; simp at ha
    | _ => intro ha hx; simp at ha
  case len sz x =>
    rw [elems_bwd h hx] at ha
    obtain ⟨xs, hxs, _⟩ := some_pair ha
    rw [hxs]; exact ⟨_, rfl⟩
  case app e sz s x =>
    cases hb : baseOf ν e sz (opd fr s) with
    | none => rw [hb] at ha; simp at ha
    | some b =>
      rw [hb] at ha
      rw [baseOf_bwd h hap hx.1 hb]
      simp only [Option.bind_some] at ha ⊢
      rw [elems_bwd h hx.2] at ha
      cases he : elems μ sz (opd fr x) with
      | none => rw [he] at ha; simp at ha
      | some ys =>
        rw [he] at ha
        simp only [Option.bind_some] at ha ⊢
        split at ha
        · rename_i hl; rw [if_pos hl]; exact ⟨_, rfl⟩
        · cases ha
  case tl sz x lo =>
    have hx1 := hx.1
    split at ha
    case h_2 => cases ha
    rename_i i ho
    rw [ho] at hx1
    have hi : (μ.arr i).isSome = true := hx1
    rw [arr_bwd h hi] at ha
    cases hn : nat? (opd fr lo) with
    | none => rw [hn] at ha; simp at ha
    | some l =>
      rw [hn] at ha
      simp only [Option.bind_some] at ha ⊢
      cases hb : μ.arr i with
      | none => rw [hb] at ha; simp at ha
      | some q =>
        rw [hb] at ha
        simp only [Option.bind_some] at ha ⊢
        split at ha
        · rename_i hz; rw [if_pos hz]; exact ⟨_, rfl⟩
        · cases ha
  case ldo lq g z x =>
    split at ha
    case h_2 => cases ha
    rename_i i off ho
    rw [ho] at hx
    have hi : (μ.box i).isSome = true := hx
    split at ha
    · cases ha
    · rename_i hne
      rw [box_bwd h hi] at ha
      rw [h.t] at hne
      rw [if_neg hne]
      cases hb : μ.box i with
      | none => rw [hb] at ha; simp at ha
      | some cs => rw [hb] at ha; obtain ⟨u, hu, _⟩ := some_pair ha; simp only [Option.bind_some, hu]; exact ⟨_, rfl⟩
  case call f us => cases ha
/-! ### An operation of the frame alone -/
theorem aop_zero {o : AOp} {id : Id} {v : FV} {μ' : Mu} (hk : kindOf o = 0) (ha : aop o id fr μ = some (v, μ')) : μ' = μ ∧ ∀ ν id', aop o id' fr ν = some (v, ν) := by
  have two : ∀ {α : Type} {x : Option α} {f : α → FV}, (x.map fun z => (f z, μ)) = some (v, μ') → μ' = μ ∧ ∀ ν : Mu, (x.map fun z => (f z, ν)) = some (v, ν) := by
    intro α x f h
    obtain ⟨z, hz, e⟩ := some_pair h
    injection e with e1 e2
    subst e1; subst e2
    exact ⟨rfl, fun ν => by rw [hz]; rfl⟩
  cases o <;> simp only [kindOf] at hk <;> (try (cases hk; done)) <;> simp only [aop] at ha ⊢
  case mv x => injection ha with ha; injection ha with e1 e2; subst e1; subst e2; exact ⟨rfl, fun _ _ => rfl⟩
  case pick c a b =>
    split at ha
    · injection ha with ha; injection ha with e1 e2; subst e1; subst e2; exact ⟨rfl, fun _ _ => rfl⟩
    · cases ha
  case bin op x y =>
    split at ha
    · exact ⟨(two ha).1, fun ν _ => (two ha).2 ν⟩
    · cases ha
  case eqa neg ks x y =>
    split at ha
    · exact ⟨(two ha).1, fun ν _ => (two ha).2 ν⟩
    · cases ha
  case eqb neg x y =>
    split at ha
    · injection ha with ha; injection ha with e1 e2; subst e1; subst e2; exact ⟨rfl, fun _ _ => rfl⟩
    · cases ha
  case un op x =>
    split at ha
    · exact ⟨(two ha).1, fun ν _ => (two ha).2 ν⟩
    · cases ha
  case conv k x =>
    split at ha
    · injection ha with ha; injection ha with e1 e2; subst e1; subst e2; exact ⟨rfl, fun _ _ => rfl⟩
    · cases ha
  case mkfn g caps => exact ⟨(two ha).1, fun ν _ => (two ha).2 ν⟩
  case build z parts => exact ⟨(two ha).1, fun ν _ => (two ha).2 ν⟩
  case fad x off =>
    split at ha
    · injection ha with ha; injection ha with e1 e2; subst e1; subst e2; exact ⟨rfl, fun _ _ => rfl⟩
    · injection ha with ha; injection ha with e1 e2; subst e1; subst e2; exact ⟨rfl, fun _ _ => rfl⟩
    · injection ha with ha; injection ha with e1 e2; subst e1; subst e2; exact ⟨rfl, fun _ _ => rfl⟩
    · cases ha
  case fld g off sz x =>
    split at ha
    · exact ⟨(two ha).1, fun ν _ => (two ha).2 ν⟩
    · cases ha
  case idx g sz n x i =>
    split at ha
    · cases hn : nat? (opd fr i) with
      | none => rw [hn] at ha; simp at ha
      | some k =>
        rw [hn] at ha
        simp only [Option.bind_some] at ha ⊢
        split at ha
        · rename_i hl; simp only [if_pos hl]; exact ⟨(two ha).1, fun ν _ => (two ha).2 ν⟩
        · cases ha
    · cases ha
  case ext x k =>
    split at ha
    · exact ⟨(two ha).1, fun ν _ => (two ha).2 ν⟩
    · cases ha
  case iap sz n x i =>
    split at ha
    · cases hn : nat? (opd fr i) with
      | none => rw [hn] at ha; simp at ha
      | some k =>
        rw [hn] at ha
        simp only [Option.bind_some] at ha ⊢
        split at ha
        · rename_i hl; simp only [if_pos hl]; injection ha with ha; injection ha with e1 e2; subst e1; subst e2; exact ⟨rfl, fun _ _ => rfl⟩
        · cases ha
    · cases ha
  case mnx mx x y =>
    split at ha
    · split at ha
      · rename_i hl; simp only [if_pos hl]; injection ha with ha; injection ha with e1 e2; subst e1; subst e2; exact ⟨rfl, fun _ _ => rfl⟩
      · cases ha
    · cases ha
end Go.Proofs.Ytndabolfhhppkaa.Am
