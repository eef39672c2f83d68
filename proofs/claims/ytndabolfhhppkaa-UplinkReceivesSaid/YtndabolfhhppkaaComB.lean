/- Operations that may be taken either way: what they read is there before and behind. No condition. -/
import Derived.Test.YtndabolfhhppkaaCom
namespace Go.Proofs.Ytndabolfhhppkaa.Am
open Go Go.RowKit
variable {P : Program} {γ : Gh} {μ ν : Mu} {w : World} {nt : Nat} {D : List Nat} {fr fr' : Fr} {a : Act}

/-! ### Forward: what was read is read again, in a memory with more -/
theorem elemsC_fwd (h : Sub μ ν) {z : Nat} {c : Cell} {xs : List (List Cell)} (he : elemsC μ z c = some xs) : elemsC ν z c = some xs ∧ ∀ i ∈ ownC c, (μ.arr i).isSome = true := by
  cases c with
  | own i =>
    simp only [elemsC] at he ⊢
    cases ha : μ.arr i with
    | none => rw [ha] at he; simp at he
    | some a => rw [ha] at he; rw [h.arr i a ha]; exact ⟨he, fun j hj => by simp [ownC] at hj; subst hj; rw [ha]; rfl⟩
  | _ => exact ⟨he, fun j hj => by simp [ownC] at hj⟩
theorem datC_fwd (h : Sub μ ν) {sh : Sh} {c d : Cell} (he : datC μ sh c = some d) : datC ν sh c = some d ∧ ∀ i ∈ ownC c, (μ.arr i).isSome = true := by
  cases sh with
  | d => cases c <;> simp [datC] at he ⊢ <;> simp [he, ownC]
  | f => cases c <;> simp [datC] at he
  | s e z =>
    have he' : (elemsC μ z c).map (.ro z) = some d := by cases c <;> exact he
    obtain ⟨xs, hx, e'⟩ := some_pair he'
    obtain ⟨k1, k2⟩ := elemsC_fwd h hx
    refine ⟨?_, k2⟩
    have : (elemsC ν z c).map (.ro z) = some d := by rw [k1]; exact congrArg some e'
    cases c <;> exact this
theorem datL_fwd (h : Sub μ ν) : ∀ {sh : List Sh} {cs ds : List Cell}, datL μ sh cs = some ds → datL ν sh cs = some ds ∧ ∀ i ∈ cs.flatMap ownC, (μ.arr i).isSome = true
  | [], [], ds, he => ⟨he, by simp⟩
  | [], _ :: _, ds, he => by simp [datL] at he
  | _ :: _, [], ds, he => by simp [datL] at he
  | s :: sh, c :: cs, ds, he => by
    simp only [datL] at he ⊢
    split at he
    · rename_i d q h1 h2
      obtain ⟨k1, k2⟩ := datC_fwd h h1
      obtain ⟨k3, k4⟩ := datL_fwd h h2
      rw [k1, k3]
      refine ⟨he, fun i hi => ?_⟩
      simp only [List.flatMap_cons, List.mem_append] at hi
      exact hi.elim (k2 i) (k4 i)
    · cases he
theorem trav_fwd {α β : Type} {f g : α → Option β} : ∀ {l : List α} {r : List β}, (∀ x ∈ l, ∀ y, f x = some y → g x = some y) → trav f l = some r → trav g l = some r
  | [], r, _, h => h
  | x :: l, r, hs, h => by
    simp only [trav] at h ⊢
    split at h
    · rename_i b q h1 h2
      rw [hs x (by simp) b h1, trav_fwd (fun y hy => hs y (List.mem_cons_of_mem _ hy)) h2]
      exact h
    · cases h
theorem trav_some {α β : Type} {f : α → Option β} : ∀ {l : List α} {r : List β}, trav f l = some r → ∀ x ∈ l, ∃ y, f x = some y
  | [], r, h, x, hx => by simp at hx
  | x :: l, r, h, y, hy => by
    simp only [trav] at h
    split at h
    · rename_i b q h1 h2
      rcases List.mem_cons.1 hy with rfl | hy
      · exact ⟨b, h1⟩
      · exact trav_some h2 y hy
    · cases h
theorem frz_fwd (h : Sub μ ν) : ∀ {n : Nat} {c d : Cell}, frz μ n c = some d → frz ν n c = some d ∧ fids ν n c = fids μ n c ∧ ∀ i ∈ fids μ n c, (μ.arr i).isSome = true := by
  intro n
  have own_ : ∀ {n : Nat} {i : Id} {d : Cell}, frz μ n (.own i) = some d → frz ν n (.own i) = some d ∧ fids ν n (.own i) = fids μ n (.own i) ∧ ∀ j ∈ fids μ n (.own i), (μ.arr j).isSome = true := by
    intro n i d hd
    rw [frz_own] at hd
    obtain ⟨q, hq, hz0, e⟩ := live_pair hd
    rw [frz_own, h.arr i q hq, fids_own, fids_own]
    refine ⟨?_, rfl, fun j hj => by simp at hj; subst hj; rw [hq]; rfl⟩
    simp only [Option.bind_some]
    rw [if_pos hz0, e]
  induction n with
  | zero =>
    intro c d hd
    cases c with
    | own i => exact own_ hd
    | fn g ids => simp [frz] at hd
    | _ => exact ⟨by first | exact hd | (simp [frz] at hd), rfl, by simp [fids]⟩
  | succ n ih =>
    intro c d hd
    cases c with
    | own i => exact own_ hd
    | fn g ids =>
      simp only [frz] at hd ⊢
      obtain ⟨cs, hcs, e⟩ := some_pair hd
      have hb : ∀ i ∈ ids, ∃ bs ds, μ.box i = some bs ∧ trav (frz μ n) bs = some ds := fun i hi => by
        obtain ⟨y, hy⟩ := trav_some hcs i hi
        cases hb : μ.box i with
        | none => rw [hb] at hy; simp at hy
        | some bs => rw [hb] at hy; exact ⟨bs, y, rfl, hy⟩
      refine ⟨?_, ?_, ?_⟩
      · have : trav (fun i => (ν.box i).bind (trav (frz ν n))) ids = some cs := trav_fwd (fun i hi y hy => by
          obtain ⟨bs, ds, k1, k2⟩ := hb i hi
          rw [k1] at hy
          rw [h.box i bs k1]
          exact trav_fwd (fun c _ d hd => (ih hd).1) hy) hcs
        rw [this]; exact congrArg some e
      · simp only [fids]
        refine flatMap_congr' fun i hi => ?_
        obtain ⟨bs, ds, k1, k2⟩ := hb i hi
        rw [k1, h.box i bs k1]
        simp only [Option.getD_some]
        exact flatMap_congr' fun c hc => by obtain ⟨y, hy⟩ := trav_some k2 c hc; exact (ih hy).2.1
      · intro j hj
        simp only [fids, List.mem_flatMap] at hj
        obtain ⟨i, hi, c, hc, hj⟩ := hj
        obtain ⟨bs, ds, k1, k2⟩ := hb i hi
        rw [k1] at hc
        obtain ⟨y, hy⟩ := trav_some k2 c hc
        exact (ih hy).2.2 j hj
    | _ => exact ⟨by first | exact hd | (simp [frz] at hd), rfl, by simp [fids]⟩
theorem datC_fids {sh : Sh} {c d : Cell} (hd : datC μ sh c = some d) : fids ν depth c = ownC c := by
  cases c with
  | own i => exact fids_own ν depth i
  | fn g ids => cases sh <;> simp [datC, elemsC] at hd
  | _ => rfl
theorem frzA_fwd (h : Sub μ ν) {sh : List Sh} {x y : FV} (hf : frzA μ sh x = some y) : frzA ν sh x = some y ∧ fidsA ν x = fidsA μ x ∧ ∀ i ∈ fidsA μ x, (μ.arr i).isSome = true := by
  cases x with
  | v x =>
    cases x with
    | c x =>
      simp only [frzA, fidsA] at hf ⊢
      split at hf
      · obtain ⟨d, hd, e⟩ := some_pair hf
        obtain ⟨k1, k2, k3⟩ := frz_fwd h hd
        rw [k1]; exact ⟨congrArg some e, k2, k3⟩
      · obtain ⟨d, hd, e⟩ := some_pair hf
        obtain ⟨k1, k2⟩ := datC_fwd h hd
        rw [k1]; rw [datC_fids hd, datC_fids hd]; exact ⟨congrArg some e, rfl, k2⟩
      · cases hf
    | agg cs =>
      simp only [frzA, fidsA] at hf ⊢
      obtain ⟨d, hd, e⟩ := some_pair hf
      obtain ⟨k1, k2⟩ := datL_fwd h hd
      rw [k1]; exact ⟨congrArg some e, by trivial, k2⟩
  | _ => simp [frzA] at hf
theorem elems_fwd (h : Sub μ ν) {z : Nat} {x : FV} {xs : List (List Cell)} (he : elems μ z x = some xs) : elems ν z x = some xs ∧ ∀ i ∈ ownOf x, (μ.arr i).isSome = true := by
  cases x with
  | v x => cases x with
    | c x => exact elemsC_fwd h he
    | agg cs => simp [elems] at he
  | _ => simp [elems] at he
theorem bldS_fwd (h : Sub μ ν) {sh : List Sh} {sz : Nat} : ∀ {ps : List (Nat × Opd)} {z r : List (List Cell)}, bldS fr μ sh sz z ps = some r → bldS fr ν sh sz z ps = some r ∧ ∀ i ∈ ps.flatMap (fun p => ((cells (opd fr p.2)).getD []).flatMap ownC), (μ.arr i).isSome = true
  | [], z, r, he => ⟨he, by simp⟩
  | (k, x) :: ps, z, r, he => by
    simp only [bldS] at he ⊢
    cases hc : cells (opd fr x) with
    | none => rw [hc] at he; simp at he
    | some cs =>
      rw [hc] at he
      simp only [Option.bind_some] at he ⊢
      cases hd : datL μ sh cs with
      | none => rw [hd] at he; simp at he
      | some ds =>
        rw [hd] at he
        simp only at he
        obtain ⟨k1, k2⟩ := datL_fwd h hd
        rw [k1]
        simp only
        split at he
        · rename_i hl
          rw [if_pos hl]
          obtain ⟨k3, k4⟩ := bldS_fwd h he
          refine ⟨k3, fun i hi => ?_⟩
          simp only [List.flatMap_cons, List.mem_append, hc, Option.getD_some] at hi
          exact hi.elim (k2 i) (k4 i)
        · cases he
theorem baseOf_fwd (h : Sub μ ν) (hap : ∀ i, (μ.arr i).isSome = true → ν.app i = μ.app i) {e z : Nat} {x : FV} {b : List (List Cell) × List Id} (he : baseOf μ e z x = some b) : baseOf ν e z x = some b ∧ ∀ i ∈ b.2, (μ.arr i).isSome = true := by
  unfold baseOf at he ⊢
  split at he
  · injection he with he; subst he; simp
  · rename_i i
    cases ha : μ.arr i with
    | none => rw [ha] at he; simp at he
    | some q =>
      rw [ha] at he
      have hs : (μ.arr i).isSome = true := by rw [ha]; rfl
      simp only [h.arr i q ha, hap i hs]
      refine ⟨he, fun j hj => ?_⟩
      simp only [Option.bind_some] at he
      split at he
      · injection he with he; subst he; simp at hj; subst hj; exact hs
      · cases he
  · cases he
/-- An operation that reads memory or adds to it, told by what it adds. -/
def Fwd (o : AOp) (id : Id) (fr : Fr) (μ : Mu) (v : FV) (μ' : Mu) : Prop :=
    ∃ p : Dl, μ' = p.ap μ ∧ (∀ i ∈ p.ids, i = id) ∧ (∀ i ∈ p.refs, (μ.arr i).isSome = true) ∧ (kindOf o = 1 → p.olds = []) ∧
      ∀ ν, Sub μ ν → (kindOf o = 2 → ∀ i, (μ.arr i).isSome = true → ν.app i = μ.app i) → aop o id fr ν = some (v, p.ap ν)
theorem fwd_box {id : Id} {v : FV} {μ' : Mu} {x : Opd} (ha : aop (.box x) id fr μ = some (v, μ')) : Fwd (.box x) id fr μ v μ' := by
  unfold Fwd
  simp only [aop, kindOf] at ha ⊢
  obtain ⟨cs, hcs, e⟩ := some_pair ha
  cases e
  exact ⟨.box id cs, rfl, by simp [Dl.ids], by simp [Dl.refs], fun _ => rfl, fun ν _ _ => by rw [hcs]; rfl⟩
theorem fwd_alloc {id : Id} {v : FV} {μ' : Mu} {z : List Cell} (ha : aop (.alloc z) id fr μ = some (v, μ')) : Fwd (.alloc z) id fr μ v μ' := by
  unfold Fwd
  simp only [aop, kindOf] at ha ⊢
  injection ha with ha; injection ha with e1 e2; subst e1; subst e2
  exact ⟨.box id z, rfl, by simp [Dl.ids], by simp [Dl.refs], fun _ => rfl, fun ν _ _ => rfl⟩
theorem fwd_load {id : Id} {v : FV} {μ' : Mu} {g : Bool} {z : Nat} {x : Opd} (ha : aop (.load g z x) id fr μ = some (v, μ')) : Fwd (.load g z x) id fr μ v μ' := by
  unfold Fwd
  simp only [aop, kindOf] at ha ⊢
  refine ⟨.no, ?_, by simp [Dl.ids], by simp [Dl.refs], fun _ => rfl, fun ν h _ => ?_⟩
  · split at ha
    · rename_i i off _
      cases hb : μ.box i with
      | none => rw [hb] at ha; simp at ha
      | some cs => rw [hb] at ha; obtain ⟨_, _, e⟩ := some_pair ha; cases e; rfl
    · obtain ⟨_, _, e⟩ := some_pair ha; cases e; rfl
    · rename_i i k off _
      cases hb : μ.arr i with
      | none => rw [hb] at ha; simp at ha
      | some q =>
        rw [hb] at ha
        simp only [Option.bind_some] at ha
        cases hr : q.xs[k]? with
        | none => rw [hr] at ha; simp at ha
        | some r => rw [hr] at ha; obtain ⟨_, _, e⟩ := some_pair ha; cases e; rfl
    · cases ha
  · split at ha
    · rename_i i off hx
      try rw [hx]
      cases hb : μ.box i with
      | none => rw [hb] at ha; simp at ha
      | some cs =>
        rw [hb] at ha; obtain ⟨u, hu, e⟩ := some_pair ha; cases e
        simp only [h.box i cs hb, Option.bind_some, hu]; rfl
    · rename_i cs off hx
      obtain ⟨u, hu, e⟩ := some_pair ha; cases e
      simp only [hu]; rfl
    · rename_i i k off hx
      try rw [hx]
      cases hb : μ.arr i with
      | none => rw [hb] at ha; simp at ha
      | some q =>
        rw [hb] at ha
        simp only [Option.bind_some] at ha
        cases hr : q.xs[k]? with
        | none => rw [hr] at ha; simp at ha
        | some r =>
          rw [hr] at ha; obtain ⟨u, hu, e⟩ := some_pair ha; cases e
          simp only [h.arr i q hb, Option.bind_some, hr, hu]; rfl
    · cases ha
theorem fwd_bsl {id : Id} {v : FV} {μ' : Mu} {e sz : Nat} {sh : List Sh} {z : List (List Cell)} {parts : List (Nat × Opd)} (ha : aop (.bsl e sz sh z parts) id fr μ = some (v, μ')) : Fwd (.bsl e sz sh z parts) id fr μ v μ' := by
  simp only [aop] at ha
  obtain ⟨xs, hxs, e'⟩ := some_pair ha
  cases e'
  obtain ⟨_, k2⟩ := bldS_fwd (Sub.refl μ) hxs
  refine ⟨.row (parts.flatMap fun p => ((cells (opd fr p.2)).getD []).flatMap ownC) id ⟨e, sz, xs⟩ true [], ?_, ?_, ?_, ?_, ?_⟩
  · simp only [Dl.ap]
  · simp [Dl.ids]
  · intro i hi; exact k2 i (by simpa only [Dl.refs, List.append_nil] using hi)
  · intro _; rfl
  · intro ν h _
    simp only [aop, (bldS_fwd h hxs).1, Option.map_some, Dl.ap]
theorem fwd_mks {id : Id} {v : FV} {μ' : Mu} {e sz : Nat} {z : List Cell} {n : Opd} (ha : aop (.mks e sz z n) id fr μ = some (v, μ')) : Fwd (.mks e sz z n) id fr μ v μ' := by
  unfold Fwd
  simp only [aop, kindOf] at ha ⊢
  cases hn : nat? (opd fr n) with
  | none => rw [hn] at ha; simp at ha
  | some k =>
    rw [hn] at ha
    simp only [Option.bind_some] at ha ⊢
    split at ha
    · rename_i hl
      injection ha with ha; injection ha with e1 e2; subst e1; subst e2
      exact ⟨.row [] id ⟨e, sz, List.replicate k z⟩ true [], by simp only [Dl.ap, unsto_nil], by simp [Dl.ids], by simp [Dl.refs], fun _ => rfl, fun ν h _ => by rw [if_pos hl]; simp only [Dl.ap, unsto_nil]⟩
    · cases ha
theorem fwd_slc {id : Id} {v : FV} {μ' : Mu} {sz : Nat} {x : Opd} {lo hi mx : Option Opd} (ha : aop (.slc sz x lo hi mx) id fr μ = some (v, μ')) : Fwd (.slc sz x lo hi mx) id fr μ v μ' := by
  unfold Fwd
  simp only [aop, kindOf] at ha ⊢
  cases he : elems μ sz (opd fr x) with
  | none => rw [he] at ha; simp at ha
  | some xs =>
    rw [he] at ha
    simp only at ha
    obtain ⟨_, k2⟩ := elems_fwd (Sub.refl μ) he
    split at ha
    · split at ha
      · rename_i hl
        injection ha with ha; injection ha with e1 e2; subst e1; subst e2
        exact ⟨.no, rfl, by simp [Dl.ids], by simp [Dl.refs], fun _ => rfl, fun ν h _ => by rw [(elems_fwd h he).1]; simp only; rw [if_pos hl]; rfl⟩
      · cases ha
    · cases hl : bnd fr 0 lo with
      | none => rw [hl] at ha; simp at ha
      | some l =>
        rw [hl] at ha
        simp only [Option.bind_some] at ha ⊢
        cases hh : bnd fr xs.length hi with
        | none => rw [hh] at ha; simp at ha
        | some h =>
          rw [hh] at ha
          simp only [Option.bind_some] at ha
          split at ha
          · rename_i hle
            injection ha with ha; injection ha with e1 e2; subst e1; subst e2
            exact ⟨.uns (ownOf (opd fr x)), rfl, by simp [Dl.ids], k2, fun _ => rfl, fun ν h' _ => by
              rw [(elems_fwd h' he).1]; simp only [hh, Option.bind_some]; rw [if_pos hle]; rfl⟩
          · cases ha
theorem fwd_iad {id : Id} {v : FV} {μ' : Mu} {sz : Nat} {x i : Opd} (ha : aop (.iad sz x i) id fr μ = some (v, μ')) : Fwd (.iad sz x i) id fr μ v μ' := by
  unfold Fwd
  simp only [aop, kindOf] at ha ⊢
  refine ⟨.no, ?_, by simp [Dl.ids], by simp [Dl.refs], fun _ => rfl, fun ν h _ => ?_⟩
  · split at ha
    · split at ha
      · cases hn : nat? (opd fr i) with
        | none => rw [hn] at ha; simp at ha
        | some k => rw [hn] at ha; obtain ⟨_, _, e⟩ := some_pair ha; cases e; rfl
      · cases ha
    · rename_i j _
      cases hn : nat? (opd fr i) with
      | none => rw [hn] at ha; simp at ha
      | some k =>
        rw [hn] at ha
        simp only [Option.bind_some] at ha
        cases hb : μ.arr j with
        | none => rw [hb] at ha; simp at ha
        | some q =>
          rw [hb] at ha
          simp only [Option.bind_some] at ha
          split at ha
          · injection ha with ha; injection ha with e1 e2; exact e2.symm
          · cases ha
    · cases ha
  · split at ha
    · rename_i z xs hx
      try rw [hx]
      split at ha
      · rename_i hz
        cases hn : nat? (opd fr i) with
        | none => rw [hn] at ha; simp at ha
        | some k =>
          rw [hn] at ha; obtain ⟨u, hu, e⟩ := some_pair ha; cases e
          simp only [if_pos hz, hn, Option.bind_some] at hu ⊢
          rw [hu]; rfl
      · cases ha
    · rename_i j hx
      try rw [hx]
      cases hn : nat? (opd fr i) with
      | none => rw [hn] at ha; simp at ha
      | some k =>
        rw [hn] at ha
        simp only [Option.bind_some, hn] at ha ⊢
        cases hb : μ.arr j with
        | none => rw [hb] at ha; simp at ha
        | some q =>
          rw [hb] at ha
          simp only [Option.bind_some, h.arr j q hb] at ha ⊢
          split at ha
          · rename_i hz; injection ha with ha; injection ha with e1 e2; subst e1; rw [if_pos hz]; rfl
          · cases ha
    · cases ha
theorem fwd_len {id : Id} {v : FV} {μ' : Mu} {sz : Nat} {x : Opd} (ha : aop (.len sz x) id fr μ = some (v, μ')) : Fwd (.len sz x) id fr μ v μ' := by
  unfold Fwd
  simp only [aop, kindOf] at ha ⊢
  obtain ⟨xs, hxs, e'⟩ := some_pair ha
  cases e'
  exact ⟨.no, rfl, by simp [Dl.ids], by simp [Dl.refs], fun _ => rfl, fun ν h _ => by rw [(elems_fwd h hxs).1]; rfl⟩
theorem fwd_app {id : Id} {v : FV} {μ' : Mu} {e sz : Nat} {s x : Opd} (ha : aop (.app e sz s x) id fr μ = some (v, μ')) : Fwd (.app e sz s x) id fr μ v μ' := by
  unfold Fwd
  simp only [aop, kindOf] at ha ⊢
  cases hb : baseOf μ e sz (opd fr s) with
  | none => rw [hb] at ha; simp at ha
  | some b =>
    rw [hb] at ha
    simp only [Option.bind_some] at ha
    cases he : elems μ sz (opd fr x) with
    | none => rw [he] at ha; simp at ha
    | some ys =>
      rw [he] at ha
      simp only [Option.bind_some] at ha
      split at ha
      · rename_i hl
        injection ha with ha; injection ha with e1 e2; subst e1; subst e2
        obtain ⟨_, k2⟩ := baseOf_fwd (Sub.refl μ) (fun _ _ => rfl) hb
        refine ⟨.row [] id ⟨e, sz, b.1 ++ ys⟩ b.1.isEmpty b.2, by simp only [Dl.ap, unsto_nil], by simp [Dl.ids], fun i hi => k2 i (by simpa [Dl.refs] using hi), fun h => by simp at h, fun ν h hap => ?_⟩
        rw [(baseOf_fwd h (hap (by trivial)) hb).1]
        simp only [Option.bind_some]
        rw [(elems_fwd h he).1]
        simp only [Option.bind_some]
        rw [if_pos hl]
        simp only [Dl.ap, unsto_nil]
      · cases ha
theorem fwd_tl {id : Id} {v : FV} {μ' : Mu} {sz : Nat} {x lo : Opd} (ha : aop (.tl sz x lo) id fr μ = some (v, μ')) : Fwd (.tl sz x lo) id fr μ v μ' := by
  unfold Fwd
  simp only [aop, kindOf] at ha ⊢
  split at ha
  case h_2 => cases ha
  rename_i i hx
  cases hn : nat? (opd fr lo) with
  | none => rw [hn] at ha; simp at ha
  | some l =>
    rw [hn] at ha
    simp only [Option.bind_some] at ha
    cases hb : μ.arr i with
    | none => rw [hb] at ha; simp at ha
    | some q =>
      rw [hb] at ha
      simp only [Option.bind_some] at ha
      split at ha
      case isFalse => cases ha
      rename_i hc
      injection ha with ha; injection ha with e1 e2; subst e1; subst e2
      exact ⟨.no, rfl, by simp [Dl.ids], by simp [Dl.refs], fun _ => rfl, fun ν h _ => by simp only [Option.bind_some, h.arr i q hb]; rw [if_pos hc]; rfl⟩
theorem fwd_ldo {id : Id} {v : FV} {μ' : Mu} {lq : Option Nat} {g : Bool} {z : Nat} {x : Opd} (ha : aop (.ldo lq g z x) id fr μ = some (v, μ')) : Fwd (.ldo lq g z x) id fr μ v μ' := by
  unfold Fwd
  simp only [aop, kindOf] at ha ⊢
  split at ha
  case h_2 => cases ha
  rename_i i off hx
  split at ha
  · cases ha
  · rename_i hi
    cases hb : μ.box i with
    | none => rw [hb] at ha; simp at ha
    | some cs =>
      rw [hb] at ha; obtain ⟨u, hu, e⟩ := some_pair ha; cases e
      exact ⟨.no, rfl, by simp [Dl.ids], by simp [Dl.refs], fun _ => rfl, fun ν h _ => by
        rw [if_neg (by rw [h.t]; exact hi)]
        simp only [h.box i cs hb, Option.bind_some, hu]; rfl⟩
theorem aop_fwd {o : AOp} {id : Id} {v : FV} {μ' : Mu} (hk : kindOf o = 1 ∨ kindOf o = 2) (hc : o.isCall = false) (ha : aop o id fr μ = some (v, μ')) : Fwd o id fr μ v μ' := by
  cases o <;> simp only [kindOf] at hk <;> (try (rcases hk with hk | hk <;> cases hk; done))
  case box x => exact fwd_box ha
  case alloc z => exact fwd_alloc ha
  case load g z x => exact fwd_load ha
  case bsl e sz sh z parts => exact fwd_bsl ha
  case mks e sz z n => exact fwd_mks ha
  case slc sz x lo hi mx => exact fwd_slc ha
  case iad sz x i => exact fwd_iad ha
  case len sz x => exact fwd_len ha
  case app e sz s x => exact fwd_app ha
  case tl sz x lo => exact fwd_tl ha
  case ldo lq g z x => exact fwd_ldo ha
  case call f us => simp [AOp.isCall] at hc
end Go.Proofs.Ytndabolfhhppkaa.Am
