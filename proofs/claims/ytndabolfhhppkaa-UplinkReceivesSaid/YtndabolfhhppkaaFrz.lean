/- What is handed over at a call: rows by their elements, function literals by what they capture. No condition. -/
import Derived.Test.YtndabolfhhppkaaOpsH
namespace Go.Proofs.Ytndabolfhhppkaa.Am
open Go Go.RowKit
variable {P : Program} {γ : Gh} {μ : Mu} {w : World} {nt : Nat} {D : List Nat} {fr : Fr} {a : Act}

def ZRs (st : Nat → Nat → Prop) (lo : Nat) (w : World) (cs : List Cell) (vs : List Value) : Prop := LR (ZR st lo w) cs vs
theorem ZRs.keep {st st' : Nat → Nat → Prop} {lo : Nat} {w : World} {cs : List Cell} {vs : List Value} (h : ZRs st lo w cs vs) (hs : ∀ b o, st b o → st' b o) : ZRs st' lo w cs vs :=
  ⟨h.1, fun j c v hc hv => (h.2 j c v hc hv).keep (fun b o hb => ⟨hs b o hb, rfl⟩) (Nat.le_refl _) fun _ _ _ => rfl⟩
theorem frz_unsto (μ : Mu) (l : List Id) : ∀ (n : Nat) (c : Cell), frz (unsto μ l) n c = frz μ n c := by
  intro n
  induction n with
  | zero => intro c; cases c <;> rfl
  | succ n ih =>
    intro c
    have : frz (unsto μ l) n = frz μ n := funext ih
    cases c <;> simp only [frz, this] <;> rfl
theorem fids_unsto (μ : Mu) (l : List Id) : ∀ (n : Nat) (c : Cell), fids (unsto μ l) n c = fids μ n c := by
  intro n
  induction n with
  | zero => intro c; cases c <;> rfl
  | succ n ih =>
    intro c
    have : fids (unsto μ l) n = fids μ n := funext ih
    cases c <;> simp only [fids, this] <;> rfl
theorem frz_val (μ : Mu) (n : Nat) (x : Value) : frz μ n (.val x) = some (.val x) := by cases n <;> rfl
theorem frz_nil (μ : Mu) (n : Nat) : frz μ n .nil = some .nil := by cases n <;> rfl
theorem frz_ro (μ : Mu) (n : Nat) (z : Nat) (xs : List (List Cell)) : frz μ n (.ro z xs) = some (.ro z xs) := by cases n <;> rfl
theorem frz_own (μ : Mu) (n : Nat) (i : Id) : frz μ n (.own i) = (μ.arr i).bind fun a => if 0 < a.sz then some (.ro a.sz a.xs) else none := by cases n <;> rfl
theorem live_pair {o : Option Arr} {d : Cell} (h : (o.bind fun a => if 0 < a.sz then some (Cell.ro a.sz a.xs) else none) = some d) : ∃ q, o = some q ∧ 0 < q.sz ∧ .ro q.sz q.xs = d := by
  cases o with
  | none => cases h
  | some q =>
    simp only [Option.bind_some] at h
    split at h
    · rename_i hz; injection h with h; exact ⟨q, rfl, hz, h⟩
    · cases h
theorem frz_clo (μ : Mu) (n g : Nat) (cs : List (List Cell)) : frz μ n (.clo g cs) = some (.clo g cs) := by cases n <;> rfl
theorem frz_fresh (μ : Mu) (n e z : Nat) (xs : List (List Cell)) : frz μ n (.fresh e z xs) = none := by cases n <;> rfl
theorem fids_own (μ : Mu) (n : Nat) (i : Id) : fids μ n (.own i) = [i] := by cases n <;> rfl
/-- Below: 'R γ' is kept by later memories. -/
theorem frzs_sim {n : Nat} (ih : ∀ {γ : Gh} {μ : Mu} {c d : Cell} {v : Value}, MR γ μ w → CR γ μ w c v → frz μ n c = some d →
      ∃ γ', MR γ' (unsto μ (fids μ n c)) w ∧ Ext γ μ w γ' (unsto μ (fids μ n c)) w ∧ ZR γ'.st w.heap.size w d v) :
    ∀ {cs ds : List Cell} {vs : List Value} {γ : Gh} {μ : Mu}, MR γ μ w → CRs γ μ w cs vs → trav (frz μ n) cs = some ds →
      ∃ γ', MR γ' (unsto μ (cs.flatMap (fids μ n))) w ∧ Ext γ μ w γ' (unsto μ (cs.flatMap (fids μ n))) w ∧ ZRs γ'.st w.heap.size w ds vs
  | [], ds, vs, γ, μ, m, h, hd => by
    simp only [trav, Option.some.injEq] at hd; subst hd
    exact ⟨γ, m.unst _, .unst _, h.1, fun j c v hc => by simp at hc⟩
  | c :: cs, ds, vs, γ, μ, m, h, hd => by
    simp only [trav] at hd
    split at hd
    · rename_i d q h1 h2
      injection hd with hd; subst hd
      obtain ⟨hl, hr⟩ := h
      cases vs with
      | nil => simp at hl
      | cons v vs =>
        obtain ⟨γ1, m1, e1, d1⟩ := ih m (hr 0 c v rfl rfl) h1
        have hcs : CRs γ μ w cs vs := ⟨by simpa using hl, fun j x y hx hy => hr (j + 1) x y (by simpa using hx) (by simpa using hy)⟩
        have hfz : frz (unsto μ (fids μ n c)) n = frz μ n := funext (frz_unsto _ _ _)
        have hfi : fids (unsto μ (fids μ n c)) n = fids μ n := funext (fids_unsto _ _ _)
        obtain ⟨γ2, m2, e2, d2⟩ := frzs_sim ih m1 (hcs.ext e1) (by rw [hfz]; exact h2)
        rw [hfi, unsto_unsto] at m2 e2
        refine ⟨γ2, m2, e1.trans e2, LR.cons ?_ d2⟩
        exact d1.keep e2.st (Nat.le_refl _) fun _ _ _ => rfl
    · cases hd
theorem boxes_sim {n : Nat} (ih : ∀ {γ : Gh} {μ : Mu} {c d : Cell} {v : Value}, MR γ μ w → CR γ μ w c v → frz μ n c = some d →
      ∃ γ', MR γ' (unsto μ (fids μ n c)) w ∧ Ext γ μ w γ' (unsto μ (fids μ n c)) w ∧ ZR γ'.st w.heap.size w d v) :
    ∀ {ids : List Id} {cs : List (List Cell)} {γ : Gh} {μ : Mu}, MR γ μ w → (∀ i ∈ ids, (μ.box i).isSome = true) → trav (fun i => (μ.box i).bind (trav (frz μ n))) ids = some cs →
      ∃ γ', MR γ' (unsto μ (ids.flatMap fun i => ((μ.box i).getD []).flatMap (fids μ n))) w ∧ Ext γ μ w γ' (unsto μ (ids.flatMap fun i => ((μ.box i).getD []).flatMap (fids μ n))) w ∧
        ids.length = cs.length ∧ ∀ (k : Nat) (i : Id) (c : List Cell), ids[k]? = some i → cs[k]? = some c → ∃ vs : List Value, ZRs γ'.st w.heap.size w c vs ∧ ∀ (j : Nat) (v : Value), vs[j]? = some v → w.cell? (at_ (γ.be i) j) = some v
  | [], cs, γ, μ, m, h, hd => by
    simp only [trav, Option.some.injEq] at hd; subst hd
    exact ⟨γ, m.unst _, .unst _, rfl, fun k i c hc => by simp at hc⟩
  | i :: ids, cs, γ, μ, m, h, hd => by
    simp only [trav] at hd
    split at hd
    · rename_i d q h1 h2
      injection hd with hd; subst hd
      cases hb : μ.box i with
      | none => rw [hb] at h1; simp at h1
      | some bs =>
        rw [hb] at h1
        simp only [Option.bind_some] at h1
        obtain ⟨_, _, us, T, hg, hcr⟩ := m.box i bs hb
        obtain ⟨γ1, m1, e1, d1⟩ := frzs_sim (w := w) ih m hcr h1
        generalize hl : bs.flatMap (fids μ n) = l at *
        have hfz : frz (unsto μ l) n = frz μ n := funext (frz_unsto _ _ _)
        have hfi : fids (unsto μ l) n = fids μ n := funext (fids_unsto _ _ _)
        obtain ⟨γ2, m2, e2, d2, d3⟩ := boxes_sim (n := n) ih (ids := ids) (cs := q) m1 (fun j hj => h j (by simp [hj])) (by rw [hfz]; exact h2)
        have hbx : (unsto μ l).box = μ.box := rfl
        rw [hfi, hbx, unsto_unsto] at m2 e2
        refine ⟨γ2, ?_, ?_, by simp [d2], fun k j c hj hc => ?_⟩
        · simpa [hb, hl] using m2
        · simpa [hb, hl] using e1.trans e2
        · cases k with
          | zero =>
            simp at hj hc; subst hj; subst hc
            refine ⟨us.toList, d1.keep fun b o hb => (e2.st b o hb).1, fun j v hv => ?_⟩
            rw [at_, cell_of_row w _ _ us _ (0, 0) hg]
            simpa using hv
          | succ k =>
            obtain ⟨vs, g1, g2⟩ := d3 k j c (by simpa using hj) (by simpa using hc)
            refine ⟨vs, g1, fun x v hv => ?_⟩
            rw [← g2 x v hv, (e1.box j (h j (by simp [List.mem_of_getElem? (show ids[k]? = some j by simpa using hj)]))).2]
    · cases hd
theorem frz_sim : ∀ {n : Nat} {γ : Gh} {μ : Mu} {c d : Cell} {v : Value}, MR γ μ w → CR γ μ w c v → frz μ n c = some d →
    ∃ γ', MR γ' (unsto μ (fids μ n c)) w ∧ Ext γ μ w γ' (unsto μ (fids μ n c)) w ∧ ZR γ'.st w.heap.size w d v := by
  intro n
  have triv : ∀ {γ : Gh} {μ : Mu} {c : Cell} {v : Value} {l : List Id}, MR γ μ w → CR γ μ w c v → (∀ i, c ≠ .own i) → (∀ g ids, c ≠ .fn g ids) → c ≠ .any → (∀ i, c ≠ .mref i) → ∃ γ', MR γ' (unsto μ l) w ∧ Ext γ μ w γ' (unsto μ l) w ∧ ZR γ'.st w.heap.size w c v := by
    intro γ μ c v l m h h1 h2 h3 h4
    refine ⟨γ, m.unst _, .unst _, ?_⟩
    cases h with
    | z h => exact h.keep (fun _ _ h => ⟨h, rfl⟩) m.lo fun _ _ _ => rfl
    | own _ => exact absurd rfl (h1 _)
    | fn _ => exact absurd rfl (h2 _ _)
    | any => exact absurd rfl h3
    | anym => exact absurd rfl h3
    | mref _ => exact absurd rfl (h4 _)
  induction n with
  | zero =>
    intro γ μ c d v m h hd
    cases c with
    | val x => rw [frz_val] at hd; injection hd with hd; subst hd; exact triv m h (by simp) (by simp) (by simp) (by simp)
    | nil => rw [frz_nil] at hd; injection hd with hd; subst hd; exact triv m h (by simp) (by simp) (by simp) (by simp)
    | ro z xs => rw [frz_ro] at hd; injection hd with hd; subst hd; exact triv m h (by simp) (by simp) (by simp) (by simp)
    | clo g cs => rw [frz_clo] at hd; injection hd with hd; subst hd; exact triv m h (by simp) (by simp) (by simp) (by simp)
    | fresh e z xs => rw [frz_fresh] at hd; cases hd
    | any => simp [frz] at hd
    | mref i => simp [frz] at hd
    | own i =>
      rw [frz_own] at hd
      obtain ⟨q, hq, hz0, e⟩ := live_pair hd; subst e
      obtain ⟨γ', m', e, hdr⟩ := m.share hq (by omega)
      rw [fids_own]
      cases h with
      | z h => cases h with | dat h => cases h
      | own _ => exact ⟨γ', m', e, .dat hdr⟩
    | fn g ids => simp [frz] at hd
  | succ n ih =>
    intro γ μ c d v m h hd
    cases c with
    | val x => rw [frz_val] at hd; injection hd with hd; subst hd; exact triv m h (by simp) (by simp) (by simp) (by simp)
    | nil => rw [frz_nil] at hd; injection hd with hd; subst hd; exact triv m h (by simp) (by simp) (by simp) (by simp)
    | ro z xs => rw [frz_ro] at hd; injection hd with hd; subst hd; exact triv m h (by simp) (by simp) (by simp) (by simp)
    | clo g cs => rw [frz_clo] at hd; injection hd with hd; subst hd; exact triv m h (by simp) (by simp) (by simp) (by simp)
    | fresh e z xs => rw [frz_fresh] at hd; cases hd
    | any => simp [frz] at hd
    | mref i => simp [frz] at hd
    | own i =>
      rw [frz_own] at hd
      obtain ⟨q, hq, hz0, e⟩ := live_pair hd; subst e
      obtain ⟨γ', m', e, hdr⟩ := m.share hq (by omega)
      rw [fids_own]
      cases h with
      | z h => cases h with | dat h => cases h
      | own _ => exact ⟨γ', m', e, .dat hdr⟩
    | fn g ids =>
      simp only [frz] at hd
      obtain ⟨cs, hcs, e⟩ := some_pair hd; subst e
      cases h with
      | z h => cases h with | dat h => cases h
      | fn hids =>
        obtain ⟨γ', m', e, hl, hk⟩ := boxes_sim (w := w) ih m hids hcs
        refine ⟨γ', m', e, ?_⟩
        have hk' : ∀ k : Nat, ∃ vs : List Value, ∀ (i : Id) (c : List Cell), ids[k]? = some i → cs[k]? = some c → ZRs γ'.st w.heap.size w c vs ∧ ∀ (j : Nat) (v : Value), vs[j]? = some v → w.cell? (at_ (γ.be i) j) = some v := by
          intro k
          by_cases hlt : k < ids.length
          · obtain ⟨vs, h1, h2⟩ := hk k ids[k] (cs[k]'(by omega)) (List.getElem?_eq_getElem hlt) (List.getElem?_eq_getElem (by omega))
            refine ⟨vs, fun i c hi hc => ?_⟩
            rw [List.getElem?_eq_getElem hlt] at hi
            rw [List.getElem?_eq_getElem (show k < cs.length by omega)] at hc
            injection hi with hi; injection hc with hc
            subst hi; subst hc
            exact ⟨h1, h2⟩
          · exact ⟨[], fun i c hi => by rw [List.getElem?_eq_none (by omega)] at hi; cases hi⟩
        have hvs : ∀ (k : Nat) (i : Id) (c : List Cell), ids[k]? = some i → cs[k]? = some c → ZRs γ'.st w.heap.size w c (Classical.choose (hk' k)) ∧ ∀ (j : Nat) (v : Value), (Classical.choose (hk' k))[j]? = some v → w.cell? (at_ (γ.be i) j) = some v := fun k => Classical.choose_spec (hk' k)
        have hbs : ∀ (k b : Nat), (ids.map γ.be)[k]? = some b → ∃ i, ids[k]? = some i ∧ γ.be i = b := fun k b hb => by
          rw [List.getElem?_map] at hb
          exact some_pair hb
        refine .clo (by simp [hl]) (fun b hb => ?_) (vs := fun k j => (Classical.choose (hk' k)).getD j undef) (fun k c b j x hc hb hx => ?_) (fun k c j x hc hx => ?_)
        · obtain ⟨i, hi, rfl⟩ := List.mem_map.1 hb
          exact m.beLt (hids i hi)
        · obtain ⟨i, hi, rfl⟩ := hbs k b hb
          obtain ⟨h1, h2⟩ := hvs k i c hi hc
          obtain ⟨v, hv, _⟩ := LR.get h1 hx
          rw [h2 j v hv, List.getD_eq_getElem?_getD, hv]; rfl
        · have hlt : k < ids.length := by have := (List.getElem?_eq_some_iff.1 hc).1; omega
          obtain ⟨h1, h2⟩ := hvs k ids[k] c (List.getElem?_eq_getElem hlt) hc
          obtain ⟨v, hv, hz⟩ := LR.get h1 hx
          show ZR γ'.st w.heap.size w x ((Classical.choose (hk' k)).getD j undef)
          rw [List.getD_eq_getElem?_getD, hv]; exact hz
end Go.Proofs.Ytndabolfhhppkaa.Am
