/- A row's place is taken by another one: what is to be shown of the memory. No condition. -/
import Derived.Test.YtndabolfhhppkaaMain
namespace Go.Proofs.Ytndabolfhhppkaa.Am
open Go Go.RowKit
variable {γ : Gh} {μ : Mu} {w : World}

theorem MR.kill (m : MR γ μ w) {i : Id} {q : Arr} (hi : μ.arr i = some q) (hst : μ.sto i = true) :
    MR γ { μ with arr := upd μ.arr i (some ⟨0, 0, []⟩) } w ∧ Ext γ μ w γ { μ with arr := upd μ.arr i (some ⟨0, 0, []⟩) } w := by
  have hsome : (μ.arr i).isSome = true := by rw [hi]; rfl
  have hap := m.sa i hst
  have e : Ext γ μ w γ { μ with arr := upd μ.arr i (some ⟨0, 0, []⟩) } w :=
    ⟨rfl, fun _ _ h => ⟨h, rfl⟩, fun _ _ h => .inl h, Below.refl _ _, fun _ h => ⟨h, rfl⟩, fun j b hj => ⟨rfl, by
      by_cases h : j = i
      · subst h; exact ⟨_, upd_same _ _ _, .inl rfl⟩
      · exact ⟨b, by simp [upd_ne _ _ h, hj], .inr ⟨rfl, rfl, rfl⟩⟩⟩, fun _ h => ⟨h, rfl⟩⟩
  have some_ : ∀ j b, upd μ.arr i (some (⟨0, 0, []⟩ : Arr)) j = some b → (j = i ∧ b = ⟨0, 0, []⟩) ∨ (j ≠ i ∧ μ.arr j = some b) := fun j b hj => by
    by_cases h : j = i
    · subst h; rw [upd_same] at hj; injection hj with hj; exact .inl ⟨rfl, hj.symm⟩
    · rw [upd_ne _ _ h] at hj; exact .inr ⟨h, hj⟩
  refine ⟨⟨m.lo, m.stlt, fun j cs hj => ?_, fun j b hj => ?_, m.bb, fun j k g hj hk hg => ?_, fun j k b c g hj hk hjk hg hg' => ?_, m.sa, m.mm⟩, e⟩
  · obtain ⟨k1, k2, us, T, k3, k4⟩ := m.box j cs hj
    exact ⟨k1, k2, us, T, k3, k4.ext e⟩
  · rcases some_ j b hj with ⟨rfl, rfl⟩ | ⟨hne, hj'⟩
    · exact .inl ⟨rfl, rfl, m.nuSlice hsome, fun g hg => m.nuLt hsome hg⟩
    · rcases m.arr j b hj' with hd | ⟨k1, k2, k3⟩
      · exact .inl hd
      · exact .inr ⟨k1, k2, k3⟩
  · refine m.ba j k g hj ?_ hg
    obtain ⟨b, hb⟩ := Option.isSome_iff_exists.1 hk
    rcases some_ k b hb with ⟨rfl, _⟩ | ⟨_, h⟩
    · exact hsome
    · rw [h]; rfl
  · rcases some_ j b hj with ⟨rfl, rfl⟩ | ⟨hnj, hj'⟩
    · rcases some_ k c hk with ⟨rfl, rfl⟩ | ⟨hnk, hk'⟩
      · exact absurd rfl hjk
      · obtain ⟨z1, z2⟩ := m.aa j k q c g hi hk' hjk hg hg'
        have hx := z2 hst
        exact ⟨fun h => ⟨by rw [hx]; simp, (z1 h).2.1, .inr hx⟩, fun _ => hx⟩
    · rcases some_ k c hk with ⟨rfl, rfl⟩ | ⟨hnk, hk'⟩
      · obtain ⟨z1, z2⟩ := m.aa j k b q g hj' hi hjk hg hg'
        exact ⟨fun h => ⟨by simp, (z1 h).2.1, .inr rfl⟩, fun _ => rfl⟩
      · exact m.aa j k b c g hj' hk' hjk hg hg'
/-- A block that holds nothing that is seen is written anew. -/
theorem MR.wipe (m : MR γ μ w) {g : Nat} {cur nw : Array Value} {T : TypeId} (hlo : γ.lo ≤ g) (hg : w.heap[g]? = some (.cells cur T (0, 0))) (hsz : nw.size = cur.size) (hst : ∀ o, ¬ γ.st g o)
    (hb : ∀ j, (μ.box j).isSome = true → γ.be j ≠ g) (ha : ∀ j b, μ.arr j = some b → blk (γ.nu j) = some g → b.xs = []) : MR γ μ (w.setRow g nw) ∧ Ext γ μ w γ μ (w.setRow g nw) := by
  have e : Ext γ μ w γ μ (w.setRow g nw) := Ext.setRow hlo hst
  refine ⟨⟨by rw [setRow_size]; exact m.lo, fun b o h => by rw [setRow_size]; exact m.stlt b o h, fun j cs hj => ?_, fun j b hj => ?_, m.bb, m.ba, m.aa, m.sa, m.mm.keep rfl rfl fun b en c h => map_setRow hg en c h⟩, e⟩
  · obtain ⟨l1, l2, us, T', l3, l4⟩ := m.box j cs hj
    exact ⟨l1, l2, us, T', (setRow_other w _ _ _ (hb j (by rw [hj]; rfl))).trans l3, l4.ext e⟩
  · rcases m.arr j b hj with hd | ⟨k1, k2, k3⟩
    · exact .inl (hd.keep rfl (Nat.le_of_eq (setRow_size ..).symm))
    refine .inr ⟨k1, k2, k3.imp id ?_⟩
    rintro ⟨g', cap', cur', n1, n2, n3, n4, n5, n6, n7, n8⟩
    by_cases hgg : g' = g
    · subst hgg
      have hcc : cur = cur' ∧ T = b.e := by rw [hg] at n3; injection n3 with n3; injection n3 with n3 n3'; exact ⟨n3, n3'⟩
      obtain ⟨rfl, rfl⟩ := hcc
      have hx : b.xs = [] := by
        by_cases hc : cap' = 0
        · exact List.eq_nil_of_length_eq_zero (by omega)
        · exact ha j b hj (by rw [n1]; simp only [blk]; rw [if_neg hc]; rfl)
      exact ⟨g', cap', nw, n1, n2, setRow_heap w g' cur nw _ (0, 0) hg, n4, n5, by rw [hsz]; exact n6, fun p c hp => by rw [hx] at hp; simp at hp, n8⟩
    · exact ⟨g', cap', cur', n1, n2, (setRow_other w _ _ _ hgg).trans n3, n4, n5, n6, fun p c hp => (n7 p c hp).imp fun v hv => ⟨hv.1, hv.2.keep e.st⟩, n8⟩
/-- The row that takes the place: of a new block, or of the block that was there. -/
structure Takes (γ : Gh) (μ : Mu) (w : World) (i : Id) (q : Arr) (e z : Nat) (zs : List (List Cell)) (w' : World) (v : Value) : Prop where
  len : ∀ r ∈ zs, r.length = z
  is : (∃ (g cap : Nat) (cur : Array Value), v = .slice (some (at_ g 0)) zs.length cap ∧ w.heap.size ≤ g ∧ w'.heap[g]? = some (.cells cur e (0, 0)) ∧ Below w.heap.size w w' ∧ zs.length ≤ cap ∧ cap ≤ maxLen ∧ cur.size = cap * z ∧
      ∀ (j : Nat) (x : Cell), zs.flatten[j]? = some x → ∃ u : Value, cur[j]? = some u ∧ DR γ.st w x u) ∨
    (∃ (g cap : Nat) (cur nw : Array Value), γ.nu i = .slice (some (at_ g 0)) q.xs.length cap ∧ v = .slice (some (at_ g 0)) zs.length cap ∧ w.heap[g]? = some (.cells cur e (0, 0)) ∧ cap ≠ 0 ∧ nw.size = cap * z ∧ cur.size = cap * z ∧ Below w.heap.size (w.setRow g nw) w' ∧ zs.length ≤ cap ∧ cap ≤ maxLen ∧ γ.lo ≤ g ∧ (∀ o, ¬ γ.st g o) ∧
      ∀ (j : Nat) (x : Cell), zs.flatten[j]? = some x → ∃ u : Value, nw[j]? = some u ∧ DR γ.st w x u)
theorem MR.renewed (m : MR γ μ w) (tm : Tm μ []) {i : Id} {q : Arr} {e z : Nat} (hi : μ.arr i = some q) (hz : 0 < z) (hst : μ.sto i = true) {zs : List (List Cell)} {w' : World} {v : Value} (h : Takes γ μ w i q e z zs w' v) :
    ∃ γ', FR γ' (renew μ i ⟨e, z, zs⟩).2 w' (.v (.c (.own (μ.t + 1, 7)))) v ∧ MR γ' (renew μ i ⟨e, z, zs⟩).2 w' ∧ Ext γ μ w γ' (renew μ i ⟨e, z, zs⟩).2 w' ∧ Tm (renew μ i ⟨e, z, zs⟩).2 [] := by
  obtain ⟨hl, h⟩ := h
  have hsome : (μ.arr i).isSome = true := by rw [hi]; rfl
  obtain ⟨mk, ek⟩ := m.kill hi hst
  have hfresh : upd μ.arr i (some ⟨0, 0, []⟩) (μ.t + 1, 7) = none := by
    have hne : (μ.t + 1, 7) ≠ i := fun e => by
      rcases tm i (.inr hsome) with h1 | h1
      · rw [← e] at h1; simp only at h1; omega
      · exact absurd h1.2 (by simp)
    rw [upd_ne _ _ hne]
    cases hb : μ.arr (μ.t + 1, 7) with
    | none => rfl
    | some b =>
      rcases tm _ (.inr (by rw [hb]; rfl)) with h1 | h1
      · simp only at h1; omega
      · exact absurd h1.2 (by simp)
  have tmF : Tm (renew μ i ⟨e, z, zs⟩).2 [] := by
    intro j hj
    left
    show j.1 < μ.t + 1 + 1
    have hj' : (μ.box j).isSome = true ∨ (upd (upd μ.arr i (some ⟨0, 0, []⟩)) (μ.t + 1, 7) (some ⟨e, z, zs⟩) j).isSome = true := hj
    by_cases h7 : j = (μ.t + 1, 7)
    · subst h7; simp only; omega
    rw [upd_ne _ _ h7] at hj'
    by_cases hji : j = i
    · subst hji
      rcases tm j (.inr hsome) with h1 | h1
      · omega
      · exact absurd h1.2 (by simp)
    · rw [upd_ne _ _ hji] at hj'
      rcases tm j hj' with h1 | h1
      · omega
      · exact absurd h1.2 (by simp)
  -- the last steps are the same
  have fin : ∀ (g cap : Nat) (cur : Array Value), MR γ { μ with arr := upd μ.arr i (some ⟨0, 0, []⟩) } w' → Ext γ μ w γ { μ with arr := upd μ.arr i (some ⟨0, 0, []⟩) } w' → v = .slice (some (at_ g 0)) zs.length cap → γ.lo ≤ g →
      w'.heap[g]? = some (.cells cur e (0, 0)) → zs.length ≤ cap → cap ≤ maxLen → cur.size = cap * z → (∀ (j : Nat) (x : Cell), zs.flatten[j]? = some x → ∃ u : Value, cur[j]? = some u ∧ DR γ.st w' x u) → (∀ o, ¬ γ.st g o) →
      (∀ j, (μ.box j).isSome = true → γ.be j ≠ g) → (∀ j b, j ≠ i → μ.arr j = some b → blk (γ.nu j) = some g → b.xs = [] ∧ μ.app j = false) →
      ∃ γ', FR γ' (renew μ i ⟨e, z, zs⟩).2 w' (.v (.c (.own (μ.t + 1, 7)))) v ∧ MR γ' (renew μ i ⟨e, z, zs⟩).2 w' ∧ Ext γ μ w γ' (renew μ i ⟨e, z, zs⟩).2 w' ∧ Tm (renew μ i ⟨e, z, zs⟩).2 [] := by
    intro g cap cur m1 e1 hv hlo hg hlen hcm hcs hcont hnst hbx har
    have hbv : ∀ g', blk v = some g' → g' = g := fun g' h => by
      rw [hv] at h
      simp only [blk] at h
      split at h
      · cases h
      · injection h with h; exact h.symm
    obtain ⟨m2, e2⟩ := m1.addArr (i := (μ.t + 1, 7)) (q := ⟨e, z, zs⟩) (v := v) (sto := true) (old := [i]) hfresh
      ⟨hl, hz, .inr ⟨g, cap, cur, by simp only [upd_same]; exact hv, hlo, hg, hlen, hcm, hcs, hcont, fun _ o _ => hnst o, fun _ o => hnst o⟩⟩
      (fun j g' hj hg' => by rw [hbv g' hg']; exact hbx j hj)
      (fun j b g' hj hg' hn' => by
        rw [hbv g' hg'] at hn'
        by_cases hji : j = i
        · subst hji
          simp only [upd_same, Option.some.injEq] at hj
          subst hj
          exact ⟨⟨by simp, fun _ => by simp, .inr rfl⟩, fun _ => rfl, fun _ => by simp⟩
        · simp only [upd_ne _ _ hji] at hj
          obtain ⟨h1, h2⟩ := har j b hji hj hn'
          refine ⟨⟨by rw [h1]; simp, fun h => ?_, .inr h1⟩, fun _ => h1, fun h => ?_⟩
          · have h : μ.app j = true := h
            rw [h2] at h; cases h
          · have := m.sa j h
            rw [h2] at this; cases this)
    have tk : MR { γ with nu := upd γ.nu (μ.t + 1, 7) v } (renew μ i ⟨e, z, zs⟩).2 w' ∧ Ext { γ with nu := upd γ.nu (μ.t + 1, 7) v } (mkRow { μ with arr := upd μ.arr i (some ⟨0, 0, []⟩) } (μ.t + 1, 7) ⟨e, z, zs⟩ true [i]) w' { γ with nu := upd γ.nu (μ.t + 1, 7) v } (renew μ i ⟨e, z, zs⟩).2 w' := by
      have := Ext.mtick { γ with nu := upd γ.nu (μ.t + 1, 7) v } (mkRow { μ with arr := upd μ.arr i (some ⟨0, 0, []⟩) } (μ.t + 1, 7) ⟨e, z, zs⟩ true [i]) w'
      have h2 := Ext.mtick { γ with nu := upd γ.nu (μ.t + 1, 7) v } (mkRow { μ with arr := upd μ.arr i (some ⟨0, 0, []⟩) } (μ.t + 1, 7) ⟨e, z, zs⟩ true [i]).tick w'
      exact ⟨m2.mtick.mtick, this.trans h2⟩
    refine ⟨_, ?_, tk.1, e1.trans (e2.trans tk.2), tmF⟩
    have := CR.own (γ := { γ with nu := upd γ.nu (μ.t + 1, 7) v }) (μ := (renew μ i ⟨e, z, zs⟩).2) (w := w') (i := (μ.t + 1, 7)) (by simp [renew, Mu.tick, mkRow, upd_same])
    simpa [upd_same, FR, VR] using this
  rcases h with ⟨g, cap, cur, hv, hgs, hg, hbel, hlen, hcm, hcs, hcont⟩ | ⟨g, cap, cur, nw, hn, hv, hg, hc0, hnw, hcs, hbel, hlen, hcm, hlo, hnst, hcont⟩
  · have hno : ∀ o, ¬ γ.st g o := fun o h => by have := m.stlt g o h; omega
    have eg := Ext.grow mk hbel
    refine fin g cap cur (mk.grow hbel) (ek.trans eg) hv (Nat.le_trans m.lo hgs) hg hlen hcm hcs (fun j x hj => (hcont j x hj).imp fun u hu => ⟨hu.1, hu.2.keep eg.st⟩) hno (fun j hj e => ?_) (fun j b _ hj hb => ?_)
    · have := m.beLt hj; omega
    · have := m.nuLt (by rw [hj]; rfl) hb; omega
  · have hblk : blk (γ.nu i) = some g := by rw [hn]; simp only [blk]; rw [if_neg hc0]; rfl
    have har : ∀ j b, j ≠ i → μ.arr j = some b → blk (γ.nu j) = some g → b.xs = [] ∧ μ.app j = false := fun j b hne hj hb => by
      obtain ⟨z1, z2⟩ := m.aa i j q b g hi hj (Ne.symm hne) hblk hb
      exact ⟨z2 hst, (z1 (m.sa i hst)).2.1⟩
    obtain ⟨mw, ew⟩ := mk.wipe hlo hg (nw := nw) (by rw [hnw, hcs]) hnst (fun j hj => m.ba j i g hj hsome hblk) (fun j b hj hb => by
      by_cases hji : j = i
      · subst hji; simp only [upd_same, Option.some.injEq] at hj; subst hj; rfl
      · simp only [upd_ne _ _ hji] at hj; exact (har j b hji hj hb).1)
    have hbel' : Below (w.setRow g nw).heap.size (w.setRow g nw) w' := by rw [setRow_size]; exact hbel
    have eg := Ext.grow mw hbel'
    have hnew := setRow_heap w g cur nw e (0, 0) hg
    refine fin g cap nw (mw.grow hbel') (ek.trans (ew.trans eg)) hv hlo ?_ hlen hcm hnw (fun j x hj => (hcont j x hj).imp fun u hu => ⟨hu.1, (hu.2.keep ew.st).keep eg.st⟩) hnst (fun j hj => m.ba j i g hj hsome hblk) har
    rw [hbel'.block g (lt_of_some hnew)]
    exact hnew
end Go.Proofs.Ytndabolfhhppkaa.Am
