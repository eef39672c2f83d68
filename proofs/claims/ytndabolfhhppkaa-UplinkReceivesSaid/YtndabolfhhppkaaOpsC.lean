/- One operation, on: what makes memory or writes it. No condition. -/
import Derived.Test.YtndabolfhhppkaaOpsB
import Derived.Maps.AppendAt
namespace Go.Proofs.Ytndabolfhhppkaa.Am
open Go Go.RowKit
variable {P : Program} {γ : Gh} {μ : Mu} {w : World} {nt : Nat} {D : List Nat} {fr : Fr} {a : Act}

/-! ### Growth -/
theorem Ext.grow (m : MR γ μ w) {w' : World} (hb : Below w.heap.size w w') : Ext γ μ w γ μ w' :=
  ⟨rfl, fun b o h => ⟨h, hb.cell (p := at_ b o) (m.stlt b o h)⟩, fun _ _ h => .inl h, hb.mono m.lo, fun _ h => ⟨h, rfl⟩, fun _ a h => ⟨rfl, a, h, .inr ⟨rfl, rfl, rfl⟩⟩, fun _ h => ⟨h, rfl⟩⟩
theorem lt_of_some {g : Nat} {o : Obj} (h : w.heap[g]? = some o) : g < w.heap.size := (Array.getElem?_eq_some_iff.1 h).1
theorem MR.grow (m : MR γ μ w) {w' : World} (hb : Below w.heap.size w w') : MR γ μ w' := by
  have e := Ext.grow m hb
  refine ⟨Nat.le_trans m.lo hb.size, fun b o h => Nat.lt_of_lt_of_le (m.stlt b o h) hb.size, fun i cs h => ?_, fun i a h => ?_, m.bb, m.ba, m.aa, m.sa, m.mm.keep rfl rfl fun b en c h => (hb.block _ (lt_of_some h)).trans h⟩
  · obtain ⟨h1, h2, vs, T, h3, h4⟩ := m.box i cs h
    exact ⟨h1, h2, vs, T, (hb.block _ (lt_of_some h3)).trans h3, h4.ext e⟩
  · rcases m.arr i a h with hd | ⟨h1, h2, h3⟩
    · exact .inl (hd.keep rfl hb.size)
    refine .inr ⟨h1, h2, h3.imp id ?_⟩
    rintro ⟨g, cap, cur, k1, k2, k3, k4, k5, k6, k7, k8⟩
    exact ⟨g, cap, cur, k1, k2, (hb.block _ (lt_of_some k3)).trans k3, k4, k5, k6, fun j x hj => (k7 j x hj).imp fun v hv => ⟨hv.1, hv.2.keep e.st⟩, k8⟩
theorem below_alloc (w : World) (o : Obj) : Below w.heap.size w (w.alloc o) := (Below.refl _ _).alloc (Nat.le_refl _) o
theorem MR.beLt (m : MR γ μ w) {i : Id} (h : (μ.box i).isSome = true) : γ.be i < w.heap.size := by
  obtain ⟨cs, hc⟩ := Option.isSome_iff_exists.1 h
  obtain ⟨_, _, vs, T, h3, _⟩ := m.box i cs hc
  exact lt_of_some h3
theorem blk_form {v : Value} {g : Nat} (h : blk v = some g) : ∃ ad n c, v = .slice (some ad) n c ∧ c ≠ 0 ∧ ad.block = g := by
  unfold blk at h
  split at h
  · split at h
    · cases h
    · injection h with h; exact ⟨_, _, _, rfl, by assumption, h⟩
  · cases h
theorem MR.nuLt (m : MR γ μ w) {i : Id} {g : Nat} (h : (μ.arr i).isSome = true) (hb : blk (γ.nu i) = some g) : g < w.heap.size := by
  obtain ⟨a, ha⟩ := Option.isSome_iff_exists.1 h
  obtain ⟨ad, n, c, e, hc, hg⟩ := blk_form hb
  rcases m.arr i a ha with hd | hd
  · exact hd.lt g hb
  rcases hd.2.2 with ⟨A, e', _⟩ | ⟨g', cap, cur, e', _, h3, _⟩
  · rw [e'] at e; injection e with _ _ e; exact absurd e.symm hc
  · rw [e'] at e; injection e with e _ _; injection e with e; subst e; subst hg; exact lt_of_some h3
theorem upd_same {α : Type} (f : Id → α) (i : Id) (x : α) : upd f i x i = x := by simp [upd]
theorem upd_ne {α : Type} (f : Id → α) {i j : Id} (x : α) (h : j ≠ i) : upd f i x j = f j := by simp [upd, h]
theorem MR.addBox (m : MR γ μ w) {i : Id} {g : Nat} {cs : List Cell} {vs : Array Value} {T : TypeId} (hi : μ.box i = none) (hlo : γ.lo ≤ g) (hst : ∀ o, ¬ γ.st g o) (hg : w.heap[g]? = some (.cells vs T (0, 0))) (hc : CRs γ μ w cs vs.toList)
    (h1 : ∀ j, (μ.box j).isSome = true → γ.be j ≠ g) (h2 : ∀ j, (μ.arr j).isSome = true → blk (γ.nu j) ≠ some g) :
    MR { γ with be := upd γ.be i g } { μ with box := upd μ.box i (some cs) } w ∧ Ext γ μ w { γ with be := upd γ.be i g } { μ with box := upd μ.box i (some cs) } w := by
  have e : Ext γ μ w { γ with be := upd γ.be i g } { μ with box := upd μ.box i (some cs) } w :=
    ⟨rfl, fun _ _ h => ⟨h, rfl⟩, fun _ _ h => .inl h, Below.refl _ _, fun j hj => by
      have hne : j ≠ i := fun e => by subst e; rw [hi] at hj; cases hj
      exact ⟨by simp [upd_ne _ _ hne, hj], by simp [upd_ne _ _ hne]⟩, fun _ a h => ⟨rfl, a, h, .inr ⟨rfl, rfl, rfl⟩⟩, fun _ h => ⟨h, rfl⟩⟩
  have some_ : ∀ j, (upd μ.box i (some cs) j).isSome = true → j = i ∨ (j ≠ i ∧ (μ.box j).isSome = true) := fun j hj => by
    by_cases h : j = i
    · exact .inl h
    · rw [upd_ne _ _ h] at hj; exact .inr ⟨h, hj⟩
  refine ⟨⟨m.lo, m.stlt, fun j ds hj => ?_, fun j q hj => ?_, fun j k hj hk hjk => ?_, fun j k q hj hk hq => ?_, m.aa, m.sa, m.mm⟩, e⟩
  · by_cases h : j = i
    · subst h
      simp only [upd_same] at hj ⊢
      injection hj with hj; subst hj
      exact ⟨hlo, hst, vs, T, hg, hc.ext e⟩
    · simp only [upd_ne _ _ h] at hj ⊢
      obtain ⟨k1, k2, us, T', k3, k4⟩ := m.box j ds hj
      exact ⟨k1, k2, us, T', k3, k4.ext e⟩
  · rcases m.arr j q hj with hd | ⟨k1, k2, k3⟩
    · exact .inl (hd.keep rfl (Nat.le_refl _))
    exact .inr ⟨k1, k2, k3⟩
  · simp only at hjk
    rcases some_ j hj with rfl | ⟨hj1, hj2⟩
    · rcases some_ k hk with rfl | ⟨hk1, hk2⟩
      · rfl
      · rw [upd_same, upd_ne _ _ hk1] at hjk; exact absurd hjk.symm (h1 k hk2)
    · rcases some_ k hk with rfl | ⟨hk1, hk2⟩
      · rw [upd_same, upd_ne _ _ hj1] at hjk; exact absurd hjk (h1 j hj2)
      · rw [upd_ne _ _ hk1, upd_ne _ _ hj1] at hjk; exact m.bb j k hj2 hk2 hjk
  · rcases some_ j hj with rfl | ⟨hj1, hj2⟩
    · simp only [upd_same]; exact fun e => h2 k hk (by rw [e]; exact hq)
    · simp only [upd_ne _ _ hj1]; exact m.ba j k q hj2 hk hq
theorem MR.addArr (m : MR γ μ w) {i : Id} {q : Arr} {v : Value} {sto : Bool} {old : List Id} (hi : μ.arr i = none)
    (hA : ArrR { γ with nu := upd γ.nu i v } (mkRow μ i q sto old) w i q)
    (h1 : ∀ j g, (μ.box j).isSome = true → blk v = some g → γ.be j ≠ g)
    (h2 : ∀ j b g, μ.arr j = some b → blk v = some g → blk (γ.nu j) = some g → (b.xs.length ≤ q.xs.length ∧ (μ.app j = true → j ∈ old) ∧ (b.sz = q.sz ∨ b.xs = [])) ∧ (sto = true → b.xs = []) ∧ (μ.sto j = true → j ∈ old)) :
    MR { γ with nu := upd γ.nu i v } (mkRow μ i q sto old) w ∧ Ext γ μ w { γ with nu := upd γ.nu i v } (mkRow μ i q sto old) w := by
  have e : Ext γ μ w { γ with nu := upd γ.nu i v } (mkRow μ i q sto old) w :=
    ⟨rfl, fun _ _ h => ⟨h, rfl⟩, fun _ _ h => .inl h, Below.refl _ _, fun j hj => ⟨hj, rfl⟩, fun j b hj => by
      have hne : j ≠ i := fun e => by subst e; rw [hi] at hj; cases hj
      exact ⟨by simp [upd_ne _ _ hne], b, by simp [mkRow, upd_ne _ _ hne, hj], .inr ⟨rfl, rfl, rfl⟩⟩, fun _ h => ⟨h, rfl⟩⟩
  have some_ : ∀ j b, (mkRow μ i q sto old).arr j = some b → (j = i ∧ b = q) ∨ (j ≠ i ∧ μ.arr j = some b) := fun j b hj => by
    by_cases h : j = i
    · subst h; simp only [mkRow, upd_same] at hj; injection hj with hj; exact .inl ⟨rfl, hj.symm⟩
    · simp only [mkRow, upd_ne _ _ h] at hj; exact .inr ⟨h, hj⟩
  refine ⟨⟨m.lo, m.stlt, fun j ds hj => ?_, fun j b hj => ?_, m.bb, fun j k g hj hk hg => ?_, fun j k b c g hj hk hjk hg hg' => ?_, fun j hj => ?_, m.mm⟩, e⟩
  · obtain ⟨k1, k2, us, T', k3, k4⟩ := m.box j ds hj
    exact ⟨k1, k2, us, T', k3, k4.ext e⟩
  · rcases some_ j b hj with ⟨rfl, rfl⟩ | ⟨hne, hj'⟩
    · exact .inr hA
    · rcases m.arr j b hj' with hd | ⟨k1, k2, k3⟩
      · exact .inl (hd.keep (by simp only [upd_ne _ _ hne]) (Nat.le_refl _))
      refine .inr ⟨k1, k2, ?_⟩
      simp only [upd_ne _ _ hne]
      refine k3.imp id ?_
      rintro ⟨g, cap, cur, l1, l2, l3, l4, l5, l6, l7, l8, l9⟩
      refine ⟨g, cap, cur, l1, l2, l3, l4, l5, l6, l7, fun h => l8 ?_, fun h => l9 ?_⟩
      · simp [mkRow, hne] at h; exact h.1
      · simp [mkRow, hne] at h; exact h.1
  · obtain ⟨b, hb⟩ := Option.isSome_iff_exists.1 hk
    rcases some_ k b hb with ⟨rfl, rfl⟩ | ⟨hne, hk'⟩
    · simp only [upd_same] at hg; exact h1 j g hj hg
    · simp only [upd_ne _ _ hne] at hg; exact m.ba j k g hj (by rw [hk']; rfl) hg
  · rcases some_ j b hj with ⟨rfl, rfl⟩ | ⟨hne, hj'⟩
    · rcases some_ k c hk with ⟨rfl, rfl⟩ | ⟨hne', hk'⟩
      · exact absurd rfl hjk
      · simp only [upd_same] at hg
        simp only [upd_ne _ _ hne'] at hg'
        obtain ⟨⟨g1, g2, g3⟩, g4, _⟩ := h2 k c g hk' hg hg'
        refine ⟨fun _ => ⟨g1, ?_, g3⟩, fun h => g4 (by simpa [mkRow] using h)⟩
        simp only [mkRow, hne', if_false]
        cases ha : μ.app k with
        | false => rfl
        | true => simp [g2 ha]
    · rcases some_ k c hk with ⟨rfl, rfl⟩ | ⟨hne', hk'⟩
      · simp only [upd_same] at hg'
        simp only [upd_ne _ _ hne] at hg
        obtain ⟨⟨g1, g2, g3⟩, g4, g5⟩ := h2 j b g hj' hg' hg
        refine ⟨fun h => ?_, fun h => ?_⟩
        · simp [mkRow, hne] at h
          exact absurd (g2 h.1) h.2
        · simp [mkRow, hne] at h
          exact absurd (g5 h.1) h.2
      · simp only [upd_ne _ _ hne] at hg
        simp only [upd_ne _ _ hne'] at hg'
        obtain ⟨g1, g2⟩ := m.aa j k b c g hj' hk' hjk hg hg'
        refine ⟨fun h => ?_, fun h => ?_⟩
        · simp [mkRow, hne] at h
          obtain ⟨l1, l2, l3⟩ := g1 h.1
          exact ⟨l1, by simp [mkRow, hne', l2], l3⟩
        · simp [mkRow, hne] at h; exact g2 h.1
  · by_cases h : j = i
    · subst h; simp [mkRow]
    · simp [mkRow, h] at hj ⊢
      exact ⟨m.sa j hj.1, hj.2⟩
theorem MR.unst (m : MR γ μ w) (l : List Id) : MR γ (unsto μ l) w :=
  ⟨m.lo, m.stlt, fun i cs h => by
    obtain ⟨h1, h2, vs, T, h3, h4⟩ := m.box i cs h
    exact ⟨h1, h2, vs, T, h3, h4.ext ⟨rfl, fun _ _ h => ⟨h, rfl⟩, fun _ _ h => .inl h, Below.refl _ _, fun _ h => ⟨h, rfl⟩, fun _ a h => ⟨rfl, a, h, .inr ⟨rfl, rfl, rfl⟩⟩, fun _ h => ⟨h, rfl⟩⟩⟩,
   fun i a h => by
    rcases m.arr i a h with hd | ⟨h1, h2, h3⟩
    · exact .inl (hd.keep rfl (Nat.le_refl _))
    refine .inr ⟨h1, h2, h3.imp id ?_⟩
    rintro ⟨g, cap, cur, k1, k2, k3, k4, k5, k6, k7, k8, k9⟩
    exact ⟨g, cap, cur, k1, k2, k3, k4, k5, k6, k7, k8, fun h => k9 (by simp [unsto] at h; exact h.1)⟩, m.bb, m.ba,
   fun i j a b g hi hj hij hg hg' => ⟨(m.aa i j a b g hi hj hij hg hg').1, fun h => (m.aa i j a b g hi hj hij hg hg').2 (by simp [unsto] at h; exact h.1)⟩, fun i h => m.sa i (by simp [unsto] at h; exact h.1), m.mm⟩
theorem Ext.unst (l : List Id) : Ext γ μ w γ (unsto μ l) w := ⟨rfl, fun _ _ h => ⟨h, rfl⟩, fun _ _ h => .inl h, Below.refl _ _, fun _ h => ⟨h, rfl⟩, fun _ a h => ⟨rfl, a, h, .inr ⟨rfl, rfl, rfl⟩⟩, fun _ h => ⟨h, rfl⟩⟩
/-- A row of one's own is shared: its elements stay from now on. -/
theorem MR.share (m : MR γ μ w) {i : Id} {q : Arr} (h : μ.arr i = some q) (hqz : q.sz ≠ 0) :
    ∃ γ' : Gh, MR γ' (unsto μ [i]) w ∧ Ext γ μ w γ' (unsto μ [i]) w ∧ DR γ'.st w (.ro q.sz q.xs) (γ.nu i) := by
  obtain ⟨h1, h2, h3⟩ := m.liv h hqz
  rcases h3 with ⟨A, e, h0⟩ | ⟨g, cap, cur, k1, k2, k3, k4, k5, k6, k7, k8, k9⟩
  · refine ⟨γ, m.unst _, .unst _, ?_⟩
    rw [e, h0]
    exact .ro (b := 0) (o := 0) (vs := fun _ => undef) rfl (Nat.le_refl _) (by simp [maxLen]) (by simp) (fun h => absurd h (Nat.lt_irrefl _)) (fun j x hj => by simp at hj) (fun j x hj => by simp at hj)
  · let st' : Nat → Nat → Prop := fun b o => γ.st b o ∨ (b = g ∧ o < q.xs.length * q.sz)
    have hblk : q.xs.length * q.sz ≠ 0 → blk (γ.nu i) = some g := fun hne => by
      have hl : q.xs.length ≠ 0 := fun e => hne (by rw [e, Nat.zero_mul])
      rw [k1]; simp only [blk]; rw [if_neg (by omega)]; rfl
    have hisome : (μ.arr i).isSome = true := by rw [h]; rfl
    have e : Ext γ μ w { γ with st := st' } (unsto μ [i]) w :=
      ⟨rfl, fun b o h => ⟨.inl h, rfl⟩, fun b o h => h.imp id fun h => by rw [h.1]; exact k2, Below.refl _ _, fun _ h => ⟨h, rfl⟩, fun _ a h => ⟨rfl, a, h, .inr ⟨rfl, rfl, rfl⟩⟩, fun _ h => ⟨h, rfl⟩⟩
    refine ⟨{ γ with st := st' }, ⟨m.lo, fun b o hs => ?_, fun j cs hj => ?_, fun j b hj => ?_, m.bb, m.ba, fun j k b c g' hj hk hjk hg hg' => ?_, fun j hj => m.sa j (by simp [unsto] at hj; exact hj.1), m.mm⟩, e, ?_⟩
    · rcases hs with hs | hs
      · exact m.stlt b o hs
      · rw [hs.1]; exact lt_of_some k3
    · change μ.box j = some cs at hj
      obtain ⟨l1, l2, vs, T, l3, l4⟩ := m.box j cs hj
      refine ⟨l1, fun o ho => ?_, vs, T, l3, l4.ext e⟩
      rcases ho with ho | ho
      · exact l2 o ho
      · exact m.ba j i g (by rw [hj]; rfl) hisome (hblk (by omega)) ho.1
    · change μ.arr j = some b at hj
      rcases m.arr j b hj with hd | ⟨l1, l2, l3⟩
      · exact .inl (hd.keep rfl (Nat.le_refl _))
      refine .inr ⟨l1, l2, l3.imp id ?_⟩
      rintro ⟨g', cap', cur', n1, n2, n3, n4, n5, n6, n7, n8, n9⟩
      have same : g' = g → j ≠ i → q.xs.length * q.sz ≠ 0 → (μ.app j = true → q.xs.length ≤ b.xs.length ∧ q.sz = b.sz) ∧ (μ.sto j = true → q.xs = []) := by
        intro hgg hji hne
        subst hgg
        have hbi := hblk hne
        by_cases hc : cap' = 0
        · subst hc
          have hcur : cur = cur' := by rw [k3] at n3; injection n3 with n3; injection n3
          subst hcur
          have : cur.size = 0 := by rw [n6]; simp
          have hq : q.xs.length ≤ 0 ∨ cap ≠ 0 := by omega
          rw [k6] at this
          rcases Nat.mul_eq_zero.1 this with hcap | hsz
          · exfalso; apply hne; rw [show q.xs.length = 0 by omega, Nat.zero_mul]
          · omega
        · have hbj : blk (γ.nu j) = some g' := by rw [n1]; simp only [blk]; rw [if_neg hc]; rfl
          obtain ⟨g1, g2⟩ := m.aa j i b q g' hj h hji hbj hbi
          exact ⟨fun hap => ⟨(g1 hap).1, (g1 hap).2.2.resolve_right fun e => hne (by rw [e]; simp)⟩, g2⟩
      refine ⟨g', cap', cur', n1, n2, n3, n4, n5, n6, fun k x hk => (n7 k x hk).imp fun v hv => ⟨hv.1, hv.2.keep e.st⟩, fun hap o ho => ?_, fun hs o ho => ?_⟩
      · rintro (hs | ⟨hs1, hs2⟩)
        · exact n8 hap o ho hs
        · by_cases hji : j = i
          · subst hji; rw [h] at hj; injection hj with hj; subst hj; omega
          · obtain ⟨z1, z2⟩ := (same hs1 hji (by omega)).1 hap
            rw [z2] at hs2
            have := Nat.mul_le_mul_right b.sz z1
            omega
      · simp [unsto] at hs
        rcases ho with ho | ⟨ho1, ho2⟩
        · exact n9 hs.1 o ho
        · have := (same ho1 hs.2 (by omega)).2 hs.1
          rw [this] at ho2; simp at ho2
    · obtain ⟨g1, g2⟩ := m.aa j k b c g' hj hk hjk hg hg'
      exact ⟨g1, fun hs => g2 (by simp [unsto] at hs; exact hs.1)⟩
    · rw [k1]
      refine .ro (b := g) (o := 0) (vs := fun j => cur.toList.getD j undef) rfl k4 k5 h1 (fun _ => rfl) (fun j x hj => ?_) (fun j x hj => ?_)
      · obtain ⟨v, hv, hd⟩ := k7 j x hj
        have hv' : cur.toList[j]? = some v := by simpa using hv
        refine ⟨.inr ⟨rfl, ?_⟩, ?_⟩
        · rw [← flatten_len h1, Nat.zero_add]; exact (List.getElem?_eq_some_iff.1 hj).1
        · rw [Nat.zero_add, at_, cell_of_row w _ _ cur _ (0, 0) k3, hv, List.getD_eq_getElem?_getD, hv']; rfl
      · obtain ⟨v, hv, hd⟩ := k7 j x hj
        have hv' : cur.toList[j]? = some v := by simpa using hv
        have e' : cur.toList.getD j undef = v := by rw [List.getD_eq_getElem?_getD, hv']; rfl
        show DR st' w x (cur.toList.getD j undef)
        rw [e']; exact hd.keep e.st
end Go.Proofs.Ytndabolfhhppkaa.Am
