/- The rounds of the specified way, in plain words. No condition. -/
import Derived.Test.YtkoickoceggimaaGS
namespace Go.Proofs.Ytkoickoceggimaa.Am
open Go

theorem nodup_len : ∀ {l k : List Int}, l.Nodup → (∀ x ∈ l, x ∈ k) → l.length ≤ k.length
  | [], _, _, _ => by simp
  | x :: l, k, h, hs => by
    obtain ⟨h1, h2⟩ := List.nodup_cons.1 h
    have hx := hs x (by simp)
    have := nodup_len (l := l) (k := k.erase x) h2 fun y hy => (List.mem_erase_of_ne (fun e => h1 (by rw [← e]; exact hy))).2 (hs y (by simp [hy]))
    have hl := List.length_erase_of_mem hx
    have hp : 0 < k.length := List.length_pos_iff.2 fun e => by rw [e] at hx; simp at hx
    simp only [List.length_cons]; omega
theorem Wt.last {S : Gph} {a b c : Int} {n : Nat} (h : Wt S a b c (n + 1)) : ∃ u c' d, Wt S a u c' n ∧ S u b d ∧ c = c' + d := by
  generalize hk : n + 1 = k at h
  induction h generalizing n with
  | nil v => omega
  | cons h1 h2 ih =>
    rename_i a b d w c k
    cases n with
    | zero =>
      have : k = 0 := by omega
      subst this
      cases h2
      exact ⟨a, 0, d, .nil a, h1, by omega⟩
    | succ n =>
      obtain ⟨u, c', d', q1, q2, q3⟩ := ih (n := n) (by omega)
      exact ⟨u, c' + d, d', .cons h1 q1, q2, by omega⟩
def LeB (bs bs' : List Int) : Prop := ∀ (j : Nat) x0, bs[j]? = some x0 → 0 ≤ x0 → ∃ x, bs'[j]? = some x ∧ 0 ≤ x ∧ x ≤ x0
theorem LeB.refl (bs : List Int) : LeB bs bs := fun _ x0 h h0 => ⟨x0, h, h0, Int.le_refl _⟩
theorem LeB.trans {a b c : List Int} (h : LeB a b) (k : LeB b c) : LeB a c := fun j x0 e h0 => by
  obtain ⟨x, e1, h1, l1⟩ := h j x0 e h0
  obtain ⟨y, e2, h2, l2⟩ := k j x e1 h1
  exact ⟨y, e2, h2, by omega⟩
def Rx (bs0 bs : List Int) (a b : Nat) (d : Int) : Prop := ∀ x0, bs0[a]? = some x0 → 0 ≤ x0 → ∃ x, bs[b]? = some x ∧ 0 ≤ x ∧ x ≤ x0 + d
theorem Rx.mono {bs0 bs bs' : List Int} {a b : Nat} {d : Int} (h : Rx bs0 bs a b d) (k : LeB bs bs') : Rx bs0 bs' a b d := fun x0 e h0 => by
  obtain ⟨x, e1, h1, l1⟩ := h x0 e h0
  obtain ⟨y, e2, h2, l2⟩ := k b x e1 h1
  exact ⟨y, e2, h2, by omega⟩
def Bnd (B : Int) (bs : List Int) : Prop := ∀ x ∈ bs, x ≤ B
def Snd (m : Mp) (fm : Int) (bs : List Int) : Prop := ∀ v k x, idx (isNd v) m.nodes = some k → bs[k]? = some x → 0 ≤ x → ∃ n, Wt (Sm m) fm v x n
theorem idx_nd {m : Mp} {u v : Int} {k : Nat} (h1 : idx (isNd u) m.nodes = some k) (h2 : idx (isNd v) m.nodes = some k) : u = v := by
  obtain ⟨a, ha, pa⟩ := idx_some h1
  obtain ⟨b, hb, pb⟩ := idx_some h2
  rw [ha] at hb
  injection hb with hb
  subst hb
  simp only [isNd, beq_iff_eq] at pa pb
  omega
/-- One step of a round: from node 'a' to node 'b'. -/
theorem one_step {m : Mp} {fm u v d B : Int} {bs : List Int} {a b : Nat} {x y : Int} (hs : Snd m fm bs) (hB : Bnd B bs) (ha : idx (isNd u) m.nodes = some a) (hb : idx (isNd v) m.nodes = some b)
    (hx : bs[a]? = some x) (hy : bs[b]? = some y) (hS : Sm m u v d) (hd : 10 ≤ d ∧ d ≤ 20000) :
    Snd m fm (bs.set b (nearI y x d)) ∧ Bnd (B + 20000) (bs.set b (nearI y x d)) ∧ LeB bs (bs.set b (nearI y x d)) ∧ ∀ bs0, LeB bs0 bs → Rx bs0 (bs.set b (nearI y x d)) a b d := by
  have hbl := (List.getElem?_eq_some_iff.1 hy).1
  have hxB := hB x (List.mem_of_getElem? hx)
  have hyB := hB y (List.mem_of_getElem? hy)
  have hself : (bs.set b (nearI y x d))[b]? = some (nearI y x d) := by rw [List.getElem?_set_self hbl]
  refine ⟨fun w k z hw hz h0 => ?_, fun z hz => ?_, fun j x0 hj h0 => ?_, fun bs0 hle x0 hx0 h0 => ?_⟩
  · by_cases hk : b = k
    · subst hk
      rw [hself] at hz
      injection hz with hz
      subst hz
      have := idx_nd hb hw
      subst this
      by_cases c : x < 0 ∨ (0 ≤ y ∧ y ≤ x + d)
      · have e : nearI y x d = y := if_pos c
        rw [e] at h0 ⊢
        exact hs _ _ _ hw hy h0
      · have e : nearI y x d = x + d := if_neg c
        rw [e]
        obtain ⟨n, hn⟩ := hs _ _ _ ha hx (by omega)
        exact ⟨_, hn.snoc hS⟩
    · rw [List.getElem?_set_ne hk] at hz
      exact hs _ _ _ hw hz h0
  · rcases List.mem_or_eq_of_mem_set hz with hz | rfl
    · have := hB z hz; omega
    · unfold nearI; split <;> omega
  · by_cases hk : b = j
    · subst hk
      rw [hy] at hj
      injection hj with hj
      subst hj
      refine ⟨_, hself, ?_, ?_⟩ <;> (unfold nearI; split <;> omega)
    · exact ⟨x0, by rw [List.getElem?_set_ne hk]; exact hj, h0, Int.le_refl _⟩
  · obtain ⟨x', e1, h1, l1⟩ := hle a x0 hx0 h0
    rw [hx] at e1
    injection e1 with e1
    subst e1
    refine ⟨_, hself, ?_, ?_⟩ <;> (unfold nearI; split <;> omega)
def Cpl (m : Mp) (fm : Int) (r : Nat) (bs : List Int) : Prop := ∀ v c n, Wt (Sm m) fm v c n → n ≤ r → ∃ k x, idx (isNd v) m.nodes = some k ∧ bs[k]? = some x ∧ 0 ≤ x ∧ x ≤ c
/-- What a round has done when it is behind 'k' steps. -/
def Dn (m : Mp) (bs0 bs : List Int) (k : Nat) : Prop := ∀ (i : Nat) p, i < k → (steps m)[i]? = some p → ∀ a b, idx (isNd p.1) m.nodes = some a → idx (isNd p.2.1) m.nodes = some b → Rx bs0 bs a b p.2.2 ∧ Rx bs0 bs b a p.2.2
theorem nd_idx {m : Mp} {v : Int} (h : hasNd m v = true) : ∃ k, idx (isNd v) m.nodes = some k := Option.isSome_iff_exists.1 h
theorem round_done {m : Mp} (hr : rightE m = 0) {fm : Int} {r : Nat} {bs0 bs : List Int} (h : Cpl m fm r bs0) (hle : LeB bs0 bs) (hd : Dn m bs0 bs (steps m).length) : Cpl m fm (r + 1) bs := by
  intro v c n w hn
  by_cases c1 : n ≤ r
  · obtain ⟨k, x, e1, e2, h0, h1⟩ := h v c n w c1
    obtain ⟨y, e3, h2, h3⟩ := hle k x e2 h0
    exact ⟨k, y, e1, e3, h2, by omega⟩
  · have : n = r + 1 := by omega
    subst this
    obtain ⟨u, c', d, w', ⟨p, hp, hj⟩, rfl⟩ := w.last
    obtain ⟨k, x, e1, e2, h0, h1⟩ := h u c' r w' (Nat.le_refl _)
    obtain ⟨n1, n2, _⟩ := step_parts hr hp
    obtain ⟨a, ha⟩ := nd_idx n1
    obtain ⟨b, hb⟩ := nd_idx n2
    obtain ⟨i, hi⟩ := List.getElem?_of_mem hp
    obtain ⟨q1, q2⟩ := hd i p (List.getElem?_eq_some_iff.1 hi).1 hi a b ha hb
    rcases hj with ⟨j1, j2, j3⟩ | ⟨j1, j2, j3⟩
    · rw [j1, e1] at ha; injection ha with ha; subst ha
      rw [j2] at hb
      obtain ⟨y, e3, h2, h3⟩ := q1 x e2 h0
      exact ⟨b, y, hb, e3, h2, by omega⟩
    · rw [j2, e1] at hb; injection hb with hb; subst hb
      rw [j1] at ha
      obtain ⟨y, e3, h2, h3⟩ := q2 x e2 h0
      exact ⟨a, y, ha, e3, h2, by omega⟩
theorem good_ex (m : Mp) (hr : rightE m = 0) (to : Int) : ∃ T, Good (Sm m) to T := by
  obtain ⟨vs, μ', _, i, xs, T, _, _, _, hmid, hst⟩ := f62 (edges m) to (edges_ok hr) ⟨fun _ => none, fun _ => none, fun _ => false, fun _ => false, 0, fun _ => none⟩ fun _ => rfl
  exact ⟨T, by rw [← se_edges]; exact hmid.good hst⟩
theorem short {m : Mp} (hr : rightE m = 0) {fm to c : Int} {n : Nat} (hf : hasNd m fm = true) (w : Wt (Sm m) fm to c n) : ∃ c' n', Wt (Sm m) fm to c' n' ∧ c' ≤ c ∧ n' ≤ m.nodes.length := by
  obtain ⟨T, hT⟩ := good_ex m hr fm
  obtain ⟨c', n', e, hn⟩ := hT.least (w.rev sm_sym)
  refine ⟨c', n', (hT.snd _ _ _ e).rev sm_sym, by unfold nb at hn; omega, ?_⟩
  obtain ⟨l, h1, h2, _, h4⟩ := hT.chain e
  have := nodup_len (k := m.nodes.map Nd.id) h4 fun x hx => by
    have hh : hasNd m x = true := by
      rcases h2 x hx with rfl | ⟨b, d, p, hp, hj⟩
      · exact hf
      · obtain ⟨n1, n2, _⟩ := step_parts hr hp
        rcases hj with ⟨j1, _⟩ | ⟨_, j1, _⟩
        · rw [← j1]; exact n1
        · rw [← j1]; exact n2
    obtain ⟨k, hk⟩ := nd_idx hh
    obtain ⟨a, ha, pa⟩ := idx_some hk
    simp only [isNd, beq_iff_eq] at pa
    exact List.mem_map.2 ⟨a, List.mem_of_getElem? ha, pa⟩
  rw [List.length_map] at this
  omega
theorem all_done {m : Mp} (hr : rightE m = 0) {fm to x : Int} {bs : List Int} {k : Nat} (hf : hasNd m fm = true) (hs : Snd m fm bs) (hc : Cpl m fm m.nodes.length bs) (hk : idx (isNd to) m.nodes = some k) (hx : bs[k]? = some x) :
    dist (Sm m) fm to = if x < 0 then none else some x := by
  have key : ∀ c n, Wt (Sm m) fm to c n → 0 ≤ x ∧ x ≤ c := fun c n w => by
    obtain ⟨c', n', w', hc', hn'⟩ := short hr hf w
    obtain ⟨k', x', e1, e2, h0, h1⟩ := hc to c' n' w' hn'
    rw [hk] at e1; injection e1 with e1; subst e1
    rw [hx] at e2; injection e2 with e2; subst e2
    omega
  apply dist_eq
  by_cases h : x < 0
  · rw [if_pos h]
    intro c n w
    have := key c n w
    omega
  · rw [if_neg h]
    exact ⟨hs _ _ _ hk hx (by omega), fun c n w => (key c n w).2⟩
end Go.Proofs.Ytkoickoceggimaa.Am
