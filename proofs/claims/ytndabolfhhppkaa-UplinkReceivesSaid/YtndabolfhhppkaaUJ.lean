/- Receiving: the parts. No condition. -/
import Derived.Test.YtndabolfhhppkaaUI
namespace Go.Proofs.Ytndabolfhhppkaa.Am
open Go

def isQ (n : Int) : Rd → Bool := fun x => x.seq == n
def gtQ (n : Int) : Rd → Bool := fun x => decide (n < x.seq)
theorem f42 (r : Rd) (n : Int) (K : List Vl → Prop) : FC F 42 [.v (.agg (eRd r)), .cptr [I n] 0] K ↔ K [.c (B (isQ n r))] := by
  rw [fc_run F42]
  simp [b42, isQ]
theorem f32 (r x : Rd) (K : List Vl → Prop) : FC F 32 [.v (.agg (eRd x)), .cptr (eRd r) 0] K ↔ K [.c (B (gtQ r.seq x))] := by
  rw [fc_run F32]
  simp [b32, gtQ]
theorem f31t (l : List Rd) (sc c : Cell) (p : Rd → Bool) (bx : Id → Option (List Cell)) (ar : Id → Option Arr) (ap st : Id → Bool) (t : Nat) (mp : Id → Option (List (Int × Vl))) (hs : sc = .ro 7 (l.map eRd) ∨ ∃ i e, sc = .own i ∧ ar i = some ⟨e, 7, l.map eRd⟩) (hc : ClosOk c bx p) (hl : l.length ≤ 9223372036854775807) :
    IC F 31 [.v (.c sc), .v (.c c)] ⟨bx, ar, ap, st, t, mp⟩ fun vs μ' => vs = [.c (I (idxI p l))] ∧ ∃ t', μ' = ⟨bx, ar, ap, st, t', mp⟩ ∧ t ≤ t' := by
  obtain ⟨g, cs, hz, hg⟩ := hc
  have hz1 := fun ar ap st t mp => (hz bx (off7_refl bx) ar ap st t mp).1
  have hz2 := fun ar ap st t mp => (hz bx (off7_refl bx) ar ap st t mp).2
  rw [ic_run F31]
  rcases hs with rfl | ⟨i, e, rfl, ha⟩
  · simp [b31]
    refine run_loop (fun q s => ∃ k t', k ≤ l.length ∧ q = l.length - k ∧ s.mu = ⟨bx, ar, ap, st, t', mp⟩ ∧ t ≤ t' ∧ s.fr 0 = .v (.c (.ro 7 (l.map eRd))) ∧ s.fr 1 = .v (.c c) ∧ s.fr 7 = vI l.length ∧ s.fr 8 = vI k ∧ ∀ (j : Nat) x, j < k → l[j]? = some x → p x = false) l.length ⟨0, _, by omega, by omega, rfl, by omega, by simp, by simp, by simp, by simp, by simp⟩ ?_
    rintro J hJ q ⟨fr, μ⟩ ⟨k, t', hk, rfl, hμ, htt, h0, h1, h7, h8, hn⟩
    simp only at hμ h0 h1 h7 h8
    subst hμ
    by_cases hkl : k < l.length
    · obtain ⟨x, hn'⟩ : ∃ x, l[k] = x := ⟨_, rfl⟩
      have hget : l[k]? = some x := by rw [← hn']; exact List.getElem?_eq_getElem hkl
      have hcx := hg x
      by_cases hp : p x = true
      · have : idxI p l = k := by simp only [idxI, idx_at hget hp hn]
        simp [h0, h1, h7, h8, hkl, hn', hz1, hz2, hcx, hp, this]
        omega
      · have hp' : p x = false := by simpa using hp
        have hw := wrapS (n := k) (by omega)
        simp [h0, h1, h7, h8, hkl, hn', hz1, hz2, hcx, hp', hw]
        exact ⟨l.length - (k + 1), by omega, hJ _ _ ⟨k + 1, _, by omega, rfl, rfl, by omega, by simp [h0], by simp [h1], by simp [h7], by simp, more_false hn hget hp'⟩⟩
    · have : idxI p l = -1 := by
        simp only [idxI]
        rw [idx_none fun j b hb => hn j b (by have := (List.getElem?_eq_some_iff.1 hb).1; omega) hb]
      simp [h0, h1, h7, h8, hkl, this]
      omega
  · simp [b31, ha]
    refine run_loop (fun q s => ∃ k t', k ≤ l.length ∧ q = l.length - k ∧ s.mu = ⟨bx, ar, ap, st, t', mp⟩ ∧ t ≤ t' ∧ s.fr 0 = .v (.c (.own i)) ∧ s.fr 1 = .v (.c c) ∧ s.fr 7 = vI l.length ∧ s.fr 8 = vI k ∧ ∀ (j : Nat) x, j < k → l[j]? = some x → p x = false) l.length ⟨0, _, by omega, by omega, rfl, by omega, by simp, by simp, by simp, by simp, by simp⟩ ?_
    rintro J hJ q ⟨fr, μ⟩ ⟨k, t', hk, rfl, hμ, htt, h0, h1, h7, h8, hn⟩
    simp only at hμ h0 h1 h7 h8
    subst hμ
    by_cases hkl : k < l.length
    · obtain ⟨x, hn'⟩ : ∃ x, l[k] = x := ⟨_, rfl⟩
      have hget : l[k]? = some x := by rw [← hn']; exact List.getElem?_eq_getElem hkl
      have hcx := hg x
      by_cases hp : p x = true
      · have : idxI p l = k := by simp only [idxI, idx_at hget hp hn]
        simp [h0, h1, h7, h8, ha, hkl, hn', hz1, hz2, hcx, hp, this]
        omega
      · have hp' : p x = false := by simpa using hp
        have hw := wrapS (n := k) (by omega)
        simp [h0, h1, h7, h8, ha, hkl, hn', hz1, hz2, hcx, hp', hw]
        exact ⟨l.length - (k + 1), by omega, hJ _ _ ⟨k + 1, _, by omega, rfl, rfl, by omega, by simp [h0], by simp [h1], by simp [h7], by simp, more_false hn hget hp'⟩⟩
    · have : idxI p l = -1 := by
        simp only [idxI]
        rw [idx_none fun j b hb => hn j b (by have := (List.getElem?_eq_some_iff.1 hb).1; omega) hb]
      simp [h0, h1, h7, h8, hkl, this]
      omega
theorem f30 (l : List Rd) (sc : Cell) (n : Int) (bx : Id → Option (List Cell)) (ar : Id → Option Arr) (ap st : Id → Bool) (t : Nat) (mp : Id → Option (List (Int × Vl))) (hs : sc = .ro 7 (l.map eRd) ∨ ∃ i e, sc = .own i ∧ ar i = some ⟨e, 7, l.map eRd⟩) (hl : l.length ≤ 9223372036854775807) :
    IC F 30 [.v (.c sc), vI n] ⟨bx, ar, ap, st, t, mp⟩ fun vs μ' => vs = [.c (I (idxI (isQ n) l))] ∧ ∃ bx' t', μ' = ⟨bx', ar, ap, st, t', mp⟩ ∧ (∀ i : Id, i.1 < t → bx' i = bx i) ∧ t < t' := by
  rw [ic_run F30]
  simp [b30]
  refine IC.mono (f31t l sc _ (isQ n) _ ar ap st _ mp hs ⟨42, [[I n]], fun box' hb ar' ap' st' t' mp' => ⟨?_, ?_⟩, fun r K => f42 r n K⟩ hl) ?_
  · have h3 := hb (t, 3) (by simp)
    simp at h3
    simp [frz, trav, h3]
  · have h3 := hb (t, 3) (by simp)
    simp at h3
    simp [fids, h3]
  rintro vs μ' ⟨rfl, t', rfl, htt⟩
  simp
  refine ⟨_, _, ⟨rfl, rfl⟩, fun a b hab => ?_, by omega⟩
  simp only [upd]
  rw [if_neg]
  intro e
  injection e with e1 e2
  omega
theorem f35 (l : List Rd) (n : Int) (hl : l.length ≤ 9223372036854775807) (K : List Vl → Prop) : FC F 35 [rR l, vI n] K ↔ K [.c (I (idxI (isQ n) l))] := by
  refine FC.rule ?_ K
  rw [fc_run F35]
  simp [b35]
  refine run_loop (fun q s => ∃ k, k ≤ l.length ∧ q = l.length - k ∧ s.fr 0 = rR l ∧ s.fr 1 = vI n ∧ s.fr 5 = vI k ∧ ∀ (j : Nat) x, j < k → l[j]? = some x → isQ n x = false) l.length ⟨0, by omega, by omega, by simp, by simp, by simp, fun j n h => absurd h (Nat.not_lt_zero _)⟩ ?_
  rintro J hJ q ⟨fr, μ⟩ ⟨k, hk, rfl, h0, h1, h5, hn⟩
  simp only at h0 h1 h5
  by_cases hkl : k < l.length
  · obtain ⟨x, hx⟩ : ∃ x, l[k] = x := ⟨_, rfl⟩
    have hget : l[k]? = some x := by rw [← hx]; exact List.getElem?_eq_getElem hkl
    have hws := wrapS (n := k) (by omega)
    by_cases hp : x.seq = n
    · have : idxI (isQ n) l = k := by simp only [idxI, idx_at hget (show isQ n x = true by simp [isQ, hp]) hn]
      simp [h0, h1, h5, hkl, hx, hp, this]
    · have hf : isQ n x = false := by simp [isQ, hp]
      simp [h0, h1, h5, hkl, hx, hp, hws]
      exact ⟨l.length - (k + 1), by omega, hJ _ _ ⟨k + 1, by omega, rfl, by simp [h0], by simp [h1], by simp, more_false hn hget hf⟩⟩
  · have : idxI (isQ n) l = -1 := by
      simp only [idxI]
      rw [idx_none fun j b hb => hn j b (by have := (List.getElem?_eq_some_iff.1 hb).1; omega) hb]
    simp [h0, h5, hkl, this]
def nxtI (i : Ib) (r : Rd) : Ib := ⟨i.gate, i.next + 1, i.got ++ [r], i.early⟩
theorem f37 (i : Ib) (r : Rd) (hn : R64 (i.next + 1)) (hg : i.got.length ≤ 1000) (K : List Vl → Prop) : FC F 37 [.v (.agg (eI i)), .v (.agg (eRd r))] K ↔ K [.agg (eI (nxtI i r))] := by
  refine FC.rule ?_ K
  rw [fc_run F37]
  have w := wrap64 hn
  have h0 : i.got.length ≤ lim := by simp only [lim]; omega
  have h1 : i.got.length + 1 ≤ lim := by simp only [lim]; omega
  simp [b37, w, h0, h1, nxtI, hitQ, hitN]
theorem idx_before {α : Type} {p : α → Bool} : ∀ {l : List α} {k : Nat}, idx p l = some k → ∀ (j : Nat) b, j < k → l[j]? = some b → p b = false
  | [], k, h, _, _, _, _ => by cases h
  | x :: l, k, h, j, b, hj, hb => by
    simp only [idx] at h
    split at h
    · injection h with h; subst h; omega
    · rename_i hp
      cases hk : idx p l with
      | none => rw [hk] at h; cases h
      | some q =>
        rw [hk] at h; injection h with h; subst h
        simp only at hj
        cases j with
        | zero => simp at hb; subst hb; simpa using hp
        | succ j => exact idx_before hk j b (by omega) (by simpa using hb)
theorem idx_all {α : Type} {p : α → Bool} {l : List α} (h : idx p l = none) (j : Nat) (b : α) (hb : l[j]? = some b) : p b = false := by
  have h1 := idx_any (p := p) (l := l)
  rw [h] at h1
  have h2 : l.any p = false := h1.symm
  have := List.any_eq_false.1 h2 b (List.mem_of_getElem? hb)
  simpa using this
def atI (l : List Rd) (n : Int) : Nat := (idx (gtQ n) l).getD l.length
theorem atI_le (l : List Rd) (n : Int) : atI l n ≤ l.length := by
  unfold atI
  cases h : idx (gtQ n) l with
  | none => exact Nat.le_refl _
  | some k => exact Nat.le_of_lt (idx_lt h)
theorem atI_before (l : List Rd) (n : Int) (j : Nat) (b : Rd) (hj : j < atI l n) (hb : l[j]? = some b) : b.seq ≤ n := by
  have : gtQ n b = false := by
    unfold atI at hj
    cases h : idx (gtQ n) l with
    | none => exact idx_all h j b hb
    | some k => rw [h] at hj; exact idx_before h j b hj hb
  simpa [gtQ] using this
theorem atI_at (l : List Rd) (n : Int) (b : Rd) (hb : l[atI l n]? = some b) : n < b.seq := by
  unfold atI at hb
  cases h : idx (gtQ n) l with
  | none => rw [h] at hb; simp at hb
  | some k =>
    rw [h] at hb
    obtain ⟨a, h1, h2⟩ := idx_some h
    have hb' : l[k]? = some b := hb
    rw [h1] at hb'
    injection hb' with hb'
    subst hb'
    simpa [gtQ] using h2
def insL (l : List Rd) (r : Rd) : List Rd := l.take (atI l r.seq) ++ [r] ++ l.drop (atI l r.seq)
/-- What the specification has made of the first rides. -/
def insP (l : List Rd) (r : Rd) (k : Nat) : List Rd := if k ≤ atI l r.seq then l.take k else l.take (atI l r.seq) ++ [r] ++ (l.take k).drop (atI l r.seq)
theorem insP_len (l : List Rd) (r : Rd) (k : Nat) (hk : k ≤ l.length) : (insP l r k).length ≤ k + 1 := by
  unfold insP
  split
  · simp; omega
  · simp; omega
theorem insP_lo (l : List Rd) (r x : Rd) (k : Nat) (h : l[k]? = some x) (c : k < atI l r.seq) : insP l r (k + 1) = insP l r k ++ [x] := by
  have hk := (List.getElem?_eq_some_iff.1 h).1
  have hr := (List.getElem?_eq_some_iff.1 h).2
  unfold insP
  rw [if_pos (by omega), if_pos (by omega), List.take_succ_eq_append_getElem hk, hr]
theorem insP_at (l : List Rd) (r x : Rd) (k : Nat) (h : l[k]? = some x) (c : k = atI l r.seq) : insP l r (k + 1) = insP l r k ++ [r] ++ [x] := by
  have hk := (List.getElem?_eq_some_iff.1 h).1
  have hr := (List.getElem?_eq_some_iff.1 h).2
  unfold insP
  rw [if_neg (by omega), if_pos (by omega), ← c, List.take_succ_eq_append_getElem hk, hr]
  have e : List.drop k (List.take k l ++ [x]) = [x] := by rw [List.drop_append_of_le_length (by simp; omega), List.drop_eq_nil_of_le (by simp; omega), List.nil_append]
  simp [e]
theorem insP_hi (l : List Rd) (r x : Rd) (k : Nat) (h : l[k]? = some x) (c : atI l r.seq < k) : insP l r (k + 1) = insP l r k ++ [x] := by
  have hk := (List.getElem?_eq_some_iff.1 h).1
  have hr := (List.getElem?_eq_some_iff.1 h).2
  unfold insP
  rw [if_neg (by omega), if_neg (by omega), List.take_succ_eq_append_getElem hk, hr, List.drop_append_of_le_length (by simp; omega), List.append_assoc, List.append_assoc, List.append_assoc]
theorem insP_end (l : List Rd) (r : Rd) : insL l r = if atI l r.seq < l.length then insP l r l.length else insP l r l.length ++ [r] := by
  have h := atI_le l r.seq
  unfold insP insL
  split
  · rw [if_neg (by omega), List.take_length]
  · rw [if_pos (by omega)]
    have : atI l r.seq = l.length := by omega
    rw [this, List.take_length, List.drop_length, List.append_nil]
theorem f36 (l : List Rd) (r : Rd) (hl : l.length ≤ 1000) (K : List Vl → Prop) : FC F 36 [rR l, .v (.agg (eRd r))] K ↔ K [.c (.ro 7 ((insL l r).map eRd))] := by
  refine FC.rule ?_ K
  rw [fc_run F36]
  simp [b36]
  refine run_loop (fun q s => ∃ (k : Nat) (c : Cell), k ≤ l.length ∧ q = l.length - k ∧ s.fr 0 = rR l ∧ s.fr 3 = .ptr (0, 3) 0 ∧ s.mu.box (0, 3) = some (eRd r) ∧ s.fr 5 = .v (.c c) ∧ s.fr 6 = .v (.c (B (decide (atI l r.seq < k)))) ∧ s.fr 7 = vI k ∧ Rw s.mu 36 (insP l r k) c) l.length ⟨0, .nil, by omega, by omega, by simp, by simp, by simp, by simp, by simp, by simp, .inl ⟨rfl, by simp [insP]⟩⟩ ?_
  rintro J hJ q ⟨fr, μ⟩ ⟨k, c, hk, rfl, g0, g3, gb, g5, g6, g7, hw⟩
  simp only at g0 g3 gb g5 g6 g7 hw
  have hle := atI_le l r.seq
  by_cases hkl : k < l.length
  · obtain ⟨x, hx⟩ : ∃ x, l[k] = x := ⟨_, rfl⟩
    have hget : l[k]? = some x := by rw [← hx]; exact List.getElem?_eq_getElem hkl
    have hws := wrapS (n := k) (by omega)
    have hlen := insP_len l r k hk
    have hlim : (insP l r k).length + 1 ≤ lim := by simp only [lim]; omega
    have hlim2 : (insP l r k).length + 1 + 1 ≤ lim := by simp only [lim]; omega
    by_cases c1 : atI l r.seq < k
    · have hadd := insP_hi l r x k hget c1
      have cn : decide (atI l r.seq < k + 1) = true := by simp; omega
      rw [decide_eq_true c1] at g6
      rcases hw with ⟨rfl, hl0⟩ | ⟨t, rfl, ha, hap⟩
      · rw [hl0] at hadd
        simp [g0, g3, gb, g5, g6, g7, hkl, hx, hws, lim]
        refine ⟨l.length - (k + 1), by omega, hJ _ _ ⟨k + 1, _, by omega, rfl, by simp [g0], by simp [g3], by simp [gb], rfl, by simp [g6, cn], by simp, .inr ⟨_, rfl, ?_, ?_⟩⟩⟩
        · rw [hadd]; simp
        · simp
      · simp [g0, g3, gb, g5, g6, g7, hkl, hx, hws, ha, hap, hlim]
        refine ⟨l.length - (k + 1), by omega, hJ _ _ ⟨k + 1, _, by omega, rfl, by simp [g0], by simp [g3], by simp [gb], rfl, by simp [g6, cn], by simp, .inr ⟨_, rfl, ?_, ?_⟩⟩⟩
        · rw [hadd]; simp
        · simp
    · by_cases c2 : k = atI l r.seq
      · have hgt := atI_at l r.seq x (by rw [← c2]; exact hget)
        have hadd := insP_at l r x k hget c2
        have cn : decide (atI l r.seq < k + 1) = true := by simp; omega
        rw [decide_eq_false c1] at g6
        rcases hw with ⟨rfl, hl0⟩ | ⟨t, rfl, ha, hap⟩
        · rw [hl0] at hadd
          simp [g0, g3, gb, g5, g6, g7, hkl, hx, hgt, hws, lim]
          refine ⟨l.length - (k + 1), by omega, hJ _ _ ⟨k + 1, _, by omega, rfl, by simp [g0], by simp [g3], by simp [gb], rfl, by simp [cn], by simp, .inr ⟨_, rfl, ?_, ?_⟩⟩⟩
          · rw [hadd]; simp
          · simp
        · simp [g0, g3, gb, g5, g6, g7, hkl, hx, hgt, hws, ha, hap, hlim, hlim2]
          refine ⟨l.length - (k + 1), by omega, hJ _ _ ⟨k + 1, _, by omega, rfl, by simp [g0], by simp [g3], by simp [gb], rfl, by simp [cn], by simp, .inr ⟨_, rfl, ?_, ?_⟩⟩⟩
          · rw [hadd]; simp
          · simp
      · have hngt := atI_before l r.seq k x (by omega) hget
        have hngt' : ¬ (r.seq < x.seq) := by omega
        have hadd := insP_lo l r x k hget (by omega)
        have cn : decide (atI l r.seq < k + 1) = false := by simp; omega
        rw [decide_eq_false c1] at g6
        rcases hw with ⟨rfl, hl0⟩ | ⟨t, rfl, ha, hap⟩
        · rw [hl0] at hadd
          simp [g0, g3, gb, g5, g6, g7, hkl, hx, hngt', hws, lim]
          refine ⟨l.length - (k + 1), by omega, hJ _ _ ⟨k + 1, _, by omega, rfl, by simp [g0], by simp [g3], by simp [gb], rfl, by simp [g6, cn], by simp, .inr ⟨_, rfl, ?_, ?_⟩⟩⟩
          · rw [hadd]; simp
          · simp
        · simp [g0, g3, gb, g5, g6, g7, hkl, hx, hngt', hws, ha, hap, hlim]
          refine ⟨l.length - (k + 1), by omega, hJ _ _ ⟨k + 1, _, by omega, rfl, by simp [g0], by simp [g3], by simp [gb], rfl, by simp [g6, cn], by simp, .inr ⟨_, rfl, ?_, ?_⟩⟩⟩
          · rw [hadd]; simp
          · simp
  · have hkk : k = l.length := by omega
    subst hkk
    have hend := insP_end l r
    have hlen := insP_len l r l.length hk
    have hlim : (insP l r l.length).length + 1 ≤ lim := by simp only [lim]; omega
    by_cases c1 : atI l r.seq < l.length
    · rw [if_pos c1] at hend
      rw [decide_eq_true c1] at g6
      rw [hend]
      rcases hw with ⟨rfl, hl0⟩ | ⟨t, rfl, ha, hap⟩
      · simp [g0, g5, g6, g7, hl0]
      · simp [g0, g5, g6, g7, ha]
    · rw [if_neg c1] at hend
      rw [decide_eq_false c1] at g6
      rw [hend]
      rcases hw with ⟨rfl, hl0⟩ | ⟨t, rfl, ha, hap⟩
      · simp [g0, g3, gb, g5, g6, g7, hl0, lim]
      · simp [g0, g3, gb, g5, g6, g7, ha, hap, hlim]
end Go.Proofs.Ytndabolfhhppkaa.Am
