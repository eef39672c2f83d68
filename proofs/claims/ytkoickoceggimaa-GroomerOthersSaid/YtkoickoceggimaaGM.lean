/- Tables of costs as a search writes them: what stays true, and what falls. No condition. -/
import Derived.Test.YtkoickoceggimaaGL
namespace Go.Proofs.Ytkoickoceggimaa.Am
open Go

def sumL (f : Int → Nat) : List Int → Nat
  | [] => 0
  | x :: r => f x + sumL f r
theorem sumL_le {f g : Int → Nat} (h : ∀ v, f v ≤ g v) : ∀ l, sumL f l ≤ sumL g l
  | [] => Nat.le_refl _
  | x :: r => Nat.add_le_add (h x) (sumL_le h r)
theorem sumL_lt {f g : Int → Nat} (h : ∀ v, f v ≤ g v) {x : Int} (hx : f x < g x) : ∀ {l}, x ∈ l → sumL f l < sumL g l
  | y :: r, hm => by
    rcases List.mem_cons.1 hm with rfl | hm
    · exact Nat.add_lt_add_of_lt_of_le hx (sumL_le h r)
    · exact Nat.add_lt_add_of_le_of_lt (h y) (sumL_lt h hx hm)
theorem sumL_len {f : Int → Nat} (h : ∀ v, f v ≤ 1) : ∀ l, sumL f l ≤ l.length
  | [] => Nat.le_refl _
  | x :: r => by have := sumL_len h r; have := h x; simp only [sumL, List.length_cons]; omega
def Se (E : List Ed) : Gph := fun a b d => ∃ e ∈ E, e.b = a ∧ e.c = b ∧ e.d = d
structure EOk (E : List Ed) : Prop where
  len : E.length ≤ 192
  cost : ∀ e ∈ E, 10 ≤ e.d ∧ e.d ≤ 20000
def keysE (E : List Ed) (to : Int) : List Int := to :: E.map Ed.b
def unset (T : Tab) (v : Int) : Nat := match T v with | none => 1 | some _ => 0
def weight (T : Tab) (v : Int) : Nat := match T v with | none => 10000000000000 | some p => p.1.toNat * 1000000 + p.2
structure Mid (E : List Ed) (to : Int) (T : Tab) : Prop where
  zero : T to = some (0, 0)
  snd : ∀ v c n, T v = some (c, n) → Wt (Se E) v to c n
  bnd : ∀ v c n, T v = some (c, n) → c + 20000 * sumL (unset T) (keysE E to) ≤ 20000 * (E.length + 1 : Nat)
def updT (T : Tab) (k : Int) (p : Int × Nat) : Tab := fun v => if v = k then some p else T v
def better (T : Tab) (k c : Int) (n : Nat) : Prop := ∀ c' n', T k = some (c', n') → c < c' ∨ c = c' ∧ n < n'
theorem se_pos {E : List Ed} (h : EOk E) : ∀ a b d, Se E a b d → 10 ≤ d := by
  rintro a b d ⟨e, he, _, _, rfl⟩; exact (h.cost e he).1
theorem Mid.nums {E : List Ed} {to : Int} {T : Tab} (h : Mid E to T) (hE : EOk E) {v c : Int} {n : Nat} (e : T v = some (c, n)) : 0 ≤ c ∧ c ≤ 3860000 ∧ n ≤ 386000 := by
  have h1 := h.bnd _ _ _ e
  have h2 := (h.snd _ _ _ e).cost (se_pos hE)
  have h3 := hE.len
  omega
theorem mid_start {E : List Ed} {to : Int} : Mid E to (updT (fun _ => none) to (0, 0)) where
  zero := by simp [updT]
  snd := fun v c n e => by
    simp only [updT] at e
    split at e
    · rename_i hv; subst hv; injection e with e; injection e with a b; subst a b; exact .nil _
    · cases e
  bnd := fun v c n e => by
    simp only [updT] at e
    split at e
    · injection e with e; injection e with a b; subst a b
      have h1 : sumL (unset (updT (fun _ => none) to (0, 0))) (keysE E to) ≤ (E.map Ed.b).length := by
        have : unset (updT (fun _ => none) to (0, 0)) to = 0 := by simp [unset, updT]
        simp only [keysE, sumL, this, Nat.zero_add]
        exact sumL_len (fun v => by unfold unset; split <;> omega) _
      rw [List.length_map] at h1
      omega
    · cases e
theorem Mid.upd {E : List Ed} {to : Int} {T : Tab} (h : Mid E to T) (hE : EOk E) {e : Ed} (he : e ∈ E) {c : Int} {n : Nat} (h1 : T e.c = some (c, n)) (h2 : better T e.b (c + e.d) (n + 1)) :
    Mid E to (updT T e.b (c + e.d, n + 1)) ∧ sumL (weight (updT T e.b (c + e.d, n + 1))) (keysE E to) < sumL (weight T) (keysE E to) := by
  have hk : e.b ∈ keysE E to := List.mem_cons_of_mem _ (List.mem_map.2 ⟨e, he, rfl⟩)
  have hc := hE.cost e he
  have hn := h.nums hE h1
  have hul : ∀ v, unset (updT T e.b (c + e.d, n + 1)) v ≤ unset T v := fun v => by
    unfold unset updT
    by_cases hv : v = e.b
    · rw [if_pos hv]; exact Nat.zero_le _
    · rw [if_neg hv]; exact Nat.le_refl _
  have hus := sumL_le hul (keysE E to)
  have hw : Wt (Se E) e.b to (c + e.d) (n + 1) := .cons ⟨e, he, rfl, rfl, rfl⟩ (h.snd _ _ _ h1)
  have hb1 := h.bnd _ _ _ h1
  have hbn : c + e.d + 20000 * sumL (unset (updT T e.b (c + e.d, n + 1))) (keysE E to) ≤ 20000 * (E.length + 1 : Nat) := by
    cases ho : T e.b with
    | none =>
      have := sumL_lt hul (x := e.b) (by unfold unset updT; rw [if_pos rfl, ho]; exact Nat.zero_lt_one) hk
      omega
    | some p =>
      obtain ⟨c', n'⟩ := p
      have := h2 _ _ ho
      have := h.bnd _ _ _ ho
      omega
  refine ⟨⟨?_, ?_, ?_⟩, ?_⟩
  · unfold updT
    split
    · rename_i hv
      have := h2 0 0 (by rw [← hv]; exact h.zero)
      omega
    · exact h.zero
  · intro v c' n' ev
    unfold updT at ev
    split at ev
    · rename_i hv; subst hv; injection ev with ev; injection ev with a b; subst a b; exact hw
    · exact h.snd _ _ _ ev
  · intro v c' n' ev
    unfold updT at ev
    split at ev
    · injection ev with ev; injection ev with a b; subst a b; exact hbn
    · have := h.bnd _ _ _ ev; omega
  · refine sumL_lt (fun v => ?_) (x := e.b) ?_ hk
    all_goals unfold weight updT
    · by_cases hv : v = e.b
      · subst hv
        rw [if_pos rfl]
        cases ho : T e.b with
        | none => have := hE.len; simp only; omega
        | some p =>
          obtain ⟨c', n'⟩ := p
          have := h2 _ _ ho
          have := hE.len
          have := h.nums hE ho
          simp only; omega
      · rw [if_neg hv]; exact Nat.le_refl _
    · rw [if_pos rfl]
      cases ho : T e.b with
      | none => have := hE.len; simp only; omega
      | some p =>
        obtain ⟨c', n'⟩ := p
        have := h2 _ _ ho
        have := hE.len
        have := h.nums hE ho
        simp only; omega
theorem Mid.good {E : List Ed} {to : Int} {T : Tab} (h : Mid E to T) (hs : ∀ e ∈ E, stab T e.b e.c e.d) : Good (Se E) to T :=
  ⟨h.zero, h.snd, by rintro a b d ⟨e, he, rfl, rfl, rfl⟩; exact hs e he⟩
/-! ### The machine's maps -/
abbrev cvP (p : Int × Nat) : Vl := .agg [I p.1, I p.2]
def Rep (xs : List (Int × Vl)) (T : Tab) : Prop := ∀ v, mfind xs v = (T v).map cvP
theorem mfind_mins (y : Vl) (k v : Int) : ∀ xs : List (Int × Vl), mfind (mins xs k y) v = if v = k then some y else mfind xs v
  | [] => by
    by_cases h : v = k
    · simp [mins, mfind, h]
    · have h' : ¬ k = v := fun e => h e.symm
      simp [mins, mfind, h, h']
  | p :: r => by
    have ih := mfind_mins y k v r
    simp only [mins]
    by_cases hp : p.1 = k
    · rw [if_pos hp]
      by_cases h : v = k
      · subst h; simp [mfind]
      · have h' : ¬ k = v := fun e => h e.symm
        simp [mfind, hp, h, h']
    · rw [if_neg hp]
      simp only [mfind, ih]
      by_cases h1 : p.1 = v
      · have h : ¬ v = k := fun e => hp (by rw [h1, e])
        simp [h1, h]
      · simp [h1]
theorem Rep.upd {xs : List (Int × Vl)} {T : Tab} (h : Rep xs T) (k : Int) (p : Int × Nat) : Rep (mins xs k (cvP p)) (updT T k p) := by
  intro v
  rw [mfind_mins, h v]
  unfold updT
  by_cases hv : v = k <;> simp [hv]
theorem rep_nil : Rep [] fun _ => none := fun _ => rfl
end Go.Proofs.Ytkoickoceggimaa.Am
