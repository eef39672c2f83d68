/- The stage's theorem: a vehicle is where its work ends. No condition. -/
import Derived.Test.YtkoickoceggimaaGX
namespace Go.Proofs.Ytkoickoceggimaa.Am
open Go

theorem tick_id (m : Mp) (t : Int) (g : Gr) : (tick1 m t g).id = g.id := by unfold tick1; split <;> rfl
theorem idx_tick (m : Mp) (t id : Int) : ∀ l : List Gr, idx (byId id) (l.map (tick1 m t)) = idx (byId id) l
  | [] => rfl
  | g :: r => by
    have e : byId id (tick1 m t g) = byId id g := by unfold byId; rw [tick_id]
    simp only [List.map_cons, idx, e, idx_tick m t id r]
theorem find_at {l : List Gr} {id : Int} {k : Nat} {g : Gr} (h : idx (byId id) l = some k) (hg : l[k]? = some g) : findG l id = g ∧ hasG l id = true := by
  constructor
  · unfold findG fnd; rw [h]; simp only; rw [hg]; rfl
  · unfold hasG; rw [h]; rfl
set_option maxHeartbeats 4000000 in
theorem f29 (m : Mp) (l : List Gr) (x : Gr) (node before : Int) (h : Okm m) (hl : l.length ≤ 1000) {k : Nat} (hi : idx (byId x.id) l = some k) (hg : l[k]? = some x) (hn : endN m x = node) (K : List Vl → Prop) :
    FC F 29 [.v (.agg (eM m)), rG l, .v (.agg (eGr x)), vI node, vI before] K ↔ K [.c (B true)] := by
  refine FC.rule ?_ K
  rw [fc_run F29]
  have h1 := f23 m l x.till h hl
  have h2 := f23 m l before h hl
  have i1 : idx (byId x.id) (l.map (tick1 m x.till)) = some k := by rw [idx_tick, hi]
  have i2 : idx (byId x.id) (l.map (tick1 m before)) = some k := by rw [idx_tick, hi]
  have g1 : (l.map (tick1 m x.till))[k]? = some (endG m x) := by rw [List.getElem?_map, hg]; simp only [Option.map_some, tick1, if_neg (Int.lt_irrefl _)]
  have g2 : (l.map (tick1 m before))[k]? = some (tick1 m before x) := by rw [List.getElem?_map, hg]; rfl
  have h3 := f28 (l.map (tick1 m x.till)) x.id (by rw [List.length_map]; omega)
  have h4 := f28 (l.map (tick1 m before)) x.id (by rw [List.length_map]; omega)
  rw [(find_at i1 g1).1, (find_at i1 g1).2] at h3
  rw [(find_at i2 g2).1, (find_at i2 g2).2] at h4
  obtain ⟨A, hA⟩ : ∃ A, (l.map (tick1 m x.till)).map eGr = A := ⟨_, rfl⟩
  obtain ⟨A2, hA2⟩ : ∃ A, (l.map (tick1 m before)).map eGr = A := ⟨_, rfl⟩
  obtain ⟨Y, hY⟩ : ∃ Y, (tickR l x.till).map e1 = Y := ⟨_, rfl⟩
  obtain ⟨Y2, hY2⟩ : ∃ Y, (tickR l before).map e1 = Y := ⟨_, rfl⟩
  rw [hA, hY] at h1
  rw [hA2, hY2] at h2
  simp only [rG, hA] at h3
  simp only [rG, hA2] at h4
  clear i1 i2 g1 g2 hA hA2 hY hY2
  simp only [endG, hn] at h3
  by_cases c : x.till ≤ before
  · obtain ⟨z, hz⟩ : ∃ z, tick1 m before x = z := ⟨_, rfl⟩
    rw [hz] at h4
    simp [b29, h1, h2, h3, h4, c]
  · have e : tick1 m before x = x := if_pos (by omega)
    rw [e] at h4
    simp [b29, h1, h2, h3, h4, c]
theorem idx_set {l : List Gr} {id : Int} {k : Nat} {x : Gr} (h : idx (byId id) l = some k) (hx : x.id = id) : idx (byId id) (l.set k x) = some k := by
  have hk := idx_lt h
  have hlow : ∀ (l : List Gr) (k : Nat), idx (byId id) l = some k → ∀ (j : Nat) b, j < k → l[j]? = some b → byId id b = false := by
    intro l
    induction l with
    | nil => intro k h; cases h
    | cons y r ih =>
      intro k h j b hj hb
      simp only [idx] at h
      split at h
      · injection h with h; omega
      · rename_i hy
        cases e : idx (byId id) r with
        | none => rw [e] at h; cases h
        | some k' =>
          rw [e] at h
          simp only [Option.map_some] at h
          injection h with h
          cases j with
          | zero => simp only [List.getElem?_cons_zero] at hb; injection hb with hb; subst hb; simpa using hy
          | succ j => simp only [List.getElem?_cons_succ] at hb; exact ih k' e j b (by omega) hb
  refine idx_at (a := x) (List.getElem?_set_self hk) (by simp [byId, hx]) fun j b hj hb => ?_
  rw [List.getElem?_set_ne (by omega)] at hb
  exact hlow l k h j b hj hb
end Go.Proofs.Ytkoickoceggimaa.Am
