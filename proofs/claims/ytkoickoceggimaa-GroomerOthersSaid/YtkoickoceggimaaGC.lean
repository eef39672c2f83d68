/- Vehicles: what the functions on them come to, and the law of the checks. No condition. -/
import Derived.Test.YtkoickoceggimaaGB
namespace Go.Proofs.Ytkoickoceggimaa.Am
open Go

structure Gr where
  id : Int
  node : Int
  fuel : Int
  state : Int
  to : Int
  run : Int
  till : Int
  winch : Bool
abbrev eGr (g : Gr) : List Cell := [I g.id, I g.node, I g.fuel, I g.state, I g.to, I g.run, I g.till, B g.winch]
def zGr : Gr := ⟨0, 0, 0, 0, 0, 0, 0, false⟩
abbrev rG (l : List Gr) : FV := .v (.c (.ro 8 (l.map eGr)))
theorem f49 (n lo hi : Int) (K : List Vl → Prop) : FC F 49 [vI n, vI lo, vI hi] K ↔ K [.c (B (inn n lo hi))] := by
  rw [fc_run F49]
  by_cases h : lo ≤ n <;> simp [b49, h, inn]
theorem f34 (n lo hi : Int) (K : List Vl → Prop) : FC F 34 [vI n, vI lo, vI hi] K ↔ K [.c (B (inn n lo hi))] := by
  rw [fc_run F34]
  by_cases h : lo ≤ n <;> simp [b34, h, inn]
def rangeG (g : Gr) : Bool := inn g.id 1 9999 && inn g.node 1 9999 && inn g.fuel 0 1000000 && inn g.state 0 2 && inn g.till 0 20000000 && inn g.to 0 9999 && inn g.run 0 9999
theorem f32 (g : Gr) (K : List Vl → Prop) : FC F 32 [.v (.agg (eGr g))] K ↔ K [.c (B (rangeG g))] := by
  rw [fc_run F32]
  unfold rangeG
  cases c1 : inn g.id 1 9999 <;> simp [b32, f49, c1]
  cases c2 : inn g.node 1 9999 <;> simp [f49]
  cases c3 : inn g.fuel 0 1000000 <;> simp [f49]
  cases c4 : inn g.state 0 2 <;> simp [f49]
  cases c5 : inn g.till 0 20000000 <;> simp
  cases c6 : inn g.to 0 9999 <;> simp
/-- Searching by a function literal. -/
theorem f54 {p : Gr → Bool} {g : Nat} {caps : List (List Cell)} (hc : ∀ n (K : List Vl → Prop), FC F g (.v (.agg (eGr n)) :: caps.map fun c => .cptr c 0) K ↔ K [.c (B (p n))]) (l : List Gr) (hl : l.length ≤ 9223372036854775807) (K : List Vl → Prop) :
    FC F 54 [rG l, .v (.c (.clo g caps))] K ↔ K [.c (I (idxI p l))] := by
  refine FC.rule ?_ K
  rw [fc_run F54]
  simp [b54]
  refine run_loop (fun m s => ∃ k, k ≤ l.length ∧ m = l.length - k ∧ s.fr 0 = rG l ∧ s.fr 1 = .v (.c (.clo g caps)) ∧ s.fr 7 = vI l.length ∧ s.fr 8 = vI k ∧ ∀ (j : Nat) n, j < k → l[j]? = some n → p n = false) l.length ⟨0, by omega, by omega, by simp, by simp, by simp, by simp, fun j n h => absurd h (Nat.not_lt_zero _)⟩ ?_
  rintro J hJ m ⟨fr, μ⟩ ⟨k, hk, rfl, h0, h1, h7, h8, hn⟩
  simp only at h0 h1 h7 h8
  by_cases hkl : k < l.length
  · obtain ⟨n, hn'⟩ : ∃ n, l[k] = n := ⟨_, rfl⟩
    have hget : l[k]? = some n := by rw [← hn']; exact List.getElem?_eq_getElem hkl
    by_cases hp : p n = true
    · have : idxI p l = k := by simp only [idxI, idx_at hget hp hn]
      simp [h0, h1, h7, h8, hkl, hn', hc, hp, this]
    · have hp' : p n = false := by simpa using hp
      have hw := wrapS (n := k) (by omega)
      simp [h0, h1, h7, h8, hkl, hn', hc, hp', hw]
      refine ⟨l.length - (k + 1), by omega, hJ _ _ ⟨k + 1, by omega, rfl, by simp [h0], by simp [h1], by simp [h7], by simp, fun j m hj hm => ?_⟩⟩
      by_cases hjk : j = k
      · subst hjk; rw [hget] at hm; injection hm with hm; subst hm; exact hp'
      · exact hn j m (by omega) hm
  · have : idxI p l = -1 := by
      simp only [idxI]
      rw [idx_none fun j b hb => hn j b (by have := (List.getElem?_eq_some_iff.1 hb).1; omega) hb]
    simp [h0, h1, h7, h8, hkl, this]
def byId (id : Int) : Gr → Bool := fun g => g.id == id
def onRun (run : Int) : Gr → Bool := fun g => g.state == 2 && g.run == run
theorem f55 (id : Int) (n : Gr) (K : List Vl → Prop) : FC F 55 (.v (.agg (eGr n)) :: [[I id]].map fun c => .cptr c 0) K ↔ K [.c (B (byId id n))] := by
  simp only [List.map]
  rw [fc_run F55]
  simp [b55, byId]
theorem f53 (run : Int) (n : Gr) (K : List Vl → Prop) : FC F 53 (.v (.agg (eGr n)) :: [[I run]].map fun c => .cptr c 0) K ↔ K [.c (B (onRun run n))] := by
  simp only [List.map]
  rw [fc_run F53]
  by_cases h : n.state = 2 <;> simp [b53, onRun, h]
  rw [show (n.state == 2) = false by simpa using h, Bool.false_and]
theorem f33 (l : List Gr) (id : Int) (hl : l.length ≤ 9223372036854775807) (K : List Vl → Prop) : FC F 33 [rG l, vI id] K ↔ K [.c (I (idxI (byId id) l))] := by
  rw [fc_run F33]
  have := f54 (f55 id) l hl
  simp [b33, this]
def On (l : List Gr) (run : Int) : Bool := l.any (onRun run)
theorem idx_any {α : Type} {p : α → Bool} : ∀ {l : List α}, (idx p l).isSome = l.any p
  | [] => rfl
  | x :: l => by
    have ih := idx_any (p := p) (l := l)
    simp only [idx, List.any_cons]
    by_cases h : p x = true
    · simp [h]
    · have h' : p x = false := by simpa using h
      rw [if_neg h, h', Bool.false_or, ← ih]
      cases idx p l <;> rfl
theorem idxI_any {α : Type} {p : α → Bool} {l : List α} : decide (idxI p l ≥ 0) = l.any p := by
  rw [← idx_any]
  unfold idxI
  cases h : idx p l <;> simp
theorem f26 (l : List Gr) (run : Int) (hl : l.length ≤ 9223372036854775807) (K : List Vl → Prop) : FC F 26 [rG l, vI run] K ↔ K [.c (B (On l run))] := by
  rw [fc_run F26]
  have h52 : ∀ K : List Vl → Prop, FC F 52 [rG l, .v (.c (.clo 53 [[I run]]))] K ↔ K [.c (B (On l run))] := fun K => by
    rw [fc_run F52]
    have := f54 (f53 run) l hl
    have hd := idxI_any (p := onRun run) (l := l)
    simp only [On, ← hd]
    simp [b52, this]
  simp [b26, h52]
theorem f35 (l : List Gr) (id : Int) (hl : l.length ≤ 9223372036854775807) (K : List Vl → Prop) : FC F 35 [rG l, vI id] K ↔ K [.c (I (idxI (byId id) l))] := by
  refine FC.rule ?_ K
  rw [fc_run F35]
  simp [b35]
  refine run_loop (fun m s => ∃ k, k ≤ l.length ∧ m = l.length - k ∧ s.fr 0 = rG l ∧ s.fr 1 = vI id ∧ s.fr 5 = vI k ∧ ∀ (j : Nat) n, j < k → l[j]? = some n → byId id n = false) l.length ⟨0, by omega, by omega, by simp, by simp, by simp, fun j n h => absurd h (Nat.not_lt_zero _)⟩ ?_
  rintro J hJ m ⟨fr, μ⟩ ⟨k, hk, rfl, h0, h1, h5, hn⟩
  simp only at h0 h1 h5
  by_cases hkl : k < l.length
  · obtain ⟨n, hn'⟩ : ∃ n, l[k] = n := ⟨_, rfl⟩
    have hget : l[k]? = some n := by rw [← hn']; exact List.getElem?_eq_getElem hkl
    by_cases hp : n.id = id
    · have : idxI (byId id) l = k := by simp only [idxI, idx_at hget (show byId id n = true by simp [byId, hp]) hn]
      simp [h0, h1, h5, hkl, hn', hp, this]
    · have hw := wrapS (n := k) (by omega)
      simp [h0, h1, h5, hkl, hn', hp, hw]
      refine ⟨l.length - (k + 1), by omega, hJ _ _ ⟨k + 1, by omega, rfl, by simp [h0], by simp [h1], by simp, fun j m hj hm => ?_⟩⟩
      by_cases hjk : j = k
      · subst hjk; rw [hget] at hm; injection hm with hm; subst hm; simp [byId, hp]
      · exact hn j m (by omega) hm
  · have : idxI (byId id) l = -1 := by
      simp only [idxI]
      rw [idx_none fun j b hb => hn j b (by have := (List.getElem?_eq_some_iff.1 hb).1; omega) hb]
    simp [h0, h5, hkl, this]
theorem f27 (l : List Gr) (run : Int) (hl : l.length ≤ 9223372036854775807) (K : List Vl → Prop) : FC F 27 [rG l, vI run] K ↔ K [.c (B (On l run))] := by
  refine FC.rule ?_ K
  rw [fc_run F27]
  simp [b27]
  refine run_loop (fun m s => ∃ k, k ≤ l.length ∧ m = l.length - k ∧ s.fr 0 = rG l ∧ s.fr 1 = vI run ∧ s.fr 5 = vI k ∧ On l run = (l.drop k).any (onRun run)) l.length ⟨0, by omega, by omega, by simp, by simp, by simp, rfl⟩ ?_
  rintro J hJ m ⟨fr, μ⟩ ⟨k, hk, rfl, h0, h1, h5, hn⟩
  simp only at h0 h1 h5
  by_cases hkl : k < l.length
  · obtain ⟨n, hn'⟩ : ∃ n, l[k] = n := ⟨_, rfl⟩
    have hget : l[k]? = some n := by rw [← hn']; exact List.getElem?_eq_getElem hkl
    rw [drop_cons hget, List.any_cons] at hn
    have hw := wrapS (n := k) (by omega)
    by_cases hs : n.state = 2
    · by_cases hp : n.run = run
      · simp [h0, h1, h5, hkl, hn', hs, hp, hn, onRun]
      · have hf : onRun run n = false := by simp [onRun, hp]
        rw [hf, Bool.false_or] at hn
        simp [h0, h1, h5, hkl, hn', hs, hp, hw]
        exact ⟨l.length - (k + 1), by omega, hJ _ _ ⟨k + 1, by omega, rfl, by simp [h0], by simp [h1], by simp, hn⟩⟩
    · have hf : onRun run n = false := by simp [onRun, hs]
      rw [hf, Bool.false_or] at hn
      simp [h0, h5, hkl, hn', hs, hw]
      exact ⟨l.length - (k + 1), by omega, hJ _ _ ⟨k + 1, by omega, rfl, by simp [h0], by simp [h1], by simp, hn⟩⟩
  · have : l.drop k = [] := List.drop_eq_nil_of_le (by omega)
    rw [this] at hn
    simp [h0, h5, hkl, hn]
/-! ### The checks -/
def stateG (g : Gr) : Bool := (decide (g.to ≠ 0) == decide (g.state = 1)) && (decide (g.run ≠ 0) == decide (g.state = 2))
def grE : List Gr → List Gr → Int
  | _, [] => 0
  | p, g :: r => if rangeG g = false then 2 else if p.any (byId g.id) = true then 7 else if stateG g = false then 10 else grE (p ++ [g]) r
def rightG (l : List Gr) : Int := if 16 < l.length then 4 else grE [] l
theorem take_app {α : Type} {l : List α} {k : Nat} {n : α} (h : l[k]? = some n) : l.take k ++ [n] = l.take (k + 1) := by
  rw [List.take_add_one, h]; rfl
theorem neqB (a b : Bool) : (!(a == b)) = (a != b) := by cases a <;> cases b <;> rfl
set_option maxHeartbeats 4000000 in
theorem f12 (l : List Gr) (hl : l.length ≤ 9223372036854775807) (K : List Vl → Prop) : FC F 12 [rG l] K ↔ K [.c (I (rightG l))] := by
  refine FC.rule ?_ K
  rw [fc_run F12]
  by_cases h16 : 16 < l.length
  · have : (16 : Int) < l.length := by omega
    simp [b12, this, rightG, h16]
  have h16' : ¬ ((16 : Int) < l.length) := by omega
  simp [b12, h16', rightG, h16]
  refine run_loop (fun m s => ∃ k, k ≤ l.length ∧ m = l.length - k ∧ s.fr 0 = rG l ∧ s.fr 8 = rG l ∧ s.fr 9 = vI l.length ∧ s.fr 10 = vI k ∧ grE [] l = grE (l.take k) (l.drop k)) l.length ⟨0, by omega, by omega, by simp, by simp, by simp, by simp, rfl⟩ ?_
  rintro J hJ m ⟨fr, μ⟩ ⟨k, hk, rfl, h0, h8, h9, h10, hn⟩
  simp only at h0 h8 h9 h10
  by_cases hkl : k < l.length
  case neg =>
    have : l.drop k = [] := List.drop_eq_nil_of_le (by omega)
    rw [this] at hn
    simp [h8, h9, h10, hkl, hn, grE]
  obtain ⟨n, hn'⟩ : ∃ n, l[k] = n := ⟨_, rfl⟩
  have hget : l[k]? = some n := by rw [← hn']; exact List.getElem?_eq_getElem hkl
  rw [drop_cons hget] at hn
  simp only [grE] at hn
  have hw := wrapS (n := k) (by omega)
  have hf := f33 (l.take k) n.id (by rw [List.length_take]; omega)
  simp only [rG, List.map_take] at hf
  have hd := idxI_any (p := byId n.id) (l := l.take k)
  have h32 := f32 n
  cases c1 : rangeG n with
  | false =>
    rw [c1] at hn h32
    simp [h0, h8, h9, h10, hkl, hn', h32, hn]
  | true =>
    rw [c1] at hn h32
    cases c2 : (l.take k).any (byId n.id) with
    | true =>
      rw [c2] at hd hn
      have hge : (0 : Int) ≤ idxI (byId n.id) (l.take k) := by simpa using hd
      simp [h0, h8, h9, h10, hkl, hn', h32, hf, hge, hn, Nat.le_of_lt hkl]
    | false =>
      rw [c2] at hd hn
      have hge : ¬ (0 : Int) ≤ idxI (byId n.id) (l.take k) := by simpa using hd
      simp only [Bool.true_eq_false, if_false, Bool.false_eq_true] at hn
      have fin : grE [] l = grE (l.take (k + 1)) (l.drop (k + 1)) → ∃ m', m' < l.length - k ∧ grE [] l = grE (l.take (k + 1)) (l.drop (k + 1)) := fun h => ⟨l.length - (k + 1), by omega, h⟩
      have D : ∀ a b : Int, (a == b) = decide (a = b) := fun a b => by by_cases h : a = b <;> simp [h]
      have N : ∀ a b : Int, (a != b) = !decide (a = b) := fun a b => by rw [bne, D]
      have more : stateG n = true → ∀ fr' μ', fr' 0 = rG l → fr' 8 = rG l → fr' 9 = vI l.length → fr' 10 = vI ((k + 1 : Nat) : Int) → ∃ m', m' < l.length - k ∧ J m' ⟨fr', μ'⟩ := fun h fr' μ' g0 g8 g9 g10 =>
        ⟨l.length - (k + 1), by omega, hJ _ _ ⟨k + 1, by omega, rfl, g0, g8, g9, g10, by rw [hn, if_neg (by rw [h]; simp), take_app hget]⟩⟩
      have less : stateG n = false → grE [] l = 10 := fun h => by rw [hn, if_pos h]
      clear hn
      by_cases d1 : n.to = 0 <;> by_cases d2 : n.state = 1 <;> by_cases d3 : n.run = 0 <;> by_cases d4 : n.state = 2 <;> first
        | (exfalso; omega)
        | (have hs := less (by simp [stateG, d1, d2, d3, d4])
           simp (config := { failIfUnchanged := false }) only [d1, d2, d3, d4, eGr] at h32
           simp [h0, h8, h9, h10, hkl, hn', h32, hf, hge, hs, Nat.le_of_lt hkl, D, N, d1, d2, d3, d4]
           done)
        | (have hs := more (by simp [stateG, d1, d2, d3, d4])
           simp (config := { failIfUnchanged := false }) only [d1, d2, d3, d4, eGr] at h32
           simp [h0, h8, h9, h10, hkl, hn', h32, hf, hge, Nat.le_of_lt hkl, D, N, d1, d2, d3, d4, hw]
           exact hs _ _ (by simp [h0]) (by simp [h8]) (by simp [h9]) (by simp))
end Go.Proofs.Ytkoickoceggimaa.Am
