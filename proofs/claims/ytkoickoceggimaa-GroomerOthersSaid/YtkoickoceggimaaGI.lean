/- Vehicles: time goes on (as specified). No condition. -/
import Derived.Test.YtkoickoceggimaaGH
namespace Go.Proofs.Ytkoickoceggimaa.Am
open Go

def RwD (s : St) (k : Nat) (e z : Nat) (P : Nat → Prop) (xs : List (List Cell)) : Prop :=
  (s.fr k = .v (.c .nil) ∧ xs = []) ∨ ∃ t d, P d ∧ s.fr k = .v (.c (.own (t, d))) ∧ s.mu.arr (t, d) = some ⟨e, z, xs⟩ ∧ s.mu.app (t, d) = true
theorem map_take {α β : Type} {l : List α} {k : Nat} {g : α} (f : α → β) (h : l[k]? = some g) : (l.take (k + 1)).map f = (l.take k).map f ++ [f g] := by
  rw [← take_app h, List.map_append]; rfl
def P24 (d : Nat) : Prop := d = 29 ∨ d = 43
set_option maxHeartbeats 4000000 in
theorem f24 (m : Mp) (l : List Gr) (t : Int) (h : Okm m) (hl : l.length ≤ 1000) (K : List Vl → Prop) :
    FC F 24 [.v (.agg (eM m)), rG l, vI t] K ↔ K [.c (.ro 8 ((l.map (tick1 m t)).map eGr)), .c (.ro 1 ((tickR l t).map e1))] := by
  refine FC.rule ?_ K
  rw [fc_run F24]
  obtain ⟨X0, hX0⟩ : ∃ X, (l.map (tick1 m t)).map eGr = X := ⟨_, rfl⟩
  obtain ⟨Y0, hY0⟩ : ∃ Y, (tickR l t).map e1 = Y := ⟨_, rfl⟩
  rw [hX0, hY0]
  simp [b24]
  refine run_loop (fun q s => ∃ k, k ≤ l.length ∧ q = l.length - k ∧ s.fr 1 = rG l ∧ s.fr 2 = vI t ∧ s.fr 3 = .ptr (0, 3) 0 ∧ s.mu.box (0, 3) = some (eM m) ∧ s.fr 10 = vI k ∧ RwD s 8 51 8 P24 (((l.take k).map (tick1 m t)).map eGr) ∧ Rw s 9 3 1 37 ((tickR (l.take k) t).map e1)) l.length ⟨0, by omega, by omega, by simp, by simp, by simp, by simp, by simp, .inl ⟨by simp, by simp⟩, .inl ⟨by simp, by simp [tickR]⟩⟩ ?_
  rintro J hJ q ⟨fr, μ⟩ ⟨k, hk, rfl, h1, h2, h3, hb, h10, hw, hv⟩
  simp only at h1 h2 h3 hb h10
  by_cases hkl : k < l.length
  · obtain ⟨g, hg⟩ : ∃ g, l[k] = g := ⟨_, rfl⟩
    have hget : l[k]? = some g := by rw [← hg]; exact List.getElem?_eq_getElem hkl
    have hws := wrapS (n := k) (by omega)
    have hlim : k + 1 ≤ lim := by simp only [lim]; omega
    have hlim0 : 1 ≤ lim := by simp [lim]
    have htl : min k l.length = k := by omega
    have hz1 : ((l.take (k + 1)).map (tick1 m t)).map eGr = ((l.take k).map (tick1 m t)).map eGr ++ [eGr (tick1 m t g)] := by rw [map_take (tick1 m t) hget, List.map_append]; rfl
    have hr1 : (tickR (l.take (k + 1)) t).map e1 = if overB t g = true then (tickR (l.take k) t).map e1 ++ [e1 g.run] else (tickR (l.take k) t).map e1 := by
      rw [tickR_step (t := t) hget]
      by_cases c : overB t g = true
      · rw [if_pos c, if_pos c, List.map_append]; rfl
      · rw [if_neg c, if_neg c]
    have hrl : ((tickR (l.take k) t).map e1).length + 1 ≤ lim := by have := tickR_len (l := l) (t := t) (k := k); rw [List.length_map]; simp only [lim]; omega
    have hXl : (((l.take k).map (tick1 m t)).map eGr).length + 1 ≤ lim := by rw [List.length_map, List.length_map, List.length_take, htl]; exact hlim
    obtain ⟨X, hX⟩ : ∃ X, ((l.take k).map (tick1 m t)).map eGr = X := ⟨_, rfl⟩
    obtain ⟨Y, hY⟩ : ∃ Y, (tickR (l.take k) t).map e1 = Y := ⟨_, rfl⟩
    rw [hX] at hw hz1 hXl
    rw [hY] at hv hr1 hrl
    clear hX hY htl
    have q1 := f51 m g h
    have keep : ∀ fr' μ', fr' 9 = fr 9 → (∀ b, μ'.arr (b, 37) = μ.arr (b, 37)) → (∀ b, μ.app (b, 37) = true → μ'.app (b, 37) = true) → Rw ⟨fr', μ'⟩ 9 3 1 37 Y := by
      intro fr' μ' a1 a2 a3
      rcases hv with ⟨h9, hy⟩ | ⟨b, h9, hb', hp'⟩
      · exact .inl ⟨by rw [← h9]; exact a1, hy⟩
      · exact .inr ⟨b, by rw [← h9]; exact a1, by rw [← hb']; exact a2 b, a3 b hp'⟩
    have go : ∀ fr' μ', fr' 1 = rG l → fr' 2 = vI t → fr' 3 = .ptr (0, 3) 0 → μ'.box (0, 3) = some (eM m) → fr' 10 = vI ((k + 1 : Nat) : Int) → RwD ⟨fr', μ'⟩ 8 51 8 P24 (X ++ [eGr (tick1 m t g)]) → Rw ⟨fr', μ'⟩ 9 3 1 37 (if overB t g = true then Y ++ [e1 g.run] else Y) → ∃ m', m' < l.length - k ∧ J m' ⟨fr', μ'⟩ :=
      fun fr' μ' a1 a2 a3 a4 a5 a6 a7 => ⟨l.length - (k + 1), by omega, hJ _ _ ⟨k + 1, by omega, rfl, a1, a2, a3, a4, a5, by rw [hz1]; exact a6, by rw [hr1]; exact a7⟩⟩
    clear hz1 hr1
    by_cases c1 : t < g.till
    · have d1 : tick1 m t g = g := if_pos c1
      have d2 : overB t g = false := by unfold overB; rw [decide_eq_false (by omega), Bool.false_and]
      rcases hw with ⟨h8, hx⟩ | ⟨a, d, hd, h8, ha, hp⟩
      · simp only at h8
        subst hx
        simp [h1, h2, h3, hb, h10, hkl, hg, hws, c1, h8, hlim0]
        exact go _ _ (by simp [h1]) (by simp [h2]) (by simp [h3]) (by simp [hb]) (by simp) (.inr ⟨_, 29, .inl rfl, rfl, by simp [d1], by simp⟩) (by rw [d2]; exact keep _ _ (by simp) (by simp) (fun b hb => by simp [hb]))
      · simp only at h8 ha hp
        obtain ⟨n28, n36, n42, n37, m37⟩ : d ≠ 28 ∧ d ≠ 36 ∧ d ≠ 42 ∧ d ≠ 37 ∧ ¬ 37 = d := by rcases hd with rfl | rfl <;> simp
        simp [h1, h2, h3, hb, h10, hkl, hg, hws, c1, h8, ha, hp, n28, hXl]
        exact go _ _ (by simp [h1]) (by simp [h2]) (by simp [h3]) (by simp [hb]) (by simp) (.inr ⟨_, 29, .inl rfl, rfl, by simp [d1], by simp⟩) (by rw [d2]; exact keep _ _ (by simp) (by simp) (fun b hb => by simp [hb, m37]))
    have d1 : tick1 m t g = endG m g := if_neg c1
    by_cases c2 : g.state = 2
    · have d2 : overB t g = true := by unfold overB; rw [decide_eq_true (by omega), c2]; rfl
      simp only [eGr, c2] at q1
      rcases hv with ⟨h9, hy⟩ | ⟨b, h9, hb2, hp2⟩
      · simp only at h9
        subst hy
        rcases hw with ⟨h8, hx⟩ | ⟨a, d, hd, h8, ha, hp⟩
        · simp only at h8
          subst hx
          simp [h1, h2, h3, hb, h10, hkl, hg, hws, c1, c2, q1, h8, h9, hlim0]
          exact go _ _ (by simp [h1]) (by simp [h2]) (by simp [h3]) (by simp [hb]) (by simp) (.inr ⟨_, 43, .inr rfl, rfl, by simp [d1], by simp⟩) (by rw [d2]; exact .inr ⟨_, rfl, by simp, by simp⟩)
        · simp only at h8 ha hp
          obtain ⟨n28, n36, n42, n37, m37⟩ : d ≠ 28 ∧ d ≠ 36 ∧ d ≠ 42 ∧ d ≠ 37 ∧ ¬ 37 = d := by rcases hd with rfl | rfl <;> simp
          simp [h1, h2, h3, hb, h10, hkl, hg, hws, c1, c2, q1, h8, h9, ha, hp, n36, n37, n42, hXl, hlim0]
          exact go _ _ (by simp [h1]) (by simp [h2]) (by simp [h3]) (by simp [hb]) (by simp) (.inr ⟨_, 43, .inr rfl, rfl, by simp [d1], by simp⟩) (by rw [d2]; exact .inr ⟨_, rfl, by simp, by simp [m37]⟩)
      · simp only at h9 hb2 hp2
        rcases hw with ⟨h8, hx⟩ | ⟨a, d, hd, h8, ha, hp⟩
        · simp only at h8
          subst hx
          simp [h1, h2, h3, hb, h10, hkl, hg, hws, c1, c2, q1, h8, h9, hb2, hp2, hrl, hlim0]
          exact go _ _ (by simp [h1]) (by simp [h2]) (by simp [h3]) (by simp [hb]) (by simp) (.inr ⟨_, 43, .inr rfl, rfl, by simp [d1], by simp⟩) (by rw [d2]; exact .inr ⟨_, rfl, by simp, by simp⟩)
        · simp only at h8 ha hp
          obtain ⟨n28, n36, n42, n37, m37⟩ : d ≠ 28 ∧ d ≠ 36 ∧ d ≠ 42 ∧ d ≠ 37 ∧ ¬ 37 = d := by rcases hd with rfl | rfl <;> simp
          simp [h1, h2, h3, hb, h10, hkl, hg, hws, c1, c2, q1, h8, h9, ha, hp, n36, n37, n42, hXl, hb2, hp2, hrl]
          exact go _ _ (by simp [h1]) (by simp [h2]) (by simp [h3]) (by simp [hb]) (by simp) (.inr ⟨_, 43, .inr rfl, rfl, by simp [d1], by simp⟩) (by rw [d2]; exact .inr ⟨_, rfl, by simp, by simp [m37]⟩)
    · have d2 : overB t g = false := by unfold overB; rw [beq_eq_false_iff_ne.2 c2, Bool.and_false]
      rcases hw with ⟨h8, hx⟩ | ⟨a, d, hd, h8, ha, hp⟩
      · simp only at h8
        subst hx
        simp [h1, h2, h3, hb, h10, hkl, hg, hws, c1, c2, q1, h8, hlim0]
        exact go _ _ (by simp [h1]) (by simp [h2]) (by simp [h3]) (by simp [hb]) (by simp) (.inr ⟨_, 43, .inr rfl, rfl, by simp [d1], by simp⟩) (by rw [d2]; exact keep _ _ (by simp) (by simp) (fun b hb => by simp [hb]))
      · simp only at h8 ha hp
        obtain ⟨n28, n36, n42, n37, m37⟩ : d ≠ 28 ∧ d ≠ 36 ∧ d ≠ 42 ∧ d ≠ 37 ∧ ¬ 37 = d := by rcases hd with rfl | rfl <;> simp
        simp [h1, h2, h3, hb, h10, hkl, hg, hws, c1, c2, q1, h8, ha, hp, n42, hXl]
        exact go _ _ (by simp [h1]) (by simp [h2]) (by simp [h3]) (by simp [hb]) (by simp) (.inr ⟨_, 43, .inr rfl, rfl, by simp [d1], by simp⟩) (by rw [d2]; exact keep _ _ (by simp) (by simp) (fun b hb => by simp [hb, m37]))
  · have hke : k = l.length := by omega
    subst hke
    rw [List.take_length, hX0] at hw
    rw [List.take_length, hY0] at hv
    clear hX0 hY0
    rcases hw with ⟨h8, rfl⟩ | ⟨a, d, hd, h8, ha, hp⟩ <;> rcases hv with ⟨h9, rfl⟩ | ⟨b, h9, hb2, hp2⟩ <;> simp only at *
    · simp [h1, h10, h8, h9]
    · simp [h1, h10, h8, h9, hb2]
    · simp [h1, h10, h8, h9, ha]
    · simp [h1, h10, h8, h9, ha, hb2]
end Go.Proofs.Ytkoickoceggimaa.Am
