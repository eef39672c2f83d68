/- Vehicles: time goes on (the program), and the law of it. No condition. -/
import Derived.Test.YtkoickoceggimaaGI
namespace Go.Proofs.Ytkoickoceggimaa.Am
open Go

def partT (m : Mp) (l : List Gr) (t : Int) (k : Nat) : List (List Cell) := ((l.take k).map (tick1 m t) ++ l.drop k).map eGr
theorem partT_len {m : Mp} {l : List Gr} {t : Int} {k : Nat} : (partT m l t k).length = l.length := by
  unfold partT
  rw [List.length_map, List.length_append, List.length_map, List.length_take, List.length_drop]
  omega
theorem partT_set {m : Mp} {l : List Gr} {t : Int} {k : Nat} {g : Gr} (h : l[k]? = some g) : (partT m l t k).set k (eGr (tick1 m t g)) = partT m l t (k + 1) := by
  have hk := (List.getElem?_eq_some_iff.1 h).1
  unfold partT
  have : k - ((l.take k).map (tick1 m t)).length = 0 := by rw [List.length_map, List.length_take]; omega
  rw [drop_cons h, ← take_app h, ← List.map_set, List.set_append_right _ _ (by rw [List.length_map, List.length_take]; omega), this]
  simp
theorem partT_keep {m : Mp} {l : List Gr} {t : Int} {k : Nat} {g : Gr} (h : l[k]? = some g) (he : tick1 m t g = g) : partT m l t (k + 1) = partT m l t k := by
  unfold partT
  rw [drop_cons h, ← take_app h]
  simp [he]
theorem partT_get {m : Mp} {l : List Gr} {t : Int} {k : Nat} {g : Gr} (h : l[k]? = some g) : (partT m l t k)[k]? = some (eGr g) := by
  have hk := (List.getElem?_eq_some_iff.1 h).1
  unfold partT
  have : k - ((l.take k).map (tick1 m t)).length = 0 := by rw [List.length_map, List.length_take]; omega
  rw [drop_cons h, List.getElem?_map, List.getElem?_append_right (by rw [List.length_map, List.length_take]; omega), this]
  rfl
def RwC (s : St) (k d : Nat) (e z : Nat) (xs : List (List Cell)) : Prop :=
  ∃ t, s.fr k = .v (.c (.own (t, d))) ∧ s.mu.arr (t, d) = some ⟨e, z, xs⟩ ∧ s.mu.sto (t, d) = true
set_option maxHeartbeats 4000000 in
theorem f23 (m : Mp) (l : List Gr) (t : Int) (h : Okm m) (hl : l.length ≤ 1000) (K : List Vl → Prop) :
    FC F 23 [.v (.agg (eM m)), rG l, vI t] K ↔ K [.c (.ro 8 ((l.map (tick1 m t)).map eGr)), .c (.ro 1 ((tickR l t).map e1))] := by
  refine FC.rule ?_ K
  rw [fc_run F23]
  obtain ⟨X0, hX0⟩ : ∃ X, (l.map (tick1 m t)).map eGr = X := ⟨_, rfl⟩
  obtain ⟨Y0, hY0⟩ : ∃ Y, (tickR l t).map e1 = Y := ⟨_, rfl⟩
  rw [hX0, hY0]
  have hcl := f50 l hl
  simp [b23, hcl]
  refine run_loop (fun q s => ∃ k, k ≤ l.length ∧ q = l.length - k ∧ s.fr 2 = vI t ∧ s.fr 3 = .ptr (0, 3) 0 ∧ s.mu.box (0, 3) = some (eM m) ∧ s.fr 16 = rG l ∧ s.fr 17 = vI l.length ∧ s.fr 18 = vI k ∧ RwC s 8 15 51 8 (partT m l t k) ∧ Rw s 9 3 1 40 ((tickR (l.take k) t).map e1)) l.length ⟨0, by omega, by omega, by simp, by simp, by simp, by simp, by simp, by simp, ⟨1, by simp, by simp [partT], by simp⟩, .inl ⟨by simp, by simp [tickR]⟩⟩ ?_
  rintro J hJ q ⟨fr, μ⟩ ⟨k, hk, rfl, h2, h3, hb, h16, h17, h18, ⟨a, h8, ha, hs⟩, hv⟩
  simp only at h2 h3 hb h16 h17 h18 h8 ha hs
  by_cases hkl : k < l.length
  · obtain ⟨g, hg⟩ : ∃ g, l[k] = g := ⟨_, rfl⟩
    have hget : l[k]? = some g := by rw [← hg]; exact List.getElem?_eq_getElem hkl
    have hws := wrapS (n := k) (by omega)
    have hlim0 : 1 ≤ lim := by simp [lim]
    have hr1 : (tickR (l.take (k + 1)) t).map e1 = if overB t g = true then (tickR (l.take k) t).map e1 ++ [e1 g.run] else (tickR (l.take k) t).map e1 := by
      rw [tickR_step (t := t) hget]
      by_cases c : overB t g = true
      · rw [if_pos c, if_pos c, List.map_append]; rfl
      · rw [if_neg c, if_neg c]
    have hrl : ((tickR (l.take k) t).map e1).length + 1 ≤ lim := by have := tickR_len (l := l) (t := t) (k := k); rw [List.length_map]; simp only [lim]; omega
    have hset := partT_set (m := m) (t := t) hget
    have hkeep := partT_keep (m := m) (t := t) hget
    have hXg := partT_get (m := m) (t := t) hget
    have hXl : k < (partT m l t k).length := by rw [partT_len]; exact hkl
    obtain ⟨X, hX⟩ : ∃ X, partT m l t k = X := ⟨_, rfl⟩
    obtain ⟨Y, hY⟩ : ∃ Y, (tickR (l.take k) t).map e1 = Y := ⟨_, rfl⟩
    rw [hX] at ha hXl hset hkeep hXg
    rw [hY] at hv hr1 hrl
    have hXk : X[k] = eGr g := (List.getElem?_eq_some_iff.1 hXg).2
    clear hX hY hXg
    have q1 := f48 m g.run h.r
    have keep : ∀ fr' μ', fr' 9 = fr 9 → (∀ b, μ'.arr (b, 40) = μ.arr (b, 40)) → (∀ b, μ.app (b, 40) = true → μ'.app (b, 40) = true) → Rw ⟨fr', μ'⟩ 9 3 1 40 Y := by
      intro fr' μ' a1 a2 a3
      rcases hv with ⟨h9, hy⟩ | ⟨b, h9, hb', hp'⟩
      · exact .inl ⟨by rw [← h9]; exact a1, hy⟩
      · exact .inr ⟨b, by rw [← h9]; exact a1, by rw [← hb']; exact a2 b, a3 b hp'⟩
    have go : ∀ fr' μ', fr' 2 = vI t → fr' 3 = .ptr (0, 3) 0 → μ'.box (0, 3) = some (eM m) → fr' 16 = rG l → fr' 17 = vI l.length → fr' 18 = vI ((k + 1 : Nat) : Int) → RwC ⟨fr', μ'⟩ 8 15 51 8 (partT m l t (k + 1)) → Rw ⟨fr', μ'⟩ 9 3 1 40 (if overB t g = true then Y ++ [e1 g.run] else Y) → ∃ m', m' < l.length - k ∧ J m' ⟨fr', μ'⟩ :=
      fun fr' μ' a1 a2 a3 a4 a5 a6 a7 a8 => ⟨l.length - (k + 1), by omega, hJ _ _ ⟨k + 1, by omega, rfl, a1, a2, a3, a4, a5, a6, a7, by rw [hr1]; exact a8⟩⟩
    clear hr1
    by_cases c1 : t < g.till
    · have d1 : tick1 m t g = g := if_pos c1
      have d2 : overB t g = false := by unfold overB; rw [decide_eq_false (by omega), Bool.false_and]
      have hkp := hkeep d1
      simp [h2, h16, h17, h18, h8, ha, hs, hkl, hg, hws, c1]
      exact go _ _ (by simp [h2]) (by simp [h3]) (by simp [hb]) (by simp [h16]) (by simp [h17]) (by simp) ⟨a, by simp [h8], by simp [ha, hkp], by simp [hs]⟩ (by rw [d2]; exact keep _ _ (by simp) (by simp) (fun b hb => by simp [hb]))
    have d1 : tick1 m t g = endG m g := if_neg c1
    rw [d1] at hset
    clear hkeep
    by_cases c2 : g.state = 2
    · have d2 : overB t g = true := by unfold overB; rw [decide_eq_true (by omega), c2]; rfl
      cases c3 : hasRn m g.run with
      | true =>
        rw [c3] at q1
        have e : endN m g = (findRn m g.run).to := by unfold endN; rw [if_neg (by omega), if_pos ⟨c2, c3⟩]
        simp only [endG, e] at hset
        rcases hv with ⟨h9, hy⟩ | ⟨b, h9, hb2, hp2⟩
        · simp only at h9
          subst hy
          simp [h2, h3, hb, h16, h17, h18, h8, ha, hs, hkl, hg, hws, c1, c2, q1, hXl, hXk, h9, hlim0]
          exact go _ _ (by simp [h2]) (by simp [h3]) (by simp [hb]) (by simp [h16]) (by simp [h17]) (by simp) ⟨a, by simp [h8], by simp [← hset], by simp [hs]⟩ (by rw [d2]; exact .inr ⟨_, rfl, by simp, by simp⟩)
        · simp only at h9 hb2 hp2
          simp [h2, h3, hb, h16, h17, h18, h8, ha, hs, hkl, hg, hws, c1, c2, q1, hXl, hXk, h9, hb2, hp2, hrl]
          exact go _ _ (by simp [h2]) (by simp [h3]) (by simp [hb]) (by simp [h16]) (by simp [h17]) (by simp) ⟨a, by simp [h8], by simp [← hset], by simp [hs]⟩ (by rw [d2]; exact .inr ⟨_, rfl, by simp, by simp⟩)
      | false =>
        rw [c3] at q1
        have e : endN m g = g.node := by unfold endN; rw [if_neg (by omega), if_neg (by rw [c3]; simp)]
        simp only [endG, e] at hset
        rcases hv with ⟨h9, hy⟩ | ⟨b, h9, hb2, hp2⟩
        · simp only at h9
          subst hy
          simp [h2, h3, hb, h16, h17, h18, h8, ha, hs, hkl, hg, hws, c1, c2, q1, hXl, hXk, h9, hlim0]
          exact go _ _ (by simp [h2]) (by simp [h3]) (by simp [hb]) (by simp [h16]) (by simp [h17]) (by simp) ⟨a, by simp [h8], by simp [← hset], by simp [hs]⟩ (by rw [d2]; exact .inr ⟨_, rfl, by simp, by simp⟩)
        · simp only at h9 hb2 hp2
          simp [h2, h3, hb, h16, h17, h18, h8, ha, hs, hkl, hg, hws, c1, c2, q1, hXl, hXk, h9, hb2, hp2, hrl]
          exact go _ _ (by simp [h2]) (by simp [h3]) (by simp [hb]) (by simp [h16]) (by simp [h17]) (by simp) ⟨a, by simp [h8], by simp [← hset], by simp [hs]⟩ (by rw [d2]; exact .inr ⟨_, rfl, by simp, by simp⟩)
    have d2 : overB t g = false := by unfold overB; rw [beq_eq_false_iff_ne.2 c2, Bool.and_false]
    by_cases c4 : g.state = 1
    · have e : endN m g = g.to := if_pos c4
      simp only [endG, e] at hset
      simp [h2, h16, h17, h18, h8, ha, hs, hkl, hg, hws, c1, c4, hXl, hXk]
      exact go _ _ (by simp [h2]) (by simp [h3]) (by simp [hb]) (by simp [h16]) (by simp [h17]) (by simp) ⟨a, by simp [h8], by simp [← hset], by simp [hs]⟩ (by rw [d2]; exact keep _ _ (by simp) (by simp) (fun b hb => by simp [hb]))
    · have e : endN m g = g.node := by unfold endN; rw [if_neg c4, if_neg (fun h => c2 h.1)]
      simp only [endG, e] at hset
      simp [h2, h16, h17, h18, h8, ha, hs, hkl, hg, hws, c1, c2, c4, hXl, hXk]
      exact go _ _ (by simp [h2]) (by simp [h3]) (by simp [hb]) (by simp [h16]) (by simp [h17]) (by simp) ⟨a, by simp [h8], by simp [← hset], by simp [hs]⟩ (by rw [d2]; exact keep _ _ (by simp) (by simp) (fun b hb => by simp [hb]))
  · have hke : k = l.length := by omega
    subst hke
    have hfin : partT m l t l.length = X0 := by unfold partT; rw [List.take_length, List.drop_length, List.append_nil, hX0]
    rw [hfin] at ha
    rw [List.take_length, hY0] at hv
    clear hX0 hY0 hfin
    rcases hv with ⟨h9, rfl⟩ | ⟨b, h9, hb2, hp2⟩ <;> simp only at h9
    · simp [h16, h17, h18, h8, h9, ha]
    · simp only at hb2
      simp [h16, h17, h18, h8, h9, ha, hb2]
end Go.Proofs.Ytkoickoceggimaa.Am
