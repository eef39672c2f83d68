/- Terrain: the edges of runs and lifts; the law TerrainEdges over the abstract machine. No condition. -/
import Derived.Test.YtmbhpinkiffdgaaTL
namespace Go.Proofs.Ytmbhpinkiffdgaa.Am
open Go

structure Ed where
  a : Int
  b : Int
  c : Int
  d : Int
abbrev eEd (x : Ed) : List Cell := [I x.a, I x.b, I x.c, I x.d]
theorem idxI_contains (l : List Int) (n : Int) : decide (0 ≤ idxI (fun a => a == n) l) = l.contains n := by
  unfold idxI
  cases h : idx (fun a => a == n) l with
  | some k =>
    obtain ⟨a, h1, h2⟩ := idx_some h
    have : n ∈ l := by rw [← eq_of_beq h2]; exact List.mem_of_getElem? h1
    simpa using this
  | none =>
    have hc : l.contains n = false := by
      cases hb : l.contains n with
      | false => rfl
      | true =>
        have hm := List.contains_iff_mem.1 hb
        clear hb
        exfalso
        induction l with
        | nil => simp at hm
        | cons x l ih =>
          simp only [idx] at h
          split at h
          · cases h
          · rename_i hx
            rcases List.mem_cons.1 hm with rfl | hm
            · simp at hx
            · cases hk : idx (fun a => a == n) l with
              | none => exact ih hk hm
              | some k => rw [hk] at h; cases h
    rw [hc]; rfl
theorem f58 (l : List Int) (n : Int) (hl : l.length ≤ 9223372036854775807) (K : List Vl → Prop) : FC F 58 [.v (.c (.ro 1 (l.map e1))), vI n] K ↔ K [.c (I (idxI (fun a => a == n) l))] := by
  refine FC.rule ?_ K
  rw [fc_run F58]
  simp [b58]
  refine run_loop (fun m s => ∃ k, k ≤ l.length ∧ m = l.length - k ∧ s.fr 0 = .v (.c (.ro 1 (l.map e1))) ∧ s.fr 1 = vI n ∧ s.fr 7 = vI l.length ∧ s.fr 8 = vI k ∧ ∀ (j : Nat) x, j < k → l[j]? = some x → (x == n) = false) l.length ⟨0, by omega, by omega, by simp, by simp, by simp, by simp, by simp⟩ ?_
  rintro J hJ m ⟨fr, μ⟩ ⟨k, hk, rfl, h0, h1, h7, h8, hn⟩
  simp only at h0 h1 h7 h8
  by_cases hkl : k < l.length
  · obtain ⟨x, hn'⟩ : ∃ x, l[k] = x := ⟨_, rfl⟩
    have hget : l[k]? = some x := by rw [← hn']; exact List.getElem?_eq_getElem hkl
    by_cases hp : x = n
    · have : idxI (fun a => a == n) l = k := by simp only [idxI, idx_at hget (by simp [hp]) hn]
      simp [h0, h1, h7, h8, hkl, hn', hp, this]
    · have hp2 : ¬ n = x := fun h => hp h.symm
      have hw := wrapS (n := k) (by omega)
      simp [h0, h1, h7, h8, hkl, hn', hp, hp2, hw]
      refine ⟨l.length - (k + 1), by omega, hJ _ _ ⟨k + 1, by omega, rfl, by simp [h0], by simp [h1], by simp [h7], by simp, fun j m hj hm => ?_⟩⟩
      by_cases hjk : j = k
      · subst hjk; rw [hget] at hm; injection hm with hm; subst hm; simpa using hp
      · exact hn j m (by omega) hm
  · have : idxI (fun a => a == n) l = -1 := by
      simp only [idxI]
      rw [idx_none fun j b hb => hn j b (by have := (List.getElem?_eq_some_iff.1 hb).1; omega) hb]
    simp [h0, h1, h7, h8, hkl, this]
theorem f50 (l : List Int) (n : Int) (hl : l.length ≤ 9223372036854775807) (K : List Vl → Prop) : FC F 50 [.v (.c (.ro 1 (l.map e1))), vI n] K ↔ K [.c (B (l.contains n))] := by
  rw [fc_run F50]
  have h := f58 l n hl
  have hc := idxI_contains l n
  rw [← hc]
  simp [b50, h]
theorem contains_at {l : List Int} {k : Nat} {n : Int} (hn : ∀ (j : Nat) x, j < k → l[j]? = some x → (x == n) = false) (h : l.length ≤ k) : l.contains n = false := by
  cases hb : l.contains n with
  | false => rfl
  | true =>
    obtain ⟨j, hj⟩ := List.getElem?_of_mem (List.contains_iff_mem.1 hb)
    have := hn j n (by have := (List.getElem?_eq_some_iff.1 hj).1; omega) hj
    simp at this
theorem f51 (l : List Int) (n : Int) (hl : l.length ≤ 9223372036854775807) (K : List Vl → Prop) : FC F 51 [.v (.c (.ro 1 (l.map e1))), vI n] K ↔ K [.c (B (l.contains n))] := by
  refine FC.rule ?_ K
  rw [fc_run F51]
  simp [b51]
  refine run_loop (fun m s => ∃ k, k ≤ l.length ∧ m = l.length - k ∧ s.fr 0 = .v (.c (.ro 1 (l.map e1))) ∧ s.fr 1 = vI n ∧ s.fr 5 = vI k ∧ ∀ (j : Nat) x, j < k → l[j]? = some x → (x == n) = false) l.length ⟨0, by omega, by omega, by simp, by simp, by simp, by simp⟩ ?_
  rintro J hJ m ⟨fr, μ⟩ ⟨k, hk, rfl, h0, h1, h5, hn⟩
  simp only at h0 h1 h5
  by_cases hkl : k < l.length
  · obtain ⟨x, hn'⟩ : ∃ x, l[k] = x := ⟨_, rfl⟩
    have hget : l[k]? = some x := by rw [← hn']; exact List.getElem?_eq_getElem hkl
    by_cases hp : x = n
    · have hm : n ∈ l := by rw [← hp]; exact List.mem_of_getElem? hget
      simp [h0, h1, h5, hkl, hn', hp, hm]
    · have hw := wrapS (n := k) (by omega)
      simp [h0, h1, h5, hkl, hn', hp, hw]
      refine ⟨l.length - (k + 1), by omega, hJ _ _ ⟨k + 1, by omega, rfl, by simp [h0], by simp [h1], by simp, fun j m hj hm => ?_⟩⟩
      by_cases hjk : j = k
      · subst hjk; rw [hget] at hm; injection hm with hm; subst hm; simpa using hp
      · exact hn j m (by omega) hm
  · have hc := contains_at hn (by omega)
    have hm : ¬ n ∈ l := fun h => by rw [List.contains_iff_mem.2 h] at hc; cases hc
    simp [h0, h1, h5, hkl, hm]
theorem f26 (l : List Ed) (hl : l.length ≤ 9223372036854775807) (K : List Vl → Prop) : FC F 26 [.v (.c (.ro 4 (l.map eEd))), .v (.c (.ro 4 (l.map eEd)))] K ↔ K [.c (B true)] := by
  refine FC.rule ?_ K
  rw [fc_run F26]
  simp [b26]
  refine run_loop (fun q s => ∃ k, k ≤ l.length ∧ q = l.length - k ∧ s.fr 0 = .v (.c (.ro 4 (l.map eEd))) ∧ s.fr 1 = .v (.c (.ro 4 (l.map eEd))) ∧ s.fr 5 = vI k) l.length ⟨0, by omega, by omega, by simp, by simp, by simp⟩ ?_
  rintro J hJ q ⟨fr, μ⟩ ⟨k, hk, rfl, h0, h1, h5⟩
  simp only at h0 h1 h5
  by_cases hkl : k < l.length
  · have hws := wrapS (n := k) (by omega)
    simp [h0, h1, h5, hkl, hws]
    exact ⟨l.length - (k + 1), by omega, hJ _ _ ⟨k + 1, by omega, rfl, by simp [h0], by simp [h1], by simp⟩⟩
  · simp [h0, h1, h5, hkl]

def edRn (x : Rn) : Ed := ⟨x.id, x.fr, x.to, x.len⟩
def selRn (m : Mp) (l : List Int) (k : Nat) : List Ed := ((m.runs.take k).filter fun x => l.contains x.id).map edRn
theorem selRn_step {m : Mp} {l : List Int} {k : Nat} {x : Rn} (h : m.runs[k]? = some x) : selRn m l (k + 1) = if l.contains x.id = true then selRn m l k ++ [edRn x] else selRn m l k := by
  have hk := (List.getElem?_eq_some_iff.1 h)
  unfold selRn
  rw [List.take_succ_eq_append_getElem hk.1, hk.2, List.filter_append, List.map_append]
  by_cases hz : l.contains x.id = true
  · rw [if_pos hz]; simp only [List.filter_cons, hz, if_true, List.filter_nil, List.map_cons, List.map_nil]
  · rw [if_neg hz]; simp only [List.filter_cons, hz, List.filter_nil]; simp
theorem selRn_len {m : Mp} {l : List Int} {k : Nat} : (selRn m l k).length ≤ k := by
  unfold selRn
  rw [List.length_map]
  exact Nat.le_trans (List.length_filter_le ..) (by simp; omega)

def edLf (x : Lf) : Ed := ⟨x.id, x.fr, x.to, x.len⟩
def selLf (m : Mp) (l : List Int) (k : Nat) : List Ed := ((m.lifts.take k).filter fun x => l.contains x.id).map edLf
theorem selLf_step {m : Mp} {l : List Int} {k : Nat} {x : Lf} (h : m.lifts[k]? = some x) : selLf m l (k + 1) = if l.contains x.id = true then selLf m l k ++ [edLf x] else selLf m l k := by
  have hk := (List.getElem?_eq_some_iff.1 h)
  unfold selLf
  rw [List.take_succ_eq_append_getElem hk.1, hk.2, List.filter_append, List.map_append]
  by_cases hz : l.contains x.id = true
  · rw [if_pos hz]; simp only [List.filter_cons, hz, if_true, List.filter_nil, List.map_cons, List.map_nil]
  · rw [if_neg hz]; simp only [List.filter_cons, hz, List.filter_nil]; simp
theorem selLf_len {m : Mp} {l : List Int} {k : Nat} : (selLf m l k).length ≤ k := by
  unfold selLf
  rw [List.length_map]
  exact Nat.le_trans (List.length_filter_le ..) (by simp; omega)

set_option maxHeartbeats 4000000 in
theorem f27 (m : Mp) (l : List Int) (hl : l.length ≤ 9223372036854775807) (hr : m.runs.length ≤ 64) (K : List Vl → Prop) : FC F 27 [.v (.agg (eM m)), .v (.c (.ro 1 (l.map e1)))] K ↔ K [.c (.ro 4 ((selRn m l m.runs.length).map eEd))] := by
  refine FC.rule ?_ K
  rw [fc_run F27]
  simp [b27]
  refine run_loop (fun q s => ∃ k, k ≤ m.runs.length ∧ q = m.runs.length - k ∧ s.fr 1 = .v (.c (.ro 1 (l.map e1))) ∧ s.fr 9 = .v (.c (.ro 7 (m.runs.map eRn))) ∧ s.fr 10 = vI m.runs.length ∧ s.fr 11 = vI k ∧ Rw s 5 57 4 30 ((selRn m l k).map eEd)) m.runs.length ⟨0, by omega, by omega, by simp, by simp, by simp, by simp, .inl ⟨by simp, rfl⟩⟩ ?_
  rintro J hJ q ⟨fr, μ⟩ ⟨k, hk, rfl, h1, h9, h10, h11, hw⟩
  simp only at h1 h9 h10 h11
  by_cases hkl : k < m.runs.length
  · obtain ⟨n, hn'⟩ : ∃ n, m.runs[k] = n := ⟨_, rfl⟩
    have hget : m.runs[k]? = some n := by rw [← hn']; exact List.getElem?_eq_getElem hkl
    have hws := wrapS (n := k) (by omega)
    have hz := selRn_step (l := l) hget
    have hlen := selRn_len (m := m) (l := l) (k := k)
    have hlim : (selRn m l k).length + 1 ≤ lim := by simp only [lim]; omega
    have hlim0 : 1 ≤ lim := by simp [lim]
    have hc := f50 l n.id hl
    by_cases c : l.contains n.id = true
    · rw [if_pos c] at hz
      rw [c] at hc
      rcases hw with ⟨h5, hx⟩ | ⟨t, h5, ha, hp⟩
      · simp only at h5
        have hx' : selRn m l k = [] := by simpa using hx
        simp [h1, h9, h10, h11, h5, hkl, hn', hc, hws, hlim0]
        exact ⟨m.runs.length - (k + 1), by omega, hJ _ _ ⟨k + 1, by omega, rfl, by simp [h1], by simp [h9], by simp [h10], by simp, .inr ⟨_, rfl, by simp [hz, hx', edRn], by simp⟩⟩⟩
      · simp only at h5 ha hp
        simp [h1, h9, h10, h11, h5, ha, hp, hkl, hn', hc, hws, hlim]
        exact ⟨m.runs.length - (k + 1), by omega, hJ _ _ ⟨k + 1, by omega, rfl, by simp [h1], by simp [h9], by simp [h10], by simp, .inr ⟨_, rfl, by simp [hz, edRn], by simp⟩⟩⟩
    · rw [if_neg c] at hz
      have c' : l.contains n.id = false := by simpa using c
      rw [c'] at hc
      simp [h1, h9, h10, h11, hkl, hn', hc, hws]
      refine ⟨m.runs.length - (k + 1), by omega, hJ _ _ ⟨k + 1, by omega, rfl, by simp [h1], by simp [h9], by simp [h10], by simp, ?_⟩⟩
      rw [hz]
      rcases hw with ⟨h5, hx⟩ | ⟨t, h5, ha, hp⟩
      · simp only at h5; exact .inl ⟨by simp [h5], hx⟩
      · simp only at h5 ha hp; exact .inr ⟨t, by simp [h5], by simp [ha], by simp [hp]⟩
  · have hke : k = m.runs.length := by omega
    subst hke
    rcases hw with ⟨h5, hx⟩ | ⟨t, h5, ha, hp⟩
    · simp only at h5
      have hx' : selRn m l m.runs.length = [] := by simpa using hx
      simp [h1, h9, h10, h11, h5, hx']
    · simp only at h5 ha hp
      simp [h1, h9, h10, h11, h5, ha]
set_option maxHeartbeats 4000000 in
theorem f28 (m : Mp) (l : List Int) (hl : l.length ≤ 9223372036854775807) (hr : m.runs.length ≤ 64) (K : List Vl → Prop) : FC F 28 [.v (.agg (eM m)), .v (.c (.ro 1 (l.map e1)))] K ↔ K [.c (.ro 4 ((selRn m l m.runs.length).map eEd))] := by
  refine FC.rule ?_ K
  rw [fc_run F28]
  simp [b28]
  refine run_loop (fun q s => ∃ k, k ≤ m.runs.length ∧ q = m.runs.length - k ∧ s.fr 1 = .v (.c (.ro 1 (l.map e1))) ∧ s.fr 2 = .ptr (0, 2) 0 ∧ s.mu.box (0, 2) = some (eM m) ∧ s.fr 6 = vI k ∧ Rw s 5 57 4 35 ((selRn m l k).map eEd)) m.runs.length ⟨0, by omega, by omega, by simp, by simp, by simp, by simp, .inl ⟨by simp, rfl⟩⟩ ?_
  rintro J hJ q ⟨fr, μ⟩ ⟨k, hk, rfl, h1, h9, h10, h11, hw⟩
  simp only at h1 h9 h10 h11
  by_cases hkl : k < m.runs.length
  · obtain ⟨n, hn'⟩ : ∃ n, m.runs[k] = n := ⟨_, rfl⟩
    have hget : m.runs[k]? = some n := by rw [← hn']; exact List.getElem?_eq_getElem hkl
    have hws := wrapS (n := k) (by omega)
    have hz := selRn_step (l := l) hget
    have hlen := selRn_len (m := m) (l := l) (k := k)
    have hlim : (selRn m l k).length + 1 ≤ lim := by simp only [lim]; omega
    have hlim0 : 1 ≤ lim := by simp [lim]
    have hc := f51 l n.id hl
    by_cases c : l.contains n.id = true
    · rw [if_pos c] at hz
      rw [c] at hc
      rcases hw with ⟨h5, hx⟩ | ⟨t, h5, ha, hp⟩
      · simp only at h5
        have hx' : selRn m l k = [] := by simpa using hx
        simp [h1, h9, h10, h11, h5, hkl, hn', hc, hws, hlim0]
        exact ⟨m.runs.length - (k + 1), by omega, hJ _ _ ⟨k + 1, by omega, rfl, by simp [h1], by simp [h9], by simp [h10], by simp, .inr ⟨_, rfl, by simp [hz, hx', edRn], by simp⟩⟩⟩
      · simp only at h5 ha hp
        simp [h1, h9, h10, h11, h5, ha, hp, hkl, hn', hc, hws, hlim]
        exact ⟨m.runs.length - (k + 1), by omega, hJ _ _ ⟨k + 1, by omega, rfl, by simp [h1], by simp [h9], by simp [h10], by simp, .inr ⟨_, rfl, by simp [hz, edRn], by simp⟩⟩⟩
    · rw [if_neg c] at hz
      have c' : l.contains n.id = false := by simpa using c
      rw [c'] at hc
      simp [h1, h9, h10, h11, hkl, hn', hc, hws]
      refine ⟨m.runs.length - (k + 1), by omega, hJ _ _ ⟨k + 1, by omega, rfl, by simp [h1], by simp [h9], by simp [h10], by simp, ?_⟩⟩
      rw [hz]
      rcases hw with ⟨h5, hx⟩ | ⟨t, h5, ha, hp⟩
      · simp only at h5; exact .inl ⟨by simp [h5], hx⟩
      · simp only at h5 ha hp; exact .inr ⟨t, by simp [h5], by simp [ha], by simp [hp]⟩
  · have hke : k = m.runs.length := by omega
    subst hke
    rcases hw with ⟨h5, hx⟩ | ⟨t, h5, ha, hp⟩
    · simp only at h5
      have hx' : selRn m l m.runs.length = [] := by simpa using hx
      simp [h1, h9, h10, h11, h5, hx']
    · simp only at h5 ha hp
      simp [h1, h9, h10, h11, h5, ha]
set_option maxHeartbeats 4000000 in
theorem f29 (m : Mp) (l : List Int) (hl : l.length ≤ 9223372036854775807) (hr : m.lifts.length ≤ 32) (K : List Vl → Prop) : FC F 29 [.v (.agg (eM m)), .v (.c (.ro 1 (l.map e1)))] K ↔ K [.c (.ro 4 ((selLf m l m.lifts.length).map eEd))] := by
  refine FC.rule ?_ K
  rw [fc_run F29]
  simp [b29]
  refine run_loop (fun q s => ∃ k, k ≤ m.lifts.length ∧ q = m.lifts.length - k ∧ s.fr 1 = .v (.c (.ro 1 (l.map e1))) ∧ s.fr 9 = .v (.c (.ro 8 (m.lifts.map eLf))) ∧ s.fr 10 = vI m.lifts.length ∧ s.fr 11 = vI k ∧ Rw s 5 57 4 30 ((selLf m l k).map eEd)) m.lifts.length ⟨0, by omega, by omega, by simp, by simp, by simp, by simp, .inl ⟨by simp, rfl⟩⟩ ?_
  rintro J hJ q ⟨fr, μ⟩ ⟨k, hk, rfl, h1, h9, h10, h11, hw⟩
  simp only at h1 h9 h10 h11
  by_cases hkl : k < m.lifts.length
  · obtain ⟨n, hn'⟩ : ∃ n, m.lifts[k] = n := ⟨_, rfl⟩
    have hget : m.lifts[k]? = some n := by rw [← hn']; exact List.getElem?_eq_getElem hkl
    have hws := wrapS (n := k) (by omega)
    have hz := selLf_step (l := l) hget
    have hlen := selLf_len (m := m) (l := l) (k := k)
    have hlim : (selLf m l k).length + 1 ≤ lim := by simp only [lim]; omega
    have hlim0 : 1 ≤ lim := by simp [lim]
    have hc := f50 l n.id hl
    by_cases c : l.contains n.id = true
    · rw [if_pos c] at hz
      rw [c] at hc
      rcases hw with ⟨h5, hx⟩ | ⟨t, h5, ha, hp⟩
      · simp only at h5
        have hx' : selLf m l k = [] := by simpa using hx
        simp [h1, h9, h10, h11, h5, hkl, hn', hc, hws, hlim0]
        exact ⟨m.lifts.length - (k + 1), by omega, hJ _ _ ⟨k + 1, by omega, rfl, by simp [h1], by simp [h9], by simp [h10], by simp, .inr ⟨_, rfl, by simp [hz, hx', edLf], by simp⟩⟩⟩
      · simp only at h5 ha hp
        simp [h1, h9, h10, h11, h5, ha, hp, hkl, hn', hc, hws, hlim]
        exact ⟨m.lifts.length - (k + 1), by omega, hJ _ _ ⟨k + 1, by omega, rfl, by simp [h1], by simp [h9], by simp [h10], by simp, .inr ⟨_, rfl, by simp [hz, edLf], by simp⟩⟩⟩
    · rw [if_neg c] at hz
      have c' : l.contains n.id = false := by simpa using c
      rw [c'] at hc
      simp [h1, h9, h10, h11, hkl, hn', hc, hws]
      refine ⟨m.lifts.length - (k + 1), by omega, hJ _ _ ⟨k + 1, by omega, rfl, by simp [h1], by simp [h9], by simp [h10], by simp, ?_⟩⟩
      rw [hz]
      rcases hw with ⟨h5, hx⟩ | ⟨t, h5, ha, hp⟩
      · simp only at h5; exact .inl ⟨by simp [h5], hx⟩
      · simp only at h5 ha hp; exact .inr ⟨t, by simp [h5], by simp [ha], by simp [hp]⟩
  · have hke : k = m.lifts.length := by omega
    subst hke
    rcases hw with ⟨h5, hx⟩ | ⟨t, h5, ha, hp⟩
    · simp only at h5
      have hx' : selLf m l m.lifts.length = [] := by simpa using hx
      simp [h1, h9, h10, h11, h5, hx']
    · simp only at h5 ha hp
      simp [h1, h9, h10, h11, h5, ha]
set_option maxHeartbeats 4000000 in
theorem f30 (m : Mp) (l : List Int) (hl : l.length ≤ 9223372036854775807) (hr : m.lifts.length ≤ 32) (K : List Vl → Prop) : FC F 30 [.v (.agg (eM m)), .v (.c (.ro 1 (l.map e1)))] K ↔ K [.c (.ro 4 ((selLf m l m.lifts.length).map eEd))] := by
  refine FC.rule ?_ K
  rw [fc_run F30]
  simp [b30]
  refine run_loop (fun q s => ∃ k, k ≤ m.lifts.length ∧ q = m.lifts.length - k ∧ s.fr 1 = .v (.c (.ro 1 (l.map e1))) ∧ s.fr 2 = .ptr (0, 2) 0 ∧ s.mu.box (0, 2) = some (eM m) ∧ s.fr 6 = vI k ∧ Rw s 5 57 4 35 ((selLf m l k).map eEd)) m.lifts.length ⟨0, by omega, by omega, by simp, by simp, by simp, by simp, .inl ⟨by simp, rfl⟩⟩ ?_
  rintro J hJ q ⟨fr, μ⟩ ⟨k, hk, rfl, h1, h9, h10, h11, hw⟩
  simp only at h1 h9 h10 h11
  by_cases hkl : k < m.lifts.length
  · obtain ⟨n, hn'⟩ : ∃ n, m.lifts[k] = n := ⟨_, rfl⟩
    have hget : m.lifts[k]? = some n := by rw [← hn']; exact List.getElem?_eq_getElem hkl
    have hws := wrapS (n := k) (by omega)
    have hz := selLf_step (l := l) hget
    have hlen := selLf_len (m := m) (l := l) (k := k)
    have hlim : (selLf m l k).length + 1 ≤ lim := by simp only [lim]; omega
    have hlim0 : 1 ≤ lim := by simp [lim]
    have hc := f51 l n.id hl
    by_cases c : l.contains n.id = true
    · rw [if_pos c] at hz
      rw [c] at hc
      rcases hw with ⟨h5, hx⟩ | ⟨t, h5, ha, hp⟩
      · simp only at h5
        have hx' : selLf m l k = [] := by simpa using hx
        simp [h1, h9, h10, h11, h5, hkl, hn', hc, hws, hlim0]
        exact ⟨m.lifts.length - (k + 1), by omega, hJ _ _ ⟨k + 1, by omega, rfl, by simp [h1], by simp [h9], by simp [h10], by simp, .inr ⟨_, rfl, by simp [hz, hx', edLf], by simp⟩⟩⟩
      · simp only at h5 ha hp
        simp [h1, h9, h10, h11, h5, ha, hp, hkl, hn', hc, hws, hlim]
        exact ⟨m.lifts.length - (k + 1), by omega, hJ _ _ ⟨k + 1, by omega, rfl, by simp [h1], by simp [h9], by simp [h10], by simp, .inr ⟨_, rfl, by simp [hz, edLf], by simp⟩⟩⟩
    · rw [if_neg c] at hz
      have c' : l.contains n.id = false := by simpa using c
      rw [c'] at hc
      simp [h1, h9, h10, h11, hkl, hn', hc, hws]
      refine ⟨m.lifts.length - (k + 1), by omega, hJ _ _ ⟨k + 1, by omega, rfl, by simp [h1], by simp [h9], by simp [h10], by simp, ?_⟩⟩
      rw [hz]
      rcases hw with ⟨h5, hx⟩ | ⟨t, h5, ha, hp⟩
      · simp only at h5; exact .inl ⟨by simp [h5], hx⟩
      · simp only at h5 ha hp; exact .inr ⟨t, by simp [h5], by simp [ha], by simp [hp]⟩
  · have hke : k = m.lifts.length := by omega
    subst hke
    rcases hw with ⟨h5, hx⟩ | ⟨t, h5, ha, hp⟩
    · simp only at h5
      have hx' : selLf m l m.lifts.length = [] := by simpa using hx
      simp [h1, h9, h10, h11, h5, hx']
    · simp only at h5 ha hp
      simp [h1, h9, h10, h11, h5, ha]
theorem f7 (m : Mp) (x y : List Int) (hx : x.length ≤ 9223372036854775807) (hy : y.length ≤ 9223372036854775807) (h : Okm m) (K : List Vl → Prop) : FC F 7 [.v (.agg (eM m)), .v (.c (.ro 1 (x.map e1))), .v (.c (.ro 1 (y.map e1)))] K ↔ K [.c (B true)] := by
  rw [fc_run F7]
  have h1 := f14 m h
  by_cases c : rightE m = 0
  · have ht := (right_parts c).1
    simp only [tooLong, Bool.or_eq_false_iff, decide_eq_false_iff_not] at ht
    have hr : m.runs.length ≤ 64 := by omega
    have hl : m.lifts.length ≤ 32 := by omega
    have h2 := f27 m x hx hr
    have h3 := f28 m x hx hr
    have h4 := f29 m y hy hl
    have h5 := f30 m y hy hl
    have h6 := f26 (selRn m x m.runs.length) (by have := selRn_len (m := m) (l := x) (k := m.runs.length); omega)
    have h7 := f26 (selLf m y m.lifts.length) (by have := selLf_len (m := m) (l := y) (k := m.lifts.length); omega)
    by_cases q1 : x.length ≤ 100 <;> by_cases q2 : y.length ≤ 100
    · have p1 : ¬ (100 : Int) < x.length := by omega
      have p2 : ¬ (100 : Int) < y.length := by omega
      simp [b7, f11, h1, h2, h3, h4, h5, h6, h7, c, p1, p2]
    · have p1 : ¬ (100 : Int) < x.length := by omega
      have p2 : (100 : Int) < y.length := by omega
      simp [b7, f11, h1, c, p1, p2]
    · have p1 : (100 : Int) < x.length := by omega
      simp [b7, f11, h1, c, p1]
    · have p1 : (100 : Int) < x.length := by omega
      simp [b7, f11, h1, c, p1]
  · simp [b7, f11, h1, c]
theorem open_ints {x : FV} (h : FitA (false, [.s [ti]]) x) : ∃ l : List Int, x = .v (.c (.ro 1 (l.map e1))) ∧ l.length ≤ 9223372036854775807 ∧ ∀ n ∈ l, R64 n := by
  cases x with
  | v x =>
    cases x with
    | c x =>
      obtain ⟨xs, rfl, a1, b1⟩ := fit_ints (n := 1) h
      obtain ⟨y, e', q⟩ := rows_as (e := e1) (Q := R64) (fun l hl hr => by
        match l, hl with
        | [a], _ => simp only [List.forall_mem_cons] at hr; exact ⟨a, rfl, hr.1⟩) b1
      have l1 := congrArg List.length e'
      simp only [List.length_map, maxLen] at l1 a1
      exact ⟨y, by rw [e'], by omega, q⟩
    | agg cs => exact h.elim
  | _ => exact h.elim
theorem law7 (xs : List FV) (h : FitAll [tyM, (false, [.s [ti]]), (false, [.s [ti]])] xs) : FC F 7 xs (· = [.c (B true)]) := by
  match xs, h with
  | [x, y, z], ⟨hx, hy, hz, _⟩ =>
    obtain ⟨m, rfl, hm, _⟩ := open_map hx
    obtain ⟨l, rfl, hl, _⟩ := open_ints hy
    obtain ⟨k, rfl, hk, _⟩ := open_ints hz
    exact (f7 m l k hl hk hm _).2 rfl
end Go.Proofs.Ytmbhpinkiffdgaa.Am
