/- Vehicles that are valid, and what sending and grooming leave. No condition. -/
import Derived.Test.YtkoickoceggimaaGW
namespace Go.Proofs.Ytkoickoceggimaa.Am
open Go

theorem any_id {p : List Gr} {id : Int} : p.any (byId id) = true ↔ id ∈ p.map Gr.id := by
  rw [List.any_eq_true, List.mem_map]
  constructor
  · rintro ⟨g, hg, h⟩; exact ⟨g, hg, by simpa [byId] using h⟩
  · rintro ⟨g, hg, h⟩; exact ⟨g, hg, by simpa [byId] using h⟩
theorem grE_iff : ∀ {l p : List Gr}, grE p l = 0 ↔ (∀ g ∈ l, rangeG g = true ∧ stateG g = true) ∧ (∀ g ∈ l, g.id ∉ p.map Gr.id) ∧ (l.map Gr.id).Nodup
  | [], p => by simp [grE]
  | g :: r, p => by
    simp only [grE]
    by_cases h1 : rangeG g = true
    · rw [if_neg (by rw [h1]; simp)]
      by_cases h2 : p.any (byId g.id) = true
      · rw [if_pos h2]
        constructor
        · intro h; cases h
        · intro h; exact absurd (any_id.1 h2) (h.2.1 g (List.mem_cons_self ..))
      · rw [if_neg h2]
        have h2' : g.id ∉ p.map Gr.id := fun h => h2 (any_id.2 h)
        by_cases h3 : stateG g = true
        · rw [if_neg (by rw [h3]; simp), grE_iff (l := r)]
          constructor
          · rintro ⟨a, b, c⟩
            refine ⟨fun x hx => ?_, fun x hx => ?_, ?_⟩
            · rcases List.mem_cons.1 hx with rfl | hx
              · exact ⟨h1, h3⟩
              · exact a x hx
            · rcases List.mem_cons.1 hx with rfl | hx
              · exact h2'
              · have := b x hx
                rw [List.map_append, List.mem_append] at this
                exact fun h => this (.inl h)
            · rw [List.map_cons, List.nodup_cons]
              refine ⟨fun h => ?_, c⟩
              obtain ⟨x, hx, e⟩ := List.mem_map.1 h
              have := b x hx
              rw [List.map_append, List.mem_append] at this
              exact this (.inr (by rw [e]; simp))
          · rintro ⟨a, b, c⟩
            rw [List.map_cons, List.nodup_cons] at c
            refine ⟨fun x hx => a x (List.mem_cons_of_mem _ hx), fun x hx => ?_, c.2⟩
            rw [List.map_append, List.mem_append]
            rintro (h | h)
            · exact b x (List.mem_cons_of_mem _ hx) h
            · simp only [List.map_cons, List.map_nil, List.mem_singleton] at h
              exact c.1 (List.mem_map.2 ⟨x, hx, h⟩)
        · rw [if_pos (by simpa using h3)]
          constructor
          · intro h; cases h
          · intro h; exact absurd (h.1 g (List.mem_cons_self ..)).2 h3
    · rw [if_pos (by simpa using h1)]
      constructor
      · intro h; cases h
      · intro h; exact absurd (h.1 g (List.mem_cons_self ..)).1 h1
theorem right_iff {l : List Gr} : rightG l = 0 ↔ l.length ≤ 16 ∧ (∀ g ∈ l, rangeG g = true ∧ stateG g = true) ∧ (l.map Gr.id).Nodup := by
  unfold rightG
  by_cases h : 16 < l.length
  · rw [if_pos h]
    constructor
    · intro h; cases h
    · intro h'; omega
  · rw [if_neg h, grE_iff]
    constructor
    · rintro ⟨a, _, c⟩; exact ⟨by omega, a, c⟩
    · rintro ⟨_, a, c⟩; exact ⟨a, (fun _ _ h => by cases h), c⟩
structure Okg (g : Gr) : Prop where
  id : 1 ≤ g.id ∧ g.id ≤ 9999
  node : 1 ≤ g.node ∧ g.node ≤ 9999
  fuel : 0 ≤ g.fuel ∧ g.fuel ≤ 1000000
  state : 0 ≤ g.state ∧ g.state ≤ 2
  till : 0 ≤ g.till ∧ g.till ≤ 20000000
  to : 0 ≤ g.to ∧ g.to ≤ 9999
  run : 0 ≤ g.run ∧ g.run ≤ 9999
  mv : g.to ≠ 0 ↔ g.state = 1
  bs : g.run ≠ 0 ↔ g.state = 2
theorem okg_iff {g : Gr} : rangeG g = true ∧ stateG g = true ↔ Okg g := by
  unfold rangeG stateG inn
  simp only [Bool.and_eq_true, decide_eq_true_eq, beq_iff_eq, decide_eq_decide]
  constructor
  · rintro ⟨⟨⟨⟨⟨⟨⟨a, b⟩, c⟩, d⟩, e⟩, f⟩, h⟩, i, j⟩
    exact ⟨a, b, c, d, e, f, h, i, j⟩
  · rintro ⟨a, b, c, d, e, f, h, i, j⟩
    exact ⟨⟨⟨⟨⟨⟨⟨a, b⟩, c⟩, d⟩, e⟩, f⟩, h⟩, i, j⟩
theorem right_ok {l : List Gr} (h : rightG l = 0) {k : Nat} {g : Gr} (hk : l[k]? = some g) : Okg g := okg_iff.1 ((right_iff.1 h).2.1 g (List.mem_of_getElem? hk))
theorem gAt_eq {l : List Gr} {k : Nat} {g : Gr} (h : l[k]? = some g) : gAt l k = g := by unfold gAt; rw [h]; rfl
def sentV (g : Gr) (to n t : Int) : Gr := { g with state := 1, to := to, till := t + secs n, fuel := g.fuel - 2 * n }
def groomedV (g : Gr) (run sec t : Int) : Gr := { g with state := 2, run := run, till := t + sec, fuel := g.fuel - 5 * sec }
theorem idx_id {l : List Gr} {id : Int} {k : Nat} (h : idx (byId id) l = some k) : ∃ g, l[k]? = some g ∧ g.id = id := by
  obtain ⟨g, hg, hp⟩ := idx_some h
  exact ⟨g, hg, by simpa [byId] using hp⟩
theorem send_ok {m : Mp} {l : List Gr} {id to t : Int} (hr : rightE m = 0) (h : rightG l = 0) (hs : sendX m l id to t = 0) :
    ∃ k g n, idx (byId id) l = some k ∧ l[k]? = some g ∧ g.id = id ∧ g.state = 0 ∧ wayO m g.node to = some n ∧ sendL m l id to t = l.set k (sentV g to n t) ∧ 2 * n ≤ g.fuel ∧ 0 ≤ t ∧ t + secs n ≤ 20000000 := by
  unfold sendX at hs
  cases hi : idx (byId id) l with
  | none => rw [hi] at hs; cases hs
  | some k =>
    rw [hi] at hs
    obtain ⟨g, hg, hid⟩ := idx_id hi
    simp only [gAt_eq hg] at hs
    have ho := right_ok h hg
    have hs0 := hs
    unfold sendE at hs
    split at hs
    · cases hs
    rename_i c1
    cases hw : wayO m g.node to with
    | none => rw [hw] at hs; cases hs
    | some n =>
      rw [hw] at hs
      simp only at hs
      split at hs
      · cases hs
      split at hs
      · cases hs
      rename_i c2 c3
      have nn := way_num hr hw
      have ns := secs_num nn
      refine ⟨k, g, n, rfl, hg, hid, by omega, hw, ?_, by omega, by omega, by omega⟩
      have hf := ho.fuel
      have w1 : IntKind.i64.wrap (t + secs n) = t + secs n := wrap64 ⟨by omega, by omega⟩
      have w2 : IntKind.i64.wrap (g.fuel - 2 * n) = g.fuel - 2 * n := wrap64 ⟨by omega, by omega⟩
      unfold sendL
      rw [hi]
      simp only [gAt_eq hg]
      rw [if_pos hs0, hw]
      unfold sent sentV
      simp only [Option.getD_some, w1, w2]
theorem groom_ok {m : Mp} {l : List Gr} {id run sec t : Int} (h : rightG l = 0) (hs : groomX m l id run sec t = 0) :
    ∃ k g, idx (byId id) l = some k ∧ l[k]? = some g ∧ g.id = id ∧ g.state = 0 ∧ hasRn m run = true ∧ groomL m l id run sec t = l.set k (groomedV g run sec t) ∧ 1 ≤ sec ∧ sec ≤ 86400 ∧ 5 * sec ≤ g.fuel ∧ 0 ≤ t ∧ t + sec ≤ 20000000 := by
  unfold groomX at hs
  cases hi : idx (byId id) l with
  | none => rw [hi] at hs; cases hs
  | some k =>
    rw [hi] at hs
    obtain ⟨g, hg, hid⟩ := idx_id hi
    simp only [gAt_eq hg] at hs
    have ho := right_ok h hg
    split at hs
    case isFalse => cases hs
    rename_i hrn
    have hs0 := hs
    unfold groomE at hs
    split at hs
    · cases hs
    split at hs
    · cases hs
    split at hs
    · cases hs
    split at hs
    · cases hs
    rename_i c1 c2 c3 c4
    have hf := ho.fuel
    have q1 : inn sec 1 86400 = true := by
      cases e : inn sec 1 86400 with
      | true => rfl
      | false => exact absurd (.inl e) c4
    simp only [inn, Bool.and_eq_true, decide_eq_true_eq] at q1
    have hq : IntKind.i64.wrap (g.fuel.tdiv 5) = g.fuel / 5 := by
      rw [Int.tdiv_eq_ediv_of_nonneg (by omega)]
      exact wrap64 ⟨by omega, by omega⟩
    rw [hq] at c3
    have w3 : IntKind.i64.wrap (20000000 - sec) = 20000000 - sec := wrap64 ⟨by omega, by omega⟩
    rw [w3] at c4
    have w4 : IntKind.i64.wrap (5 * sec) = 5 * sec := wrap64 ⟨by omega, by omega⟩
    have ht : 0 ≤ t ∧ t + sec ≤ 20000000 := by
      constructor
      · apply Int.not_lt.1; intro h; exact c4 (.inr (.inl h))
      · have := Int.not_lt.1 (fun h => c4 (.inr (.inr h))); omega
    refine ⟨k, g, rfl, hg, hid, by omega, hrn, ?_, q1.1, q1.2, by omega, ht.1, ht.2⟩
    have w1 : IntKind.i64.wrap (t + sec) = t + sec := wrap64 ⟨by omega, by omega⟩
    have w2 : IntKind.i64.wrap (g.fuel - 5 * sec) = g.fuel - 5 * sec := wrap64 ⟨by omega, by omega⟩
    unfold groomL
    rw [hi]
    simp only [gAt_eq hg]
    rw [if_pos hrn, if_pos hs0]
    unfold groomed groomedV
    simp only [w1, w2, w4]
theorem groom_bad {m : Mp} {l : List Gr} {id run sec t : Int} (hs : groomX m l id run sec t ≠ 0) : groomL m l id run sec t = [] := by
  unfold groomX at hs
  unfold groomL
  cases hi : idx (byId id) l with
  | none => rfl
  | some k =>
    rw [hi] at hs
    simp only at hs ⊢
    split
    · rename_i c
      rw [if_pos c] at hs
      rw [if_neg hs]
    · rfl
/-! ### Finding -/
def findG (l : List Gr) (id : Int) : Gr := fnd (byId id) zGr l
def hasG (l : List Gr) (id : Int) : Bool := (idx (byId id) l).isSome
theorem f28 (l : List Gr) (id : Int) (hl : l.length ≤ 9223372036854775807) (K : List Vl → Prop) : FC F 28 [rG l, vI id] K ↔ K [.agg (eGr (findG l id)), .c (B (hasG l id))] := by
  refine FC.rule ?_ K
  rw [fc_run F28]
  simp [b28]
  refine run_loop (fun q s => ∃ k, k ≤ l.length ∧ q = l.length - k ∧ s.fr 0 = rG l ∧ s.fr 1 = vI id ∧ s.fr 6 = vI k ∧ s.fr 4 = .ptr (0, 4) 0 ∧ s.mu.box (0, 4) = some (eGr zGr) ∧ ∀ (j : Nat) n, j < k → l[j]? = some n → byId id n = false) l.length ⟨0, by omega, by omega, by simp, by simp, by simp, by simp, by simp [zGr], fun j n h => absurd h (Nat.not_lt_zero _)⟩ ?_
  rintro J hJ q ⟨fr, μ⟩ ⟨k, hk, rfl, h0, h1, h6, h4, hb, hn⟩
  simp only at h0 h1 h6 h4 hb
  by_cases hkl : k < l.length
  · obtain ⟨n, hn'⟩ : ∃ n, l[k] = n := ⟨_, rfl⟩
    have hget : l[k]? = some n := by rw [← hn']; exact List.getElem?_eq_getElem hkl
    by_cases hp : n.id = id
    · have hi : idx (byId id) l = some k := idx_at hget (show byId id n = true by simp [byId, hp]) hn
      have e1 : findG l id = n := by unfold findG fnd; rw [hi]; simp only; rw [hget]; rfl
      have e2 : hasG l id = true := by unfold hasG; rw [hi]; rfl
      simp [h0, h1, h6, h4, hb, hkl, hn', hp, e1, e2]
    · have hw := wrapS (n := k) (by omega)
      simp [h0, h1, h6, hkl, hn', hp, hw]
      refine ⟨l.length - (k + 1), by omega, hJ _ _ ⟨k + 1, by omega, rfl, by simp [h0], by simp [h1], by simp, by simp [h4], by simp [hb], fun j m hj hm => ?_⟩⟩
      by_cases hjk : j = k
      · subst hjk; rw [hget] at hm; injection hm with hm; subst hm; simp [byId, hp]
      · exact hn j m (by omega) hm
  · have hi : idx (byId id) l = none := idx_none fun j b hb => hn j b (by have := (List.getElem?_eq_some_iff.1 hb).1; omega) hb
    have e1 : findG l id = zGr := by unfold findG fnd; rw [hi]
    have e2 : hasG l id = false := by unfold hasG; rw [hi]; rfl
    simp [h0, h6, h4, hb, hkl, e1, e2, zGr]
end Go.Proofs.Ytkoickoceggimaa.Am
