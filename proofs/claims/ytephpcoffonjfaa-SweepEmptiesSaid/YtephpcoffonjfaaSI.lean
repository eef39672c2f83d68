/- Sweep: the order of the runs, and those that can be swept now. No condition. -/
import Derived.Test.YtephpcoffonjfaaSH
namespace Go.Proofs.Ytephpcoffonjfaa.Am
open Go

/-- A function value that tells of whole numbers what 'p' does, in a memory with these rows. -/
def ClosAt (c : Cell) (box : Id → Option (List Cell)) (ar : Id → Option Arr) (p : Int → Bool) : Prop :=
  ∃ g cs fi, (∀ ap st t, frz ⟨box, ar, ap, st, t⟩ depth c = some (.clo g cs) ∧ fids ⟨box, ar, ap, st, t⟩ depth c = fi) ∧ ∀ n K, FC F g (vI n :: cs.map fun c => .cptr c 0) K ↔ K [.c (B (p n))]
theorem g50 (l : List Int) (c : Cell) (p : Int → Bool) (bx : Id → Option (List Cell)) (ar : Id → Option Arr) (ap st : Id → Bool) (t : Nat) (hc : ClosAt c bx ar p) (hl : l.length ≤ 9223372036854775807) :
    IC F 50 [.v (.c (.ro 1 (l.map e1))), .v (.c c)] ⟨bx, ar, ap, st, t⟩ fun vs μ' => vs = [.c (I (idxI p l))] ∧ ∃ st' t', t ≤ t' ∧ μ' = ⟨bx, ar, ap, st', t'⟩ := by
  obtain ⟨g, cs, fi, hz, hg⟩ := hc
  have hz1 := fun ap st t => (hz ap st t).1
  have hz2 := fun ap st t => (hz ap st t).2
  rw [ic_run F50]
  simp [b50]
  refine run_loop (fun q s => ∃ k st' t', t ≤ t' ∧ k ≤ l.length ∧ q = l.length - k ∧ s.mu = ⟨bx, ar, ap, st', t'⟩ ∧ s.fr 0 = .v (.c (.ro 1 (l.map e1))) ∧ s.fr 1 = .v (.c c) ∧ s.fr 7 = vI l.length ∧ s.fr 8 = vI k ∧ ∀ (j : Nat) x, j < k → l[j]? = some x → p x = false) l.length ⟨0, st, _, by omega, by omega, by omega, rfl, by simp, by simp, by simp, by simp, by simp⟩ ?_
  rintro J hJ q ⟨fr, μ⟩ ⟨k, st', t', ht, hk, rfl, hμ, h0, h1, h7, h8, hn⟩
  simp only at hμ h0 h1 h7 h8
  subst hμ
  by_cases hkl : k < l.length
  · obtain ⟨x, hn'⟩ : ∃ x, l[k] = x := ⟨_, rfl⟩
    have hget : l[k]? = some x := by rw [← hn']; exact List.getElem?_eq_getElem hkl
    have hcx := hg x
    by_cases hp : p x = true
    · have : idxI p l = k := by simp only [idxI, idx_at hget hp hn]
      simp [h0, h1, h7, h8, hkl, hn', hz1, hz2, hcx, hp, this]
      omega
    · have hp' : p x = false := by simpa using hp
      have hw := wrapS (n := k) (by omega)
      simp [h0, h1, h7, h8, hkl, hn', hz1, hz2, hcx, hp', hw]
      exact ⟨l.length - (k + 1), by omega, hJ _ _ ⟨k + 1, _, _, by omega, by omega, rfl, rfl, by simp [h0], by simp [h1], by simp [h7], by simp, more_false hn hget hp'⟩⟩
  · have : idxI p l = -1 := by
      simp only [idxI]
      rw [idx_none fun j b hb => hn j b (by have := (List.getElem?_eq_some_iff.1 hb).1; omega) hb]
    simp [h0, h1, h7, h8, hkl, this]
    omega
theorem f49 (out : List Int) (oc : Cell) (ho : oc = .ro 1 (out.map e1) ∨ oc = .nil ∧ out = []) (hl : out.length ≤ 9223372036854775807) (k : Int) (K : List Vl → Prop) : FC F 49 [vI k, .cptr [oc] 0] K ↔ K [.c (B (out.contains k))] := by
  rw [fc_run F49]
  have h := f41 out k hl
  rcases ho with rfl | ⟨rfl, rfl⟩
  · simp [b49, h]
  · simp only [List.map_nil] at h
    simp [b49, h]
def condO (m : Mp) (runs out : List Int) (id : Int) : Bool := !out.contains id && readyB m runs id fun k => out.contains k
theorem f51 (m : Mp) (s : Sp) (out : List Int) (oc : Cell) (h : Okm m) (hs : Oks s) (ho : oc = .ro 1 (out.map e1) ∨ oc = .nil ∧ out = []) (hl : out.length ≤ 9223372036854775807) (k : Int) (K : List Vl → Prop) :
    FC F 51 [vI k, .cptr [.clo 49 [[oc]]] 0, .cptr (eM m) 0, .cptr (eSp s) 0] K ↔ K [.c (B (condO m s.runs out k))] := by
  rw [fc_run F51]
  have h1 := f49 out oc ho hl k
  have h2 := f43 m s.runs k 49 [[oc]] (fun k => out.contains k) h (fun n K => f49 out oc ho hl n K) hs.r
  unfold condO
  by_cases c : out.contains k = true
  · rw [c] at h1 ⊢
    simp [b51, h1]
  · have c' : out.contains k = false := by simpa using c
    rw [c'] at h1 ⊢
    generalize readyB m s.runs k (fun k => out.contains k) = b at h2 ⊢
    simp [b51, h1, h2]
def stepO (m : Mp) (runs out : List Int) : List Int := match idx (condO m runs out) runs with | some i => out ++ [runs.getD i 0] | none => out
def iterO (m : Mp) (runs : List Int) : Nat → List Int
  | 0 => []
  | k + 1 => stepO m runs (iterO m runs k)
theorem iterO_len (m : Mp) (runs : List Int) : ∀ k, (iterO m runs k).length ≤ k
  | 0 => Nat.le_refl _
  | k + 1 => by
    have := iterO_len m runs k
    simp only [iterO, stepO]
    split <;> simp <;> omega
theorem stepO_none {m : Mp} {runs out : List Int} (h : idx (condO m runs out) runs = none) : stepO m runs out = out := by simp [stepO, h]
theorem iterO_fix {m : Mp} {runs : List Int} {k : Nat} (h : stepO m runs (iterO m runs k) = iterO m runs k) : ∀ d, iterO m runs (k + d) = iterO m runs k
  | 0 => rfl
  | d + 1 => by show stepO m runs (iterO m runs (k + d)) = _; rw [iterO_fix h d]; exact h
theorem filter_idx {p : Int → Bool} : ∀ {l : List Int} {i : Nat}, idx p l = some i → ∃ r, l.filter p = l.getD i 0 :: r
  | [], i, h => by cases h
  | x :: l, i, h => by
    simp only [idx] at h
    split at h
    · rename_i hp; injection h with h; subst h; exact ⟨l.filter p, by simp [hp]⟩
    · rename_i hp
      cases hk : idx p l with
      | none => rw [hk] at h; cases h
      | some j =>
        rw [hk] at h; injection h with h; subst h
        obtain ⟨r, hr⟩ := filter_idx hk
        exact ⟨r, by simp [hp, hr]⟩
theorem filter_none {p : Int → Bool} {l : List Int} (h : idx p l = none) : l.filter p = [] := by
  have h1 := idxI_any p l
  simp only [idxI, h] at h1
  rw [List.filter_eq_nil_iff]
  intro x hx
  have := List.any_eq_false.1 h1.symm x hx
  exact this
def nextL (m : Mp) (runs : List Int) (l : List Sw) : List Int := runs.filter fun id => !swB l id && freeB m runs l id
def nextK (m : Mp) (runs : List Int) (l : List Sw) (k : Nat) : List Int := (runs.take k).filter fun id => !swB l id && freeB m runs l id
theorem nextK_step {m : Mp} {runs : List Int} {l : List Sw} {k : Nat} {x : Int} (h : runs[k]? = some x) : nextK m runs l (k + 1) = if (!swB l x && freeB m runs l x) = true then nextK m runs l k ++ [x] else nextK m runs l k := by
  have hk := (List.getElem?_eq_some_iff.1 h)
  unfold nextK
  rw [List.take_succ_eq_append_getElem hk.1, hk.2, List.filter_append]
  by_cases hz : (!swB l x && freeB m runs l x) = true
  · rw [if_pos hz]; simp only [List.filter_cons, hz, if_true, List.filter_nil]
  · rw [if_neg hz]; simp only [List.filter_cons, hz, List.filter_nil]; simp
theorem nextK_len {m : Mp} {runs : List Int} {l : List Sw} {k : Nat} : (nextK m runs l k).length ≤ k := by
  unfold nextK
  exact Nat.le_trans (List.length_filter_le ..) (by simp; omega)
set_option maxHeartbeats 4000000 in
theorem f52 (m : Mp) (runs : List Int) (l : List Sw) (h : Okm m) (hr : runs.length ≤ 64) (hl : l.length ≤ 9223372036854775807) (K : List Vl → Prop) :
    FC F 52 [.v (.agg (eM m)), .v (.c (.ro 1 (runs.map e1))), .v (.c (.ro 4 (l.map eSw)))] K ↔ K [.c (.ro 1 ((nextL m runs l).map e1))] := by
  refine FC.rule ?_ K
  rw [fc_run F52]
  have hfull : nextK m runs l runs.length = nextL m runs l := by unfold nextK nextL; rw [List.take_length]
  rw [← hfull]
  simp [b52]
  refine run_loop (fun q t => ∃ k, k ≤ runs.length ∧ q = runs.length - k ∧ t.fr 1 = .v (.c (.ro 1 (runs.map e1))) ∧ t.fr 2 = .v (.c (.ro 4 (l.map eSw))) ∧ t.fr 3 = .ptr (0, 3) 0 ∧ t.mu.box (0, 3) = some (eM m) ∧ t.fr 8 = vI k ∧ Rw t 7 3 1 38 ((nextK m runs l k).map e1)) runs.length ⟨0, by omega, by omega, by simp, by simp, by simp, by simp, by simp, .inl ⟨by simp, rfl⟩⟩ ?_
  rintro J hJ q ⟨fr, μ⟩ ⟨k, hk, rfl, g1, g2, g3, gm, g8, hw⟩
  simp only at g1 g2 g3 gm g8
  by_cases hkl : k < runs.length
  · obtain ⟨x, hx⟩ : ∃ x, runs[k] = x := ⟨_, rfl⟩
    have hget : runs[k]? = some x := by rw [← hx]; exact List.getElem?_eq_getElem hkl
    have hws := wrapS (n := k) (by omega)
    have hz := nextK_step (m := m) (l := l) hget
    have hlen := nextK_len (m := m) (runs := runs) (l := l) (k := k)
    have hlim : (nextK m runs l k).length + 1 ≤ lim := by simp only [lim]; omega
    have hlim0 : 1 ≤ lim := by simp [lim]
    have q1 := f47 l x hl
    have q2 := f48 m runs l x h (by omega) hl
    have skip : nextK m runs l (k + 1) = nextK m runs l k → ∀ fr' μ', fr' 1 = .v (.c (.ro 1 (runs.map e1))) → fr' 2 = .v (.c (.ro 4 (l.map eSw))) → fr' 3 = .ptr (0, 3) 0 → μ'.box (0, 3) = some (eM m) → fr' 8 = vI ((k + 1 : Nat) : Int) → fr' 7 = fr 7 → μ'.arr = μ.arr → (∀ i, μ.app i = true → μ'.app i = true) → ∃ m', m' < runs.length - k ∧ J m' ⟨fr', μ'⟩ := by
      intro he fr' μ' a1 a2 a3 a4 a5 a6 a7 a8
      refine ⟨runs.length - (k + 1), by omega, hJ _ _ ⟨k + 1, by omega, rfl, a1, a2, a3, a4, a5, ?_⟩⟩
      rw [he]
      rcases hw with ⟨h7, hxx⟩ | ⟨t, h7, ha, hp⟩
      · exact .inl ⟨by rw [← h7]; exact a6, hxx⟩
      · exact .inr ⟨t, by rw [← h7]; exact a6, by rw [← ha]; exact congrFun a7 _, a8 _ hp⟩
    by_cases c1 : swB l x = true
    · rw [c1] at q1
      have hz' : nextK m runs l (k + 1) = nextK m runs l k := by rw [hz]; simp [c1]
      simp [g1, g2, g8, hkl, hx, q1, hws]
      exact skip hz' _ _ (by simp [g1]) (by simp [g2]) (by simp [g3]) (by simp [gm]) (by simp) (by simp) (by simp) (by simp)
    · have c1' : swB l x = false := by simpa using c1
      rw [c1'] at q1
      by_cases c2 : freeB m runs l x = true
      · rw [c2] at q2
        have hz' : nextK m runs l (k + 1) = nextK m runs l k ++ [x] := by rw [hz]; simp [c1', c2]
        rcases hw with ⟨h7, hxx⟩ | ⟨t, h7, ha, hp⟩
        · simp only at h7
          have hx' : nextK m runs l k = [] := by simpa using hxx
          simp [g1, g2, g3, gm, g8, h7, hkl, hx, q1, q2, hws, hlim0]
          exact ⟨runs.length - (k + 1), by omega, hJ _ _ ⟨k + 1, by omega, rfl, by simp [g1], by simp [g2], by simp [g3], by simp [gm], by simp, .inr ⟨_, rfl, by simp [hz', hx'], by simp⟩⟩⟩
        · simp only at h7 ha hp
          simp [g1, g2, g3, gm, g8, h7, ha, hp, hkl, hx, q1, q2, hws, hlim]
          exact ⟨runs.length - (k + 1), by omega, hJ _ _ ⟨k + 1, by omega, rfl, by simp [g1], by simp [g2], by simp [g3], by simp [gm], by simp, .inr ⟨_, rfl, by simp [hz'], by simp⟩⟩⟩
      · have c2' : freeB m runs l x = false := by simpa using c2
        rw [c2'] at q2
        have hz' : nextK m runs l (k + 1) = nextK m runs l k := by rw [hz]; simp [c2']
        simp [g1, g2, g3, gm, g8, hkl, hx, q1, q2, hws]
        exact skip hz' _ _ (by simp [g1]) (by simp [g2]) (by simp [g3]) (by simp [gm]) (by simp) (by simp) (by simp) (by simp)
  · have hke : k = runs.length := by omega
    subst hke
    rcases hw with ⟨h7, hxx⟩ | ⟨t, h7, ha, hp⟩
    · simp only at h7
      have hx' : nextK m runs l runs.length = [] := by simpa using hxx
      simp [g1, g2, g8, h7, hx']
    · simp only at h7 ha hp
      simp [g1, g2, g8, h7, ha]
theorem f20 (m : Mp) (s : Sp) (h : Okm m) (hs : Oks s) (hr : s.runs.length ≤ 64) (K : List Vl → Prop) : FC F 20 [.v (.agg (eM m)), .v (.agg (eSp s))] K ↔ K [.c (.ro 1 ((nextL m s.runs s.swept).map e1))] := by
  rw [fc_run F20]
  have h1 := f52 m s.runs s.swept h hr hs.w
  simp [b20, h1]
theorem f53 (s : Sp) (id : Int) (hs : Oks s) (K : List Vl → Prop) : FC F 53 [vI id, .cptr (eSp s) 0] K ↔ K [.c (B (swB s.swept id))] := by
  rw [fc_run F53]
  have h1 := f42 s.swept id hs.w
  simp [b53, h1]
theorem f56 (m : Mp) (s : Sp) (id : Int) (h : Okm m) (hs : Oks s) (K : List Vl → Prop) : FC F 56 [vI id, .cptr [.clo 53 [eSp s]] 0, .cptr (eM m) 0, .cptr (eSp s) 0] K ↔ K [.c (B (swB s.swept id || !readyB m s.runs id (swB s.swept)))] := by
  rw [fc_run F56]
  have h1 := f53 s id hs
  have h2 := f43 m s.runs id 53 [eSp s] (swB s.swept) h (fun n K => f53 s n hs K) hs.r
  by_cases c : swB s.swept id = true
  · rw [c] at h1 ⊢
    simp [b56, h1]
  · have c' : swB s.swept id = false := by simpa using c
    rw [c'] at h1 ⊢
    generalize readyB m s.runs id (swB s.swept) = b at h2 ⊢
    simp [b56, h1, h2]
theorem f55' (l : List Int) (hl : l.length ≤ 1000) (K : List Vl → Prop) : FC F 55 [.v (.c (.ro 1 (l.map e1)))] K ↔ K [.c (.fresh 3 1 (l.map e1))] := by
  rw [fc_clone (K := K) F55]
  have : l.length ≤ lim := by simp only [lim]; omega
  simp [this]
set_option maxHeartbeats 4000000 in
theorem f19 (m : Mp) (s : Sp) (h : Okm m) (hs : Oks s) (hr : s.runs.length ≤ 64) (hall : ∀ x ∈ s.runs, hasRn m x = true) (K : List Vl → Prop) : FC F 19 [.v (.agg (eM m)), .v (.agg (eSp s))] K ↔ K [.c (.ro 1 ((nextL m s.runs s.swept).map e1))] := by
  refine FC.rule ?_ K
  rw [fc_run F19]
  have hcl := f55' s.runs (by omega)
  have hfl : (s.runs.filter fun x => !(swB s.swept x || !readyB m s.runs x (swB s.swept))) = nextL m s.runs s.swept := by
    unfold nextL
    refine List.filter_congr fun x hx => ?_
    rw [ready_free hall (hall x hx)]
    simp [freeB]
  simp [b19, hcl]
  refine IC.mono (f54 s.runs _ 3 _ (fun x => swB s.swept x || !readyB m s.runs x (swB s.swept)) _ _ _ _ _ (by simp) (by simp) ⟨56, [[.clo 53 [eSp s]], eM m, eSp s], fun ar ap st t => ⟨?_, ?_⟩, fun n K => f56 m s n h hs K⟩ (by omega)) ?_
  · simp [frz, trav]
  · simp [fids]
  rintro vs μ' ⟨c', ar', ap', st', t', rfl, rfl, he⟩
  rw [hfl] at he
  have he' := he (fun _ => none) (fun _ => false) (fun _ => false) 0
  simp only [elemsC] at he'
  simp [he']
/-- The variable of the order that is made: no row, or one of one's own. -/
def OutR (s : St) (xs : List Int) : Prop := (s.mu.box (1, 5) = some [.nil] ∧ xs = []) ∨ ∃ t, s.mu.box (1, 5) = some [.own (t, 27)] ∧ s.mu.arr (t, 27) = some ⟨3, 1, xs.map e1⟩ ∧ s.mu.app (t, 27) = true
set_option maxHeartbeats 8000000 in
theorem f17 (m : Mp) (s : Sp) (h : Okm m) (hs : Oks s) (hr : s.runs.length ≤ 64) (K : List Vl → Prop) : FC F 17 [.v (.agg (eM m)), .v (.agg (eSp s))] K ↔ K [.c (.ro 1 ((iterO m s.runs s.runs.length).map e1))] := by
  refine FC.rule ?_ K
  rw [fc_run F17]
  simp [b17]
  refine run_loop (fun q t => ∃ k, k ≤ s.runs.length ∧ q = s.runs.length - k ∧ t.fr 2 = .ptr (0, 2) 0 ∧ t.fr 3 = .ptr (0, 3) 0 ∧ t.fr 5 = .ptr (1, 5) 0 ∧ t.fr 6 = .ptr (2, 6) 0 ∧ t.fr 11 = vI s.runs.length ∧ t.fr 12 = vI k ∧ t.mu.box (0, 2) = some (eM m) ∧ t.mu.box (0, 3) = some (eSp s) ∧ t.mu.box (2, 6) = some [.fn 49 [(1, 5)]] ∧ OutR t (iterO m s.runs k)) s.runs.length ⟨0, by omega, by omega, by simp, by simp, by simp, by simp, by simp, by simp, by simp, by simp, by simp, .inl ⟨by simp, rfl⟩⟩ ?_
  rintro J hJ q ⟨fr, ⟨bx, ar, ap, st, t⟩⟩ ⟨k, hk, rfl, g2, g3, g5, g6, g11, g12, hm2, hs3, hd6, hout⟩
  simp only at g2 g3 g5 g6 g11 g12 hm2 hs3 hd6
  have hlen := iterO_len m s.runs k
  by_cases hkl : k < s.runs.length
  · have hws := wrapS (n := k) (by omega)
    simp [g2, g3, g5, g6, g11, g12, hs3, hkl]
    have hlim : (iterO m s.runs k).length + 1 ≤ lim := by simp only [lim]; omega
    have hlim0 : 1 ≤ lim := by simp [lim]
    have hcl : ClosAt (.fn 51 [(2, 6), (0, 2), (0, 3)]) bx ar (condO m s.runs (iterO m s.runs k)) := by
      rcases hout with ⟨hb, hx⟩ | ⟨t0, hb, ha, hp⟩
      · simp only at hb
        refine ⟨51, [[.clo 49 [[.nil]]], eM m, eSp s], [], fun ap st t => ⟨?_, ?_⟩, fun n K => f51 m s _ _ h hs (.inr ⟨rfl, hx⟩) (by omega) n K⟩
        · simp [frz, trav, hd6, hb, hm2, hs3]
        · simp [fids, hd6, hb, hm2, hs3]
      · simp only at hb ha
        refine ⟨51, [[.clo 49 [[.ro 1 ((iterO m s.runs k).map e1)]]], eM m, eSp s], [(t0, 27)], fun ap st t => ⟨?_, ?_⟩, fun n K => f51 m s _ _ h hs (.inl rfl) (by omega) n K⟩
        · simp [frz, trav, hd6, hb, ha, hm2, hs3]
        · simp [fids, hd6, hb, hm2, hs3]
    refine IC.mono (g50 s.runs _ _ bx ar ap st _ hcl hs.r) ?_
    rintro vs μ' ⟨rfl, st', t', ht, rfl⟩
    cases hi : idx (condO m s.runs (iterO m s.runs k)) s.runs with
    | none =>
      have h1 : idxI (condO m s.runs (iterO m s.runs k)) s.runs = -1 := by simp only [idxI, hi]
      simp [h1, g12, hws]
      refine ⟨s.runs.length - (k + 1), by omega, hJ _ _ ⟨k + 1, by omega, rfl, by simp [g2], by simp [g3], by simp [g5], by simp [g6], by simp [g11], by simp, by simp [hm2], by simp [hs3], by simp [hd6], ?_⟩⟩
      have hit : iterO m s.runs (k + 1) = iterO m s.runs k := stepO_none hi
      rw [hit]
      rcases hout with ⟨hb, hx⟩ | ⟨t0, hb, ha, hp⟩
      · exact .inl ⟨by simpa using hb, hx⟩
      · exact .inr ⟨t0, by simpa using hb, by simpa using ha, by simpa using hp⟩
    | some i =>
      have h1 : idxI (condO m s.runs (iterO m s.runs k)) s.runs = i := by simp only [idxI, hi]
      have hil := idx_lt hi
      obtain ⟨x, hx⟩ : ∃ x, s.runs[i] = x := ⟨_, rfl⟩
      have hget : s.runs[i]? = some x := by rw [← hx]; exact List.getElem?_eq_getElem hil
      have hit : iterO m s.runs (k + 1) = iterO m s.runs k ++ [x] := by
        show stepO m s.runs (iterO m s.runs k) = _
        simp [stepO, hi, hget]
      rcases hout with ⟨hb, hx0⟩ | ⟨t0, hb, ha, hp⟩
      · simp only at hb
        simp [h1, g3, g5, g12, hs3, hb, hil, hx, hws, hlim0]
        exact ⟨s.runs.length - (k + 1), by omega, hJ _ _ ⟨k + 1, by omega, rfl, by simp [g2], by simp [g3], by simp [g5], by simp [g6], by simp [g11], by simp, by simp [hm2], by simp [hs3], by simp [hd6], .inr ⟨_, by simp; rfl, by simp [hit, hx0], by simp⟩⟩⟩
      · simp only at hb ha hp
        simp [h1, g3, g5, g12, hs3, hb, ha, hp, hil, hx, hws, hlim]
        exact ⟨s.runs.length - (k + 1), by omega, hJ _ _ ⟨k + 1, by omega, rfl, by simp [g2], by simp [g3], by simp [g5], by simp [g6], by simp [g11], by simp, by simp [hm2], by simp [hs3], by simp [hd6], .inr ⟨_, by simp; rfl, by simp [hit], by simp⟩⟩⟩
  · have hke : k = s.runs.length := by omega
    subst hke
    rcases hout with ⟨hb, hx0⟩ | ⟨t0, hb, ha, hp⟩
    · simp only at hb
      simp [g3, g5, g11, g12, hb, hx0]
    · simp only at hb ha hp
      simp [g3, g5, g11, g12, hb, ha]
def mkS (x : Int) : Sw := ⟨x, 0, 0, 0⟩
theorem next_cond {m : Mp} {runs : List Int} (hall : ∀ x ∈ runs, hasRn m x = true) (out : List Int) : nextL m runs (out.map mkS) = runs.filter (condO m runs out) := by
  have hsw : ∀ x, swB (out.map mkS) x = out.contains x := by
    intro x
    unfold swB
    rw [List.any_map]
    induction out with
    | nil => rfl
    | cons y r ih =>
      simp only [List.any_cons, List.contains_cons, ih]
      congr 1
      simp only [Function.comp, mkS]
      by_cases c : y = x
      · simp [c]
      · have c' : ¬ x = y := fun e => c e.symm
        have e1 : (y == x) = false := by simpa using c
        have e2 : (x == y) = false := by simpa using c'
        rw [e1, e2]
  unfold nextL
  refine List.filter_congr fun x hx => ?_
  unfold condO
  rw [ready_free hall (hall x hx), hsw]
  simp only [freeB, hsw]
set_option maxHeartbeats 8000000 in
theorem f18 (m : Mp) (s : Sp) (h : Okm m) (_hs : Oks s) (hr : s.runs.length ≤ 64) (hall : ∀ x ∈ s.runs, hasRn m x = true) (K : List Vl → Prop) : FC F 18 [.v (.agg (eM m)), .v (.agg (eSp s))] K ↔ K [.c (.ro 1 ((iterO m s.runs s.runs.length).map e1))] := by
  refine FC.rule ?_ K
  rw [fc_run F18]
  simp [b18]
  refine run_loop (fun q t => ∃ k L, k ≤ s.runs.length ∧ q = s.runs.length - k ∧ L = (iterO m s.runs k).map mkS ∧ t.fr 2 = .ptr (0, 2) 0 ∧ t.fr 3 = .ptr (0, 3) 0 ∧ t.fr 7 = vI k ∧ t.mu.box (0, 2) = some (eM m) ∧ t.mu.box (0, 3) = some (eSp s) ∧ ((t.fr 5 = .v (.c .nil) ∧ t.fr 6 = .v (.c .nil) ∧ iterO m s.runs k = []) ∨ ∃ t1 t2, t.fr 5 = .v (.c (.own (t1, 30))) ∧ t.mu.arr (t1, 30) = some ⟨3, 1, (iterO m s.runs k).map e1⟩ ∧ t.mu.app (t1, 30) = true ∧ t.fr 6 = .v (.c (.own (t2, 37))) ∧ t.mu.arr (t2, 37) = some ⟨39, 4, L.map eSw⟩ ∧ t.mu.app (t2, 37) = true)) s.runs.length ⟨0, [], by omega, by omega, rfl, by simp, by simp, by simp, by simp, by simp, .inl ⟨by simp, by simp, rfl⟩⟩ ?_
  rintro J hJ q ⟨fr, μ⟩ ⟨k, L, hk, rfl, hL, g2, g3, g7, hm2, hs3, hout⟩
  simp only at g2 g3 g7 hm2 hs3
  have hlen := iterO_len m s.runs k
  have hLl : L.length ≤ k := by rw [hL]; simpa using hlen
  by_cases hkl : k < s.runs.length
  · have hws := wrapS (n := k) (by omega)
    have hlim : (iterO m s.runs k).length + 1 ≤ lim := by simp only [lim]; omega
    have hlimL : L.length + 1 ≤ lim := by simp only [lim]; omega
    have hlim0 : 1 ≤ lim := by simp [lim]
    have q1 := f52 m s.runs L h hr (by omega)
    have hnc := next_cond hall (iterO m s.runs k)
    rw [← hL] at hnc
    rw [hnc] at q1
    cases hi : idx (condO m s.runs (iterO m s.runs k)) s.runs with
    | none =>
      rw [filter_none hi] at q1
      have hfix : iterO m s.runs s.runs.length = iterO m s.runs k := by
        have := iterO_fix (stepO_none hi) (s.runs.length - k)
        rwa [show k + (s.runs.length - k) = s.runs.length by omega] at this
      rw [hfix]
      rcases hout with ⟨h5, h6, hx0⟩ | ⟨t1, t2, h5, ha, hp, h6, hb, hq⟩
      · simp only at h5 h6
        have hL0 : L = [] := by rw [hL, hx0]; rfl
        subst hL0
        simp at q1
        simp [g2, g3, g7, hm2, hs3, h5, h6, hkl, q1, hx0]
      · simp only at h5 ha hp h6 hb hq
        simp [g2, g3, g7, hm2, hs3, h5, ha, h6, hb, hkl, q1]
    | some i =>
      obtain ⟨r, hfr⟩ := filter_idx hi
      have hil := idx_lt hi
      obtain ⟨x, hx⟩ : ∃ x, s.runs[i] = x := ⟨_, rfl⟩
      have hget : s.runs[i]? = some x := by rw [← hx]; exact List.getElem?_eq_getElem hil
      rw [getD_at hget] at hfr
      rw [hfr] at q1
      have hit : iterO m s.runs (k + 1) = iterO m s.runs k ++ [x] := by
        show stepO m s.runs (iterO m s.runs k) = _
        simp [stepO, hi, hget]
      have hne : ¬ ((r.length : Int) + 1 = 0) := by omega
      rcases hout with ⟨h5, h6, hx0⟩ | ⟨t1, t2, h5, ha, hp, h6, hb, hq⟩
      · simp only at h5 h6
        have hL0 : L = [] := by rw [hL, hx0]; rfl
        subst hL0
        simp at q1
        simp [g2, g3, g7, hm2, hs3, h5, h6, hkl, q1, hne, hws, hlim0]
        exact ⟨s.runs.length - (k + 1), by omega, hJ _ _ ⟨k + 1, [mkS x], by omega, rfl, by rw [hit, hx0]; rfl, by simp [g2], by simp [g3], by simp, by simp [hm2], by simp [hs3], .inr ⟨_, _, rfl, by simp [hit, hx0], by simp, rfl, by simp [mkS], by simp⟩⟩⟩
      · simp only at h5 ha hp h6 hb hq
        simp [g2, g3, g7, hm2, hs3, h5, ha, hp, h6, hb, hq, hkl, q1, hne, hws, hlim, hlimL]
        exact ⟨s.runs.length - (k + 1), by omega, hJ _ _ ⟨k + 1, L ++ [mkS x], by omega, rfl, by rw [hit, hL]; simp, by simp [g2], by simp [g3], by simp, by simp [hm2], by simp [hs3], .inr ⟨_, _, rfl, by simp [hit], by simp, rfl, by simp [mkS], by simp⟩⟩⟩
  · have hke : k = s.runs.length := by omega
    subst hke
    rcases hout with ⟨h5, h6, hx0⟩ | ⟨t1, t2, h5, ha, hp, h6, hb, hq⟩
    · simp only at h5 h6
      simp [g2, g3, g7, hm2, hs3, h5, hx0]
    · simp only at h5 ha hp h6 hb hq
      simp [g2, g3, g7, hm2, hs3, h5, ha]
end Go.Proofs.Ytephpcoffonjfaa.Am
