/- The specified way. No condition. -/
import Derived.Test.YtkoickoceggimaaGT
namespace Go.Proofs.Ytkoickoceggimaa.Am
open Go

theorem row_at {bs : List Int} {k : Nat} {x : Int} (h : bs[k]? = some x) (X : List (List Cell)) (hX : bs.map e1 = X) : ∃ hk : k < X.length, X[k] = [I x] := by
  subst hX
  have hk := (List.getElem?_eq_some_iff.1 h).1
  refine ⟨by rw [List.length_map]; exact hk, ?_⟩
  rw [List.getElem_map, (List.getElem?_eq_some_iff.1 h).2]
theorem row_set {bs : List Int} {k : Nat} {x : Int} (X : List (List Cell)) (hX : bs.map e1 = X) : X.set k [I x] = (bs.set k x).map e1 := by
  subst hX
  rw [List.map_set]
theorem start_ok {m : Mp} {fm : Int} {bs : List Int} {k : Nat} (hl : bs.length = m.nodes.length) (hall : ∀ x ∈ bs, x = -1) (hk : idx (isNd fm) m.nodes = some k) :
    Snd m fm (bs.set k 0) ∧ Bnd 0 (bs.set k 0) ∧ Cpl m fm 0 (bs.set k 0) := by
  have hkl := idx_lt hk
  have hself : (bs.set k 0)[k]? = some 0 := List.getElem?_set_self (by omega)
  refine ⟨fun v j x hv hx h0 => ?_, fun x hx => ?_, fun v c n w hn => ?_⟩
  · by_cases e : k = j
    · subst e
      rw [hself] at hx; injection hx with hx; subst hx
      have := idx_nd hk hv
      subst this
      exact ⟨0, .nil _⟩
    · rw [List.getElem?_set_ne e] at hx
      have := hall x (List.mem_of_getElem? hx)
      omega
  · rcases List.mem_or_eq_of_mem_set hx with hx | rfl
    · have := hall x hx; omega
    · omega
  · have : n = 0 := by omega
    subst this
    cases w
    exact ⟨k, 0, hk, hself, by omega, by omega⟩
set_option maxHeartbeats 8000000 in
theorem f16 (m : Mp) (fm to : Int) (h : Okm m) (hr : rightE m = 0) (K : List Vl → Prop) :
    FC F 16 [.v (.agg (eM m)), vI fm, vI to] K ↔ K [.c (I ((wayO m fm to).getD 0)), .c (B (wayO m fm to).isSome)] := by
  refine FC.rule ?_ K
  rw [fc_run F16]
  have h1 := f43 m fm h.n
  have h2 := f43 m to h.n
  have hlen := tooLong_parts (right_parts hr).1
  cases c1 : idx (isNd fm) m.nodes with
  | none =>
    have e0 : hasNd m fm = false := by unfold hasNd; rw [show (fun n : Nd => n.id == fm) = isNd fm from rfl, c1]; rfl
    have e : wayO m fm to = none := by unfold wayO; rw [e0]; rfl
    have hx : idxI (isNd fm) m.nodes = -1 := by simp only [idxI, c1]
    rw [hx] at h1
    rw [e]
    simp [b16, h1]
  | some kf =>
  have hxf : idxI (isNd fm) m.nodes = kf := by simp only [idxI, c1]
  rw [hxf] at h1
  have hnf : hasNd m fm = true := by unfold hasNd; rw [show (fun n : Nd => n.id == fm) = isNd fm from rfl, c1]; rfl
  have hkf := idx_lt c1
  have hneg : ¬ ((kf : Int) < 0) := by omega
  cases c2 : idx (isNd to) m.nodes with
  | none =>
    have e0 : hasNd m to = false := by unfold hasNd; rw [show (fun n : Nd => n.id == to) = isNd to from rfl, c2]; rfl
    have e : wayO m fm to = none := by unfold wayO; rw [e0, Bool.and_false]; rfl
    have hx : idxI (isNd to) m.nodes = -1 := by simp only [idxI, c2]
    rw [hx] at h2
    rw [e]
    simp [b16, h1, h2, hneg]
  | some kt =>
  have hxt : idxI (isNd to) m.nodes = kt := by simp only [idxI, c2]
  rw [hxt] at h2
  have hnt : hasNd m to = true := by unfold hasNd; rw [show (fun n : Nd => n.id == to) = isNd to from rfl, c2]; rfl
  have hkt := idx_lt c2
  have hneg2 : ¬ ((kt : Int) < 0) := by omega
  have e : wayO m fm to = dist (Sm m) fm to := by unfold wayO; rw [hnf, hnt]; rfl
  rw [e]
  have hlim : m.nodes.length ≤ lim := by simp only [lim]; omega
  simp [b16, h1, h2, hneg, hneg2, hlim]
  refine run_loop (fun q s => ∃ (k : Nat) (bs : List Int), k ≤ m.nodes.length ∧ q = m.nodes.length - k ∧ s.fr 1 = vI fm ∧ s.fr 2 = vI to ∧ s.fr 3 = .ptr (0, 3) 0 ∧ s.mu.box (0, 3) = some (eM m) ∧ s.fr 9 = vI k ∧ RwC s 8 28 3 1 (bs.map e1) ∧ bs.length = m.nodes.length ∧ ∀ (j : Nat) x, j < k → bs[j]? = some x → x = -1) m.nodes.length ?_ ?_
  · exact ⟨0, List.replicate m.nodes.length 0, by omega, by omega, by simp, by simp, by simp, by simp, by simp, ⟨_, by simp; rfl, by simp, by simp⟩, by simp, fun j x h => absurd h (Nat.not_lt_zero _)⟩
  rintro J hJ q ⟨fr, μ⟩ ⟨k, bs, hk, rfl, g1, g2, g3, gb, g9, ⟨a, g8, ha, hs⟩, hl, hall⟩
  simp only at g1 g2 g3 gb g9 g8 ha hs
  by_cases hkl : k < m.nodes.length
  · have hws := wrapS (n := k) (by omega)
    obtain ⟨X, hX⟩ : ∃ X, bs.map e1 = X := ⟨_, rfl⟩
    obtain ⟨x, hx⟩ : ∃ x, bs[k]? = some x := ⟨_, List.getElem?_eq_getElem (by omega)⟩
    obtain ⟨hXl, hXk⟩ := row_at hx X hX
    have hset := row_set (k := k) (x := -1) X hX
    have hXlen : X.length = m.nodes.length := by rw [← hX, List.length_map, hl]
    rw [hX] at ha
    simp [g8, g9, ha, hs, hXlen, hkl, hXk, hws]
    refine ⟨m.nodes.length - (k + 1), by omega, hJ _ _ ⟨k + 1, bs.set k (-1), by omega, rfl, by simp [g1], by simp [g2], by simp [g3], by simp [gb], by simp, ⟨a, by simp [g8], ?_, by simp [hs]⟩, by rw [List.length_set, hl], fun j y hj hy => ?_⟩⟩
    · rw [← hset]; simp
    · by_cases e : k = j
      · subst e; rw [List.getElem?_set_self (by omega)] at hy; injection hy with hy; exact hy.symm
      · rw [List.getElem?_set_ne e] at hy; exact hall j y (by omega) hy
  have hke : k = m.nodes.length := by omega
  subst hke
  have hall' : ∀ x ∈ bs, x = -1 := fun x hx => by
    obtain ⟨j, hj⟩ := List.getElem?_of_mem hx
    exact hall j x (by have := (List.getElem?_eq_some_iff.1 hj).1; omega) hj
  obtain ⟨s1, s2, s3⟩ := start_ok hl hall' c1
  clear hall hall' hJ
  have h44 := f44 m (by omega) (by omega)
  obtain ⟨X, hX⟩ : ∃ X, bs.map e1 = X := ⟨_, rfl⟩
  obtain ⟨x, hx⟩ : ∃ x, bs[kf]? = some x := ⟨_, List.getElem?_eq_getElem (by omega)⟩
  obtain ⟨hXl, hXk⟩ := row_at hx X hX
  have hset := row_set (k := kf) (x := 0) X hX
  have hXlen : X.length = m.nodes.length := by rw [← hX, List.length_map, hl]
  rw [hX] at ha
  simp [g1, g3, gb, g8, g9, ha, hs, hXlen, hkf, hXk, h1, h44]
  have hSl : (steps m).length ≤ 96 := by unfold steps; rw [List.length_append, List.length_map, List.length_map]; omega
  refine run_loop (fun q s => ∃ (r : Nat) (bs : List Int), r ≤ m.nodes.length ∧ q = m.nodes.length - r ∧ s.fr 2 = vI to ∧ s.fr 3 = .ptr (0, 3) 0 ∧ s.mu.box (0, 3) = some (eM m) ∧ s.fr 10 = .v (.c (.ro 3 ((steps m).map eSt))) ∧ s.fr 11 = vI r ∧ RwC s 8 28 3 1 (bs.map e1) ∧
    bs.length = m.nodes.length ∧ Snd m fm bs ∧ Bnd (4000000 * (r : Int)) bs ∧ Cpl m fm r bs) m.nodes.length
    ⟨0, bs.set kf 0, by omega, by omega, by simp [g2], by simp [g3], by simp [gb], by simp, by simp, ⟨a, by simp [g8], by rw [← hset]; simp, by simp [hs]⟩, by rw [List.length_set, hl], s1, by simpa using s2, s3⟩ ?_
  clear g1 g2 g3 gb g9 g8 ha hs s1 s2 s3 hset hX hXl hXk hXlen hx hl
  rintro J hJ q ⟨fr, μ⟩ ⟨r, bs, hrn, rfl, g2, g3, gb, g10, g11, ⟨a, g8, ha, hs⟩, hl, i1, i2, i3⟩
  simp only at g2 g3 gb g10 g11 g8 ha hs
  by_cases hrl : r < m.nodes.length
  case neg =>
    have hre : r = m.nodes.length := by omega
    subst hre
    obtain ⟨x, hx⟩ : ∃ x, bs[kt]? = some x := ⟨_, List.getElem?_eq_getElem (by omega)⟩
    have hfin := all_done hr hnf i1 i3 c2 hx
    obtain ⟨X, hX⟩ : ∃ X, bs.map e1 = X := ⟨_, rfl⟩
    obtain ⟨hXl, hXk⟩ := row_at hx X hX
    rw [hX] at ha
    rw [hfin]
    by_cases hneg3 : x < 0
    · simp [g2, g3, gb, g11, g8, ha, h2, hXl, hXk, hneg3]
    · simp [g2, g3, gb, g11, g8, ha, h2, hXl, hXk, hneg3]
  have hwr := wrapS (n := r) (by omega)
  simp [g3, gb, g11, hrl]
  refine run_loop (fun q s => ∃ (k : Nat) (bs' : List Int), k ≤ (steps m).length ∧ q = (steps m).length - k ∧ s.fr 2 = vI to ∧ s.fr 3 = .ptr (0, 3) 0 ∧ s.mu.box (0, 3) = some (eM m) ∧ s.fr 10 = .v (.c (.ro 3 ((steps m).map eSt))) ∧ s.fr 11 = vI r ∧ s.fr 12 = vI k ∧ RwC s 8 28 3 1 (bs'.map e1) ∧
    bs'.length = m.nodes.length ∧ Snd m fm bs' ∧ Bnd (4000000 * (r : Int) + 40000 * (k : Int)) bs' ∧ LeB bs bs' ∧ Dn m bs bs' k) (steps m).length
    ⟨0, bs, by omega, by omega, by simp [g2], by simp [g3], by simp [gb], by simp [g10], by simp [g11], by simp, ⟨a, by simp [g8], by simp [ha], by simp [hs]⟩, hl, i1, by simpa using i2, LeB.refl _, fun i p hi => absurd hi (Nat.not_lt_zero _)⟩ ?_
  clear g2 g3 gb g10 g11 g8 ha hs a
  rintro J2 hJ2 q ⟨fr, μ⟩ ⟨k, bs', hk, rfl, g2, g3, gb, g10, g11, g12, ⟨a, g8, ha, hs⟩, hl', j1, j2, j3, j4⟩
  simp only at g2 g3 gb g10 g11 g12 g8 ha hs
  by_cases hkl : k < (steps m).length
  case neg =>
    have hke : k = (steps m).length := by omega
    subst hke
    simp [g10, g11, g12, hwr]
    exact ⟨m.nodes.length - (r + 1), by omega, hJ _ _ ⟨r + 1, bs', by omega, rfl, by simp [g2], by simp [g3], by simp [gb], by simp [g10], by simp, ⟨a, by simp [g8], by simp [ha], by simp [hs]⟩, hl', j1,
      fun x hx => by have := j2 x hx; omega, round_done hr i3 j3 j4⟩⟩
  obtain ⟨p, hp⟩ : ∃ p, (steps m)[k] = p := ⟨_, rfl⟩
  have hget : (steps m)[k]? = some p := by rw [← hp]; exact List.getElem?_eq_getElem hkl
  have hws := wrapS (n := k) (by omega)
  obtain ⟨n1, n2, n3⟩ := step_parts hr (List.mem_of_getElem? hget)
  obtain ⟨ka, hka⟩ := nd_idx n1
  obtain ⟨kb, hkb⟩ := nd_idx n2
  have q1 := f43 m p.1 h.n
  have q2 := f43 m p.2.1 h.n
  have ea : idxI (isNd p.1) m.nodes = ka := by simp only [idxI, hka]
  have eb : idxI (isNd p.2.1) m.nodes = kb := by simp only [idxI, hkb]
  rw [ea] at q1
  rw [eb] at q2
  have hal := idx_lt hka
  have hbl := idx_lt hkb
  have hj : Sm m p.1 p.2.1 p.2.2 := ⟨p, List.mem_of_getElem? hget, .inl ⟨rfl, rfl, rfl⟩⟩
  obtain ⟨x, hx⟩ : ∃ x, bs'[ka]? = some x := ⟨_, List.getElem?_eq_getElem (by omega)⟩
  obtain ⟨y, hy⟩ : ∃ y, bs'[kb]? = some y := ⟨_, List.getElem?_eq_getElem (by omega)⟩
  obtain ⟨t1, t2, t3, t4⟩ := one_step j1 j2 hka hkb hx hy hj n3
  have xB := j2 x (List.mem_of_getElem? hx)
  have u1 := f45 y x p.2.2 fun _ => ⟨by omega, by omega⟩
  obtain ⟨v, hv⟩ : ∃ v, nearI y x p.2.2 = v := ⟨_, rfl⟩
  rw [hv] at u1 t1 t2 t3 t4
  have hl1 : (bs'.set kb v).length = m.nodes.length := by rw [List.length_set, hl']
  have hr1 := row_set (k := kb) (x := v) (bs'.map e1) rfl
  obtain ⟨bs1, hbs1⟩ : ∃ b, bs'.set kb v = b := ⟨_, rfl⟩
  rw [hbs1] at hl1 hr1 t1 t2 t3 t4
  obtain ⟨x1, hx1⟩ : ∃ x, bs1[ka]? = some x := ⟨_, List.getElem?_eq_getElem (by omega)⟩
  obtain ⟨y1, hy1⟩ : ∃ y, bs1[kb]? = some y := ⟨_, List.getElem?_eq_getElem (by omega)⟩
  obtain ⟨w1, w2, w3, w4⟩ := one_step t1 t2 hkb hka hy1 hx1 (sm_sym _ _ _ hj) n3
  have yB := t2 y1 (List.mem_of_getElem? hy1)
  have u2 := f45 x1 y1 p.2.2 fun _ => ⟨by omega, by omega⟩
  obtain ⟨v2, hv2⟩ : ∃ v, nearI x1 y1 p.2.2 = v := ⟨_, rfl⟩
  rw [hv2] at u2 w1 w2 w3 w4
  have hl2 : (bs1.set ka v2).length = m.nodes.length := by rw [List.length_set, hl1]
  have hr2 := row_set (k := ka) (x := v2) (bs1.map e1) rfl
  obtain ⟨bs2, hbs2⟩ : ∃ b, bs1.set ka v2 = b := ⟨_, rfl⟩
  rw [hbs2] at hl2 hr2 w1 w2 w3 w4
  obtain ⟨X, hX⟩ : ∃ X, bs'.map e1 = X := ⟨_, rfl⟩
  obtain ⟨X1, hX1⟩ : ∃ X, bs1.map e1 = X := ⟨_, rfl⟩
  obtain ⟨X2, hX2⟩ : ∃ X, bs2.map e1 = X := ⟨_, rfl⟩
  obtain ⟨z1, z2⟩ := row_at hx X hX
  obtain ⟨z3, z4⟩ := row_at hy X hX
  obtain ⟨z5, z6⟩ := row_at hx1 X1 hX1
  obtain ⟨z7, z8⟩ := row_at hy1 X1 hX1
  rw [hX] at ha hr1
  rw [hX1] at hr1 hr2
  rw [hX2] at hr2
  have dn : Dn m bs bs2 (k + 1) := by
    intro i p' hi hp' a' b' ha' hb'
    by_cases hik : i = k
    · subst hik
      rw [hget] at hp'; injection hp' with hp'; subst hp'
      rw [hka] at ha'; injection ha' with ha'; subst ha'
      rw [hkb] at hb'; injection hb' with hb'; subst hb'
      exact ⟨(t4 bs j3).mono w3, w4 bs (j3.trans t3)⟩
    · obtain ⟨r1, r2⟩ := j4 i p' (by omega) hp' a' b' ha' hb'
      exact ⟨(r1.mono t3).mono w3, (r2.mono t3).mono w3⟩
  have go : ∀ fr' μ', fr' 2 = vI to → fr' 3 = .ptr (0, 3) 0 → μ'.box (0, 3) = some (eM m) → fr' 10 = .v (.c (.ro 3 ((steps m).map eSt))) → fr' 11 = vI r → fr' 12 = vI ((k + 1 : Nat) : Int) → RwC ⟨fr', μ'⟩ 8 28 3 1 X2 → ∃ m', m' < (steps m).length - k ∧ J2 m' ⟨fr', μ'⟩ :=
    fun fr' μ' a2 a3 ab a10 a11 a12 a8 => ⟨(steps m).length - (k + 1), by omega, hJ2 _ _ ⟨k + 1, bs2, by omega, rfl, a2, a3, ab, a10, a11, a12, by rw [hX2]; exact a8, hl2, w1, fun z hz => by have := w2 z hz; omega, (j3.trans t3).trans w3, dn⟩⟩
  clear dn w1 w2 w3 w4 t1 t2 t3 t4 j1 j2 j3 j4 hX hX1 hX2 hbs1 hbs2 hJ hJ2 hv hv2 i1 i2 i3 hka hkb
  simp [g3, gb, g10, g12, g8, ha, hs, hkl, hp, q1, q2, u1, u2, z1, z2, z3, z4, z5, z6, z7, z8, hr1, hr2, hws]
  exact go _ _ (by simp [g2]) (by simp [g3]) (by simp [gb]) (by simp [g10]) (by simp [g11]) (by simp) ⟨a, by simp [g8], by simp, by simp [hs]⟩
end Go.Proofs.Ytkoickoceggimaa.Am
