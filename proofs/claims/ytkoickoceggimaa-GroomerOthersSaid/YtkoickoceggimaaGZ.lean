/- The stage's theorem, over the program. No condition. -/
import Derived.Test.YtkoickoceggimaaGY
namespace Go.Proofs.Ytkoickoceggimaa.Am
open Go

theorem on_set {l : List Gr} {k : Nat} {y : Gr} (hk : k < l.length) (h : onRun y.run y = true) : On (l.set k y) y.run = true :=
  List.any_eq_true.2 ⟨y, List.mem_of_getElem? (List.getElem?_set_self hk), h⟩
set_option maxHeartbeats 4000000 in
set_option maxRecDepth 20000 in
theorem f8 (m : Mp) (l : List Gr) (id to run sec t0 t1 : Int) (h : Okm m) (hl : l.length ≤ 9223372036854775807) (K : List Vl → Prop) :
    FC F 8 [.v (.agg (eM m)), rG l, vI id, vI to, vI run, vI sec, .v (.agg [I t0, I t1])] K ↔ K [.c (B true)] := by
  refine FC.rule ?_ K
  rw [fc_run F8]
  have h1 := f17 m l h hl
  have h2 := f28 l id hl
  cases c : defG m l with
  | false =>
    rw [c] at h1
    obtain ⟨g, hg⟩ : ∃ g, findG l id = g := ⟨_, rfl⟩
    rw [hg] at h2
    simp [b8, f11, h1, h2]
  | true =>
  rw [c] at h1
  obtain ⟨hr, hG⟩ := def_parts c
  have hlen := right_len hG
  cases hi : idx (byId id) l with
  | none =>
    have e : hasG l id = false := by unfold hasG; rw [hi]; rfl
    obtain ⟨g, hg⟩ : ∃ g, findG l id = g := ⟨_, rfl⟩
    rw [hg, e] at h2
    simp [b8, f11, h1, h2]
  | some k =>
  obtain ⟨g, hg, hid⟩ := idx_id hi
  have hk := idx_lt hi
  have ho := right_ok hG hg
  rw [(find_at hi hg).1, (find_at hi hg).2] at h2
  have h3 := f18 m l id to t0 h hr (by omega)
  have h4 := f21 m l id run sec t0 h (by omega)
  have hf := ho.fuel
  by_cases hs : sendX m l id to t0 = 0
  case neg =>
    obtain ⟨A, hA⟩ : ∃ A, (sendL m l id to t0).map eGr = A := ⟨_, rfl⟩
    rw [hA] at h3
    clear hA
    by_cases hq : groomX m l id run sec t0 = 0
    case neg =>
      rw [groom_bad hq] at h4
      simp [b8, f11, h1, h2, h3, hs, h4, hq]
    obtain ⟨k2, g2, i2, e2, _, _, hrn, hL2, q1, q2, q3, q4, q5⟩ := groom_ok hG hq
    rw [hi] at i2; injection i2 with i2; subst i2
    rw [hg] at e2; injection e2 with e2; subst e2
    have j1 : idx (byId id) (l.set k (groomedV g run sec t0)) = some k := idx_set hi hid
    have j2 : (l.set k (groomedV g run sec t0))[k]? = some (groomedV g run sec t0) := List.getElem?_set_self hk
    have h8 := f28 (l.set k (groomedV g run sec t0)) id (by rw [List.length_set]; omega)
    rw [(find_at j1 j2).1, (find_at j1 j2).2] at h8
    have h9 := f30 m run h.r
    rw [hrn] at h9
    have h10 := f26 (l.set k (groomedV g run sec t0)) run (by rw [List.length_set]; omega)
    rw [show On (l.set k (groomedV g run sec t0)) run = true from on_set hk (by simp [onRun, groomedV])] at h10
    have en : endN m (groomedV g run sec t0) = (findRn m run).to := by
      unfold endN groomedV
      simp only
      rw [if_neg (by omega), if_pos (by simp [hrn])]
    have h11 := f29 m (l.set k (groomedV g run sec t0)) (groomedV g run sec t0) (findRn m run).to t1 h (by rw [List.length_set]; omega) (k := k) (by rw [show (groomedV g run sec t0).id = id from hid]; exact j1) j2 en
    have v1 : IntKind.i64.wrap (5 * sec) = 5 * sec := wrap64 ⟨by omega, by omega⟩
    have v2 : IntKind.i64.wrap (g.fuel - 5 * sec) = g.fuel - 5 * sec := wrap64 ⟨by omega, by omega⟩
    have v3 : IntKind.i64.wrap (t0 + sec) = t0 + sec := wrap64 ⟨by omega, by omega⟩
    rw [hq, hL2] at h4
    obtain ⟨A2, hA2⟩ : ∃ A, (l.set k (groomedV g run sec t0)).map eGr = A := ⟨_, rfl⟩
    simp only [rG, hA2] at h4 h8 h10 h11
    clear hA2 j1 j2 en
    simp only [groomedV, eGr] at h8 h11
    simp [b8, f11, h1, h2, h3, hs, h4, h8, h9, h10, h11, v1, v2, v3]
  obtain ⟨k2, g2, n, i2, e2, _, _, hw, hL, p1, p2, p3⟩ := send_ok hr hG hs
  rw [hi] at i2; injection i2 with i2; subst i2
  rw [hg] at e2; injection e2 with e2; subst e2
  have nn := way_num hr hw
  have ns := secs_num nn
  have j1 : idx (byId id) (l.set k (sentV g to n t0)) = some k := idx_set hi hid
  have j2 : (l.set k (sentV g to n t0))[k]? = some (sentV g to n t0) := List.getElem?_set_self hk
  have h5 := f28 (l.set k (sentV g to n t0)) id (by rw [List.length_set]; omega)
  rw [(find_at j1 j2).1, (find_at j1 j2).2] at h5
  have h6 := f15 m g.node to h hr
  rw [hw] at h6
  have en : endN m (sentV g to n t0) = to := if_pos rfl
  have h7 := f29 m (l.set k (sentV g to n t0)) (sentV g to n t0) to t1 h (by rw [List.length_set]; omega) (k := k) (by rw [show (sentV g to n t0).id = id from hid]; exact j1) j2 en
  have w1 : IntKind.i64.wrap (2 * n) = 2 * n := wrap64 ⟨by omega, by omega⟩
  have w2 : IntKind.i64.wrap (g.fuel - 2 * n) = g.fuel - 2 * n := wrap64 ⟨by omega, by omega⟩
  have w3 : IntKind.i64.wrap (t0 + secs n - t0) = secs n := by rw [show t0 + secs n - t0 = secs n by omega]; exact wrap64 ⟨by omega, by omega⟩
  have w4 : IntKind.i64.wrap (3 * secs n) = 3 * secs n := wrap64 ⟨by omega, by omega⟩
  have w5 : IntKind.i64.wrap (n + 2) = n + 2 := wrap64 ⟨by omega, by omega⟩
  have d1 : ¬ (3 * secs n < n) := by omega
  have d2 : ¬ (n + 2 < 3 * secs n) := by omega
  rw [hs, hL] at h3
  obtain ⟨A, hA⟩ : ∃ A, (l.set k (sentV g to n t0)).map eGr = A := ⟨_, rfl⟩
  simp only [rG, hA] at h3 h5 h7
  clear hA j1 j2 en ns nn
  simp only [sentV, eGr] at h5 h7
  by_cases hq : groomX m l id run sec t0 = 0
  case neg =>
    rw [groom_bad hq] at h4
    simp [b8, f11, h1, h2, h3, h5, h6, h7, w1, w2, w3, w4, w5, d1, d2, h4, hq]
  obtain ⟨k2, g2, i2, e2, _, _, hrn, hL2, q1, q2, q3, q4, q5⟩ := groom_ok hG hq
  rw [hi] at i2; injection i2 with i2; subst i2
  rw [hg] at e2; injection e2 with e2; subst e2
  have j1 : idx (byId id) (l.set k (groomedV g run sec t0)) = some k := idx_set hi hid
  have j2 : (l.set k (groomedV g run sec t0))[k]? = some (groomedV g run sec t0) := List.getElem?_set_self hk
  have h8 := f28 (l.set k (groomedV g run sec t0)) id (by rw [List.length_set]; omega)
  rw [(find_at j1 j2).1, (find_at j1 j2).2] at h8
  have h9 := f30 m run h.r
  rw [hrn] at h9
  have h10 := f26 (l.set k (groomedV g run sec t0)) run (by rw [List.length_set]; omega)
  rw [show On (l.set k (groomedV g run sec t0)) run = true from on_set hk (by simp [onRun, groomedV])] at h10
  have en : endN m (groomedV g run sec t0) = (findRn m run).to := by
    unfold endN groomedV
    simp only
    rw [if_neg (by omega), if_pos (by simp [hrn])]
  have h11 := f29 m (l.set k (groomedV g run sec t0)) (groomedV g run sec t0) (findRn m run).to t1 h (by rw [List.length_set]; omega) (k := k) (by rw [show (groomedV g run sec t0).id = id from hid]; exact j1) j2 en
  have v1 : IntKind.i64.wrap (5 * sec) = 5 * sec := wrap64 ⟨by omega, by omega⟩
  have v2 : IntKind.i64.wrap (g.fuel - 5 * sec) = g.fuel - 5 * sec := wrap64 ⟨by omega, by omega⟩
  have v3 : IntKind.i64.wrap (t0 + sec) = t0 + sec := wrap64 ⟨by omega, by omega⟩
  rw [hq, hL2] at h4
  obtain ⟨A2, hA2⟩ : ∃ A, (l.set k (groomedV g run sec t0)).map eGr = A := ⟨_, rfl⟩
  simp only [rG, hA2] at h4 h8 h10 h11
  clear hA2 j1 j2 en
  simp only [groomedV, eGr] at h8 h11
  simp [b8, f11, h1, h2, h3, h5, h6, h7, w1, w2, w3, w4, w5, d1, d2, h4, h8, h9, h10, h11, v1, v2, v3]
theorem open_two {x : FV} (h : FitA (true, [ti, ti]) x) : ∃ a b, x = .v (.agg [I a, I b]) := by
  cases x with
  | v x =>
    cases x with
    | c x => exact h.elim
    | agg cs =>
      obtain ⟨h1, h2⟩ := h
      match cs, h1 with
      | [a, b], _ =>
        obtain ⟨a, rfl, _⟩ := fit_int (h2 0 _ _ rfl rfl)
        obtain ⟨b, rfl, _⟩ := fit_int (h2 1 _ _ rfl rfl)
        exact ⟨a, b, rfl⟩
  | _ => exact h.elim
theorem law8 (xs : List FV) (h : FitAll [tyM, tyG, (false, [ti]), (false, [ti]), (false, [ti]), (false, [ti]), (true, [ti, ti])] xs) : FC F 8 xs (· = [.c (B true)]) := by
  match xs, h with
  | [x, y, a, b, c, d, e], ⟨hx, hy, ha, hb, hc, hd, he, _⟩ =>
    obtain ⟨m, rfl, hm, _⟩ := open_map hx
    obtain ⟨l, rfl, hl, _⟩ := open_grs hy
    obtain ⟨a, rfl, _⟩ := open_int ha
    obtain ⟨b, rfl, _⟩ := open_int hb
    obtain ⟨c, rfl, _⟩ := open_int hc
    obtain ⟨d, rfl, _⟩ := open_int hd
    obtain ⟨p, q, rfl⟩ := open_two he
    exact (f8 m l a b c d p q hm hl _).2 rfl
end Go.Proofs.Ytkoickoceggimaa.Am
