/- Only one vehicle changes, and what comes is valid. No condition. -/
import Derived.Test.YtkoickoceggimaaGZ
namespace Go.Proofs.Ytkoickoceggimaa.Am
open Go

theorem nd_range {m : Mp} (hr : rightE m = 0) {v : Int} (h : hasNd m v = true) : 1 ≤ v ∧ v ≤ 9999 := by
  obtain ⟨k, hk⟩ := nd_idx h
  obtain ⟨a, ha, pa⟩ := idx_some hk
  have := (nodes_ok (right_parts hr).2.1 a (List.mem_of_getElem? ha)).1
  simp only [isNd, beq_iff_eq] at pa
  simp only [inn, Bool.and_eq_true, decide_eq_true_eq] at this
  omega
theorem rn_range {m : Mp} (hr : rightE m = 0) {v : Int} (h : hasRn m v = true) : (1 ≤ v ∧ v ≤ 9999) ∧ hasNd m (findRn m v).to = true := by
  obtain ⟨k, hk⟩ := Option.isSome_iff_exists.1 h
  obtain ⟨a, ha, pa⟩ := idx_some hk
  have hm := List.mem_of_getElem? ha
  have hrun := (right_parts hr).2.2.2.1
  have := (runs_sorted hrun).2.2 a hm
  simp only [beq_iff_eq] at pa
  simp only [rngRn, inn, Bool.and_eq_true, decide_eq_true_eq] at this
  refine ⟨by omega, ?_⟩
  have e : findRn m v = a := by unfold findRn fnd; rw [hk]; simp only; rw [ha]; rfl
  rw [e]
  exact (step_parts hr (List.mem_append_left _ (List.mem_map.2 ⟨a, hm, rfl⟩))).2.1
theorem valid_set {l : List Gr} {k : Nat} {g x : Gr} (h : rightG l = 0) (hk : l[k]? = some g) (hx : Okg x) (hid : x.id = g.id) : rightG (l.set k x) = 0 := by
  obtain ⟨h1, h2, h3⟩ := right_iff.1 h
  refine right_iff.2 ⟨by rw [List.length_set]; exact h1, fun y hy => ?_, ?_⟩
  · rcases List.mem_or_eq_of_mem_set hy with hy | rfl
    · exact h2 y hy
    · exact okg_iff.2 hx
  · rw [List.map_set, hid]
    have : (l.map Gr.id).set k g.id = l.map Gr.id := by
      apply List.ext_getElem?
      intro j
      by_cases e : k = j
      · subst e
        rw [List.getElem?_set_self (by rw [List.length_map]; exact (List.getElem?_eq_some_iff.1 hk).1), List.getElem?_map, hk]; rfl
      · rw [List.getElem?_set_ne e]
    rw [this]
    exact h3
theorem okg_sent {m : Mp} (hr : rightE m = 0) {g : Gr} {to n t : Int} (h : Okg g) (h0 : g.state = 0) (hw : wayO m g.node to = some n) (h1 : 2 * n ≤ g.fuel) (h2 : 0 ≤ t) (h3 : t + secs n ≤ 20000000) : Okg (sentV g to n t) := by
  have nn := way_num hr hw
  have ns := secs_num nn
  have nt := nd_range hr (way_nodes hw).2
  obtain ⟨a, b, c, d, e, f, i, j, k⟩ := h
  refine ⟨a, b, ?_, ?_, ?_, ?_, i, ?_, ?_⟩ <;> (simp only [sentV]; first | omega | (simp only [iff_true]; omega))
theorem okg_groomed {m : Mp} (hr : rightE m = 0) {g : Gr} {run sec t : Int} (h : Okg g) (h0 : g.state = 0) (hn : hasRn m run = true) (q1 : 1 ≤ sec) (h1 : 5 * sec ≤ g.fuel) (h2 : 0 ≤ t) (h3 : t + sec ≤ 20000000) : Okg (groomedV g run sec t) := by
  have nt := (rn_range hr hn).1
  obtain ⟨a, b, c, d, e, f, i, j, k⟩ := h
  refine ⟨a, b, ?_, ?_, ?_, f, ?_, ?_, ?_⟩ <;> (simp only [groomedV]; first | omega | (simp only [iff_true]; omega))
theorem okg_tick {m : Mp} (hr : rightE m = 0) {g : Gr} (t : Int) (h : Okg g) : Okg (tick1 m t g) := by
  unfold tick1
  split
  · exact h
  have hn : 1 ≤ endN m g ∧ endN m g ≤ 9999 := by
    have := h.to
    have := h.mv
    unfold endN
    split
    · omega
    split
    · rename_i c; exact nd_range hr (rn_range hr c.2).2
    · exact h.node
  obtain ⟨a, b, c, d, e, f, i, j, k⟩ := h
  refine ⟨a, hn, c, ?_, e, ?_, ?_, ?_, ?_⟩ <;> (simp only [endG]; first | omega | (simp only [iff_true]; omega))
theorem valid_tick {m : Mp} (hr : rightE m = 0) {l : List Gr} (t : Int) (h : rightG l = 0) : rightG (l.map (tick1 m t)) = 0 := by
  obtain ⟨h1, h2, h3⟩ := right_iff.1 h
  refine right_iff.2 ⟨by rw [List.length_map]; exact h1, fun y hy => ?_, ?_⟩
  · obtain ⟨g, hg, rfl⟩ := List.mem_map.1 hy
    exact okg_iff.2 (okg_tick hr t (okg_iff.1 (h2 g hg)))
  · rw [List.map_map]
    have : (Gr.id ∘ tick1 m t) = Gr.id := by funext g; exact tick_id m t g
    rw [this]
    exact h3
theorem tick_same (m : Mp) (t : Int) (g : Gr) : (tick1 m t g).winch = g.winch ∧ (tick1 m t g).fuel = g.fuel := by unfold tick1; split <;> exact ⟨rfl, rfl⟩
theorem other_set {l : List Gr} {k i : Nat} {g g' x : Gr} {id : Int} (hk : l[k]? = some g) (hid : g.id = id) (hi : l[i]? = some g') (hne : g'.id ≠ id) : (l.set k x)[i]? = some g' := by
  by_cases e : k = i
  · subst e; rw [hk] at hi; injection hi with hi; subst hi; exact absurd hid hne
  · rw [List.getElem?_set_ne e, hi]
/-- What is asked of a list that an order left. -/
def Left (l A : List Gr) (id : Int) : Prop := A.length = l.length ∧ rightG A = 0 ∧ ∀ (i : Nat) g, l[i]? = some g → g.id ≠ id → A[i]? = some g
theorem send_left {m : Mp} {l : List Gr} {id to t : Int} (hr : rightE m = 0) (h : rightG l = 0) (hs : sendX m l id to t = 0) : Left l (sendL m l id to t) id := by
  obtain ⟨k, g, n, _, hg, hid, h0, hw, hL, p1, p2, p3⟩ := send_ok hr h hs
  rw [hL]
  exact ⟨List.length_set, valid_set h hg (okg_sent hr (right_ok h hg) h0 hw p1 p2 p3) rfl, fun i g' hi hne => other_set hg hid hi hne⟩
theorem groom_left {m : Mp} {l : List Gr} {id run sec t : Int} (hr : rightE m = 0) (h : rightG l = 0) (hs : groomX m l id run sec t = 0) : Left l (groomL m l id run sec t) id := by
  obtain ⟨k, g, _, hg, hid, h0, hn, hL, q1, _, p1, p2, p3⟩ := groom_ok h hs
  rw [hL]
  exact ⟨List.length_set, valid_set h hg (okg_groomed hr (right_ok h hg) h0 hn q1 p1 p2 p3) rfl, fun i g' hi hne => other_set hg hid hi hne⟩
set_option maxHeartbeats 8000000 in
set_option maxRecDepth 20000 in
theorem f10 (m : Mp) (l : List Gr) (id to run sec t0 t1 : Int) (h : Okm m) (hl : l.length ≤ 9223372036854775807) (K : List Vl → Prop) :
    FC F 10 [.v (.agg (eM m)), rG l, vI id, vI to, vI run, vI sec, .v (.agg [I t0, I t1])] K ↔ K [.c (B true)] := by
  refine FC.rule ?_ K
  rw [fc_run F10]
  have h1 := f14 m h
  have h2 := f12 l hl
  by_cases hr : rightE m = 0
  case neg => simp [b10, f11, h1, hr]
  rw [hr] at h1
  by_cases hG : rightG l = 0
  case neg => simp [b10, f11, h1, h2, hG]
  rw [hG] at h2
  have hlen := right_len hG
  have h3 := f18 m l id to t0 h hr (by omega)
  have h4 := f21 m l id run sec t0 h (by omega)
  have h5 := f23 m l t1 h (by omega)
  have h6 := f12 (l.map (tick1 m t1)) (by rw [List.length_map]; omega)
  rw [valid_tick hr t1 hG] at h6
  have hC : ∀ (i : Nat) g, l[i]? = some g → ∃ c, (l.map (tick1 m t1))[i]? = some c ∧ c.id = g.id ∧ c.winch = g.winch ∧ c.fuel = g.fuel := fun i g hi =>
    ⟨tick1 m t1 g, by rw [List.getElem?_map, hi]; rfl, tick_id m t1 g, (tick_same m t1 g).1, (tick_same m t1 g).2⟩
  have hCl : (l.map (tick1 m t1)).length = l.length := List.length_map ..
  obtain ⟨C, hCe⟩ : ∃ C, l.map (tick1 m t1) = C := ⟨_, rfl⟩
  obtain ⟨Y, hY⟩ : ∃ Y, (tickR l t1).map e1 = Y := ⟨_, rfl⟩
  rw [hCe] at h5 h6 hC hCl
  rw [hY] at h5
  clear hCe hY
  have hA : sendX m l id to t0 = 0 → Left l (sendL m l id to t0) id := send_left hr hG
  have hB : groomX m l id run sec t0 = 0 → Left l (groomL m l id run sec t0) id := groom_left hr hG
  have hAl : (sendL m l id to t0).length ≤ 9223372036854775807 := by have := sendL_len (m := m) (l := l) (id := id) (to := to) (t := t0); omega
  have hBl : (groomL m l id run sec t0).length ≤ 9223372036854775807 := by have := groomL_len (m := m) (l := l) (id := id) (run := run) (sec := sec) (t := t0); omega
  generalize sendL m l id to t0 = A at *
  generalize groomL m l id run sec t0 = Bb at *
  generalize sendX m l id to t0 = x at *
  generalize groomX m l id run sec t0 = y at *
  have h7 := f12 A hAl
  have h8 := f12 Bb hBl
  by_cases cx : x = 0
  · subst cx
    obtain ⟨x1, x2, x3⟩ := hA rfl
    rw [x2] at h7
    by_cases cy : y = 0
    · subst cy
      obtain ⟨y1, y2, y3⟩ := hB rfl
      rw [y2] at h8
      simp [b10, f11, h1, h2, h3, h4, h5, h6, hCl, x1, h7, y1, h8]
      refine run_loop (fun q s => ∃ k, k ≤ l.length ∧ q = l.length - k ∧ s.fr 1 = rG l ∧ s.fr 2 = vI id ∧ s.fr 15 = rG A ∧ s.fr 16 = vI 0 ∧ s.fr 17 = rG Bb ∧ s.fr 18 = vI 0 ∧ s.fr 19 = rG C ∧ s.fr 21 = vI k) l.length ⟨0, by omega, by omega, by simp, by simp, by simp, by simp, by simp, by simp, by simp, by simp⟩ ?_
      rintro J hJ q ⟨fr, μ⟩ ⟨k, hk, rfl, g1, g2, g15, g16, g17, g18, g19, g21⟩
      simp only at g1 g2 g15 g16 g17 g18 g19 g21
      by_cases hkl : k < l.length
      case neg => simp [g1, g21, hkl]
      obtain ⟨g, hn⟩ : ∃ g, l[k] = g := ⟨_, rfl⟩
      have hget : l[k]? = some g := by rw [← hn]; exact List.getElem?_eq_getElem hkl
      have hws := wrapS (n := k) (by omega)
      obtain ⟨c, c0, c1, c2, c3⟩ := hC k g hget
      have hCk : k < C.length := (List.getElem?_eq_some_iff.1 c0).1
      have ck : C[k] = c := (List.getElem?_eq_some_iff.1 c0).2
      by_cases hid : g.id = id
      · simp [g1, g2, g19, g21, hkl, hn, hid, hCl, ck, c1, c2, c3, hws]
        exact ⟨l.length - (k + 1), by omega, hJ _ _ ⟨k + 1, by omega, rfl, by simp [g1], by simp [g2], by simp [g15], by simp [g16], by simp [g17], by simp [g18], by simp [g19], by simp⟩⟩
      have a0 := x3 k g hget hid
      have ak : A[k]'(List.getElem?_eq_some_iff.1 a0).1 = g := (List.getElem?_eq_some_iff.1 a0).2
      have b0 := y3 k g hget hid
      have bk : Bb[k]'(List.getElem?_eq_some_iff.1 b0).1 = g := (List.getElem?_eq_some_iff.1 b0).2
      simp [g1, g2, g15, g16, g17, g18, g19, g21, hkl, hn, hid, hCl, ck, c1, c2, c3, hws, x1, ak, y1, bk]
      exact ⟨l.length - (k + 1), by omega, hJ _ _ ⟨k + 1, by omega, rfl, by simp [g1], by simp [g2], by simp [g15], by simp [g16], by simp [g17], by simp [g18], by simp [g19], by simp⟩⟩
    · clear hB h8
      simp [b10, f11, h1, h2, h3, h4, h5, h6, hCl, x1, h7, cy]
      refine run_loop (fun q s => ∃ k, k ≤ l.length ∧ q = l.length - k ∧ s.fr 1 = rG l ∧ s.fr 2 = vI id ∧ s.fr 15 = rG A ∧ s.fr 16 = vI 0 ∧ s.fr 17 = rG Bb ∧ s.fr 18 = vI y ∧ s.fr 19 = rG C ∧ s.fr 21 = vI k) l.length ⟨0, by omega, by omega, by simp, by simp, by simp, by simp, by simp, by simp, by simp, by simp⟩ ?_
      rintro J hJ q ⟨fr, μ⟩ ⟨k, hk, rfl, g1, g2, g15, g16, g17, g18, g19, g21⟩
      simp only at g1 g2 g15 g16 g17 g18 g19 g21
      by_cases hkl : k < l.length
      case neg => simp [g1, g21, hkl]
      obtain ⟨g, hn⟩ : ∃ g, l[k] = g := ⟨_, rfl⟩
      have hget : l[k]? = some g := by rw [← hn]; exact List.getElem?_eq_getElem hkl
      have hws := wrapS (n := k) (by omega)
      obtain ⟨c, c0, c1, c2, c3⟩ := hC k g hget
      have hCk : k < C.length := (List.getElem?_eq_some_iff.1 c0).1
      have ck : C[k] = c := (List.getElem?_eq_some_iff.1 c0).2
      by_cases hid : g.id = id
      · simp [g1, g2, g19, g21, hkl, hn, hid, hCl, ck, c1, c2, c3, hws]
        exact ⟨l.length - (k + 1), by omega, hJ _ _ ⟨k + 1, by omega, rfl, by simp [g1], by simp [g2], by simp [g15], by simp [g16], by simp [g17], by simp [g18], by simp [g19], by simp⟩⟩
      have a0 := x3 k g hget hid
      have ak : A[k]'(List.getElem?_eq_some_iff.1 a0).1 = g := (List.getElem?_eq_some_iff.1 a0).2
      simp [g1, g2, g15, g16, g18, g19, g21, hkl, hn, hid, hCl, ck, c1, c2, c3, hws, x1, ak, cy]
      exact ⟨l.length - (k + 1), by omega, hJ _ _ ⟨k + 1, by omega, rfl, by simp [g1], by simp [g2], by simp [g15], by simp [g16], by simp [g17], by simp [g18], by simp [g19], by simp⟩⟩
  · clear hA h7
    by_cases cy : y = 0
    · subst cy
      obtain ⟨y1, y2, y3⟩ := hB rfl
      rw [y2] at h8
      simp [b10, f11, h1, h2, h3, h4, h5, h6, hCl, cx, y1, h8]
      refine run_loop (fun q s => ∃ k, k ≤ l.length ∧ q = l.length - k ∧ s.fr 1 = rG l ∧ s.fr 2 = vI id ∧ s.fr 15 = rG A ∧ s.fr 16 = vI x ∧ s.fr 17 = rG Bb ∧ s.fr 18 = vI 0 ∧ s.fr 19 = rG C ∧ s.fr 21 = vI k) l.length ⟨0, by omega, by omega, by simp, by simp, by simp, by simp, by simp, by simp, by simp, by simp⟩ ?_
      rintro J hJ q ⟨fr, μ⟩ ⟨k, hk, rfl, g1, g2, g15, g16, g17, g18, g19, g21⟩
      simp only at g1 g2 g15 g16 g17 g18 g19 g21
      by_cases hkl : k < l.length
      case neg => simp [g1, g21, hkl]
      obtain ⟨g, hn⟩ : ∃ g, l[k] = g := ⟨_, rfl⟩
      have hget : l[k]? = some g := by rw [← hn]; exact List.getElem?_eq_getElem hkl
      have hws := wrapS (n := k) (by omega)
      obtain ⟨c, c0, c1, c2, c3⟩ := hC k g hget
      have hCk : k < C.length := (List.getElem?_eq_some_iff.1 c0).1
      have ck : C[k] = c := (List.getElem?_eq_some_iff.1 c0).2
      by_cases hid : g.id = id
      · simp [g1, g2, g19, g21, hkl, hn, hid, hCl, ck, c1, c2, c3, hws]
        exact ⟨l.length - (k + 1), by omega, hJ _ _ ⟨k + 1, by omega, rfl, by simp [g1], by simp [g2], by simp [g15], by simp [g16], by simp [g17], by simp [g18], by simp [g19], by simp⟩⟩
      have b0 := y3 k g hget hid
      have bk : Bb[k]'(List.getElem?_eq_some_iff.1 b0).1 = g := (List.getElem?_eq_some_iff.1 b0).2
      simp [g1, g2, g16, g17, g18, g19, g21, hkl, hn, hid, hCl, ck, c1, c2, c3, hws, cx, y1, bk]
      exact ⟨l.length - (k + 1), by omega, hJ _ _ ⟨k + 1, by omega, rfl, by simp [g1], by simp [g2], by simp [g15], by simp [g16], by simp [g17], by simp [g18], by simp [g19], by simp⟩⟩
    · clear hB h8
      simp [b10, f11, h1, h2, h3, h4, h5, h6, hCl, cx, cy]
      refine run_loop (fun q s => ∃ k, k ≤ l.length ∧ q = l.length - k ∧ s.fr 1 = rG l ∧ s.fr 2 = vI id ∧ s.fr 15 = rG A ∧ s.fr 16 = vI x ∧ s.fr 17 = rG Bb ∧ s.fr 18 = vI y ∧ s.fr 19 = rG C ∧ s.fr 21 = vI k) l.length ⟨0, by omega, by omega, by simp, by simp, by simp, by simp, by simp, by simp, by simp, by simp⟩ ?_
      rintro J hJ q ⟨fr, μ⟩ ⟨k, hk, rfl, g1, g2, g15, g16, g17, g18, g19, g21⟩
      simp only at g1 g2 g15 g16 g17 g18 g19 g21
      by_cases hkl : k < l.length
      case neg => simp [g1, g21, hkl]
      obtain ⟨g, hn⟩ : ∃ g, l[k] = g := ⟨_, rfl⟩
      have hget : l[k]? = some g := by rw [← hn]; exact List.getElem?_eq_getElem hkl
      have hws := wrapS (n := k) (by omega)
      obtain ⟨c, c0, c1, c2, c3⟩ := hC k g hget
      have hCk : k < C.length := (List.getElem?_eq_some_iff.1 c0).1
      have ck : C[k] = c := (List.getElem?_eq_some_iff.1 c0).2
      by_cases hid : g.id = id
      · simp [g1, g2, g19, g21, hkl, hn, hid, hCl, ck, c1, c2, c3, hws]
        exact ⟨l.length - (k + 1), by omega, hJ _ _ ⟨k + 1, by omega, rfl, by simp [g1], by simp [g2], by simp [g15], by simp [g16], by simp [g17], by simp [g18], by simp [g19], by simp⟩⟩
      simp [g1, g2, g16, g18, g19, g21, hkl, hn, hid, hCl, ck, c1, c2, c3, hws, cx, cy]
      exact ⟨l.length - (k + 1), by omega, hJ _ _ ⟨k + 1, by omega, rfl, by simp [g1], by simp [g2], by simp [g15], by simp [g16], by simp [g17], by simp [g18], by simp [g19], by simp⟩⟩
theorem law10 (xs : List FV) (h : FitAll [tyM, tyG, (false, [ti]), (false, [ti]), (false, [ti]), (false, [ti]), (true, [ti, ti])] xs) : FC F 10 xs (· = [.c (B true)]) := by
  match xs, h with
  | [x, y, a, b, c, d, e], ⟨hx, hy, ha, hb, hc, hd, he, _⟩ =>
    obtain ⟨m, rfl, hm, _⟩ := open_map hx
    obtain ⟨l, rfl, hl, _⟩ := open_grs hy
    obtain ⟨a, rfl, _⟩ := open_int ha
    obtain ⟨b, rfl, _⟩ := open_int hb
    obtain ⟨c, rfl, _⟩ := open_int hc
    obtain ⟨d, rfl, _⟩ := open_int hd
    obtain ⟨p, q, rfl⟩ := open_two he
    exact (f10 m l a b c d p q hm hl _).2 rfl
end Go.Proofs.Ytkoickoceggimaa.Am
