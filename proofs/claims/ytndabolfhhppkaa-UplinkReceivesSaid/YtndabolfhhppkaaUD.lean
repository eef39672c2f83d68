/- slices.Insert and slices.Delete as the abstract machine has them. No condition. -/
import Derived.Test.YtndabolfhhppkaaUC
namespace Go.Proofs.Ytndabolfhhppkaa.Am
open Go Go.RowKit Go.Shelf Go.Lib

theorem flat_take {z : Nat} : ∀ {xs : List (List Cell)} (_ : ∀ r ∈ xs, r.length = z) (k : Nat), (xs.take k).flatten = xs.flatten.take (k * z)
  | [], _, k => by simp
  | x :: xs, hr, 0 => by simp
  | x :: xs, hr, k + 1 => by
    have hx := hr x (by simp)
    rw [List.take_succ_cons, List.flatten_cons, List.flatten_cons, flat_take (fun r h => hr r (by simp [h])) k, show (k + 1) * z = x.length + k * z by rw [Nat.succ_mul]; omega, List.take_length_add_append]
theorem flat_drop {z : Nat} : ∀ {xs : List (List Cell)} (_ : ∀ r ∈ xs, r.length = z) (k : Nat), (xs.drop k).flatten = xs.flatten.drop (k * z)
  | [], _, k => by simp
  | x :: xs, hr, 0 => by simp
  | x :: xs, hr, k + 1 => by
    have hx := hr x (by simp)
    rw [List.drop_succ_cons, List.flatten_cons, flat_drop (fun r h => hr r (by simp [h])) k, show (k + 1) * z = x.length + k * z by rw [Nat.succ_mul]; omega, List.drop_length_add_append]
section
variable {γ : Gh} {μ : Mu} {w : World}
/-- What a row's first cells are. -/
theorem row_lr {xs : List (List Cell)} {cur : Array Value} {n cap : Nat} (hr : ∀ r ∈ xs, r.length = 7) (hn : xs.length = n) (hnc : n ≤ cap) (hcs : cur.size = cap * 7)
    (hc : ∀ (j : Nat) (x : Cell), xs.flatten[j]? = some x → ∃ v : Value, cur[j]? = some v ∧ DR γ.st w x v) : LR (DR γ.st w) xs.flatten (cur.toList.take (n * 7)) := by
  have hl : cur.toList.length = cap * 7 := hcs
  refine ⟨by rw [List.length_take, flatten_len hr]; omega, fun j x v hx hv => ?_⟩
  obtain ⟨u, hu, hd⟩ := hc j x hx
  have hjl : j < n * 7 := by have := (List.getElem?_eq_some_iff.1 hx).1; rw [flatten_len hr, hn] at this; exact this
  rw [List.getElem?_take, if_pos hjl] at hv
  have : cur.toList[j]? = some u := by simpa using hu
  rw [this] at hv
  injection hv with hv
  subst hv
  exact hd
theorem row_ones {xs : List (List Cell)} {cur : Array Value} {n : Nat} (hr : ∀ r ∈ xs, r.length = 7) (hn : xs.length = n)
    (hc : ∀ (j : Nat) (x : Cell), xs.flatten[j]? = some x → ∃ v : Value, cur[j]? = some v ∧ DR γ.st w x v) : ∀ (j : Nat) v, j < n * 7 → cur[j]? = some v → v.oneCell' = true := fun j v hj hv => by
  have hl : j < xs.flatten.length := by rw [flatten_len hr, hn]; exact hj
  obtain ⟨u, hu, hd⟩ := hc j _ (List.getElem?_eq_getElem hl)
  rw [hv] at hu
  injection hu with hu
  subst hu
  exact hd.oneCell
theorem ins_lr {xs ys : List (List Cell)} {cur cv : Array Value} {n k cap vc : Nat} (hr : ∀ r ∈ xs, r.length = 7) (hr2 : ∀ r ∈ ys, r.length = 7) (hn : xs.length = n) (hk : k ≤ n) (hnc : n ≤ cap) (hcs : cur.size = cap * 7) (hy : ys.length = 1) (hv1 : 1 ≤ vc) (hvs : cv.size = vc * 7)
    (hc : ∀ (j : Nat) (x : Cell), xs.flatten[j]? = some x → ∃ v : Value, cur[j]? = some v ∧ DR γ.st w x v) (hc2 : ∀ (j : Nat) (x : Cell), ys.flatten[j]? = some x → ∃ v : Value, cv[j]? = some v ∧ DR γ.st w x v) :
    LR (DR γ.st w) (xs.take k ++ ys ++ xs.drop k).flatten (cur.toList.take (k * 7) ++ cv.toList.take 7 ++ (cur.toList.drop (k * 7)).take ((n - k) * 7)) := by
  have h1 := row_lr hr hn hnc hcs hc
  have h2 := row_lr hr2 hy hv1 hvs hc2
  rw [List.flatten_append, List.flatten_append, flat_take hr, flat_drop hr]
  have a := h1.take (k * 7)
  have b := h1.drop (k * 7)
  rw [List.take_take, Nat.min_eq_left (by omega)] at a
  rw [List.drop_take, ← Nat.sub_mul] at b
  rw [Nat.one_mul] at h2
  exact (a.append h2).append b
theorem del_lr {xs : List (List Cell)} {cur : Array Value} {n a b cap : Nat} (hr : ∀ r ∈ xs, r.length = 7) (hn : xs.length = n) (hab : a ≤ b) (hb : b ≤ n) (hnc : n ≤ cap) (hcs : cur.size = cap * 7)
    (hc : ∀ (j : Nat) (x : Cell), xs.flatten[j]? = some x → ∃ v : Value, cur[j]? = some v ∧ DR γ.st w x v) :
    LR (DR γ.st w) (xs.take a ++ xs.drop b).flatten (cur.toList.take (a * 7) ++ (cur.toList.drop (b * 7)).take ((n - b) * 7)) := by
  have h1 := row_lr hr hn hnc hcs hc
  rw [List.flatten_append, flat_take hr, flat_drop hr]
  have c := h1.take (a * 7)
  have d := h1.drop (b * 7)
  rw [List.take_take, Nat.min_eq_left (by omega)] at c
  rw [List.drop_take, ← Nat.sub_mul] at d
  exact c.append d
theorem lr_at {cs : List Cell} {L : List Value} {nw : Array Value} {N : Nat} (h : LR (DR γ.st w) cs L) (hl : cs.length ≤ N) (hn : ∀ j, j < N → nw[j]? = L[j]?) : ∀ (j : Nat) (x : Cell), cs[j]? = some x → ∃ u : Value, nw[j]? = some u ∧ DR γ.st w x u := fun j x hx => by
  obtain ⟨v, hv, hd⟩ := h.get hx
  exact ⟨v, by rw [hn j (by have := (List.getElem?_eq_some_iff.1 hx).1; omega)]; exact hv, hd⟩
end
theorem specs : ((List.range Try.prog.funcs.size).all fun g => decide (((Try.prog.funcs[g]?).bind (specOf Try.prog)) = if g = 33 then some (0, 26, 7) else if g = 34 then some (1, 26, 7) else none)) = true := by kernel_rfl
theorem own_val {γ : Gh} {μ : Mu} {w : World} {i : Id} {u : Value} (h : FR γ μ w (.v (.c (.own i))) u) : u = γ.nu i := by
  have h : CR γ μ w (.own i) u := h
  cases h with
  | z h => cases h with | dat h => cases h
  | own _ => rfl
theorem us_three {us : Array Value} (h : us.size = 3) : ∃ a b c, us = #[a, b, c] := by
  refine ⟨us[0], us[1], us[2], ?_⟩
  apply Array.ext
  · simp [h]
  · intro i h1 h2
    match i, h2 with
    | 0, _ => rfl
    | 1, _ => rfl
    | 2, _ => rfl
theorem spec_del {args : List FV} {μ μ' : Mu} {vs : List Vl} (hs : specStep 1 26 7 args μ = some (vs, μ')) : ICallSim Try.prog 34 args μ vs μ' := by
  refine ⟨⟨Try.f34, _, Try.func34, rfl, by kernel_rfl⟩, fun γ w us hsz har m tm => ?_⟩
  unfold specStep at hs
  split at hs
  case h_1 => exfalso; omega
  case h_3 => cases hs
  rename_i i a b _
  cases hi : μ.arr i with
  | none => simp only [hi] at hs; cases hs
  | some q =>
  simp only [hi] at hs
  split at hs
  case isFalse => cases hs
  rename_i hc
  obtain ⟨hok, ha0, hab, hbn⟩ := hc
  injection hs with hs
  simp only [specOk, Bool.and_eq_true, beq_iff_eq, decide_eq_true_eq] at hok
  obtain ⟨⟨⟨⟨qe, qz⟩, _⟩, hap⟩, hst⟩ := hok
  obtain ⟨u0, u1, u2, rfl⟩ := us_three hsz
  have e0 := own_val (har 0 _ u0 rfl rfl)
  have e1 := (inv_val (har 1 _ u1 rfl rfl)).1
  have e2 := (inv_val (har 2 _ u2 rfl rfl)).1
  subst e0 e1 e2
  obtain ⟨a', rfl⟩ := Int.eq_ofNat_of_zero_le ha0
  obtain ⟨b', rfl⟩ := Int.eq_ofNat_of_zero_le (show 0 ≤ b by omega)
  simp only [Int.toNat_natCast] at hbn hs
  have hab' : a' < b' := by omega
  obtain ⟨k1, k2, k3⟩ := m.liv hi (by rw [qz]; omega)
  rcases k3 with ⟨A, _, h0⟩ | ⟨g, cap, cur, n1, n2, n3, n4, n5, n6, n7, n8, n9⟩
  · rw [h0] at hbn; simp at hbn; omega
  rw [qz] at k1 n6
  rw [qe] at n3
  have hcap0 : cap ≠ 0 := by omega
  rw [n1]
  have hcm : cap ≤ 9223372036854775807 := by simpa [maxLen] using n5
  refine Calls.mono (del_calls w g q.xs.length cap a' b' cur hab' hbn n4 hcm n3 n6 (row_ones k1 rfl n7)) fun e w' hR => ?_
  obtain ⟨rfl, nw, f1, f2, f3⟩ := hR
  have hzl : (q.xs.take a' ++ q.xs.drop b').length = a' + (q.xs.length - b') := by rw [List.length_append, List.length_take, List.length_drop]; omega
  have hzr : ∀ r ∈ q.xs.take a' ++ q.xs.drop b', r.length = 7 := fun r hr => by
    rcases List.mem_append.1 hr with h | h
    · exact k1 r (List.mem_of_mem_take h)
    · exact k1 r (List.mem_of_mem_drop h)
  have hlr := del_lr (γ := γ) (w := w) k1 rfl (Nat.le_of_lt hab') hbn n4 n6 n7
  obtain ⟨γ', r1, r2, r3, r4⟩ := m.renewed tm (e := 26) (z := 7) (zs := q.xs.take a' ++ q.xs.drop b') (w' := w') (v := .slice (some (at_ g 0)) (a' + (q.xs.length - b')) cap) hi (by omega) hst
    ⟨hzr, .inr ⟨g, cap, cur, nw, n1, by rw [hzl], n3, hcap0, f1, n6, f3, by rw [hzl]; omega, n5, n2, n9 hst, lr_at hlr (by rw [flatten_len hzr, hzl]; exact Nat.le_refl _) f2⟩⟩
  have hs' : renew μ i ⟨26, 7, q.xs.take a' ++ q.xs.drop b'⟩ = (vs, μ') := hs
  rw [hs'] at r1 r2 r3 r4
  have hvs : vs = [.c (.own (μ.t + 1, 7))] := (congrArg Prod.fst hs').symm
  subst hvs
  exact ⟨_, γ', rfl, r1, r2, r3, r4⟩
theorem spec_ins {args : List FV} {μ μ' : Mu} {vs : List Vl} (hs : specStep 0 26 7 args μ = some (vs, μ')) : ICallSim Try.prog 33 args μ vs μ' := by
  refine ⟨⟨Try.f33, _, Try.func33, rfl, by kernel_rfl⟩, fun γ w us hsz har m tm => ?_⟩
  unfold specStep at hs
  split at hs
  case h_2 => exfalso; omega
  case h_3 => cases hs
  rename_i i a jj _
  cases hi : μ.arr i with
  | none => simp only [hi] at hs; cases hs
  | some q =>
  cases hj : μ.arr jj with
  | none => simp only [hi, hj] at hs; cases hs
  | some r =>
  simp only [hi, hj] at hs
  split at hs
  case isFalse => cases hs
  rename_i hc
  obtain ⟨hok, rz, hij, ry, ha0, han, hlim⟩ := hc
  injection hs with hs
  simp only [specOk, Bool.and_eq_true, beq_iff_eq, decide_eq_true_eq] at hok
  obtain ⟨⟨⟨⟨qe, qz⟩, _⟩, hap⟩, hst⟩ := hok
  obtain ⟨u0, u1, u2, rfl⟩ := us_three hsz
  have e0 := own_val (har 0 _ u0 rfl rfl)
  have e1 := (inv_val (har 1 _ u1 rfl rfl)).1
  have e2 := own_val (har 2 _ u2 rfl rfl)
  subst e0 e1 e2
  obtain ⟨k, rfl⟩ := Int.eq_ofNat_of_zero_le ha0
  simp only [Int.toNat_natCast] at han hs
  simp only [lim] at hlim
  -- the ride
  obtain ⟨y1, y2, y3⟩ := m.liv hj (by rw [rz]; omega)
  rcases y3 with ⟨A, _, h0⟩ | ⟨vb, vc, cv, v1, v2, v3, v4, v5, v6, v7, v8, v9⟩
  · rw [h0] at ry; simp at ry
  rw [rz] at y1 v6
  rw [ry] at v1 v4
  have hvc0 : vc ≠ 0 := by omega
  have hv7 : 7 ≤ cv.size := by omega
  have hy1 := row_ones y1 ry v7
  rw [Nat.one_mul] at hy1
  -- the row
  obtain ⟨k1, k2, k3⟩ := m.liv hi (by rw [qz]; omega)
  rw [qz] at k1
  have hzl : (q.xs.take k ++ r.xs ++ q.xs.drop k).length = q.xs.length + 1 := by rw [List.length_append, List.length_append, List.length_take, List.length_drop, ry]; omega
  have hzr : ∀ x ∈ q.xs.take k ++ r.xs ++ q.xs.drop k, x.length = 7 := fun x hx => by
    rcases List.mem_append.1 hx with h | h
    · rcases List.mem_append.1 h with h | h
      · exact k1 x (List.mem_of_mem_take h)
      · exact y1 x h
    · exact k1 x (List.mem_of_mem_drop h)
  have hvs : vs = [.c (.own (μ.t + 1, 7))] := (congrArg Prod.fst hs).symm
  have fin : ∀ {w' : World} {v : Value}, Takes γ μ w i q 26 7 (q.xs.take k ++ r.xs ++ q.xs.drop k) w' v → ∃ v' γ', Ending.returned v = .returned v' ∧ RetI γ' μ' w' vs v' ∧ MR γ' μ' w' ∧ Ext γ μ w γ' μ' w' ∧ Tm μ' [] := by
    intro w' v hT
    obtain ⟨γ', r1, r2, r3, r4⟩ := m.renewed tm (e := 26) (z := 7) hi (by omega) hst hT
    have hs' : renew μ i ⟨26, 7, q.xs.take k ++ r.xs ++ q.xs.drop k⟩ = (vs, μ') := hs
    rw [hs'] at r1 r2 r3 r4
    subst hvs
    exact ⟨_, γ', rfl, r1, r2, r3, r4⟩
  rw [v1]
  rcases k3 with ⟨A, n1, h0⟩ | ⟨g, cap, cur, n1, n2, n3, n4, n5, n6, n7, n8, n9⟩
  · -- nothing yet
    have hk0 : k = 0 := by rw [h0] at han; simpa using han
    subst hk0
    rw [n1]
    refine Calls.mono (ins_end_grow w A 0 0 vb vc [] cv r.e (by simp) (fun a _ j v h => by simp at h) (fun _ => rfl) (by omega) (by omega) (by omega) v3 hv7) fun e w' hR => ?_
    obtain ⟨cap', cur', rfl, f1, f2, f3, f4, f5, f6⟩ := hR
    have hlr := row_lr (γ := γ) (w := w) y1 ry v4 v6 v7
    refine fin ⟨hzr, .inl ⟨w.heap.size, cap', cur', by rw [hzl, h0]; rfl, Nat.le_refl _, f5, f6, by rw [hzl, h0]; exact f1, f2, f3, ?_⟩⟩
    rw [h0]
    simp only [List.take_nil, List.nil_append, List.drop_nil, List.append_nil]
    exact lr_at hlr (N := 7) (by rw [flatten_len y1, ry]; omega) (fun j hj => by rw [f4 j (by omega)]; simp)
  rw [qz] at n6
  rw [qe] at n3
  rw [n1]
  have hcm : cap ≤ 9223372036854775807 := by simpa [maxLen] using n5
  have hlr := ins_lr (γ := γ) (w := w) (k := k) k1 y1 rfl han n4 n6 ry v4 v6 n7 v7
  have hN : (q.xs.take k ++ r.xs ++ q.xs.drop k).flatten.length ≤ (q.xs.length + 1) * 7 := by rw [flatten_len hzr, hzl]; exact Nat.le_refl _
  have hold := row_ones k1 rfl n7
  have inp : ∀ {w' : World} {nw : Array Value}, q.xs.length + 1 ≤ cap → nw.size = cap * 7 → (∀ j, j < (q.xs.length + 1) * 7 → nw[j]? = (cur.toList.take (k * 7) ++ cv.toList.take 7 ++ (cur.toList.drop (k * 7)).take ((q.xs.length - k) * 7))[j]?) → Below w.heap.size (w.setRow g nw) w' →
      Takes γ μ w i q 26 7 (q.xs.take k ++ r.xs ++ q.xs.drop k) w' (.slice (some ⟨g, 0, none⟩) (q.xs.length + 1) cap) := fun {w' nw} h1 h2 h3 h4 =>
    ⟨hzr, .inr ⟨g, cap, cur, nw, n1, by rw [hzl]; rfl, n3, by omega, h2, n6, h4, by rw [hzl]; exact h1, n5, n2, n9 hst, lr_at hlr hN h3⟩⟩
  have anew : ∀ {w' : World} {cap' : Nat} {cur' : Array Value}, q.xs.length + 1 ≤ cap' → cap' ≤ maxLen → cur'.size = cap' * 7 → (∀ j, j < (q.xs.length + 1) * 7 → cur'[j]? = (cur.toList.take (k * 7) ++ cv.toList.take 7 ++ (cur.toList.drop (k * 7)).take ((q.xs.length - k) * 7))[j]?) → w'.heap[w.heap.size]? = some (.cells cur' 26 (0, 0)) → Below w.heap.size w w' →
      Takes γ μ w i q 26 7 (q.xs.take k ++ r.xs ++ q.xs.drop k) w' (.slice (some ⟨w.heap.size, 0, none⟩) (q.xs.length + 1) cap') := fun {w' cap' cur'} h1 h2 h3 h4 h5 h6 =>
    ⟨hzr, .inl ⟨w.heap.size, cap', cur', by rw [hzl]; rfl, Nat.le_refl _, h5, h6, by rw [hzl]; exact h1, h2, h3, lr_at hlr hN h4⟩⟩
  by_cases hkn : k = q.xs.length
  · have hsub : (q.xs.length - k) * 7 = 0 := by rw [hkn]; simp
    rw [hsub] at inp anew
    simp only [List.take_zero, List.append_nil] at inp anew
    by_cases hroom : q.xs.length + 1 ≤ cap
    · rw [hkn]
      rw [hkn] at inp fin
      refine Calls.mono (ins_end_room w g q.xs.length cap vb vc cur cv r.e hroom hcm n3 n6 v3 hv7 hy1) fun e w' hR => ?_
      obtain ⟨rfl, nw, f1, f2, f3⟩ := hR
      exact fin (inp hroom f1 f2 f3)
    · rw [hkn]
      rw [hkn] at anew fin
      have hcl : cur.toList.length = cap * 7 := n6
      refine Calls.mono (ins_end_grow w (some ⟨g, 0, none⟩) q.xs.length cap vb vc (cur.toList.take (q.xs.length * 7)) cv r.e (by rw [List.length_take]; omega) (fun a ha j v hv => by
        injection ha with ha
        subst ha
        have hjl : j < q.xs.length * 7 := by have := (List.getElem?_eq_some_iff.1 hv).1; rw [List.length_take] at this; omega
        rw [List.getElem?_take, if_pos hjl] at hv
        rw [show (⟨g, 0, none⟩ : Addr).add j = at_ g (0 + j) from at_add g _ j, Nat.zero_add, at_, cell_of_row w _ _ cur _ (0, 0) n3]
        simpa using hv) (fun h => by cases h) n4 (by omega) (by omega) v3 hv7) fun e w' hR => ?_
      obtain ⟨cap', cur', rfl, f1, f2, f3, f4, f5, f6⟩ := hR
      exact fin (anew f1 f2 f3 f4 f5 f6)
  · have hlt : k < q.xs.length := by omega
    have hblk : blk (γ.nu i) = some g := by rw [n1]; simp only [blk]; rw [if_neg (by omega)]; rfl
    have hne : vb ≠ g := fun e => by
      have hb2 : blk (γ.nu jj) = some g := by rw [v1]; simp only [blk]; rw [if_neg hvc0, ← e]; rfl
      have := (m.aa i jj q r g hi hj hij hblk hb2).2 hst
      rw [this] at ry; simp at ry
    by_cases hroom : q.xs.length + 1 ≤ cap
    · refine Calls.mono (ins_shift w g q.xs.length cap k vb vc cur cv r.e hlt hroom hcm n3 n6 v3 hv7 hne hold hy1) fun e w' hR => ?_
      obtain ⟨rfl, nw, f1, f2, f3⟩ := hR
      exact fin (inp hroom f1 f2 f3)
    · refine Calls.mono (ins_grow w g q.xs.length cap k vb vc cur cv r.e hlt n4 (by omega) (by omega) n3 n6 v3 hv7 hold hy1) fun e w' hR => ?_
      obtain ⟨cap', cur', rfl, f1, f2, f3, f4, f5, f6⟩ := hR
      exact fin (anew f1 f2 f3 f4 f5 f6)
theorem special : Special Try.prog := by
  intro g fn k e z hP hsp args μ vs μ' hs
  have hg : g < Try.prog.funcs.size := (Array.getElem?_eq_some_iff.1 hP).1
  have h := List.all_eq_true.1 specs g (List.mem_range.2 hg)
  rw [hP] at h
  simp only [Option.bind_some, hsp, decide_eq_true_eq] at h
  split at h
  · rename_i h33
    injection h with h; injection h with h1 h2; injection h2 with h2 h3
    subst h33 h1 h2 h3
    exact spec_ins hs
  · split at h
    · rename_i h34
      injection h with h; injection h with h1 h2; injection h2 with h2 h3
      subst h34 h1 h2 h3
      exact spec_del hs
    · cases h
end Go.Proofs.Ytndabolfhhppkaa.Am
