/- slices.Insert at rides, of one ride: the library's own text, walked: in place. No condition. -/
import Derived.Test.YtndabolfhhppkaaUA
namespace Go.Proofs.Ytndabolfhhppkaa.Am
open Go Go.RowKit Go.Shelf Go.Lib

theorem wp_copy_runI {P : Program} (w : World) {o : Oper} {a : Act} {K : Act → World → Prop} {Q : Exit → Act → World → Prop} (d s : Operand) (t t' : TypeId)
    (ho : o.op = .call { callee := .builtin .copy, args := #[d, s], argTypes := #[t, t'] }) (v u : Value) (hd : a.eval d = v) (hs : a.eval s = u) {v' : Value} {w' : World}
    (hr : (Builtin.copy_ #[t, t'] o.type #[v, u]).run P w = .ok v' w') (h : K (a.put o.dst v') w') : o.wp P a w K Q := by
  unfold Oper.wp execOp
  simp only [ho, resolve, invoke, builtin, Sem.run_bind, Sem.run_pure, Result.andThen_ok, List.map_toArray, List.map_cons, List.map_nil, hd, hs, hr]
  exact h
theorem wpList_copy_runI {P : Program} (w : World) {ops : Array Oper} {rest : List Oper} {o : Oper} {a : Act} {Q : Exit → Act → World → Prop} (hgd : o.guard = none) (d s : Operand) (t t' : TypeId)
    (ho : o.op = .call { callee := .builtin .copy, args := #[d, s], argTypes := #[t, t'] }) (v u : Value) (hd : a.eval d = v) (hs : a.eval s = u) {v' : Value} {w' : World}
    (hr : (Builtin.copy_ #[t, t'] o.type #[v, u]).run P w = .ok v' w') (h : wpList P ops Q rest (a.put o.dst v') w') : wpList P ops Q (o :: rest) a w :=
  wpList_plain hgd fun _ hK => wp_copy_runI w d s t t' ho v u hd hs hr (hK _ _ h)
theorem step_copy_runI {P : Program} {ops : Array Oper} {o : Oper} {a : Act} {w : World} {K : Act → World → Prop} {Q : Exit → Act → World → Prop} {E : Prop}
    (hg : o.guard = none) (d x : Operand) (dT sT : TypeId) (hop : o.op = Op.call { callee := Callee.builtin Builtin.copy, args := #[d, x], argTypes := #[dT, sT] })
    (v u : Value) (hd : a.eval d = v) (hx : a.eval x = u) {v' : Value} {w' : World} (hr : (Builtin.copy_ #[dT, sT] o.type #[v, u]).run P w = .ok v' w') (hK : K (a.put o.dst v') w') :
    if Region.wanted o (yielded ops a.tmps) = true then Oper.wp P o a w K Q else E := by
  have hw : Region.wanted o (yielded ops a.tmps) = true := by simp [Region.wanted, hg]
  rw [if_pos hw]
  unfold Oper.wp
  simp [execOp, hop, resolve, invoke, builtin, hd, hx, hr, Result.andThen]
  exact hK
theorem wp_append_runI {P : Program} (w : World) {o : Oper} {a : Act} {K : Act → World → Prop} {Q : Exit → Act → World → Prop} (d s : Operand) (t t' : TypeId)
    (ho : o.op = .call { callee := .builtin .append, args := #[d, s], argTypes := #[t, t'] }) (v u : Value) (hd : a.eval d = v) (hs : a.eval s = u) {v' : Value} {w' : World}
    (hr : (Builtin.append_ #[t, t'] o.type #[v, u]).run P w = .ok v' w') (h : K (a.put o.dst v') w') : o.wp P a w K Q := by
  unfold Oper.wp execOp
  simp only [ho, resolve, invoke, builtin, Sem.run_bind, Sem.run_pure, Result.andThen_ok, List.map_toArray, List.map_cons, List.map_nil, hd, hs, hr]
  exact h
theorem wpList_append_runI {P : Program} (w : World) {ops : Array Oper} {rest : List Oper} {o : Oper} {a : Act} {Q : Exit → Act → World → Prop} (hgd : o.guard = none) (d s : Operand) (t t' : TypeId)
    (ho : o.op = .call { callee := .builtin .append, args := #[d, s], argTypes := #[t, t'] }) (v u : Value) (hd : a.eval d = v) (hs : a.eval s = u) {v' : Value} {w' : World}
    (hr : (Builtin.append_ #[t, t'] o.type #[v, u]).run P w = .ok v' w') (h : wpList P ops Q rest (a.put o.dst v') w') : wpList P ops Q (o :: rest) a w :=
  wpList_plain hgd fun _ hK => wp_append_runI w d s t t' ho v u hd hs hr (hK _ _ h)
theorem cpy_run (W : World) (g o dl dc : Nat) (src : Addr) (sl sc : Nat) (cur : Array Value) (cs : List Value) (hg : W.heap[g]? = some (.cells cur 26 (0, 0))) (hl : cs.length = (Nat.min sl dl) * 7)
    (hc : ∀ (j : Nat) v, cs[j]? = some v → W.cell? (src.add j) = some v) (h1 : ∀ v ∈ cs, v.oneCell' = true) (ho : o + cs.length ≤ cur.size) (ty : TypeId) :
    (Builtin.copy_ #[22, 22] ty #[.slice (some ⟨g, o, none⟩) dl dc, .slice (some src) sl sc]).run Try.prog W = .ok (goInt (Nat.min sl dl)) (W.setRow g (cur.toList.take o ++ cs ++ cur.toList.drop (o + cs.length)).toArray) := by
  have hf := run_firstCells_some (P := Try.prog) W 7 (Nat.min sl dl) src sl sc cs hl hc
  have hs := run_storeCells_at Try.prog g o 26 cs 0 cur W hg (by omega) h1
  simp only [Nat.add_zero] at hs
  have z26 := size26 W
  simp only [Builtin.copy_, List.getElem?_toArray]
  simp [run_underlying under22, Builtin.lenOf, z26, hf]
  rw [hs]
  simp
theorem ovl_run (w : World) (g o vb vc lb cb : Nat) (cur cv : Array Value) (T : TypeId) (hne : vb ≠ g) (hg : w.heap[g]? = some (.cells cur 26 (0, 0))) (hv : w.heap[vb]? = some (.cells cv T (0, 0))) (hcur : cur.size ≠ 0) :
    (callFunc 43 #[.slice (some ⟨vb, 0, none⟩) 1 vc, .slice (some ⟨g, o, none⟩) lb cb]).run Try.prog w = .ok (.value (.bool false)) w := by
  rw [run_callFunc_extern Try.func43 (by kernel_rfl) (by kernel_rfl) (by kernel_rfl) (e := Extern.SlicesOverlaps.overlaps #[22, 22] #[4]) (by kernel_rfl),
    Lib.run_overlaps_apart w 22 4 26 under22 7 size26 ⟨vb, 0, none⟩ ⟨g, o, none⟩ 1 vc lb cb hne T 26 cv.size cur.size ?_ ?_ hcur ?_ ?_]
  · rfl
  · simp [World.shape?, hv]
  · simp [World.shape?, hg]
  · simp [World.frozen?, hv]
  · simp [World.frozen?, hv]
set_option maxHeartbeats 4000000 in
set_option maxRecDepth 100000 in
theorem ins_shift (w : World) (g n c k vb vc : Nat) (cur cv : Array Value) (T : TypeId) (hk : k < n) (hroom : n + 1 ≤ c) (hcm : c ≤ 9223372036854775807) (hg : w.heap[g]? = some (.cells cur 26 (0, 0))) (hcs : cur.size = c * 7)
    (hv : w.heap[vb]? = some (.cells cv T (0, 0))) (hvs : 7 ≤ cv.size) (hne : vb ≠ g) (h1 : ∀ (j : Nat) v, j < n * 7 → cur[j]? = some v → v.oneCell' = true) (h2 : ∀ (j : Nat) v, j < 7 → cv[j]? = some v → v.oneCell' = true) :
    Calls Try.prog 33 #[.slice (some ⟨g, 0, none⟩) n c, .int .i64 k, .slice (some ⟨vb, 0, none⟩) 1 vc] w fun e w' =>
      e = .returned (.slice (some ⟨g, 0, none⟩) (n + 1) c) ∧ ∃ nw : Array Value, nw.size = c * 7 ∧ (∀ j, j < (n + 1) * 7 → nw[j]? = (cur.toList.take (k * 7) ++ cv.toList.take 7 ++ (cur.toList.drop (k * 7)).take ((n - k) * 7))[j]?) ∧ Below w.heap.size (w.setRow g nw) w' := by
  have u22 := run_underlying (P := Try.prog) under22
  have z26 := size26
  have mixed : Try.prog.follows .mixedOrders = true := by kernel_rfl
  have hcl : cur.toList.length = c * 7 := hcs
  have hvl : cv.toList.length = cv.size := rfl
  have hne2 : ¬ ((k : Int) = (n : Int)) := by omega
  have hnc : n + 1 ≤ c := hroom
  have hkn : k ≤ n := by omega
  have hov := fun lb cb => ovl_run w g ((k + 1) * 7) vb vc lb cb cur cv T hne hg hv (by omega)
  have hw1 : IntKind.i64.wrap ((n : Int) + 1) = (n : Int) + 1 := by rw [IntKind.wrap_i64]; omega
  have hw2 : IntKind.i64.wrap ((k : Int) + 1) = (k : Int) + 1 := by rw [IntKind.wrap_i64]; omega
  have hb1 : ¬ (c = k + 1) := by omega
  have hb2 : ¬ (c = k) := by omega
  have hb3 : (0 : Int) ≤ (k : Int) + 1 := by omega
  have hb4 : (k : Int) ≤ (n : Int) + 1 := by omega
  -- the copies
  obtain ⟨cs1, hcs1⟩ : ∃ l, (cur.toList.drop (k * 7)).take ((n - k) * 7) = l := ⟨_, rfl⟩
  have hl1 : cs1.length = (n - k) * 7 := by rw [← hcs1, List.length_take, List.length_drop]; omega
  have hat1 : ∀ (j : Nat) v, cs1[j]? = some v → j < (n - k) * 7 ∧ cur[k * 7 + j]? = some v := fun j v hj => by
    have hjl : j < (n - k) * 7 := by have := (List.getElem?_eq_some_iff.1 hj).1; omega
    rw [← hcs1, List.getElem?_take, if_pos hjl, List.getElem?_drop] at hj
    exact ⟨hjl, by simpa using hj⟩
  have hcp1 := fun ty dc sc => cpy_run w.drew g ((k + 1) * 7) (n - k) dc ⟨g, k * 7, none⟩ (n + 1 - k) sc cur cs1 hg (by rw [hl1]; simp only [Nat.min_def]; split <;> omega) (fun j v hj => by
      rw [show (⟨g, k * 7, none⟩ : Addr).add j = at_ g (k * 7 + j) from at_add g _ j, at_, cell_of_row w.drew _ _ cur _ (0, 0) hg, (hat1 j v hj).2]) (fun v hv' => by
      obtain ⟨j, hj⟩ := List.getElem?_of_mem hv'
      obtain ⟨a1, a2⟩ := hat1 j v hj
      exact h1 _ v (by omega) a2) (by omega) ty
  obtain ⟨c1, hc1⟩ : ∃ l, (cur.toList.take ((k + 1) * 7) ++ cs1 ++ cur.toList.drop ((k + 1) * 7 + cs1.length)) = l := ⟨_, rfl⟩
  have hc1l : c1.length = c * 7 := by rw [← hc1]; simp only [List.length_append, List.length_take, List.length_drop]; omega
  rw [hc1] at hcp1
  obtain ⟨cs2, hcs2⟩ : ∃ l, cv.toList.take 7 = l := ⟨_, rfl⟩
  have hl2 : cs2.length = 7 := by rw [← hcs2, List.length_take]; omega
  have hcp2 := fun ty dc => cpy_run (w.drew.setRow g c1.toArray) g (k * 7) (n + 1 - k) dc ⟨vb, 0, none⟩ 1 vc c1.toArray cs2 (setRow_heap w.drew g cur c1.toArray 26 (0, 0) hg) (by rw [hl2]; simp only [Nat.min_def]; split <;> omega) (fun j v hj => by
      have hjl : j < 7 := by have := (List.getElem?_eq_some_iff.1 hj).1; omega
      rw [show (⟨vb, 0, none⟩ : Addr).add j = at_ vb (0 + j) from at_add vb _ j, Nat.zero_add, at_, cell_of_row (w.drew.setRow g c1.toArray) _ _ cv T (0, 0) ((setRow_other w.drew _ _ _ hne).trans hv)]
      rw [← hcs2, List.getElem?_take, if_pos hjl] at hj
      simpa using hj) (fun v hv' => by
      obtain ⟨j, hj⟩ := List.getElem?_of_mem hv'
      have hjl : j < 7 := by have := (List.getElem?_eq_some_iff.1 hj).1; omega
      rw [← hcs2, List.getElem?_take, if_pos hjl] at hj
      exact h2 j v hjl (by simpa using hj)) (by simp only [List.size_toArray]; omega) ty
  simp only at hcp2
  obtain ⟨nw, hnw⟩ : ∃ l, (c1.take (k * 7) ++ cs2 ++ c1.drop (k * 7 + cs2.length)) = l := ⟨_, rfl⟩
  have hnl : nw.length = c * 7 := by rw [← hnw]; simp only [List.length_append, List.length_take, List.length_drop]; omega
  rw [hnw] at hcp2
  have hcont : ∀ j, j < (n + 1) * 7 → nw[j]? = (cur.toList.take (k * 7) ++ cs2 ++ cs1)[j]? := fun j hj => by
    rw [← hnw]
    have ht1 : (c1.take (k * 7)).length = k * 7 := by rw [List.length_take]; omega
    have ht2 : (cur.toList.take (k * 7)).length = k * 7 := by rw [List.length_take]; omega
    have ht3 : (cur.toList.take ((k + 1) * 7)).length = (k + 1) * 7 := by rw [List.length_take]; omega
    by_cases hA : j < k * 7
    · have L : (c1.take (k * 7) ++ cs2 ++ c1.drop (k * 7 + cs2.length))[j]? = cur.toList[j]? := by
        rw [List.append_assoc, List.getElem?_append_left (by omega), List.getElem?_take, if_pos hA, ← hc1, List.append_assoc, List.getElem?_append_left (by omega), List.getElem?_take, if_pos (by omega)]
      have R : (cur.toList.take (k * 7) ++ cs2 ++ cs1)[j]? = cur.toList[j]? := by
        rw [List.append_assoc, List.getElem?_append_left (by omega), List.getElem?_take, if_pos hA]
      rw [L, R]
    · by_cases hB : j < k * 7 + 7
      · have L : (c1.take (k * 7) ++ cs2 ++ c1.drop (k * 7 + cs2.length))[j]? = cs2[j - k * 7]? := by
          rw [List.append_assoc, List.getElem?_append_right (by omega), ht1, List.getElem?_append_left (by omega)]
        have R : (cur.toList.take (k * 7) ++ cs2 ++ cs1)[j]? = cs2[j - k * 7]? := by
          rw [List.append_assoc, List.getElem?_append_right (by omega), ht2, List.getElem?_append_left (by omega)]
        rw [L, R]
      · have L : (c1.take (k * 7) ++ cs2 ++ c1.drop (k * 7 + cs2.length))[j]? = cs1[j - k * 7 - 7]? := by
          rw [List.append_assoc, List.getElem?_append_right (by omega), ht1, List.getElem?_append_right (by omega), hl2, List.getElem?_drop, ← hc1, List.append_assoc, List.getElem?_append_right (by omega), List.getElem?_append_left (by omega), ht3]
          congr 1
          omega
        have R : (cur.toList.take (k * 7) ++ cs2 ++ cs1)[j]? = cs1[j - k * 7 - 7]? := by
          rw [List.append_assoc, List.getElem?_append_right (by omega), ht2, List.getElem?_append_right (by omega), hl2]
        rw [L, R]
  go_enter Try.func33, Try.ntmps33
  go_wp2_with (simp only [hov])
  go_region_law_o (refine step_copy_runI rfl _ _ 22 22 rfl _ _ (by simp [Act.eval, Act.put]) (by simp [Act.eval, Act.put]) (hcp1 _ _ _) ?_)
  go_wp2_with (at_builtin; refine wpList_copy_runI _ rfl _ _ 22 22 rfl _ _ rfl rfl (hcp2 _ _) ?_)
  go_ret
  refine ⟨rfl, nw.toArray, by simp [hnl], fun j hj => by rw [List.getElem?_toArray, hcs1, hcs2]; exact hcont j hj, ?_⟩
  rw [setRow_twice]
  exact (Below.refl _ _).drew
set_option maxHeartbeats 4000000 in
set_option maxRecDepth 100000 in
theorem ins_end_room (w : World) (g n c vb vc : Nat) (cur cv : Array Value) (T : TypeId) (hroom : n + 1 ≤ c) (hcm : c ≤ 9223372036854775807) (hg : w.heap[g]? = some (.cells cur 26 (0, 0))) (hcs : cur.size = c * 7)
    (hv : w.heap[vb]? = some (.cells cv T (0, 0))) (hvs : 7 ≤ cv.size) (h2 : ∀ (j : Nat) v, j < 7 → cv[j]? = some v → v.oneCell' = true) :
    Calls Try.prog 33 #[.slice (some ⟨g, 0, none⟩) n c, .int .i64 n, .slice (some ⟨vb, 0, none⟩) 1 vc] w fun e w' =>
      e = .returned (.slice (some ⟨g, 0, none⟩) (n + 1) c) ∧ ∃ nw : Array Value, nw.size = c * 7 ∧ (∀ j, j < (n + 1) * 7 → nw[j]? = (cur.toList.take (n * 7) ++ cv.toList.take 7)[j]?) ∧ Below w.heap.size (w.setRow g nw) w' := by
  have u22 := run_underlying (P := Try.prog) under22
  have z26 := size26
  obtain ⟨i, hi, hz, hsz, hby⟩ := info26
  have hcl : cur.toList.length = c * 7 := hcs
  have hvl : cv.toList.length = cv.size := rfl
  obtain ⟨cs2, hcs2⟩ : ∃ l, cv.toList.take 7 = l := ⟨_, rfl⟩
  have hl2 : cs2.length = 7 := by rw [← hcs2, List.length_take]; omega
  have hat : ∀ (j : Nat) v, cs2[j]? = some v → j < 7 ∧ cv[j]? = some v := fun j v hj => by
    have hjl : j < 7 := by have := (List.getElem?_eq_some_iff.1 hj).1; omega
    rw [← hcs2, List.getElem?_take, if_pos hjl] at hj
    exact ⟨hjl, by simpa using hj⟩
  have happ : ∀ ty, (Builtin.append_ #[22, 22] ty #[.slice (some ⟨g, 0, none⟩) n c, .slice (some ⟨vb, 0, none⟩) 1 vc]).run Try.prog w = .ok (.slice (some ⟨g, 0, none⟩) (n + 1) c) (w.setRow g (cur.toList.take (n * 7) ++ cs2 ++ cur.toList.drop (n * 7 + cs2.length)).toArray) := fun ty => by
    have := run_append_room (P := Try.prog) w 22 ty 26 i under22 hi g n c cur hg ⟨vb, 0, none⟩ 1 vc cs2 (by rw [hsz]; omega) (fun j v hj => by
      rw [show (⟨vb, 0, none⟩ : Addr).add j = at_ vb (0 + j) from at_add vb _ j, Nat.zero_add, at_, cell_of_row w _ _ cv T (0, 0) hv]
      exact (hat j v hj).2) (fun v hv' => by
      obtain ⟨j, hj⟩ := List.getElem?_of_mem hv'
      exact h2 j v (hat j v hj).1 (hat j v hj).2) hroom (by rw [hsz, hl2, hcs]; omega)
    rw [hsz] at this
    exact this
  obtain ⟨nw, hnw⟩ : ∃ l, (cur.toList.take (n * 7) ++ cs2 ++ cur.toList.drop (n * 7 + cs2.length)) = l := ⟨_, rfl⟩
  rw [hnw] at happ
  have hnl : nw.length = c * 7 := by rw [← hnw]; simp only [List.length_append, List.length_take, List.length_drop]; omega
  go_enter Try.func33, Try.ntmps33
  go_wp2_with (at_builtin; refine wpList_append_runI _ rfl _ _ 22 22 rfl _ _ rfl rfl (happ _) ?_)
  go_ret
  refine ⟨rfl, nw.toArray, by simp [hnl], fun j hj => ?_, Below.refl _ _⟩
  rw [List.getElem?_toArray, hcs2, ← hnw, List.getElem?_append_left (by rw [List.length_append, List.length_take]; omega)]
end Go.Proofs.Ytndabolfhhppkaa.Am
