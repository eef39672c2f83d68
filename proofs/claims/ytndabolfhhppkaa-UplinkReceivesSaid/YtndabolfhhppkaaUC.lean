/- slices.Insert at rides, of one ride: a new block. No condition. -/
import Derived.Test.YtndabolfhhppkaaUB
import Derived.Lib.AppendZerosOnto
namespace Go.Proofs.Ytndabolfhhppkaa.Am
open Go Go.RowKit Go.Shelf Go.Lib

theorem zl_size (n : Nat) : (Builtin.zeroCells zRide.cells n).size = n * 7 := by simp [Builtin.zeroCells, Value.cells]
theorem alloc_at (w : World) (o : Obj) : (w.drew.alloc o).heap[w.heap.size]? = some o := by
  show (w.heap.push o)[w.heap.size]? = some o
  simp
set_option maxHeartbeats 4000000 in
set_option maxRecDepth 100000 in
theorem ins_end_grow (w : World) (A : Option Addr) (n c vb vc : Nat) (olds : List Value) (cv : Array Value) (T : TypeId) (hol : olds.length = n * 7) (hA : ∀ a, A = some a → ∀ (j : Nat) v, olds[j]? = some v → w.cell? (a.add j) = some v)
    (hAn : A = none → n = 0) (hnc : n ≤ c) (hroom : c < n + 1) (hbig : n + 1 ≤ 4294967296) (hv : w.heap[vb]? = some (.cells cv T (0, 0))) (hvs : 7 ≤ cv.size) :
    Calls Try.prog 33 #[.slice A n c, .int .i64 n, .slice (some ⟨vb, 0, none⟩) 1 vc] w fun e w' =>
      ∃ (cap : Nat) (cur' : Array Value), e = .returned (.slice (some ⟨w.heap.size, 0, none⟩) (n + 1) cap) ∧ n + 1 ≤ cap ∧ cap ≤ maxLen ∧ cur'.size = cap * 7 ∧ (∀ j, j < (n + 1) * 7 → cur'[j]? = (olds ++ cv.toList.take 7)[j]?) ∧ w'.heap[w.heap.size]? = some (.cells cur' 26 (0, 0)) ∧ Below w.heap.size w w' := by
  have u22 := run_underlying (P := Try.prog) under22
  have z26 := size26
  obtain ⟨i, hi, hz, hsz, hby⟩ := info26
  have hvl : cv.toList.length = cv.size := rfl
  obtain ⟨cs2, hcs2⟩ : ∃ l, cv.toList.take 7 = l := ⟨_, rfl⟩
  have hl2 : cs2.length = 7 := by rw [← hcs2, List.length_take]; omega
  have hat : ∀ (j : Nat) v, cs2[j]? = some v → w.cell? ((⟨vb, 0, none⟩ : Addr).add j) = some v := fun j v hj => by
    have hjl : j < 7 := by have := (List.getElem?_eq_some_iff.1 hj).1; omega
    rw [← hcs2, List.getElem?_take, if_pos hjl] at hj
    rw [show (⟨vb, 0, none⟩ : Addr).add j = at_ vb (0 + j) from at_add vb _ j, Nat.zero_add, at_, cell_of_row w _ _ cv T (0, 0) hv]
    simpa using hj
  have happ : ∀ ty, (Builtin.append_ #[22, 22] ty #[.slice A n c, .slice (some ⟨vb, 0, none⟩) 1 vc]).run Try.prog w = .ok (.slice (some ⟨w.heap.size, 0, none⟩) (n + 1) (grownCap w (n + 1) c 26))
      (w.drew.alloc (.cells (olds.toArray ++ cs2.toArray ++ Builtin.zeroCells zRide.cells (grownCap w (n + 1) c 26 - (n + 1))) 26)) := fun ty => by
    cases A with
    | none =>
      have hn := hAn rfl
      subst hn
      have hc : c = 0 := by omega
      subst hc
      have ho : olds = [] := List.eq_nil_of_length_eq_zero (by omega)
      subst ho
      have := run_append_nil (P := Try.prog) w 22 ty 26 i zRide under22 hi hz ⟨vb, 0, none⟩ 1 vc cs2 (by rw [hsz]; omega) hat (by omega) (by omega) (by rw [hby]; omega)
      simpa using this
    | some a =>
      exact run_append_grow (P := Try.prog) w 22 ty 26 i zRide under22 hi hz a n c olds (by rw [hsz]; exact hol) (hA a rfl) ⟨vb, 0, none⟩ 1 vc cs2 (by rw [hsz]; omega) hat hroom (by omega) (growslice_fits hroom (by rw [hby]; omega))
  have hge := grownCap_ge w (n + 1) c 26
  have hmx := grownCap_le_maxLen w (n + 1) c 26 (by simp only [maxLen]; omega)
  obtain ⟨G, hG⟩ : ∃ G, grownCap w (n + 1) c 26 = G := ⟨_, rfl⟩
  rw [hG] at happ hge hmx
  obtain ⟨R, hR⟩ : ∃ R, olds.toArray ++ cs2.toArray ++ Builtin.zeroCells zRide.cells (G - (n + 1)) = R := ⟨_, rfl⟩
  rw [hR] at happ
  go_enter Try.func33, Try.ntmps33
  go_wp2_with (at_builtin; refine wpList_append_runI _ rfl _ _ 22 22 rfl _ _ rfl rfl (happ _) ?_)
  go_ret
  refine ⟨G, R, rfl, hge, hmx, ?_, fun j hj => ?_, alloc_at w _, below_drew_alloc w _⟩
  · rw [← hR]
    simp only [Array.size_append, List.size_toArray, zl_size]
    omega
  · rw [← hR, hcs2, Array.getElem?_append_left (by simp only [Array.size_append, List.size_toArray]; omega)]
    rw [List.append_toArray, List.getElem?_toArray]
set_option maxHeartbeats 4000000 in
set_option maxRecDepth 100000 in
theorem ins_grow (w : World) (g n c k vb vc : Nat) (cur cv : Array Value) (T : TypeId) (hk : k < n) (hnc : n ≤ c) (hroom : c < n + 1) (hbig : n + 1 ≤ 4294967296) (hg : w.heap[g]? = some (.cells cur 26 (0, 0))) (hcs : cur.size = c * 7)
    (hv : w.heap[vb]? = some (.cells cv T (0, 0))) (hvs : 7 ≤ cv.size) (h1 : ∀ (j : Nat) v, j < n * 7 → cur[j]? = some v → v.oneCell' = true) (h2 : ∀ (j : Nat) v, j < 7 → cv[j]? = some v → v.oneCell' = true) :
    Calls Try.prog 33 #[.slice (some ⟨g, 0, none⟩) n c, .int .i64 k, .slice (some ⟨vb, 0, none⟩) 1 vc] w fun e w' =>
      ∃ (cap : Nat) (cur' : Array Value), e = .returned (.slice (some ⟨w.heap.size, 0, none⟩) (n + 1) cap) ∧ n + 1 ≤ cap ∧ cap ≤ maxLen ∧ cur'.size = cap * 7 ∧ (∀ j, j < (n + 1) * 7 → cur'[j]? = (cur.toList.take (k * 7) ++ cv.toList.take 7 ++ (cur.toList.drop (k * 7)).take ((n - k) * 7))[j]?) ∧
        w'.heap[w.heap.size]? = some (.cells cur' 26 (0, 0)) ∧ Below w.heap.size w w' := by
  have u22 := run_underlying (P := Try.prog) under22
  have z26 := size26
  have mixed : Try.prog.follows .mixedOrders = true := by kernel_rfl
  obtain ⟨i, hi, hz, hsz, hby⟩ := info26
  have hcl : cur.toList.length = c * 7 := hcs
  have hvl : cv.toList.length = cv.size := rfl
  have hgw : g < w.heap.size := lt_of_some hg
  have hvw : vb < w.heap.size := lt_of_some hv
  have hne2 : ¬ ((k : Int) = (n : Int)) := by omega
  have hz3 : (c : Int) < (n : Int) + 1 := by omega
  have hkk : (n : Int) + 1 - (k : Int) = ((n + 1 - k : Nat) : Int) := by omega
  have hik : k + (n + 1 - k) = n + 1 := by omega
  obtain ⟨cs0, hcs0⟩ : ∃ l, cur.toList.take (k * 7) = l := ⟨_, rfl⟩
  have hl0 : cs0.length = k * 7 := by rw [← hcs0, List.length_take]; omega
  have hold : (Builtin.firstCells i.size k (.slice (some ⟨g, 0, none⟩) k c)).run Try.prog w.drew = .ok cs0.toArray w.drew := by
    rw [hsz]
    exact run_firstCells_some w.drew 7 k ⟨g, 0, none⟩ k c cs0 hl0 (fun j v hj => by
      have hjl : j < k * 7 := by have := (List.getElem?_eq_some_iff.1 hj).1; omega
      rw [← hcs0, List.getElem?_take, if_pos hjl] at hj
      rw [show (⟨g, 0, none⟩ : Addr).add j = at_ g (0 + j) from at_add g _ j, Nat.zero_add, at_, cell_of_row w.drew _ _ cur _ (0, 0) hg]
      simpa using hj)
  have hrz : ∀ ty, (Builtin.append_ #[22, 3] ty #[.slice (some ⟨g, 0, none⟩) k c, .int .i64 ((n : Int) + 1 - (k : Int))]).run Try.prog w =
      .ok (.slice (some ⟨w.heap.size, 0, none⟩) (n + 1) (grownCap w (n + 1) c 26)) (w.drew.alloc (.cells (cs0.toArray ++ Builtin.zeroCells zRide.cells (n + 1 - k) ++ Builtin.zeroCells zRide.cells (grownCap w (n + 1) c 26 - (n + 1))) 26)) := fun ty => by
    have h := Lib.run_append_grow_zeros w 22 3 ty 26 i zRide .i64 .i64 under22 (by kernel_rfl) hi hz (some ⟨g, 0, none⟩) k c cs0 hold (n + 1 - k) (by omega) (by omega) (by omega) (by omega) (by rw [hby]; omega) (by rw [hby, hik]; exact growslice_fits hroom (by omega))
    rw [hik] at h
    rw [hkk]
    exact h
  clear hkk
  have hge := grownCap_ge w (n + 1) c 26
  have hmx := grownCap_le_maxLen w (n + 1) c 26 (by simp only [maxLen]; omega)
  obtain ⟨G, hG⟩ : ∃ G, grownCap w (n + 1) c 26 = G := ⟨_, rfl⟩
  rw [hG] at hrz hge hmx
  obtain ⟨R, hR⟩ : ∃ R, cs0.toArray ++ Builtin.zeroCells zRide.cells (n + 1 - k) ++ Builtin.zeroCells zRide.cells (G - (n + 1)) = R := ⟨_, rfl⟩
  rw [hR] at hrz
  have hRl : R.size = G * 7 := by
    rw [← hR]
    simp only [Array.size_append, List.size_toArray, zl_size]
    omega
  have hR0 : ∀ j, j < k * 7 → R[j]? = cs0[j]? := fun j hj => by
    rw [← hR, Array.append_assoc, Array.getElem?_append_left (by rw [List.size_toArray]; omega), List.getElem?_toArray]
  obtain ⟨W1, hW1⟩ : ∃ W1, w.drew.alloc (.cells R 26) = W1 := ⟨_, rfl⟩
  have hW1h : W1.heap[w.heap.size]? = some (.cells R 26 (0, 0)) := by rw [← hW1]; exact alloc_at w _
  have hW1b : Below w.heap.size w W1 := by rw [← hW1]; exact below_drew_alloc w _
  rw [hW1] at hrz
  -- the ride
  obtain ⟨cs2, hcs2⟩ : ∃ l, cv.toList.take 7 = l := ⟨_, rfl⟩
  have hl2 : cs2.length = 7 := by rw [← hcs2, List.length_take]; omega
  have hcp2 := fun ty dc => cpy_run W1 w.heap.size (k * 7) (n + 1 - k) dc ⟨vb, 0, none⟩ 1 vc R cs2 hW1h (by rw [hl2]; simp only [Nat.min_def]; split <;> omega) (fun j v hj => by
      have hjl : j < 7 := by have := (List.getElem?_eq_some_iff.1 hj).1; omega
      rw [show (⟨vb, 0, none⟩ : Addr).add j = at_ vb (0 + j) from at_add vb _ j, Nat.zero_add, at_, cell_of_row W1 _ _ cv T (0, 0) ((hW1b.block vb hvw).trans hv)]
      rw [← hcs2, List.getElem?_take, if_pos hjl] at hj
      simpa using hj) (fun v hv' => by
      obtain ⟨j, hj⟩ := List.getElem?_of_mem hv'
      have hjl : j < 7 := by have := (List.getElem?_eq_some_iff.1 hj).1; omega
      rw [← hcs2, List.getElem?_take, if_pos hjl] at hj
      exact h2 j v hjl (by simpa using hj)) (by omega) ty
  obtain ⟨c1, hc1⟩ : ∃ l, (R.toList.take (k * 7) ++ cs2 ++ R.toList.drop (k * 7 + cs2.length)) = l := ⟨_, rfl⟩
  have hRll : R.toList.length = G * 7 := hRl
  have hc1l : c1.length = G * 7 := by rw [← hc1]; simp only [List.length_append, List.length_take, List.length_drop]; omega
  rw [hc1] at hcp2
  -- what stood from there on
  obtain ⟨cs1, hcs1⟩ : ∃ l, (cur.toList.drop (k * 7)).take ((n - k) * 7) = l := ⟨_, rfl⟩
  have hl1 : cs1.length = (n - k) * 7 := by rw [← hcs1, List.length_take, List.length_drop]; omega
  have hat1 : ∀ (j : Nat) v, cs1[j]? = some v → j < (n - k) * 7 ∧ cur[k * 7 + j]? = some v := fun j v hj => by
    have hjl : j < (n - k) * 7 := by have := (List.getElem?_eq_some_iff.1 hj).1; omega
    rw [← hcs1, List.getElem?_take, if_pos hjl, List.getElem?_drop] at hj
    exact ⟨hjl, by simpa using hj⟩
  have hgne : g ≠ w.heap.size := by omega
  have hW2 := setRow_heap W1 w.heap.size R c1.toArray 26 (0, 0) hW1h
  have hcp1 := fun ty dc sc => cpy_run (W1.setRow w.heap.size c1.toArray).drew w.heap.size ((k + 1) * 7) (n - k) dc ⟨g, k * 7, none⟩ (n - k) sc c1.toArray cs1 hW2 (by rw [hl1]; simp only [Nat.min_def]; split <;> omega) (fun j v hj => by
      rw [show (⟨g, k * 7, none⟩ : Addr).add j = at_ g (k * 7 + j) from at_add g _ j, at_, cell_of_row (W1.setRow w.heap.size c1.toArray).drew _ _ cur 26 (0, 0) ((setRow_other W1 _ _ _ hgne).trans ((hW1b.block g hgw).trans hg)), (hat1 j v hj).2]) (fun v hv' => by
      obtain ⟨j, hj⟩ := List.getElem?_of_mem hv'
      obtain ⟨a1, a2⟩ := hat1 j v hj
      exact h1 _ v (by omega) a2) (by simp only [List.size_toArray]; omega) ty
  simp only at hcp1
  obtain ⟨nw, hnw⟩ : ∃ l, (c1.take ((k + 1) * 7) ++ cs1 ++ c1.drop ((k + 1) * 7 + cs1.length)) = l := ⟨_, rfl⟩
  have hnl : nw.length = G * 7 := by rw [← hnw]; simp only [List.length_append, List.length_take, List.length_drop]; omega
  rw [hnw] at hcp1
  have hcont : ∀ j, j < (n + 1) * 7 → nw[j]? = (cs0 ++ cs2 ++ cs1)[j]? := fun j hj => by
    rw [← hnw]
    have ht1 : (c1.take ((k + 1) * 7)).length = (k + 1) * 7 := by rw [List.length_take]; omega
    have ht2 : (R.toList.take (k * 7)).length = k * 7 := by rw [List.length_take]; omega
    by_cases hA : j < k * 7
    · have L : (c1.take ((k + 1) * 7) ++ cs1 ++ c1.drop ((k + 1) * 7 + cs1.length))[j]? = cs0[j]? := by
        rw [List.append_assoc, List.getElem?_append_left (by omega), List.getElem?_take, if_pos (by omega), ← hc1, List.append_assoc, List.getElem?_append_left (by omega), List.getElem?_take, if_pos hA]
        have := hR0 j hA
        simpa using this
      rw [L, List.append_assoc, List.getElem?_append_left (by omega)]
    · by_cases hB : j < k * 7 + 7
      · have L : (c1.take ((k + 1) * 7) ++ cs1 ++ c1.drop ((k + 1) * 7 + cs1.length))[j]? = cs2[j - k * 7]? := by
          rw [List.append_assoc, List.getElem?_append_left (by omega), List.getElem?_take, if_pos (by omega), ← hc1, List.append_assoc, List.getElem?_append_right (by omega), ht2, List.getElem?_append_left (by omega)]
        rw [L, List.append_assoc, List.getElem?_append_right (by omega), hl0, List.getElem?_append_left (by omega)]
      · have L : (c1.take ((k + 1) * 7) ++ cs1 ++ c1.drop ((k + 1) * 7 + cs1.length))[j]? = cs1[j - (k + 1) * 7]? := by
          rw [List.append_assoc, List.getElem?_append_right (by omega), ht1, List.getElem?_append_left (by omega)]
        rw [L, List.append_assoc, List.getElem?_append_right (by omega), hl0, List.getElem?_append_right (by omega), hl2]
        congr 1
        omega
  have hw1 : IntKind.i64.wrap ((n : Int) + 1) = (n : Int) + 1 := by rw [IntKind.wrap_i64]; omega
  have hw2 : IntKind.i64.wrap ((k : Int) + 1) = (k : Int) + 1 := by rw [IntKind.wrap_i64]; omega
  have hw3 : IntKind.i64.wrap ((n : Int) + 1 - (k : Int)) = (n : Int) + 1 - (k : Int) := by rw [IntKind.wrap_i64]; omega
  have hkc : k ≤ c := by omega
  have hkn : k ≤ n := by omega
  have hb2 : ¬ (c = k) := by omega
  have hb3 : (0 : Int) ≤ (k : Int) + 1 := by omega
  have hb4 : (k : Int) ≤ (n : Int) + 1 := by omega
  have hGk : ¬ (G = k) := by omega
  have hGk1 : ¬ (G = k + 1) := by omega
  have hc0 : ¬ (c = 0) := by omega
  go_enter Try.func33, Try.ntmps33
  go_wp2_with (first | (at_builtin; refine wpList_append_runI _ rfl _ _ 22 3 rfl _ _ rfl rfl (hrz _) ?_) | (at_builtin; refine wpList_copy_runI _ rfl _ _ 22 22 rfl _ _ rfl rfl (hcp2 _ _) ?_))
  go_region_law_o (refine step_copy_runI rfl _ _ 22 22 rfl _ _ (by simp [Act.eval, Act.put]) (by simp [Act.eval, Act.put]) (hcp1 _ _ _) ?_)
  go_wp2
  go_ret
  refine ⟨G, nw.toArray, rfl, hge, hmx, by simp [hnl], fun j hj => by rw [List.getElem?_toArray, hcs0, hcs1, hcs2]; exact hcont j hj, ?_, ?_⟩
  · exact setRow_heap (W1.setRow w.heap.size c1.toArray).drew w.heap.size c1.toArray nw.toArray 26 (0, 0) hW2
  · refine hW1b.trans ?_
    refine Below.trans (below_setRow W1 (Nat.le_refl _) c1.toArray) ?_
    exact Below.trans (Below.refl _ _).drew (below_setRow (W1.setRow w.heap.size c1.toArray).drew (Nat.le_refl _) nw.toArray)
end Go.Proofs.Ytndabolfhhppkaa.Am
