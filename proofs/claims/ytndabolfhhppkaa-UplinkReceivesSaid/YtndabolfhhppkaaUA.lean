/- slices.Delete at rides: the library's own text, walked. No condition. -/
import Derived.Test.YtndabolfhhppkaaRen
import Derived.Shelf.RegionOpenPlain
import Derived.WalkKit
import Derived.Lib.Walk
import Derived.Lib.SliceRun
import Derived.Laws.IdiomCopy
import Derived.Lib.Overlaps
namespace Go.Proofs.Ytndabolfhhppkaa.Am
open Go Go.RowKit Go.Shelf Go.Lib

theorem under22 : Try.prog.underlying 22 = some (.slice 26) := by kernel_rfl
theorem size26 (w : World) : (sizeOf 26).run Try.prog w = .ok 7 w := by
  have h : szOf Try.prog 26 = some 7 := by kernel_rfl
  exact run_sizeOf h
theorem step_append_runI {P : Program} {ops : Array Oper} {o : Oper} {a : Act} {w : World} {K : Act → World → Prop} {Q : Exit → Act → World → Prop} {E : Prop}
    (hg : o.guard = none) (d x : Operand) (dT sT : TypeId) (hop : o.op = Op.call { callee := Callee.builtin Builtin.append, args := #[d, x], argTypes := #[dT, sT] })
    (v u : Value) (hd : a.eval d = v) (hx : a.eval x = u) {v' : Value} {w' : World} (hr : (Builtin.append_ #[dT, sT] o.type #[v, u]).run P w = .ok v' w') (hK : K (a.put o.dst v') w') :
    if Region.wanted o (yielded ops a.tmps) = true then Oper.wp P o a w K Q else E := by
  have hw : Region.wanted o (yielded ops a.tmps) = true := by simp [Region.wanted, hg]
  rw [if_pos hw]
  unfold Oper.wp
  simp [execOp, hop, resolve, invoke, builtin, hd, hx, hr, Result.andThen]
  exact hK
theorem wp_clear_runI {P : Program} (w : World) {o : Oper} {a : Act} {K : Act → World → Prop} {Q : Exit → Act → World → Prop} (x : Operand) (t : TypeId)
    (ho : o.op = .call { callee := .builtin .clear, args := #[x], argTypes := #[t] }) (v : Value) (hx : a.eval x = v) {v' : Value} {w' : World}
    (hr : (Builtin.clear_ #[t] o.type #[v]).run P w = .ok v' w') (h : K (a.put o.dst v') w') : o.wp P a w K Q := by
  unfold Oper.wp execOp
  simp only [ho, resolve, invoke, builtin, Sem.run_bind, Sem.run_pure, Result.andThen_ok, List.map_toArray, List.map_cons, List.map_nil, hx, hr]
  exact h
theorem wpList_clear_runI {P : Program} (w : World) {ops : Array Oper} {rest : List Oper} {o : Oper} {a : Act} {Q : Exit → Act → World → Prop} (hgd : o.guard = none) (x : Operand) (t : TypeId)
    (ho : o.op = .call { callee := .builtin .clear, args := #[x], argTypes := #[t] }) (v : Value) (hx : a.eval x = v) {v' : Value} {w' : World}
    (hr : (Builtin.clear_ #[t] o.type #[v]).run P w = .ok v' w') (h : wpList P ops Q rest (a.put o.dst v') w') : wpList P ops Q (o :: rest) a w :=
  wpList_plain hgd fun _ hK => wp_clear_runI w x t ho v hx hr (hK _ _ h)
theorem at_zero (g : Nat) : (⟨g, 0, none⟩ : Addr).add 0 = ⟨g, 0, none⟩ := rfl
abbrev zRide : Value := .agg #[.int .i64 0, .int .i64 0, .int .i64 0, .int .i64 0, .int .i64 0, .int .i64 0, .int .i64 0]
theorem info26' : (Try.prog.info? 26).map (fun i => (i.zero, i.size, i.bytes)) = some (some zRide, 7, 56) := by kernel_rfl
theorem info26 : ∃ i, Try.prog.info? 26 = some i ∧ i.zero = some zRide ∧ i.size = 7 ∧ i.bytes = 56 := info_parts info26'
theorem setRow_twice (W : World) (g : Nat) (x y : Array Value) : (W.setRow g x).setRow g y = W.setRow g y := by
  unfold World.setRow
  congr 1
  apply Array.ext_getElem?
  intro i
  simp only [Array.getElem?_modify]
  by_cases h : g = i
  · subst h
    simp only [if_true]
    cases W.heap[g]? with
    | none => rfl
    | some o => cases o <;> rfl
  · simp [h]
theorem ones_zero : ∀ y ∈ zRide.cells.toList, y.oneCell' = true := by
  intro y hy
  simp [Value.cells] at hy
  subst hy; rfl
theorem clr_run (W : World) (g o n c : Nat) (cur : Array Value) (hg : W.heap[g]? = some (.cells cur 26 (0, 0))) (hn : 0 < n) (ho : o * 7 + n * 7 ≤ cur.size) :
    ∃ nw : Array Value, nw.size = cur.size ∧ (∀ j, j < o * 7 → nw[j]? = cur[j]?) ∧ ∀ ty, (Builtin.clear_ #[22] ty #[.slice (some ⟨g, o * 7, none⟩) n c]).run Try.prog W = .ok (.tuple #[]) (W.setRow g nw) := by
  obtain ⟨i, hi, hz, hsz, hby⟩ := info26
  have hzs : (Builtin.zeroCells zRide.cells n).toList = (List.replicate n zRide.cells.toList).flatten := zeros_list zRide.cells n
  have hzl : ((List.replicate n zRide.cells.toList).flatten).length = n * 7 := by simp [Value.cells]
  have hones : ∀ y ∈ (List.replicate n zRide.cells.toList).flatten, y.oneCell' = true := fun y hy => by
    obtain ⟨r, hr, hy⟩ := List.mem_flatten.1 hy
    rw [List.eq_of_mem_replicate hr] at hy
    exact ones_zero y hy
  have hs := run_storeCells_at Try.prog g (o * 7) 26 _ 0 cur W hg (by rw [hzl]; omega) hones
  simp only [Nat.add_zero] at hs
  obtain ⟨L, hL⟩ : ∃ L, (cur.toList.take (o * 7) ++ (List.replicate n zRide.cells.toList).flatten ++ cur.toList.drop (o * 7 + ((List.replicate n zRide.cells.toList).flatten).length)) = L := ⟨_, rfl⟩
  rw [hL] at hs
  refine ⟨L.toArray, ?_, fun j hj => ?_, fun ty => ?_⟩
  · have : cur.toList.length = cur.size := rfl
    rw [← hL]
    simp only [List.size_toArray, List.length_append, List.length_take, List.length_drop, hzl]
    omega
  · have : cur.toList.length = cur.size := rfl
    rw [List.getElem?_toArray, ← hL, List.append_assoc, List.getElem?_append_left (by rw [List.length_take]; omega), List.getElem?_take, if_pos hj]
    simp
  · obtain ⟨d, hd⟩ : ∃ d, n = d + 1 := ⟨n - 1, by omega⟩
    subst hd
    have hzv : (zeroValue 26).run Try.prog W = .ok zRide W := by
      simp [zeroValue, typeInfo, hi, hz]
    simp only [Builtin.clear_, List.getElem?_toArray]
    simp [run_underlying under22, hzv, hzs]
    rw [hs]
    rfl
theorem app_run (W : World) (g a m cap o c : Nat) (cur : Array Value) (hg : W.heap[g]? = some (.cells cur 26 (0, 0))) (hcs : cur.size = cap * 7) (hroom : a + m ≤ cap) (ho : o + m * 7 ≤ cur.size)
    (h1 : ∀ (j : Nat) v, o ≤ j → j < o + m * 7 → cur[j]? = some v → v.oneCell' = true) :
    ∃ nw : Array Value, nw.size = cap * 7 ∧ (∀ j, j < (a + m) * 7 → nw[j]? = (cur.toList.take (a * 7) ++ (cur.toList.drop o).take (m * 7))[j]?) ∧
      ∀ ty, (Builtin.append_ #[22, 22] ty #[.slice (some ⟨g, 0, none⟩) a cap, .slice (some ⟨g, o, none⟩) m c]).run Try.prog W = .ok (.slice (some ⟨g, 0, none⟩) (a + m) cap) (W.setRow g nw) := by
  obtain ⟨i, hi, hz, hsz, hby⟩ := info26
  have hcl : cur.toList.length = cap * 7 := hcs
  have hnl : ((cur.toList.drop o).take (m * 7)).length = m * 7 := by rw [List.length_take, List.length_drop]; omega
  have hat : ∀ (j : Nat) u, ((cur.toList.drop o).take (m * 7))[j]? = some u → j < m * 7 ∧ cur[o + j]? = some u := fun j u hj => by
    have hjl : j < m * 7 := by have := (List.getElem?_eq_some_iff.1 hj).1; omega
    rw [List.getElem?_take, if_pos hjl, List.getElem?_drop] at hj
    exact ⟨hjl, by simpa using hj⟩
  have hr := run_append_room (P := Try.prog) W 22
  refine ⟨(cur.toList.take (a * 7) ++ (cur.toList.drop o).take (m * 7) ++ cur.toList.drop (a * 7 + ((cur.toList.drop o).take (m * 7)).length)).toArray, ?_, fun j hj => ?_, fun ty => ?_⟩
  · simp only [List.size_toArray, List.length_append, List.length_take, List.length_drop]
    omega
  · rw [List.getElem?_toArray, List.getElem?_append_left (by rw [List.length_append, hnl, List.length_take]; omega)]
  · have := hr ty 26 i under22 hi g a cap cur hg ⟨g, o, none⟩ m c _ (by rw [hsz]; exact hnl) (fun j u hj => by
      obtain ⟨_, h2⟩ := hat j u hj
      rw [show (⟨g, o, none⟩ : Addr).add j = at_ g (o + j) from at_add g o j, at_, cell_of_row W _ _ cur _ (0, 0) hg, h2]) (fun u hu => by
      obtain ⟨j, hj⟩ := List.getElem?_of_mem hu
      obtain ⟨h3, h2⟩ := hat j u hj
      exact h1 _ u (by omega) (by omega) h2) hroom (by rw [hsz, hnl, hcs]; omega)
    rw [hsz] at this
    exact this
set_option maxHeartbeats 4000000 in
set_option maxRecDepth 100000 in
theorem del_calls (w : World) (g n cap a b : Nat) (cur : Array Value) (hab : a < b) (hbn : b ≤ n) (hnc : n ≤ cap) (hcm : cap ≤ 9223372036854775807) (hg : w.heap[g]? = some (.cells cur 26 (0, 0))) (hcs : cur.size = cap * 7)
    (h1 : ∀ (j : Nat) v, j < n * 7 → cur[j]? = some v → v.oneCell' = true) :
    Calls Try.prog 34 #[.slice (some ⟨g, 0, none⟩) n cap, .int .i64 a, .int .i64 b] w fun e w' =>
      e = .returned (.slice (some ⟨g, 0, none⟩) (a + (n - b)) cap) ∧ ∃ nw : Array Value, nw.size = cap * 7 ∧ (∀ j, j < (a + (n - b)) * 7 → nw[j]? = (cur.toList.take (a * 7) ++ (cur.toList.drop (b * 7)).take ((n - b) * 7))[j]?) ∧ Below w.heap.size (w.setRow g nw) w' := by
  have u22 := run_underlying (P := Try.prog) under22
  have z26 := size26
  obtain ⟨i, hi, hz, hsz, hby⟩ := info26
  have hne : ¬ ((a : Int) = (b : Int)) := by omega
  have hc0 : ¬ (cap = 0) := by omega
  have mixed : Try.prog.follows .mixedOrders = true := by kernel_rfl
  have hac : a ≤ cap := by omega
  have hlen : a + (n - b) ≤ n := by omega
  by_cases hcb : cap = b
  · have hnb : n = cap := by omega
    subst hcb
    subst hnb
    have happ := app_run w.drew g a 0 n 0 0 cur hg hcs (by omega) (by omega) (fun j v _ hj hv => absurd hj (by omega))
    obtain ⟨nw1, e1, e2, happ⟩ := happ
    rw [Nat.add_zero] at e2 happ
    have hk1 : ¬ (n = a) := by omega
    have hclr : ∃ nw : Array Value, nw.size = n * 7 ∧ (∀ j, j < a * 7 → nw[j]? = nw1[j]?) ∧
        ∀ ty, (Builtin.clear_ #[22] ty #[.slice (some ⟨g, a * 7, none⟩) (n - a) (n - a)]).run Try.prog (w.drew.setRow g nw1) = .ok (.tuple #[]) ((w.drew.setRow g nw1).setRow g nw) := by
      have := clr_run (w.drew.setRow g nw1) g a (n - a) (n - a) nw1 (setRow_heap w.drew g cur nw1 26 (0, 0) hg) (by omega) (by omega)
      rwa [e1] at this
    obtain ⟨nw, e3, e4, hclr⟩ := hclr
    go_enter Try.func34, Try.ntmps34
    go_wp2
    go_region_law_o (refine step_append_runI rfl _ _ 22 22 rfl _ _ (by simp [Act.eval, Act.put]) (by simp [Act.eval, Act.put]) (happ _) ?_)
    go_wp2_with (at_builtin; refine wpList_clear_runI _ rfl _ 22 rfl _ rfl (hclr _) ?_)
    go_ret
    refine ⟨by simp, nw, e3, fun j hj => ?_, ?_⟩
    · simp only [Nat.sub_self, Nat.add_zero] at hj ⊢
      rw [e4 j hj, e2 j hj]
      simp
    · rw [setRow_twice]
      exact (Below.refl _ _).drew
  have happ : ∃ nw1 : Array Value, nw1.size = cap * 7 ∧ (∀ j, j < (a + (n - b)) * 7 → nw1[j]? = (cur.toList.take (a * 7) ++ (cur.toList.drop (b * 7)).take ((n - b) * 7))[j]?) ∧
      ∀ ty, (Builtin.append_ #[22, 22] ty #[.slice (some ⟨g, 0, none⟩) a cap, .slice (some ⟨g, b * 7, none⟩) (n - b) (cap - b)]).run Try.prog w.drew = .ok (.slice (some ⟨g, 0, none⟩) (a + (n - b)) cap) (w.drew.setRow g nw1) :=
    app_run w.drew g a (n - b) cap (b * 7) (cap - b) cur hg hcs (by omega) (by omega) (fun j v _ hj hv => h1 j v (by omega) hv)
  obtain ⟨nw1, e1, e2, happ⟩ := happ
  have hk1 : ¬ (cap = a + (n - b)) := by omega
  have hk2 : n ≤ cap := hnc
  have hclr : ∃ nw : Array Value, nw.size = cap * 7 ∧ (∀ j, j < (a + (n - b)) * 7 → nw[j]? = nw1[j]?) ∧
      ∀ ty, (Builtin.clear_ #[22] ty #[.slice (some ⟨g, (a + (n - b)) * 7, none⟩) (n - (a + (n - b))) (cap - (a + (n - b)))]).run Try.prog (w.drew.setRow g nw1) = .ok (.tuple #[]) ((w.drew.setRow g nw1).setRow g nw) := by
    have := clr_run (w.drew.setRow g nw1) g (a + (n - b)) (n - (a + (n - b))) (cap - (a + (n - b))) nw1 (setRow_heap w.drew g cur nw1 26 (0, 0) hg) (by omega) (by omega)
    rwa [e1] at this
  obtain ⟨nw, e3, e4, hclr⟩ := hclr
  go_enter Try.func34, Try.ntmps34
  go_wp2
  go_region_law_o (refine step_append_runI rfl _ _ 22 22 rfl _ _ (by simp [Act.eval, Act.put]) (by simp [Act.eval, Act.put]) (happ _) ?_)
  go_wp2_with (at_builtin; refine wpList_clear_runI _ rfl _ 22 rfl _ rfl (hclr _) ?_)
  go_ret
  refine ⟨rfl, nw, e3, fun j hj => by rw [e4 j hj, e2 j hj], ?_⟩
  rw [setRow_twice]
  exact (Below.refl _ _).drew
end Go.Proofs.Ytndabolfhhppkaa.Am
