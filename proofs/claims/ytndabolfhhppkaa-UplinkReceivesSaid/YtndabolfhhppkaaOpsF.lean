/- One operation, on: rows of a length made, appended to, cut. No condition. -/
import Derived.Test.YtndabolfhhppkaaOpsE
import Derived.Laws.OwnMore
import Derived.Laws.Slices
namespace Go.Proofs.Ytndabolfhhppkaa.Am
open Go Go.RowKit
variable {P : Program} {γ : Gh} {μ : Mu} {w : World} {nt : Nat} {D : List Nat} {fr : Fr} {a : Act}

theorem nat_relI {x : FV} {v : Value} {k : Nat} (h : FR γ μ w x v) (hn : nat? x = some k) : ∃ q, v = .int q (k : Int) := by
  obtain ⟨q, e⟩ := nat_rel h hn
  exact ⟨q, e⟩
theorem smallT_spec {e : TypeId} {i : TypeInfo} (h : smallT P e = true) (hi : P.info? e = some i) : i.bytes ≤ 4096 := by
  unfold smallT at h
  rw [hi] at h
  simpa using h
theorem sameN_eval {l c : Operand} (h : sameN l c = true) : a.eval l = a.eval c := by
  unfold sameN at h
  split at h
  · simp at h; subst h; rfl
  · simp at h; subst h; rfl
  · cases h
theorem madeCells_list {u : Array Value} {n sz : Nat} (h : u.size = sz) : (madeCells u (n * sz)).toList = (List.replicate n u.toList).flatten := by
  subst h
  exact zeros_list u n
theorem sim_mks {t e : TypeId} {z : Nat} {zero : List Cell} {l c : Operand} {l' : Opd} {v : FV} {μ' : Mu} {d : Nat} (hf : AFR γ μ w nt fr a) (m : MR γ μ w) (tm : Tm μ D) (hd : d ∉ D)
    (hU : sliceT P t = some e) (hz : szOf P e = some z) (h0 : (zeroOf P e).bind (zeroD (datSh P e)) = some zero) (hzl : zero.length = z) (hs : smallT P e = true) (hlc : sameN l c = true) (hl : opdOf l = some l')
    (ha : aop (.mks e z zero l') (μ.t, d) fr μ = some (v, μ')) : OpOk γ μ w (d :: D) ((do pure (Next.value (← Instr.makeSlice t (a.eval l) (a.eval c))) : Sem Next).run P w) v μ' := by
  rw [← sameN_eval hlc]
  have h1 := opd_rel hf hl
  simp only [aop] at ha
  cases hn : nat? (opd fr l') with
  | none => rw [hn] at ha; simp at ha
  | some n =>
    rw [hn] at ha
    simp only [Option.bind_some] at ha
    split at ha
    · rename_i hlim
      injection ha with ha; injection ha with e1 e2; subst e1; subst e2
      obtain ⟨q, hq⟩ := nat_relI h1 hn
      obtain ⟨u, hu, hdu, hus⟩ := zeroD_spec (P := P) (w := w) (st := γ.st) hz h0 hzl
      obtain ⟨i, hi, hsz, hne⟩ := szOf_spec hz
      have hb := smallT_spec hs hi
      have hzv : i.zero = some u := by
        cases hz' : i.zero with
        | none => simp [zeroValue, typeInfo, hi, hz', unsupported] at hu
        | some u' => simp [zeroValue, typeInfo, hi, hz'] at hu; rw [hu]
      have hlim' : n ≤ 4294967296 := hlim
      have hrun := run_make (P := P) w t e i u (sliceT_spec hU) hi hzv q q (n : Int) (n : Int) (by omega) (by omega) (by have : i.bytes * n ≤ 4096 * 4294967296 := Nat.mul_le_mul hb hlim'; omega) (by omega)
      rw [hq, Sem.run_bind, hrun]
      simp only [Result.andThen_ok, Sem.run_pure, Int.toNat_natCast, hsz]
      have := newArr_ok (e := e) (sz := z) (cap := n) (xs := List.replicate n zero) (cur := madeCells u.cells (n * z)) (sto := true) (old := []) m tm hd (below_alloc w _) (heap_alloc_new w _) (fun x hx => by rw [List.eq_of_mem_replicate hx]; exact hzl) (by omega) (by simp) (by simp only [maxLen]; omega)
        (by have := congrArg List.length (madeCells_list (n := n) hus); simp at this; rw [this]; simp [hus])
        (fun j x hj => by
          obtain ⟨v, hv, hdr⟩ := LR.get (replicate_rel hdu n) hj
          refine ⟨v, ?_, hdr⟩
          rw [← madeCells_list hus] at hv
          simpa using hv)
      simpa [at_] using this
    · cases ha

/-! ### Appended to -/
theorem MR.tail (m : MR γ μ w) {i : Id} {q : Arr} {g cap : Nat} {cur nw : Array Value} (hqz : 0 < q.sz) (hi : μ.arr i = some q) (hap : μ.app i = true) (hn : γ.nu i = .slice (some (at_ g 0)) q.xs.length cap) (hlo : γ.lo ≤ g) (hg : w.heap[g]? = some (.cells cur q.e (0, 0))) (hc : cap ≠ 0) (hcur : cur.size = cap * q.sz)
    (hst : ∀ o, q.xs.length * q.sz ≤ o → ¬ γ.st g o) (hsz : nw.size = cur.size) (hpre : ∀ o, o < q.xs.length * q.sz → nw[o]? = cur[o]?) : MR γ μ (w.setRow g nw) ∧ Ext γ μ w γ μ (w.setRow g nw) := by
  have hblk : blk (γ.nu i) = some g := by rw [hn]; simp only [blk]; rw [if_neg hc]; rfl
  have hisome : (μ.arr i).isSome = true := by rw [hi]; rfl
  have hnew := setRow_heap w g cur nw q.e (0, 0) hg
  have e : Ext γ μ w γ μ (w.setRow g nw) := by
    refine ⟨rfl, fun b o h => ⟨h, ?_⟩, fun _ _ h => .inl h, below_setRow w hlo nw, fun _ h => ⟨h, rfl⟩, fun _ a h => ⟨rfl, a, h, .inr ⟨rfl, rfl, rfl⟩⟩, fun _ h => ⟨h, rfl⟩⟩
    by_cases hb : b = g
    · subst hb
      have ho : o < q.xs.length * q.sz := by
        apply Classical.byContradiction
        intro hno
        exact hst o (by omega) h
      rw [at_, cell_of_row _ _ _ nw _ (0, 0) hnew, cell_of_row w _ _ cur _ (0, 0) hg]
      exact hpre o ho
    · exact cell_setRow_other w g nw (at_ b o) hb
  refine ⟨⟨by rw [setRow_size]; exact m.lo, fun b o h => by rw [setRow_size]; exact m.stlt b o h, fun j cs hj => ?_, fun j b hj => ?_, m.bb, m.ba, m.aa, m.sa, m.mm.keep rfl rfl fun b en c h => map_setRow hg en c h⟩, e⟩
  · obtain ⟨l1, l2, us, T', l3, l4⟩ := m.box j cs hj
    have hne : γ.be j ≠ g := m.ba j i g (by rw [hj]; rfl) hisome hblk
    exact ⟨l1, l2, us, T', (setRow_other w _ _ _ hne).trans l3, l4.ext e⟩
  · rcases m.arr j b hj with hd | ⟨k1, k2, k3⟩
    · exact .inl (hd.keep rfl (Nat.le_of_eq (setRow_size ..).symm))
    refine .inr ⟨k1, k2, k3.imp id ?_⟩
    rintro ⟨g', cap', cur', n1, n2, n3, n4, n5, n6, n7, n8⟩
    by_cases hgg : g' = g
    · subst hgg
      have hcc : cur = cur' ∧ q.e = b.e := by rw [hg] at n3; injection n3 with n3; injection n3 with n3 n3'; exact ⟨n3, n3'⟩
      obtain ⟨rfl, hee⟩ := hcc
      refine ⟨g', cap', nw, n1, n2, by rw [← hee]; exact hnew, n4, n5, by rw [hsz]; exact n6, fun p c hp => ?_, n8⟩
      obtain ⟨v, hv, hd⟩ := n7 p c hp
      refine ⟨v, ?_, hd.keep e.st⟩
      rw [hpre p ?_]; exact hv
      have hpl : p < b.xs.flatten.length := (List.getElem?_eq_some_iff.1 hp).1
      rw [flatten_len k1] at hpl
      by_cases hji : j = i
      · subst hji; rw [hi] at hj; injection hj with hj; subst hj; exact hpl
      · have hc' : cap' ≠ 0 := by
          intro h; subst h
          rw [hcur] at n6
          rcases Nat.mul_eq_zero.1 (by simpa using n6) with h | h <;> omega
        have := (m.aa i j q b g' hi hj (Ne.symm hji) hblk (by rw [n1]; simp only [blk]; rw [if_neg hc']; rfl)).1 hap
        rcases this.2.2 with e2 | e2
        · rw [e2] at hpl
          exact Nat.lt_of_lt_of_le hpl (Nat.mul_le_mul_right _ this.1)
        · rw [e2] at hpl; simp at hpl
    · exact ⟨g', cap', cur', n1, n2, (setRow_other w _ _ _ hgg).trans n3, n4, n5, n6, fun p c hp => (n7 p c hp).imp fun v hv => ⟨hv.1, hv.2.keep e.st⟩, n8⟩
theorem run_append_nothing {t ty e : TypeId} {i : TypeInfo} {A X : Option Addr} {n c cx : Nat} (ht : P.underlying t = some (.slice e)) (hi : P.info? e = some i) (hn : n ≤ c) :
    (Builtin.append_ #[t, t] ty #[.slice A n c, .slice X 0 cx]).run P w = .ok (.slice A n c) w := by
  have hs : ∀ b : Addr, (storeCells b []).run P w = .ok () w := fun b => by simp [storeCells]
  cases X <;> cases A <;> simp [Builtin.append_, run_underlying ht, sizeOf, typeInfo, hi, Builtin.lenOf, hn, Builtin.firstCells, loadCells, loadCellsFrom, hs]
theorem below_drew_alloc (w : World) (o : Obj) : Below w.heap.size w (w.drew.alloc o) := (Below.refl _ w).drew.alloc (Nat.le_refl _) o
theorem row_rel {d e z : Nat} {xs : List (List Cell)} {sto : Bool} {old : List Id} {v : Value} : FR { γ with nu := upd γ.nu (μ.t, d) v } (mkRow μ (μ.t, d) ⟨e, z, xs⟩ sto old) w (.v (.c (.own (μ.t, d)))) v := by
  have hsome : ((mkRow μ (μ.t, d) ⟨e, z, xs⟩ sto old).arr (μ.t, d)).isSome = true := by simp [mkRow, upd_same]
  have := CR.own (γ := { γ with nu := upd γ.nu (μ.t, d) v }) (w := w) hsome
  simpa [upd_same, FR, VR] using this
theorem MR.appRow (m : MR γ μ w) {i k : Id} {q : Arr} {g cap : Nat} {nw : Array Value} {ys : List (List Cell)} (hk : μ.arr k = none) (hi : μ.arr i = some q) (hap : μ.app i = true) (hn : γ.nu i = .slice (some (at_ g 0)) q.xs.length cap) (hlo : γ.lo ≤ g) (hg : w.heap[g]? = some (.cells nw q.e (0, 0)))
    (hlen : (q.xs ++ ys).length ≤ cap) (hcm : cap ≤ maxLen) (hsz : nw.size = cap * q.sz) (hr : ∀ r ∈ q.xs ++ ys, r.length = q.sz) (hqz : 0 < q.sz)
    (hc : ∀ (j : Nat) (x : Cell), (q.xs ++ ys).flatten[j]? = some x → ∃ v : Value, nw[j]? = some v ∧ DR γ.st w x v) (hst : ∀ o, q.xs.length * q.sz ≤ o → ¬ γ.st g o) :
    MR { γ with nu := upd γ.nu k (.slice (some (at_ g 0)) (q.xs ++ ys).length cap) } (mkRow μ k ⟨q.e, q.sz, q.xs ++ ys⟩ q.xs.isEmpty [i]) w ∧ Ext γ μ w { γ with nu := upd γ.nu k (.slice (some (at_ g 0)) (q.xs ++ ys).length cap) } (mkRow μ k ⟨q.e, q.sz, q.xs ++ ys⟩ q.xs.isEmpty [i]) w := by
  have hbv : ∀ g', blk (.slice (some (at_ g 0)) (q.xs ++ ys).length cap) = some g' → g' = g ∧ cap ≠ 0 := fun g' h => by
    simp only [blk] at h
    split at h
    · cases h
    · rename_i hc0; injection h with h; exact ⟨h.symm, hc0⟩
  have hblk : cap ≠ 0 → blk (γ.nu i) = some g := fun hc => by rw [hn]; simp only [blk]; rw [if_neg hc]; rfl
  have hisome : (μ.arr i).isSome = true := by rw [hi]; rfl
  have hmul : q.xs.length * q.sz ≤ (q.xs ++ ys).length * q.sz := Nat.mul_le_mul_right _ (by simp)
  refine m.addArr hk ⟨hr, hqz, .inr ⟨g, cap, nw, upd_same _ _ _, hlo, hg, hlen, hcm, hsz, hc, fun _ o ho => hst o (Nat.le_trans hmul ho), fun hs o => hst o ?_⟩⟩ (fun j g' hj hg' => ?_) (fun j b g' hj hg' hn' => ?_)
  · simp [mkRow] at hs
    simp [hs]
  · obtain ⟨rfl, hc0⟩ := hbv g' hg'
    exact m.ba j i g' hj hisome (hblk hc0)
  · obtain ⟨rfl, hc0⟩ := hbv g' hg'
    by_cases hji : j = i
    · subst hji
      rw [hi] at hj; injection hj with hj; subst hj
      exact ⟨⟨by simp, fun _ => by simp, .inl rfl⟩, fun h => by simpa using h, fun _ => by simp⟩
    · obtain ⟨g1, g2⟩ := m.aa i j q b g' hi hj (Ne.symm hji) (hblk hc0) hn'
      obtain ⟨k1, k2, k3⟩ := g1 hap
      refine ⟨⟨by simp only [List.length_append]; omega, (fun h => by rw [k2] at h; cases h), k3⟩, fun h => ?_, fun h => ?_⟩
      · have : q.xs = [] := by simpa using h
        rw [this] at k1
        exact List.eq_nil_of_length_eq_zero (by simpa using k1)
      · have := m.sa j h
        rw [k2] at this; cases this
theorem new_rel {b o n z : Nat} {ys : List (List Cell)} {vs : Nat → Value} (hr : ∀ r ∈ ys, r.length = z) (hv : ∀ (j : Nat) (y : Cell), ys.flatten[j]? = some y → w.cell? (at_ b (o + j)) = some (vs j) ∧ DR γ.st w y (vs j)) (hn : n = ys.length * z) :
    ((List.range n).map vs).length = n ∧ (∀ j u, ((List.range n).map vs)[j]? = some u → w.cell? ((at_ b o).add j) = some u) ∧ (∀ u ∈ (List.range n).map vs, u.oneCell' = true) ∧ DRs γ.st w ys.flatten ((List.range n).map vs) := by
  subst hn
  have hl : ys.flatten.length = ys.length * z := flatten_len hr
  refine ⟨by simp, fun j u hj => ?_, fun u hu => ?_, by simp [hl], fun j c v hc hv' => ?_⟩
  · have hjl : j < ys.length * z := by have := (List.getElem?_eq_some_iff.1 hj).1; simpa using this
    have hy : ys.flatten[j]? = some (ys.flatten[j]'(by omega)) := List.getElem?_eq_getElem _
    rw [at_add, (hv j _ hy).1]
    simp [List.getElem?_map, List.getElem?_range hjl] at hj
    rw [hj]
  · obtain ⟨j, hj, rfl⟩ := List.mem_map.1 hu
    have hjl : j < ys.length * z := by simpa using hj
    exact (hv j _ (List.getElem?_eq_getElem (by omega))).2.oneCell
  · have hjl : j < ys.length * z := by have := (List.getElem?_eq_some_iff.1 hc).1; omega
    simp [List.getElem?_map, List.getElem?_range hjl] at hv'
    subst hv'
    exact (hv j c hc).2
theorem sim_app {t ty e : TypeId} {z : Nat} {s x : Operand} {s' x' : Opd} {v : FV} {μ' : Mu} {d : Nat} (hf : AFR γ μ w nt fr a) (m : MR γ μ w) (tm : Tm μ D) (hd : d ∉ D)
    (hU : sliceT P t = some e) (hz : szOf P e = some z) (hsm : smallT P e = true) (hzv : (((P.info? e).bind (·.zero)).map fun u => u.cells.size) = szOf P e) (hs : opdOf s = some s') (hx : opdOf x = some x')
    (ha : aop (.app e z s' x') (μ.t, d) fr μ = some (v, μ')) : OpOk γ μ w (d :: D) ((do pure (Next.value (← Builtin.append_ #[t, t] ty #[a.eval s, a.eval x])) : Sem Next).run P w) v μ' := by
  have h1 := opd_rel hf hs
  have h2 := opd_rel hf hx
  obtain ⟨i, hi, hsz, hne⟩ := szOf_spec hz
  have hb := smallT_spec hsm hi
  obtain ⟨u, hu, hus⟩ : ∃ u, i.zero = some u ∧ u.cells.size = z := by
    rw [hi, hz] at hzv
    exact some_pair hzv
  simp only [aop] at ha
  cases hbase : baseOf μ e z (opd fr s') with
  | none => rw [hbase] at ha; simp at ha
  | some b =>
  rw [hbase] at ha
  simp only [Option.bind_some] at ha
  cases hel : elems μ z (opd fr x') with
  | none => rw [hel] at ha; simp at ha
  | some ys =>
  rw [hel] at ha
  simp only [Option.bind_some] at ha
  split at ha
  case isFalse => cases ha
  rename_i hlim
  injection ha with ha; injection ha with e1 e2; subst e1; subst e2
  have hlim' : b.1.length + ys.length ≤ 4294967296 := hlim
  obtain ⟨X, cx, hxv, hxc, hyr, hcm, hyc⟩ := elems_rel m h2 hel
  -- the base: nothing, or a row of one's own
  have hB : (∃ A, a.eval s = .slice A 0 0 ∧ b.1 = [] ∧ (∀ j ∈ b.2, ∃ q, μ.arr j = some q ∧ γ.nu j = .slice A 0 0) ) ∨
      (∃ (i : Id) (q : Arr) (g cap : Nat) (cur : Array Value), b = (q.xs, [i]) ∧ μ.arr i = some q ∧ μ.app i = true ∧ q.e = e ∧ q.sz = z ∧ a.eval s = γ.nu i ∧ γ.nu i = .slice (some (at_ g 0)) q.xs.length cap ∧ γ.lo ≤ g ∧ w.heap[g]? = some (.cells cur q.e (0, 0)) ∧ q.xs.length ≤ cap ∧ cap ≤ maxLen ∧ cur.size = cap * q.sz ∧
        (∀ (j : Nat) (x : Cell), q.xs.flatten[j]? = some x → ∃ v : Value, cur[j]? = some v ∧ DR γ.st w x v) ∧ (∀ o, q.xs.length * q.sz ≤ o → ¬ γ.st g o) ∧ ∀ r ∈ q.xs, r.length = q.sz) := by
    unfold baseOf at hbase
    split at hbase
    · rename_i hopd
      injection hbase with hbase; subst hbase
      rw [hopd] at h1
      generalize a.eval s = vs at h1
      cases h1 with
      | z h => cases h with
        | dat h => cases h
        | nil => exact .inl ⟨_, rfl, rfl, by simp⟩
    · rename_i j hopd
      rw [hopd] at h1
      cases hj : μ.arr j with
      | none => rw [hj] at hbase; simp at hbase
      | some q =>
        rw [hj] at hbase
        simp only [Option.bind_some] at hbase
        split at hbase
        · rename_i hc
          injection hbase with hbase; subst hbase
          have hev : a.eval s = γ.nu j := by
            generalize a.eval s = vs at h1
            cases h1 with
            | z h => cases h with
              | dat h => cases h
            | own _ => rfl
          obtain ⟨k1, k2, k3⟩ := m.liv hj (by rw [hc.2.2]; obtain ⟨_, _, _, h0⟩ := szOf_spec hz; exact h0)
          rcases k3 with ⟨A, k3, k4⟩ | ⟨g, cap, cur, n1, n2, n3, n4, n5, n6, n7, n8, n9⟩
          · exact .inl ⟨A, by rw [hev, k3], k4, fun i' hi' => by simp at hi'; subst hi'; exact ⟨q, hj, k3⟩⟩
          · exact .inr ⟨j, q, g, cap, cur, rfl, hj, hc.1, hc.2.1, hc.2.2, hev, n1, n2, n3, n4, n5, n6, n7, n8 hc.1, k1⟩
        · cases hbase
    · cases hbase
  have hnewd := (tm.fresh hd).2
  have grown : ∀ {olds news : List Value} {cap : Nat} {oz : Array Value}, DRs γ.st w b.1.flatten olds → DRs γ.st w ys.flatten news → (∀ r ∈ b.1, r.length = z) → (b.1 ++ ys).length ≤ cap → cap ≤ maxLen → (olds.toArray ++ news.toArray ++ oz).size = cap * z →
      OpOk γ μ w (d :: D) (.ok (.value (.slice (some (at_ w.heap.size 0)) (b.1 ++ ys).length cap)) (w.drew.alloc (.cells (olds.toArray ++ news.toArray ++ oz) e))) (.v (.c (.own (μ.t, d)))) (mkRow μ (μ.t, d) ⟨e, z, b.1 ++ ys⟩ b.1.isEmpty b.2) := by
    intro olds news cap oz ho hnw hbr hle hcm hsz
    refine newArr_ok m tm hd (below_drew_alloc w _) (heap_alloc_new w.drew _) (fun r hr => ?_) (by omega) hle hcm hsz (fun j x hj => ?_)
    · rcases List.mem_append.1 hr with h | h
      · exact hbr r h
      · exact hyr r h
    · rw [List.flatten_append] at hj
      obtain ⟨v, hv, hd⟩ := LR.get (LR.append ho hnw) hj
      refine ⟨v, ?_, hd⟩
      have hvl : j < (olds ++ news).length := (List.getElem?_eq_some_iff.1 hv).1
      rw [Array.getElem?_append_left (by simpa using hvl)]
      simpa using hv
  have hby : ∀ k, k ≤ 4294967296 → k * i.bytes ≤ 140737488355328 := fun k hk => by
    have : k * i.bytes ≤ 4294967296 * 4096 := Nat.mul_le_mul hk hb
    omega
  rw [Sem.run_bind]
  rcases Nat.eq_zero_or_pos ys.length with hy0 | hy0
  · -- nothing is appended
    have hys : ys = [] := List.eq_nil_of_length_eq_zero hy0
    subst hys
    rw [hxv]
    rcases hB with ⟨A, hA, hb1, hb2⟩ | ⟨j, q, g, cap, cur, hbq, hj, hap, rfl, rfl, hev, hn, hlo, hg, hle, hcm', hcs, hcc, hst, hqr⟩
    · rw [hA, List.length_nil, run_append_nothing (sliceT_spec hU) hi (Nat.le_refl _)]
      obtain ⟨m2, e2⟩ := m.addArr (i := (μ.t, d)) (q := ⟨e, z, b.1 ++ []⟩) (v := .slice A 0 0) (sto := b.1.isEmpty) (old := b.2) hnewd
        ⟨by rw [hb1]; simp, by show 0 < z; omega, .inl ⟨A, upd_same _ _ _, by rw [hb1]; rfl⟩⟩ (fun j g hj hg => by cases A <;> simp [blk] at hg) (fun j b g hj hg => by cases A <;> simp [blk] at hg)
      exact ⟨_, _, _, .inl rfl, row_rel, m2, e2, tm.mkRow, rfl⟩
    · subst hbq
      rw [hev, hn, List.length_nil, run_append_nothing (sliceT_spec hU) hi hle]
      obtain ⟨m2, e2⟩ := m.appRow (ys := []) hnewd hj hap hn hlo hg (by simpa using hle) hcm' hcs (by simpa using hqr) (by omega) (by simpa using hcc) hst
      simp only [List.append_nil] at m2 e2 ⊢
      exact ⟨_, _, _, .inl rfl, row_rel, m2, e2, tm.mkRow, rfl⟩
  · obtain ⟨xb, xo, vs, hX, hvs⟩ := hyc hy0
    obtain ⟨n1, n2, n3, n4⟩ := new_rel hyr hvs rfl
    rw [hxv, hX]
    rcases hB with ⟨A, hA, hb1, hb2⟩ | ⟨j, q, g, cap, cur, hbq, hj, hap, rfl, rfl, hev, hn, hlo, hg, hle, hcm', hcs, hcc, hst, hqr⟩
    · rw [hA]
      have hlen : (b.1 ++ ys).length = ys.length := by rw [hb1]; rfl
      have hge := grownCap_ge w (b.1 ++ ys).length 0 e
      have hmx := grownCap_le_maxLen w (b.1 ++ ys).length 0 e (by rw [hlen]; simp only [maxLen]; omega)
      have hG := grown (olds := []) (cap := grownCap w (b.1 ++ ys).length 0 e) (oz := Builtin.zeroCells u.cells (grownCap w (b.1 ++ ys).length 0 e - (b.1 ++ ys).length)) (by rw [hb1]; exact LR.nil) n4 (by rw [hb1]; simp) hge hmx
        (by simp only [Array.size_append, List.size_toArray, size_zeroCells, n1, hus, List.length_nil, Nat.zero_add]
            rw [← Nat.add_mul]; congr 1; omega)
      have hr : (Builtin.append_ #[t, t] ty #[.slice A 0 0, .slice (some (at_ xb xo)) ys.length cx]).run P w = .ok (.slice (some (at_ w.heap.size 0)) (b.1 ++ ys).length (grownCap w (b.1 ++ ys).length 0 e))
          (w.drew.alloc (.cells (#[] ++ ((List.range (ys.length * z)).map vs).toArray ++ Builtin.zeroCells u.cells (grownCap w (b.1 ++ ys).length 0 e - (b.1 ++ ys).length)) e)) := by
        rw [hlen]
        cases A with
        | none =>
          have := run_append_nil (P := P) w t ty e i u (sliceT_spec hU) hi hu (at_ xb xo) ys.length cx _ (by rw [n1, hsz]) n2 hy0 (by omega) (by have := hby ys.length (by omega); omega)
          rw [this]
          simp [at_]
        | some A =>
          have := run_append_grow (P := P) w t ty e i u (sliceT_spec hU) hi hu A 0 0 [] (by simp) (by simp) (at_ xb xo) ys.length cx _ (by rw [n1, hsz]) n2 (by omega) (by omega) (growslice_fits (by omega) (hby _ (by omega)))
          rw [this]
          simp [at_]
      rw [hr]
      exact hG
    · subst hbq
      rw [hev, hn]
      have holds : ∀ k u, ((List.range (q.xs.length * q.sz)).map (fun k => cur.toList.getD k undef))[k]? = some u → w.cell? ((at_ g 0).add k) = some u := fun k u hk => by
        have hkl : k < q.xs.length * q.sz := by have := (List.getElem?_eq_some_iff.1 hk).1; simpa using this
        simp [List.getElem?_map, List.getElem?_range hkl] at hk
        have hkc : k < cur.size := by rw [hcs]; exact Nat.lt_of_lt_of_le hkl (Nat.mul_le_mul_right _ hle)
        rw [at_add, Nat.zero_add, at_, cell_of_row w _ _ cur _ (0, 0) hg, Array.getElem?_eq_getElem hkc, ← hk, Array.getElem?_eq_getElem hkc]
        rfl
      have hold_rel : DRs γ.st w q.xs.flatten ((List.range (q.xs.length * q.sz)).map (fun k => cur.toList.getD k undef)) := by
        refine ⟨by simp [flatten_len hqr], fun k c v hc hv => ?_⟩
        have hkl : k < q.xs.length * q.sz := by have := (List.getElem?_eq_some_iff.1 hv).1; simpa using this
        obtain ⟨v', hv', hd⟩ := hcc k c hc
        simp [List.getElem?_map, List.getElem?_range hkl, hv'] at hv
        rw [← hv]; exact hd
      by_cases hroom : q.xs.length + ys.length ≤ cap
      · have hmulr : (q.xs.length + ys.length) * q.sz ≤ cap * q.sz := Nat.mul_le_mul_right _ hroom
        rw [Nat.add_mul] at hmulr
        have hr := run_append_room (P := P) w t ty q.e i (sliceT_spec hU) hi g q.xs.length cap cur hg (at_ xb xo) ys.length cx _ (by rw [n1, hsz]) n2 n3 hroom (by rw [n1, hsz, hcs]; exact hmulr)
        have hr' := hr
        change (Builtin.append_ #[t, t] ty #[.slice (some (at_ g 0)) q.xs.length cap, .slice (some (at_ xb xo)) ys.length cx]).run P w = _ at hr'
        rw [hr']
        rw [hsz]
        generalize hnw : ((List.range (ys.length * q.sz)).map vs) = news at *
        have hcl : cur.toList.length = cap * q.sz := by rw [← hcs]; rfl
        generalize hnc : (cur.toList.take (q.xs.length * q.sz) ++ news ++ cur.toList.drop (q.xs.length * q.sz + news.length)) = nc
        have hncl : nc.length = cap * q.sz := by
          rw [← hnc]; simp only [List.length_append, List.length_take, List.length_drop, n1, hcl]; omega
        have hpre : ∀ o, o < q.xs.length * q.sz → nc.toArray[o]? = cur[o]? := fun o ho => by
          have : nc[o]? = cur.toList[o]? := by
            rw [← hnc, List.append_assoc, List.getElem?_append_left (by rw [List.length_take]; omega), List.getElem?_take, if_pos ho]
          simpa using this
        obtain ⟨m1, e1⟩ := m.tail (by omega) hj hap hn hlo hg (by omega) hcs hst (by simp [hncl, hcs]) hpre
        obtain ⟨m2, e2⟩ := m1.appRow (ys := ys) hnewd hj hap hn hlo (setRow_heap w g cur nc.toArray q.e (0, 0) hg) (by simpa using hroom) hcm' (by simp [hncl]) (fun r hr => by
            rcases List.mem_append.1 hr with h | h
            · exact hqr r h
            · exact hyr r h) (by omega)
          (fun k c hk => by
            rw [List.flatten_append] at hk
            have hfl := flatten_len hqr
            by_cases hkl : k < q.xs.length * q.sz
            · rw [List.getElem?_append_left (by omega)] at hk
              obtain ⟨v, hv, hd⟩ := hcc k c hk
              exact ⟨v, by rw [hpre k hkl]; exact hv, hd.keep e1.st⟩
            · rw [List.getElem?_append_right (by omega), hfl] at hk
              obtain ⟨v, hv, hd⟩ := LR.get n4 hk
              refine ⟨v, ?_, hd.keep e1.st⟩
              have hvl : k - q.xs.length * q.sz < news.length := (List.getElem?_eq_some_iff.1 hv).1
              have : nc[k]? = some v := by
                rw [← hnc, List.append_assoc, List.getElem?_append_right (by rw [List.length_take]; omega), List.getElem?_append_left (by rw [List.length_take]; omega), List.length_take]
                rw [show k - min (q.xs.length * q.sz) cur.toList.length = k - q.xs.length * q.sz by omega]
                exact hv
              simpa using this) hst
        simp only [List.length_append] at m2 e2
        refine ⟨_, _, _, .inl rfl, row_rel, m2, e1.trans e2, tm.mkRow, rfl⟩
      · have hlen : (q.xs ++ ys).length = q.xs.length + ys.length := List.length_append
        simp only at hlim'
        have hr := run_append_grow (P := P) w t ty q.e i u (sliceT_spec hU) hi hu (at_ g 0) q.xs.length cap _ (by simp [hsz]) holds (at_ xb xo) ys.length cx _ (by rw [n1, hsz]) n2 (by omega) (by omega) (growslice_fits (by omega) (hby _ (by omega)))
        rw [hr]
        have hge := grownCap_ge w (q.xs.length + ys.length) cap q.e
        have hmx := grownCap_le_maxLen w (q.xs.length + ys.length) cap q.e (by simp only [maxLen]; omega)
        have hG := grown (cap := grownCap w (q.xs.length + ys.length) cap q.e) (oz := Builtin.zeroCells u.cells (grownCap w (q.xs.length + ys.length) cap q.e - (q.xs.length + ys.length))) hold_rel n4 hqr (by rw [hlen]; exact hge) hmx
          (by simp only [Array.size_append, List.size_toArray, size_zeroCells, n1, hus, List.length_map, List.length_range]
              rw [← Nat.add_mul, ← Nat.add_mul]; congr 1; omega)
        rw [hlen] at hG
        exact hG
end Go.Proofs.Ytndabolfhhppkaa.Am
