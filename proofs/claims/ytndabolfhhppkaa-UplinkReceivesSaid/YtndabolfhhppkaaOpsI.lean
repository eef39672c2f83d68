/- One operation: a slice of the rest of a row, and its clearing; loads and stores among others. No condition. -/
import Derived.Test.YtndabolfhhppkaaOpsG
namespace Go.Proofs.Ytndabolfhhppkaa.Am
open Go Go.RowKit
variable {P : Program} {γ : Gh} {μ : Mu} {w : World} {nt : Nat} {D : List Nat} {fr : Fr} {a : Act}

theorem sim_tl {t e : TypeId} {z : Nat} {x lo : Operand} {x' lo' : Opd} {v : FV} {μ' : Mu} {id : Id} (hf : AFR γ μ w nt fr a) (m : MR γ μ w) (tm : Tm μ D)
    (hU : sliceT P t = some e) (hz : szOf P e = some z) (hx : opdOf x = some x') (hlo : opdOf lo = some lo')
    (ha : aop (.tl z x' lo') id fr μ = some (v, μ')) : OpOk γ μ w D ((do pure (Next.value (← Instr.sliceAt t (a.eval x) ((some lo).map a.eval) ((none : Option Operand).map a.eval) ((none : Option Operand).map a.eval))) : Sem Next).run P w) v μ' := by
  have h1 := opd_rel hf hx
  have h2 := opd_rel hf hlo
  simp only [aop] at ha
  split at ha
  case h_2 => cases ha
  rename_i i hop
  rw [hop] at h1
  cases hn : nat? (opd fr lo') with
  | none => rw [hn] at ha; simp at ha
  | some l =>
  rw [hn] at ha
  simp only [Option.bind_some] at ha
  cases hb : μ.arr i with
  | none => rw [hb] at ha; simp at ha
  | some q =>
  rw [hb] at ha
  simp only [Option.bind_some] at ha
  split at ha
  case isFalse => cases ha
  rename_i hc
  injection ha with ha; injection ha with e1 e2; subst e1; subst e2
  obtain ⟨k, hq⟩ := nat_relI h2 hn
  have hT := sliceT_spec hU
  have hnu : ∃ X cap, γ.nu i = .slice X q.xs.length cap ∧ q.xs.length ≤ cap := by
    rcases (m.liv hb (by rw [hc.1]; obtain ⟨_, _, _, h0⟩ := szOf_spec hz; exact h0)).2.2 with ⟨A, h, h0⟩ | ⟨g, cap, cur, h, _, _, hcap, _⟩
    · exact ⟨A, 0, by rw [h, h0]; rfl, by rw [h0]; exact Nat.le_refl _⟩
    · exact ⟨_, cap, h, hcap⟩
  obtain ⟨X, cap, hX, hXc⟩ := hnu
  have hv : a.eval x = .slice X q.xs.length cap := by
    generalize a.eval x = vv at h1
    cases h1 with
    | z h => cases h with | dat h => cases h
    | own _ => exact hX
  have hbd : (Instr.sliceBounds true q.xs.length cap ((some lo).map a.eval) ((none : Option Operand).map a.eval) ((none : Option Operand).map a.eval)).run P w = .ok (l, q.xs.length, cap) w := by
    simp only [Instr.sliceBounds, Option.map_none, Option.map_some, Sem.run_bind, Result.andThen_ok, Sem.run_pure, Option.isSome_none, if_false, run_bound hq hc.2]
    try simp [run_bound hq hc.2]
  rw [hv]
  refine ok_val m tm (v' := .slice (if cap = l then X else X.map (·.add (l * z))) (q.xs.length - l) (cap - l)) ?_ ?_
  · simp only [Instr.sliceAt, Sem.run_bind, run_underlying hT, Result.andThen_ok, Instr.slice, hbd, run_sizeOf hz, Sem.run_pure]
  · exact ⟨fun _ h => Value.noConfusion h, q, hb, .inr ⟨X, cap, hX, hc.2, by rw [hc.1]⟩⟩
/-- A row that no one else has a part of is written anew. -/
theorem MR.rewrite {i : Id} {q q' : Arr} {g cap : Nat} {cur : Array Value} {nw : List Value} (m0 : MR γ μ w) (tm : Tm μ D) (hst : μ.sto i = true) (hb : μ.arr i = some q) (hn0 : γ.nu i = .slice (some (at_ g 0)) q.xs.length cap)
    (hkl : 0 < q.xs.length) (n2 : γ.lo ≤ g) (n3 : w.heap[g]? = some (.cells cur q.e (0, 0))) (n4 : q.xs.length ≤ cap) (n5 : cap ≤ maxLen) (n6 : cur.size = cap * q.sz) (n8 : μ.app i = true → ∀ o, q.xs.length * q.sz ≤ o → ¬ γ.st g o) (n9 : ∀ o, ¬ γ.st g o)
    (hq'l : q'.xs.length = q.xs.length) (hq's : q'.sz = q.sz) (hq'e : q'.e = q.e) (hrow : ∀ r ∈ q'.xs, r.length = q'.sz) (hnwl : nw.length = cur.size) (hsz : 0 < q.sz)
    (hcont : ∀ (j : Nat) (c : Cell), q'.xs.flatten[j]? = some c → ∃ v : Value, nw.toArray[j]? = some v ∧ (∀ w', (∀ b o, γ.st b o → w'.cell? (at_ b o) = w.cell? (at_ b o)) → DR γ.st w' c v)) :
    MR γ { μ with arr := upd μ.arr i (some q') } (w.setRow g nw.toArray) ∧ Ext γ μ w γ { μ with arr := upd μ.arr i (some q') } (w.setRow g nw.toArray) ∧ Tm { μ with arr := upd μ.arr i (some q') } D := by
  have e0 : Ext γ μ w γ μ (w.setRow g nw.toArray) := Ext.setRow n2 n9
  have e : Ext γ μ w γ { μ with arr := upd μ.arr i (some q') } (w.setRow g nw.toArray) :=
    ⟨rfl, e0.st, e0.nst, e0.bel, e0.box, fun j b hj => ⟨rfl, by
      by_cases h : j = i
      · subst h; rw [hb] at hj; injection hj with hj; subst hj; exact ⟨q', by simp [upd_same], .inr ⟨hq's, hq'e, hq'l⟩⟩
      · exact ⟨b, by simp [upd_ne _ _ h, hj], .inr ⟨rfl, rfl, rfl⟩⟩⟩, e0.mp⟩
  have some_ : ∀ j b, upd μ.arr i (some q') j = some b → (j = i ∧ b = q') ∨ (j ≠ i ∧ μ.arr j = some b) := fun j b hj => by
    by_cases h : j = i
    · subst h; rw [upd_same] at hj; injection hj with hj; exact .inl ⟨rfl, hj.symm⟩
    · rw [upd_ne _ _ h] at hj; exact .inr ⟨h, hj⟩
  have hcap : cap ≠ 0 := by omega
  have hblk : blk (γ.nu i) = some g := by rw [hn0]; simp only [blk]; rw [if_neg hcap]; rfl
  have hisome : (μ.arr i).isSome = true := by rw [hb]; rfl
  refine ⟨⟨?_, ?_, fun j cs hj => ?_, fun j b hj => ?_, m0.bb, fun j b g' hj hb' hg' => ?_, fun j b x y g' hj hb' hjb hg1 hg2 => ?_, m0.sa, m0.mm.keep rfl rfl fun b en c h => map_setRow n3 en c h⟩, e, ?_⟩
  · rw [setRow_size]; exact m0.lo
  · intro b o h; rw [setRow_size]; exact m0.stlt b o h
  · obtain ⟨l1, l2, us, T', l3, l4⟩ := m0.box j cs hj
    have hne : γ.be j ≠ g := m0.ba j i g (by show (μ.box j).isSome = true; rw [show μ.box j = some cs from hj]; rfl) hisome hblk
    exact ⟨l1, l2, us, T', (setRow_other w _ _ _ hne).trans l3, l4.ext e⟩
  · rcases some_ j b hj with ⟨rfl, rfl⟩ | ⟨hne, hj'⟩
    · exact .inr ⟨hrow, by rw [hq's]; exact hsz, .inr ⟨g, cap, nw.toArray, by rw [hq'l]; exact hn0, n2, by rw [hq'e]; exact setRow_heap w _ cur _ _ (0, 0) n3, by rw [hq'l]; exact n4, n5, by simp [hnwl, n6, hq's],
        fun p c hp => (hcont p c hp).imp fun v hv => ⟨hv.1, hv.2 _ fun b o h => (e.st b o h).2⟩, by rw [hq'l, hq's]; exact n8, fun _ => n9⟩⟩
    · rcases m0.arr j b hj' with hd | ⟨l1, l2, l3⟩
      · exact .inl (hd.keep rfl (Nat.le_of_eq (setRow_size ..).symm))
      refine .inr ⟨l1, l2, l3.imp id ?_⟩
      rintro ⟨g2, cap2, cur2, p1, p2, p3, p4, p5, p6, p7, p8⟩
      by_cases hg : g2 = g
      · subst hg
        have hcur : cur2 = cur := by rw [n3] at p3; injection p3 with p3; injection p3 with p3; exact p3.symm
        have hT : b.e = q.e := by rw [n3] at p3; injection p3 with p3; injection p3 with _ p3; exact p3.symm
        have hbx : b.xs = [] := by
          by_cases hc : cap2 = 0
          · exact List.eq_nil_of_length_eq_zero (by omega)
          · exact (m0.aa i j q b g2 hb hj' (Ne.symm hne) hblk (by rw [p1]; simp only [blk]; rw [if_neg hc]; rfl)).2 hst
        exact ⟨g2, cap2, nw.toArray, p1, p2, by rw [hT]; exact setRow_heap w _ cur _ _ (0, 0) n3, p4, p5, by simp [hnwl, ← hcur, p6], fun p c hp => by rw [hbx] at hp; simp at hp, p8⟩
      · exact ⟨g2, cap2, cur2, p1, p2, (setRow_other w _ _ _ hg).trans p3, p4, p5, p6, fun p c hp => (p7 p c hp).imp fun v hv => ⟨hv.1, hv.2.keep e.st⟩, p8⟩
  · refine m0.ba j b g' hj ?_ hg'
    obtain ⟨y, hy⟩ := Option.isSome_iff_exists.1 hb'
    rcases some_ b y hy with ⟨rfl, rfl⟩ | ⟨_, h⟩
    · exact hisome
    · rw [h]; rfl
  · rcases some_ j x hj with ⟨rfl, rfl⟩ | ⟨hnj, hj'⟩
    · rcases some_ b y hb' with ⟨rfl, rfl⟩ | ⟨hnb, hb''⟩
      · exact absurd rfl hjb
      · obtain ⟨z1, z2⟩ := m0.aa j b q y g' hb hb'' hjb hg1 hg2
        exact ⟨fun h => ⟨by rw [hq'l]; exact (z1 h).1, by rw [hq's]; exact (z1 h).2⟩, z2⟩
    · rcases some_ b y hb' with ⟨rfl, rfl⟩ | ⟨hnb, hb''⟩
      · obtain ⟨z1, z2⟩ := m0.aa j b x q g' hj' hb hjb hg1 hg2
        refine ⟨fun h => ⟨by rw [hq'l]; exact (z1 h).1, (z1 h).2.1, (z1 h).2.2.imp (fun e => by rw [hq's]; exact e) fun e => by rw [e] at hkl; simp at hkl⟩, fun h => ?_⟩
        have := z2 h
        rw [this] at hkl; simp at hkl
      · exact m0.aa j b x y g' hj' hb'' hjb hg1 hg2
  · intro j hj
    refine tm j (hj.imp id fun h => ?_)
    obtain ⟨y, hy⟩ := Option.isSome_iff_exists.1 h
    rcases some_ j y hy with ⟨rfl, _⟩ | ⟨_, h⟩
    · exact hisome
    · rw [h]; rfl
theorem sim_clr {t e ty : TypeId} {z : Nat} {zero : List Cell} {x : Operand} {x' : Opd} {v : FV} {μ' : Mu} {id : Id} (hf : AFR γ μ w nt fr a) (m : MR γ μ w) (tm : Tm μ D)
    (hU : sliceT P t = some e) (hz : szOf P e = some z) (h0 : (zeroOf P e).bind (zeroD (datSh P e)) = some zero) (hzl : zero.length = z) (hx : opdOf x = some x')
    (ha : aop (.clr zero z x') id fr μ = some (v, μ')) : OpOk γ μ w D ((do pure (Next.value (← Builtin.clear_ #[t] ty #[a.eval x])) : Sem Next).run P w) v μ' := by
  have tupR : ∀ {γ : Gh} {μ : Mu} {w : World}, FR γ μ w (.tup []) (.tuple #[]) := ⟨[], rfl, rfl, fun j x v hx => by simp at hx⟩
  have h1 := opd_rel hf hx
  simp only [aop] at ha
  split at ha
  case h_2 => cases ha
  rename_i i l hop
  rw [hop] at h1
  obtain ⟨_, q0, hb0, hdd⟩ := h1
  rw [hb0] at ha
  simp only [Option.bind_some] at ha
  split at ha
  case isFalse => cases ha
  rename_i hc
  injection ha with ha; injection ha with e1 e2; subst e1; subst e2
  obtain ⟨hc1, hst, _⟩ := hc
  rcases hdd with hdd | ⟨X, cap0, hX, hl, hv⟩
  · obtain ⟨_, _, _, h9⟩ := szOf_spec hz
    omega
  have hT := sliceT_spec hU
  obtain ⟨u, hu1, hu2, hu3⟩ := zeroD_spec (w := w) (st := γ.st) hz h0 hzl
  rw [hv]
  by_cases hle : l = q0.xs.length
  · -- nothing to clear
    have hsame : { μ with arr := upd μ.arr i (some { q0 with xs := q0.xs.take l ++ List.replicate (q0.xs.length - l) zero }) } = μ := by
      rw [hle]; simp
      have : upd μ.arr i (some q0) = μ.arr := by
        funext j
        by_cases hj : j = i
        · subst hj; rw [upd_same, hb0]
        · rw [upd_ne _ _ hj]
      rw [this]
    rw [hsame]
    refine ⟨γ, .tuple #[], w, .inl ?_, tupR, m, .refl _ _ _, tm, rfl⟩
    rw [show q0.xs.length - l = 0 by omega]
    generalize (if cap0 = l then X else X.map (·.add (l * q0.sz))) = Y
    simp only [Builtin.clear_, List.getElem?_toArray, Sem.run_bind]
    cases Y <;> simp [run_underlying hT]
  have hkl : 0 < q0.xs.length := by omega
  obtain ⟨k1, k2, k3⟩ := m.liv hb0 (m.live hb0 (List.getElem?_eq_getElem hkl))
  rcases k3 with ⟨A, _, h0'⟩ | ⟨g, cap, cur, n1, n2, n3, n4, n5, n6, n7, n8, n9⟩
  · rw [h0'] at hkl; simp at hkl
  rw [hX] at n1
  injection n1 with n1 _ n1'
  subst n1; subst n1'
  have hcl : ¬ (cap0 = l) := by omega
  rw [if_neg hcl]
  have n9' := n9 hst
  subst hc1
  let zs := (List.replicate (q0.xs.length - l) u.cells.toList).flatten
  have hzs : zs.length = (q0.xs.length - l) * q0.sz := by simp [zs, hu3]
  have hmul : l * q0.sz + (q0.xs.length - l) * q0.sz = q0.xs.length * q0.sz := by rw [← Nat.add_mul]; congr 1; omega
  have hcapm : q0.xs.length * q0.sz ≤ cap0 * q0.sz := Nat.mul_le_mul_right _ n4
  let nw := cur.toList.take (l * q0.sz) ++ zs ++ cur.toList.drop (l * q0.sz + zs.length)
  have hcs : cur.toList.length = cur.size := rfl
  have hnwl : nw.length = cur.size := by simp only [nw, List.length_append, List.length_take, List.length_drop]; omega
  have hzc : (Builtin.zeroCells u.cells (q0.xs.length - l)).toList = zs := zeros_list u.cells _
  have hones : ∀ y ∈ zs, y.oneCell' = true := by
    intro y hy
    simp only [zs, List.mem_flatten, List.mem_replicate] at hy
    obtain ⟨r, ⟨_, rfl⟩, hy⟩ := hy
    obtain ⟨j, hj⟩ := List.getElem?_of_mem hy
    have hl' : j < zero.length := by rw [← hu2.1]; exact (List.getElem?_eq_some_iff.1 hj).1
    exact (hu2.2 j zero[j] y (List.getElem?_eq_getElem hl') hj).oneCell
  have hrun : ((do pure (Next.value (← Builtin.clear_ #[t] ty #[.slice ((some (at_ g 0)).map (·.add (l * q0.sz))) (q0.xs.length - l) (cap0 - l)])) : Sem Next).run P w) = .ok (.value (.tuple #[])) (w.setRow g nw.toArray) := by
    have hs := run_storeCells_at P g (l * q0.sz) q0.e zs 0 cur w n3 (by omega) hones
    simp only [Nat.add_zero] at hs
    obtain ⟨d, hd⟩ : ∃ d, q0.xs.length - l = d + 1 := ⟨q0.xs.length - l - 1, by omega⟩
    rw [hd] at hzc
    simp only [Builtin.clear_, List.getElem?_toArray, Sem.run_bind, hd, Option.map_some, at_add, Nat.zero_add]
    simp [run_underlying hT, hu1, hzc]
    first
      | (rw [show (at_ g (l * q0.sz)) = (⟨g, l * q0.sz, none⟩ : Addr) from rfl]; rw [hs]; simp [nw])
      | (simp [hs, nw, at_])
  have hmr := MR.rewrite (q' := { q0 with xs := q0.xs.take l ++ List.replicate (q0.xs.length - l) zero }) (nw := nw) m tm hst hb0 hX hkl n2 n3 n4 n5 n6 n8 n9' (by simp; omega) rfl rfl
    (fun r hr => by
      rcases List.mem_append.1 hr with hr | hr
      · exact k1 r (List.mem_of_mem_take hr)
      · rw [List.eq_of_mem_replicate hr]; exact hzl)
    hnwl k2 (fun j c hj => by
      have hfl : (q0.xs.take l ++ List.replicate (q0.xs.length - l) zero).flatten = (q0.xs.take l).flatten ++ (List.replicate (q0.xs.length - l) zero).flatten := List.flatten_append
      have htl : (q0.xs.take l).flatten.length = l * q0.sz := by rw [flatten_len (fun r hr => k1 r (List.mem_of_mem_take hr))]; simp; rw [Nat.min_eq_left hl]
      simp only at hj
      rw [hfl] at hj
      have hct : (cur.toList.take (l * q0.sz)).length = l * q0.sz := by rw [List.length_take]; omega
      by_cases hjl : j < l * q0.sz
      · rw [List.getElem?_append_left (by omega)] at hj
        have hj0 : q0.xs.flatten[j]? = some c := by
          have : q0.xs = q0.xs.take l ++ q0.xs.drop l := (List.take_append_drop l _).symm
          rw [this, List.flatten_append, List.getElem?_append_left (by omega)]; exact hj
        obtain ⟨v, hv1, hv2⟩ := n7 j c hj0
        refine ⟨v, ?_, fun w' hw' => hv2.keep fun b o h => ⟨h, hw' b o h⟩⟩
        have hv1' : cur.toList[j]? = some v := by simpa using hv1
        rw [List.getElem?_toArray]
        simp only [nw]
        rw [List.append_assoc, List.getElem?_append_left (by omega), List.getElem?_take, if_pos hjl]; exact hv1'
      · rw [List.getElem?_append_right (by omega), htl] at hj
        have hrr := replicate_rel hu2 (q0.xs.length - l)
        obtain ⟨v, hv1, hv2⟩ := LR.get hrr hj
        refine ⟨v, ?_, fun w' hw' => hv2.keep fun b o h => ⟨h, hw' b o h⟩⟩
        have hlt : j - l * q0.sz < zs.length := (List.getElem?_eq_some_iff.1 hv1).1
        rw [List.getElem?_toArray]
        simp only [nw]
        rw [List.append_assoc, List.getElem?_append_right (by omega), hct, List.getElem?_append_left hlt]; exact hv1)
  exact ⟨γ, .tuple #[], _, .inl hrun, tupR, hmr.1, hmr.2.1, hmr.2.2, rfl⟩
theorem ldo_load {lq : Option Nat} {ag : Bool} {z : Nat} {x : Opd} {id : Id} {r : FV × Mu} (ha : aop (.ldo lq ag z x) id fr μ = some r) : aop (.load ag z x) id fr μ = some r := by
  simp only [aop] at ha ⊢
  split at ha
  · split at ha
    · cases ha
    · rename_i i off ho _; rw [ho]; exact ha
  · cases ha
theorem stn_store {so : Bool} {d z : Nat} {x : Opd} {sh : List Sh} {id : Id} {r : FV × Mu} (ha : aop (.stn so d z x) id fr μ = some r) : aop (.store sh z (.t d) x) id fr μ = some r := by
  simp only [aop] at ha ⊢
  split at ha
  · split at ha
    · rename_i i off ho _
      rw [show opd fr (.t d) = fr d from rfl, ho]; exact ha
    · cases ha
  · cases ha
theorem sim_iap {t e : TypeId} {n z : Nat} {x i : Operand} {x' i' : Opd} {v : FV} {μ' : Mu} {id : Id} (hf : AFR γ μ w nt fr a) (m : MR γ μ w) (tm : Tm μ D) (hx : opdOf x = some x') (hi : opdOf i = some i') (hU : P.underlying t = some (.array n e)) (hz : szOf P e = some z)
    (ha : aop (.iap z n x' i') id fr μ = some (v, μ')) : OpOk γ μ w D ((do pure (Next.value (← Instr.indexAt t (a.eval x) (a.eval i))) : Sem Next).run P w) v μ' := by
  have h1 := opd_rel hf hx
  have h2 := opd_rel hf hi
  simp only [aop] at ha
  split at ha
  case h_2 => cases ha
  rename_i j o hop
  rw [hop] at h1
  cases hn : nat? (opd fr i') with
  | none => rw [hn] at ha; simp at ha
  | some k =>
  rw [hn] at ha
  simp only [Option.bind_some] at ha
  split at ha
  case isFalse => cases ha
  rename_i hk
  injection ha with ha; injection ha with e1 e2; subst e1; subst e2
  obtain ⟨q, hq⟩ := nat_rel h2 hn
  obtain ⟨hs, hv⟩ := h1
  refine ok_val m tm (v' := .pointer (some (at_ (γ.be j) (o + k * z)))) ?_ ⟨hs, rfl⟩
  rw [hv, hq]
  simp [Instr.indexAt, asIntOf, Instr.sureAddr, run_underlying hU, hk, run_sizeOf hz, at_add]
end Go.Proofs.Ytndabolfhhppkaa.Am
