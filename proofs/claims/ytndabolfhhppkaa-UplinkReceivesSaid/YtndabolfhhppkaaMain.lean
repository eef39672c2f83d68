/- What the abstract machine comes to, the given model comes to: the law. No condition. -/
import Derived.Test.YtndabolfhhppkaaSim
import Derived.Lib.SliceRun
namespace Go.Proofs.Ytndabolfhhppkaa.Am
open Go Go.RowKit
variable {P : Program} {γ : Gh} {μ ν : Mu} {w : World} {nt : Nat} {D : List Nat} {fr fr' : Fr} {a : Act}

/-- A loop whose body is about to be run. -/
def WpL (P : Program) (c : Code) (Q : Exit → Act → World → Prop) (a : Act) (w : World) : Prop :=
  ∀ (b : Frame) (k : List Item) (cs : List Frame), ∃ e a' w', Q e a' w' ∧ Arrives P (lone (b.at a (.code c :: .inLoop c :: k)) cs w) b k cs e a' w'
theorem wpL_next {c : Code} {Q : Exit → Act → World → Prop} (h : c.wp P (Exit.then (WpL P c Q) Q) a w) : WpL P c Q a w := by
  intro b k cs
  obtain ⟨e, a₁, w₁, hq, harr⟩ := h b (.inLoop c :: k) cs
  cases e with
  | normal =>
    obtain ⟨e₂, a₂, w₂, hq₂, harr₂⟩ := hq b k cs
    exact ⟨e₂, a₂, w₂, hq₂, .of_steps (Steps.trans harr (.one step_inLoop)) harr₂⟩
  | exit id => exact ⟨_, a₁, w₁, hq, .pass (x := .inLoop c) rfl (fun _ _ => .inl (by simp)) harr⟩
  | goto l => exact ⟨_, a₁, w₁, hq, .pass (x := .inLoop c) rfl (fun _ _ => .inl (by simp)) harr⟩
  | ret => exact ⟨_, a₁, w₁, hq, .pass (x := .inLoop c) rfl (fun _ _ => .inl (by simp)) harr⟩
  | panic ch => exact ⟨_, a₁, w₁, hq, .pass (x := .inLoop c) rfl (fun _ _ => .inl (by simp)) harr⟩
  | outgrown => exact ⟨_, a₁, w₁, hq, .pass (x := .inLoop c) rfl (fun _ _ => .inl (by simp)) harr⟩
theorem wp_of_wpL {c : Code} {Q : Exit → Act → World → Prop} (h : WpL P c Q a w) : (Code.loop c).wp P Q a w := fun b k cs => by
  obtain ⟨e, a', w', q, r⟩ := h b k cs
  exact ⟨e, a', w', q, .of_steps (.one step_loop) r⟩
/-- How a piece of code ends. -/
def Ends : Out → Exit → Option St
  | .norm s, .normal => some s
  | .exit n s, .exit m => if n = m then some s else none
  | .ret s, .ret => some s
  | _, _ => none
def Post (nt : Nat) (γ : Gh) (μ : Mu) (w : World) (a : Act) (out : Out) (e : Exit) (a' : Act) (w' : World) : Prop :=
  ∃ γ' s', Ends out e = some s' ∧ AFR γ' s'.mu w' nt s'.fr a' ∧ MR γ' s'.mu w' ∧ Ext γ μ w γ' s'.mu w' ∧ Tm s'.mu [] ∧ a'.defers = a.defers
theorem Post.mk {out : Out} {e : Exit} {s : St} (h : Ends out e = some s) (hf : AFR γ s.mu w nt s.fr a) (m : MR γ s.mu w) (tm : Tm s.mu []) : Post nt γ s.mu w a out e a w := ⟨γ, s, h, hf, m, .refl _ _ _, tm, rfl⟩
theorem Post.next {γ1 : Gh} {μ1 : Mu} {w1 w' : World} {a1 a' : Act} {out out' : Out} {e e' : Exit} (h : Post nt γ1 μ1 w1 a1 out e a' w') (ho : ∀ s, Ends out e = some s → Ends out' e' = some s) (ext : Ext γ μ w γ1 μ1 w1) (hd : a1.defers = a.defers) : Post nt γ μ w a out' e' a' w' := by
  obtain ⟨γ', s', h1, h2, h3, h4, h5, h6⟩ := h
  exact ⟨γ', s', ho s' h1, h2, h3, ext.trans h4, h5, h6.trans hd⟩
def SimCode (P : Program) (c : SCode) (s : St) (out : Out) : Prop :=
  ∀ {code : Code} {nt : Nat} {γ : Gh} {a : Act} {w : World}, compCode P nt code = some c → AFR γ s.mu w nt s.fr a → MR γ s.mu w → Tm s.mu [] →
    code.wp P (Post nt γ s.mu w a out) a w ∧ ∀ c', code = .loop c' → WpL P c' (Post nt γ s.mu w a out) a w
def Motive (P : Program) : Task → Out → Prop
  | .code c s, out => SimCode P c s out
  | .ops l s, out => ∃ s', out = .norm s' ∧ Chain (CS P) l s s'
  | .call g args, out => ∃ vs, out = .res vs ∧ CallSim P g args vs
  | .icall g args μ, out => ∃ vs μ', out = .ires vs μ' ∧ ICallSim P g args μ vs μ'
theorem Tm.tick {s : St} (h : Tm s.mu D) : Tm s.tick.mu [] := fun i hi => by
  rcases h i hi with h | h
  · exact .inl (Nat.lt_succ_of_lt h)
  · exact .inl (by rw [h.1]; exact Nat.lt_succ_self _)
theorem Ext.tick (γ : Gh) (s : St) (w : World) : Ext γ s.mu w γ s.tick.mu w := ⟨rfl, fun _ _ h => ⟨h, rfl⟩, fun _ _ h => .inl h, Below.refl _ _, fun _ h => ⟨h, rfl⟩, fun _ a h => ⟨rfl, a, h, .inr ⟨rfl, rfl, rfl⟩⟩, fun _ h => ⟨h, rfl⟩⟩
theorem MR.tick {s : St} (m : MR γ s.mu w) : MR γ s.tick.mu w :=
  ⟨m.lo, m.stlt, fun i cs h => by
    obtain ⟨h1, h2, vs, T, h3, h4⟩ := m.box i cs h
    exact ⟨h1, h2, vs, T, h3, h4.ext (.tick γ s w)⟩, m.arr, m.bb, m.ba, m.aa, m.sa, m.mm⟩
theorem code_ops (hm : P.follows .mixedOrders = true) {l : List SOp} {s s' : St} (h : Chain (CS P) l s s') : SimCode P (.ops l) s (.norm s'.tick) := by
  intro code nt γ a w hc hf m tm
  have fin : ∀ {γ1 : Gh} {w1 : World}, Ext γ s.mu w γ1 s.mu w1 → Done P nt γ1 s.mu w1 a s' (Post nt γ s.mu w a (.norm s'.tick) .normal) := by
    intro γ1 w1 e γ' a' w' h1 h2 h3 h4 h6
    obtain ⟨D', h4⟩ := h4
    exact ⟨γ', s'.tick, rfl, (h1.ext (.tick γ' s' w')), h2.tick, (e.trans h3).trans (.tick γ' s' w'), h4.tick, h6⟩
  cases code <;> simp only [compCode] at hc <;> (try (cases hc; done)) <;> (try ((repeat' split at hc) <;> cases hc; done)) <;> (try (obtain ⟨_, _, e⟩ := some_pair hc; cases e; done))
  case region id ops draw =>
    split at hc
    case h_2 => cases hc
    rename_i l' hl
    split at hc
    case isFalse => cases hc
    rename_i hok
    injection hc with hc; injection hc with hc; subst hc
    refine ⟨?_, fun c' h => by cases h⟩
    have hlen : l'.length = ops.size := by have := (trav_spec hl).1; simpa using this
    cases draw with
    | false =>
      refine wp_region ?_
      have := plain_sim (Q := Post nt γ s.mu w a (.norm s'.tick)) hl (k := 0) (r := l') (D := []) rfl (dstsOk_spec hok.1) h hf m tm (by simp) (fin (.refl _ _ _))
      simpa using this
    | true =>
      obtain ⟨hd, he, _⟩ := hok.2 rfl
      refine wp_region_any hm ?_
      have hb : Below w.heap.size w { w with drawn := w.drawn + 1 } := (Below.refl _ w).drew
      have e1 := Ext.grow m hb
      have hmap : (List.range ops.size).map (gl l') = l' := by
        apply List.ext_getElem?
        intro j
        by_cases hj : j < ops.size
        · simp [hj, gl, show j < l'.length by omega]
        · rw [List.getElem?_eq_none (by simp; omega), List.getElem?_eq_none (by omega)]
      refine any_sim (R := List.range ops.size) (D := []) hl hok.1 hd he (by simp) List.pairwise_lt_range (by simp) (fun j => ?_) (fun j i hj => ?_) (by rw [hmap]; exact h) (hf.ext e1) (m.grow hb) tm (by simp) (fin e1)
      · simp only [List.mem_range]
        constructor
        · intro hj; exact ⟨hj, by simp [Array.getD_eq_getD_getElem?, hj]⟩
        · exact fun h => h.1
      · exfalso
        by_cases hlt : j < ops.size <;> simp [Array.getD_eq_getD_getElem?, hlt] at hj
/-! ### The library's Clone -/
theorem isMvNil_spec {d : Nat} {o : SOp} (h : isMvNil d o = true) : o = ⟨some d, .mv (.k (.c .nil)), none⟩ := by
  unfold isMvNil at h
  split at h
  · have := eq_of_beq h; subst this; rfl
  · cases h
theorem isMvT_spec {d s : Nat} {o : SOp} (h : isMvT d s o = true) : o = ⟨some d, .mv (.t s), none⟩ := by
  unfold isMvT at h
  split at h
  · simp only [Bool.and_eq_true, beq_iff_eq] at h; obtain ⟨h1, h2⟩ := h; subst h1; subst h2; rfl
  · cases h
theorem isBsl0_spec {d e z : Nat} {o : SOp} (h : isBsl0 d o = some (e, z)) : ∃ sh, o = ⟨some d, .bsl e z sh [] [], none⟩ := by
  unfold isBsl0 at h
  split at h
  · split at h
    · rename_i hk; subst hk; injection h with h; injection h with h1 h2; subst h1; subst h2; exact ⟨_, rfl⟩
    · cases h
  · cases h
theorem isAppT_spec {e z d s x : Nat} {o : SOp} (h : isAppT e z d s x o = true) : o = ⟨some d, .app e z (.t s) (.t x), none⟩ := by
  unfold isAppT at h
  split at h
  · simp only [Bool.and_eq_true, beq_iff_eq] at h; obtain ⟨⟨⟨⟨h1, h2⟩, h3⟩, h4⟩, h5⟩ := h; subst h1; subst h2; subst h3; subst h4; subst h5; rfl
  · cases h
theorem isNilQ_spec {d s : Nat} {o : Oper} (h : isNilQ P d s o = true) : ∃ t q e, o.dst = some d ∧ o.op = .binOp .eql t (.tmp s) (.const (.slice none 0 0)) q ∧ o.guard = none ∧ P.underlying t = some (.slice e) := by
  unfold isNilQ at h
  split at h
  · rename_i k t j q h1 h2 h3
    simp only [Bool.and_eq_true, beq_iff_eq] at h
    obtain ⟨⟨g1, g2⟩, g3⟩ := h
    subst g1; subst g2
    obtain ⟨e, he⟩ := Option.isSome_iff_exists.1 g3
    exact ⟨t, q, e, h1, h2, h3, sliceT_spec he⟩
  · cases h
theorem elems_add {i : Id} {q : Arr} {b : Bool} {old : List Id} {x : FV} {z : Nat} {ys : List (List Cell)} (hi : μ.arr i = none) (he : elems μ z x = some ys) : elems (mkRow μ i q b old) z x = some ys := by
  cases x with
  | v x =>
    cases x with
    | agg cs => simp [elems] at he
    | c x =>
      simp only [elems] at he ⊢
      cases x with
      | own j =>
        simp only [elemsC] at he ⊢
        have hne : j ≠ i := fun e => by rw [e, hi] at he; simp at he
        simp only [mkRow, upd_ne _ _ hne]; exact he
      | _ => exact he
  | _ => simp [elems] at he
theorem clone_chain {C : CC} {e z : Nat} {sh : List Sh} {ys : List (List Cell)} (he : elems μ z (fr 0) = some ys) (hl : ys.length ≤ lim) (hi : μ.arr (μ.t, 5) = none) :
    Chain C [⟨some 5, .bsl e z sh [] [], none⟩, ⟨some 6, .mv (.t 0), none⟩, ⟨some 7, .app e z (.t 5) (.t 6), none⟩, ⟨some 2, .mv (.t 7), none⟩] ⟨fr, μ⟩
      ⟨put (put (put (put fr (some 5) (.v (.c (.own (μ.t, 5))))) (some 6) (fr 0)) (some 7) (.v (.c (.own (μ.t, 7))))) (some 2) (.v (.c (.own (μ.t, 7)))), mkRow (mkRow μ (μ.t, 5) ⟨e, z, []⟩ true []) (μ.t, 7) ⟨e, z, ys⟩ true [(μ.t, 5)]⟩ := by
  refine .cons (.op (v := .v (.c (.own (μ.t, 5)))) (μ := mkRow μ (μ.t, 5) ⟨e, z, []⟩ true []) rfl ?_) (.cons (.op (v := fr 0) (μ := mkRow μ (μ.t, 5) ⟨e, z, []⟩ true []) rfl ?_) (.cons (.op (v := .v (.c (.own (μ.t, 7)))) (μ := mkRow (mkRow μ (μ.t, 5) ⟨e, z, []⟩ true []) (μ.t, 7) ⟨e, z, ys⟩ true [(μ.t, 5)]) rfl ?_) (.cons (.op rfl ?_) (.nil _))))
  · simp [aop, bldS, unsto_nil, idOf]
  · simp [aop, opd, put]
  · have h := elems_add (q := ⟨e, z, []⟩) (b := true) (old := []) hi he
    have hb : baseOf (mkRow μ (μ.t, 5) ⟨e, z, []⟩ true []) e z (.v (.c (.own (μ.t, 5)))) = some ([], [(μ.t, 5)]) := by simp [baseOf, mkRow, upd_same]
    simp only [aop, opd, put]
    simp [hb, h, hl, idOf]
    simp [mkRow]
  · simp [aop, opd, put]
set_option maxHeartbeats 1000000 in
theorem clone_sim (hm : P.follows .mixedOrders = true) {g : Nat} {fn : Func} {e z : Nat} {x : FV} {ys : List (List Cell)} (hP : P.funcs[g]? = some fn) (hname : (fn.name == "runtime.NumGoroutine") = false) (hc : cloneOf P fn = some (e, z))
    (he : elems μ z x = some ys) (hl : ys.length ≤ lim) : ICallSim P g [x] μ [.c (.own (μ.t + 1, 7))] (mkRow (mkRow μ.tick (μ.t + 1, 5) ⟨e, z, []⟩ true []) (μ.t + 1, 7) ⟨e, z, ys⟩ true [(μ.t + 1, 5)]).tick := by
  unfold cloneOf at hc
  split at hc
  case h_2 => cases hc
  rename_i i0 r0 i1 r1 b i2 r2 i3 r3 hbody
  split at hc
  case h_2 => cases hc
  rename_i m0 o1 o2 m2 m3 m4 m5 m6 q shq t0 t1 t2 t3 hres
  split at hc
  case h_2 => cases hc
  rename_i m1 e' z' tm1 tb0
  split at hc
  case isFalse => cases hc
  rename_i hall
  injection hc with hc; injection hc with hc1 hc2; subst hc1; subst hc2
  simp only [Bool.and_eq_true, beq_iff_eq, decide_eq_true_eq] at hall
  obtain ⟨⟨⟨⟨⟨⟨⟨⟨⟨⟨k0, k1⟩, k2⟩, kb⟩, k3⟩, k4⟩, k5⟩, k6⟩, kq⟩, knt⟩, kz⟩ := hall
  have k0 := isMvNil_spec k0
  have k1 := isMvT_spec k1
  obtain ⟨tt, tq, te, n1, n2, n3, n4⟩ := isNilQ_spec k2
  have k3 := isMvNil_spec k3
  have k4 := isMvT_spec k4
  have k5 := isAppT_spec k5
  have k6 := isMvT_spec k6
  obtain ⟨sh3, kb0⟩ := isBsl0_spec tb0
  subst k0; subst k1; subst k3; subst k4; subst k5; subst k6; subst kb0; subst kb; subst kq
  refine ⟨⟨fn, _, hP, hbody, hname⟩, fun γ w us hsz har m tm => ?_⟩
  have hf0 : AFR γ μ w fn.ntmps (fun k => (nth [x] k).getD .skip) { tmps := us ++ Array.replicate (fn.ntmps - us.size) undef, defers := [] } := by
    refine ⟨by simp; omega, fun k => ?_⟩
    simp only [nth_spec]
    by_cases hk : k < [x].length
    · have h1 : [x][k]? = some [x][k] := List.getElem?_eq_getElem hk
      have h2 : us[k]? = some (us[k]'(by omega)) := Array.getElem?_eq_getElem _
      rw [h1, Array.getD_eq_getD_getElem?, Array.getElem?_append_left (by omega), h2]
      exact har k _ _ h1 h2
    · rw [List.getElem?_eq_none (by omega), Array.getD_eq_getD_getElem?, Array.getElem?_append_right (by omega)]
      have : ((Array.replicate (fn.ntmps - us.size) undef)[k - us.size]?).getD undef = undef := by
        rw [Array.getElem?_replicate]
        split <;> rfl
      rw [this]; rfl
  generalize hfr0 : (fun k => (nth [x] k).getD FV.skip) = fr0 at hf0
  have hx0 : fr0 0 = x := by rw [← hfr0]; rfl
  have reg : ∀ {i : Nat} {r : Array Oper} {l : List SOp}, trav (compOper P fn.ntmps r) r.toList = some l → dstsOk l = true → compCode P fn.ntmps (.region i r false) = some (.ops l) := by
    intro i r l h1 h2
    simp only [compCode, h1]
    rw [if_pos ⟨h2, fun h => by cases h⟩]
  refine calls_of_wp hP hbody ?_
  -- the first region
  have c0 := reg (i := i0) t0 rfl
  have s0 : Chain (CS P) [⟨some 2, .mv (.k (.c .nil)), none⟩] ⟨fr0, μ⟩ ⟨put fr0 (some 2) (.v (.c .nil)), μ⟩ := .cons (.op rfl rfl) (.nil _)
  refine Go.wp_seq (Go.wp_mono (code_ops hm s0 c0 hf0 m tm).1 fun ex a1 w1 hp => ?_)
  obtain ⟨γ1, s1, g1, hf1, m1, e1, tmm1, hd1⟩ := hp
  cases ex <;> simp only [Ends] at g1 <;> (try (cases g1; done))
  injection g1 with g1; subst g1
  -- the second
  refine Go.wp_seq (Go.wp_seq (wp_region ?_))
  have hr1 : r1 = #[o1, o2] := Array.ext' (by simpa using t1)
  subst hr1
  have hran : List.range (#[o1, o2] : Array Oper).size = [0, 1] := rfl
  rw [hran, wpOps_cons]
  refine step_sim (D := []) (so := ⟨some 3, .mv (.t 0), none⟩) rfl tm1 hf1 m1 tmm1 (by simp) (.op rfl rfl) (fun γ2 a2 w2 hf2 m2 e2 tmm2 hd2 => ?_)
  rw [wpOps_cons]
  have hx2 := hf2.at_ 3
  have hfr3 : put (St.tick ⟨put fr0 (some 2) (.v (.c .nil)), μ⟩).fr (some 3) (opd (St.tick ⟨put fr0 (some 2) (.v (.c .nil)), μ⟩).fr (.t 0)) 3 = x := by simp [put, St.tick, opd, hx0]
  simp only at hx2
  rw [hfr3] at hx2
  obtain ⟨A, cA, hvA, _, _, _, hA⟩ := elems_rel m2 hx2 (z := z') (xs := ys) he
  have hrun : (execOp a2.eval o2).run P w2 = .ok (.value (.bool A.isNone)) w2 := by
    simp only [execOp, n2]
    have hq := Go.Lib.run_eql_slice_nil w2 tt te A ys.length cA 0 0 n4
    have hev : a2.eval (.tmp 3) = .slice A ys.length cA := hvA
    have hev2 : a2.eval (.const (.slice none 0 0)) = .slice none 0 0 := rfl
    rw [hev, hev2]
    simp [eqGuard, hq]
  unfold wpOp
  have hg2 : (#[o1, o2] : Array Oper)[1]? = some o2 := rfl
  simp only [hg2]
  have hwant : Region.wanted o2 (yielded #[o1, o2] a2.tmps) = true := by unfold Region.wanted; rw [n3]
  rw [hwant]
  simp only [if_true]
  refine .inl ?_
  unfold Oper.wp
  rw [hrun, Oper.upon_value, n1]
  show Code.wp P (.cond (.tmp 4) _ _) _ (a2.put (some 4) (.bool A.isNone)) w2
  have hf3 := hf2.put (d := some 4) (x := vB A.isNone) (v := .bool A.isNone) (by simp; omega) (fr_val rfl)
  have hev4 : (a2.put (some 4) (.bool A.isNone)).eval (.tmp 4) = .bool A.isNone := by
    have := hf3.at_ 4
    simp only [Am.put, if_true] at this
    exact (inv_val this).1
  refine Go.wp_cond hev4 ?_
  have hd3 : (a2.put (some 4) (.bool A.isNone)).defers = [] := by rw [show (a2.put (some 4) (.bool A.isNone)).defers = a2.defers from rfl, hd2, hd1]
  have tmt : Tm μ.tick [] := Mu.tick_tm tm
  have hfx : put (put (St.tick ⟨put fr0 (some 2) (.v (.c .nil)), μ⟩).fr (some 3) (opd (St.tick ⟨put fr0 (some 2) (.v (.c .nil)), μ⟩).fr (.t 0))) (some 4) (vB A.isNone) 0 = x := by simp [put, St.tick, hx0]
  simp only at hf3 m2 e2
  generalize put (put (St.tick ⟨put fr0 (some 2) (.v (.c .nil)), μ⟩).fr (some 3) (opd (St.tick ⟨put fr0 (some 2) (.v (.c .nil)), μ⟩).fr (.t 0))) (some 4) (vB A.isNone) = fr3 at hf3 hfx
  generalize a2.put (some 4) (.bool A.isNone) = a3 at hf3 hd3
  have f5 : μ.tick.arr (μ.t + 1, 5) = none := (tmt.fresh (d := 5) (by simp)).2
  have f7 : μ.tick.arr (μ.t + 1, 7) = none := (tmt.fresh (d := 7) (by simp)).2
  have tmF : Tm (mkRow (mkRow μ.tick (μ.t + 1, 5) ⟨e', z', []⟩ true []) (μ.t + 1, 7) ⟨e', z', ys⟩ true [(μ.t + 1, 5)]).tick [] := Mu.tick_tm ((tmt.mkRow (d := 5) (q := ⟨e', z', []⟩) (s := true) (l := [])).mkRow (d := 7) (q := ⟨e', z', ys⟩) (s := true) (l := [(μ.t + 1, 5)]))
  cases hAn : A.isNone with
  | true =>
    have c2 := reg (i := i2) t2 rfl
    have s2 : Chain (CS P) [⟨some 2, .mv (.k (.c .nil)), none⟩] ⟨fr3, μ.tick⟩ ⟨put fr3 (some 2) (.v (.c .nil)), μ.tick⟩ := .cons (.op rfl rfl) (.nil _)
    refine Go.wp_seq (Go.wp_mono (code_ops hm s2 c2 hf3 m2 tmt).1 fun ex a4 w4 hp => ?_)
    obtain ⟨γ4, s4, g4, hf4, m4, e4, tmm4, hd4⟩ := hp
    cases ex <;> simp only [Ends] at g4 <;> (try (cases g4; done))
    injection g4 with g4; subst g4
    refine Go.wp_ret ?_
    obtain ⟨v, hv, hr⟩ := iret_sim (fn := fn) (vs := [.c .nil]) (s := St.tick ⟨put fr3 (some 2) (.v (.c .nil)), μ.tick⟩) hres hf4 m4 (by simp [trav, iret1, St.tick, put])
    have hA0 : A = none := by simpa using hAn
    have hys : ys = [] := by
      cases ys with
      | nil => rfl
      | cons y ys => obtain ⟨b, o, vs, h, _⟩ := hA (by simp); rw [hA0] at h; cases h
    have hvs : ∃ X, v = .slice X 0 0 := by
      have hr : CR γ4 _ w4 .nil v := hr
      cases hr with
      | z h => cases h with
        | dat h => cases h
        | nil => exact ⟨_, rfl⟩
    obtain ⟨X, rfl⟩ := hvs
    subst hys
    obtain ⟨m5, e5⟩ := m4.addArr (i := (μ.t + 1, 5)) (q := ⟨e', z', []⟩) (v := .slice none 0 0) (sto := true) (old := []) f5 ⟨by simp, kz, .inl ⟨none, by simp [upd_same], rfl⟩⟩ (fun j g _ h => by simp [blk] at h) (fun j b g _ h => by simp [blk] at h)
    obtain ⟨m6, e6⟩ := m5.addArr (i := (μ.t + 1, 7)) (q := ⟨e', z', []⟩) (v := .slice X 0 0) (sto := true) (old := [(μ.t + 1, 5)]) (by simp [mkRow, upd]; exact f7) ⟨by simp, kz, .inl ⟨X, by simp [upd_same], rfl⟩⟩ (fun j g _ h => by cases X <;> simp [blk] at h) (fun j b g _ h => by cases X <;> simp [blk] at h)
    refine ⟨by rw [hd4, hd3], _, hv, _, _, rfl, ?_, m6, (e1.trans (e2.trans (e4.trans (e5.trans e6)))), tmF⟩
    show CR _ _ w4 (.own (μ.t + 1, 7)) (.slice X 0 0)
    have := CR.own (γ := { ({ γ4 with nu := upd γ4.nu (μ.t + 1, 5) (.slice none 0 0) } : Gh) with nu := upd (upd γ4.nu (μ.t + 1, 5) (.slice none 0 0)) (μ.t + 1, 7) (.slice X 0 0) }) (μ := (mkRow (mkRow μ.tick (μ.t + 1, 5) ⟨e', z', []⟩ true []) (μ.t + 1, 7) ⟨e', z', []⟩ true [(μ.t + 1, 5)]).tick) (w := w4) (i := (μ.t + 1, 7)) (by simp [Mu.tick, mkRow, upd_same])
    simpa [upd_same] using this
  | false =>
    refine Go.wp_skip ?_
    have c3 := reg (i := i3) t3 rfl
    have s3 := clone_chain (C := CS P) (fr := fr3) (μ := μ.tick) (e := e') (z := z') (sh := sh3) (ys := ys) (by rw [hfx]; exact he) hl f5
    refine Go.wp_seq (Go.wp_mono (code_ops hm s3 c3 hf3 m2 tmt).1 fun ex a4 w4 hp => ?_)
    obtain ⟨γ4, s4, g4, hf4, m4, e4, tmm4, hd4⟩ := hp
    cases ex <;> simp only [Ends] at g4 <;> (try (cases g4; done))
    injection g4 with g4; subst g4
    refine Go.wp_ret ?_
    obtain ⟨v, hv, hr⟩ := iret_sim (fn := fn) (vs := [.c (.own (μ.t + 1, 7))]) hres hf4 m4 (by simp [trav, iret1, St.tick, put]; rfl)
    exact ⟨by rw [hd4, hd3], _, hv, _, _, rfl, hr, m4, e1.trans (e2.trans e4), tmF⟩
theorem cloneOf_pos {fn : Func} {e z : Nat} (hc : cloneOf P fn = some (e, z)) : 0 < z := by
  unfold cloneOf at hc
  split at hc
  case h_2 => cases hc
  split at hc
  case h_2 => cases hc
  split at hc
  case h_2 => cases hc
  split at hc
  case isFalse => cases hc
  rename_i hall
  injection hc with hc; injection hc with hc1 hc2; subst hc2
  simp only [Bool.and_eq_true, decide_eq_true_eq] at hall
  exact hall.2
/-- The same as a call whose result its caller owns. -/
theorem clone_call {g e z : Nat} {ys : List (List Cell)} (hz : 0 < z) (h : ∀ (x : FV) (μ : Mu), elems μ z x = some ys → ICallSim P g [x] μ [.c (.own (μ.t + 1, 7))] (mkRow (mkRow μ.tick (μ.t + 1, 5) ⟨e, z, []⟩ true []) (μ.t + 1, 7) ⟨e, z, ys⟩ true [(μ.t + 1, 5)]).tick) :
    CallSim P g [.v (.c (.ro z ys))] [.c (.fresh e z ys)] := by
  obtain ⟨hcb, hcall⟩ := h (.v (.c (.ro z ys))) mu0 (by simp [elems, elemsC])
  refine ⟨hcb, fun w st us hst hsz har => ?_⟩
  let γ0 : Gh := ⟨fun _ => undef, fun _ => 0, st, w.heap.size, fun _ => 0⟩
  have m0 : MR γ0 mu0 w := ⟨Nat.le_refl _, hst, (fun i cs h => by cases h), (fun i q h => by cases h), (fun i j h => by cases h), (fun i j g h => by cases h), (fun i j q b g h => by cases h), (fun i h => by cases h), ⟨(fun i es h => by cases h), (fun i j h => by cases h)⟩⟩
  have tm0 : Tm mu0 [] := fun i hi => by rcases hi with hi | hi <;> cases hi
  refine Calls.mono (hcall γ0 w us hsz (fun j x v hx hv => AR.rel (γ := γ0) (har j x v hx hv)) m0 tm0) fun e w' hR => ?_
  obtain ⟨v, γ', rfl, hret, m', e', _⟩ := hR
  refine ⟨v, γ'.st, rfl, e'.bel, fun b o h => (e'.st b o h).1, e'.nst, m'.stlt, .inl ⟨_, _, _, rfl, ?_⟩⟩
  have hv : v = γ'.nu (mu0.t + 1, 7) := by
    have hr : CR γ' _ w' (.own (mu0.t + 1, 7)) v := hret
    cases hr with
    | z h => cases h with | dat h => cases h
    | own _ => rfl
  obtain ⟨q1, q2, q3⟩ := m'.liv (i := (mu0.t + 1, 7)) (a := ⟨e, z, ys⟩) (by simp [Mu.tick, mkRow, upd_same]) (by simp only; omega)
  refine ⟨q1, q2, ?_⟩
  rw [hv]
  have hlo : γ'.lo = w.heap.size := e'.lo
  rw [hlo] at q3
  refine q3.imp id ?_
  rintro ⟨gb, cap, cur, n1, n2, n3, n4, n5, n6, n7, n8, n9⟩
  exact ⟨gb, cap, cur, n1, n2, n3, n4, n5, n6, n7, n9 (by simp [Mu.tick, mkRow])⟩
theorem code_noclone {nt : Nat} {c : Code} {e z : Nat} (h : compCode P nt c = some (.clone e z)) : False := by
  cases c <;> simp only [compCode] at h <;> (try (cases h; done)) <;> (try ((repeat' split at h) <;> cases h; done)) <;> (obtain ⟨_, _, e⟩ := some_pair h; cases e; done)
theorem code_nospec {nt : Nat} {c : Code} {k e z : Nat} (h : compCode P nt c = some (.spec k e z)) : False := by
  cases c <;> simp only [compCode] at h <;> (try (cases h; done)) <;> (try ((repeat' split at h) <;> cases h; done)) <;> (obtain ⟨_, _, e⟩ := some_pair h; cases e; done)
/-- What is to be shown of the library's functions that change a row in place. -/
def Special (P : Program) : Prop := ∀ (g : Nat) (fn : Func) (k e z : Nat), P.funcs[g]? = some fn → specOf P fn = some (k, e, z) → ∀ args μ vs μ', specStep k e z args μ = some (vs, μ') → ICallSim P g args μ vs μ'
theorem sim {F : Nat → Option SFun} (hF : ∀ g f, F g = some f → comp P g = some f) (hm : P.follows .mixedOrders = true) (hO : Special P) {t : Task} {out : Out} (h : Ev F t out) : Motive P t out := by
  induction h with
  | skip s =>
    intro code nt γ a w hc hf m tm
    cases code <;> simp only [compCode] at hc <;> (try (cases hc; done)) <;> (try ((repeat' split at hc) <;> cases hc; done)) <;> (try (obtain ⟨_, _, e⟩ := some_pair hc; cases e; done))
    case skip => exact ⟨Go.wp_skip (.mk rfl hf m tm), fun c' h => by cases h⟩
  | ops _ ih =>
    obtain ⟨s', e, hch⟩ := ih
    injection e with e; subst e
    exact code_ops hm hch
  | nil s => exact ⟨s, rfl, .nil s⟩
  | off hg _ ih => obtain ⟨s', rfl, hch⟩ := ih; exact ⟨s', rfl, .cons (.off hg) hch⟩
  | op hg ha _ ih => obtain ⟨s', rfl, hch⟩ := ih; exact ⟨s', rfl, .cons (.op hg ha) hch⟩
  | call hg ho hc ha _ _ ih1 ih2 =>
    obtain ⟨s', rfl, hch⟩ := ih2
    obtain ⟨vs, e, hcs⟩ := ih1
    injection e with e; subst e
    exact ⟨s', rfl, .cons (.call hg ho hc ha hcs) hch⟩
  | icall hg ho hc _ _ ih1 ih2 =>
    obtain ⟨s', rfl, hch⟩ := ih2
    obtain ⟨vs, μ', e, hcs⟩ := ih1
    injection e with e1 e2; subst e1; subst e2
    exact ⟨s', rfl, .cons (.icall hg ho hc hcs) hch⟩
  | seqn _ _ ih1 ih2 =>
    intro code nt γ a w hc hf m tm
    cases code <;> simp only [compCode] at hc <;> (try (cases hc; done)) <;> (try ((repeat' split at hc) <;> cases hc; done)) <;> (try (obtain ⟨_, _, e⟩ := some_pair hc; cases e; done))
    case seq x y =>
      split at hc
      · rename_i x' y' hx hy
        injection hc with hc; injection hc with e1 e2; subst e1; subst e2
        refine ⟨Go.wp_seq (Go.wp_mono (ih1 hx hf m tm).1 fun e a' w' hp => ?_), fun c' h => by cases h⟩
        obtain ⟨γ', s', h1, h2, h3, h4, h5, h6⟩ := hp
        cases e <;> simp only [Ends] at h1 <;> (try (cases h1; done))
        injection h1 with h1; subst h1
        exact Go.wp_mono (ih2 hy h2 h3 h5).1 fun e a'' w'' hp => hp.next (fun s h => h) h4 h6
      · cases hc
  | @seqx x0 y0 s out _ hx ih =>
    intro code nt γ a w hc hf m tm
    cases code <;> simp only [compCode] at hc <;> (try (cases hc; done)) <;> (try ((repeat' split at hc) <;> cases hc; done)) <;> (try (obtain ⟨_, _, e⟩ := some_pair hc; cases e; done))
    case seq x y =>
      split at hc
      · rename_i x' y' hx' hy
        injection hc with hc; injection hc with e1 e2; subst e1; subst e2
        refine ⟨Go.wp_seq (Go.wp_mono (ih hx' hf m tm).1 fun e a' w' hp => ?_), fun c' h => by cases h⟩
        cases e with
        | normal =>
          obtain ⟨γ', s', h1, _⟩ := hp
          cases out <;> simp [Ends, Out.abrupt] at h1 hx
        | _ => exact hp
      · cases hc
  | @cond c0 x0 y0 s b out hc' _ ih =>
    intro code nt γ a w hc hf m tm
    cases code <;> simp only [compCode] at hc <;> (try (cases hc; done)) <;> (try ((repeat' split at hc) <;> cases hc; done)) <;> (try (obtain ⟨_, _, e⟩ := some_pair hc; cases e; done))
    case cond c x y =>
      split at hc
      · rename_i c1 x' y' h1 h2 h3
        injection hc with hc; injection hc with e1 e2 e3; subst e1; subst e2; subst e3
        have hv := opd_rel hf h1
        rw [hc'] at hv
        obtain ⟨hv, _⟩ := inv_val hv
        refine ⟨Go.wp_cond hv ?_, fun c' h => by cases h⟩
        cases b with
        | true => exact (ih h2 hf m tm).1
        | false => exact (ih h3 hf m tm).1
      · cases hc
  | @block id c s out _ ih =>
    intro code nt γ a w hc hf m tm
    cases code <;> simp only [compCode] at hc <;> (try (cases hc; done)) <;> (try ((repeat' split at hc) <;> cases hc; done)) <;> (try (obtain ⟨_, _, e⟩ := some_pair hc; cases e; done))
    case block id' x =>
      obtain ⟨x', hx, e⟩ := some_pair hc
      injection e with e1 e2; subst e1; subst e2
      refine ⟨Go.wp_block (Go.wp_mono (ih hx hf m tm).1 fun e a' w' hp => ?_), fun c' h => by cases h⟩
      cases e with
      | exit n =>
        simp only [Exit.inBlock]
        split
        · rename_i hn
          refine hp.next (fun s' h => ?_) (.refl _ _ _) rfl
          cases out <;> simp [Ends] at h
          rename_i k _
          obtain ⟨h1, h2⟩ := h
          subst h2
          simp [Out.blk, Ends, h1, hn]
        · rename_i hn
          refine hp.next (fun s' h => ?_) (.refl _ _ _) rfl
          cases out <;> simp [Ends] at h
          rename_i k _
          obtain ⟨h1, h2⟩ := h
          subst h2
          simp [Out.blk, Ends, h1, hn]
      | _ =>
        refine Post.next (e := _) hp (fun s' h => ?_) (.refl _ _ _) rfl
        cases out <;> simp [Ends] at h <;> simp [Out.blk, Ends, h]
  | loopn _ _ ih1 ih2 =>
    intro code nt γ a w hc hf m tm
    have hc0 := hc
    cases code <;> simp only [compCode] at hc <;> (try (cases hc; done)) <;> (try ((repeat' split at hc) <;> cases hc; done)) <;> (try (obtain ⟨_, _, e⟩ := some_pair hc; cases e; done))
    case loop x =>
      obtain ⟨x', hx, e⟩ := some_pair hc
      injection e with e1; subst e1
      have hL : WpL P x _ a w := wpL_next (Go.wp_mono (ih1 hx hf m tm).1 fun e a' w' hp => by
        obtain ⟨γ', s', h1, h2, h3, h4, h5, h6⟩ := hp
        cases e <;> simp only [Ends] at h1 <;> (try (cases h1; done))
        injection h1 with h1; subst h1
        intro b k cs
        obtain ⟨e2, a2, w2, hq, har⟩ := (ih2 hc0 h2 h3 h5).2 x rfl b k cs
        exact ⟨e2, a2, w2, hq.next (fun s h => h) h4 h6, har⟩)
      exact ⟨wp_of_wpL hL, fun c' h => by injection h with h; subst h; exact hL⟩
  | @loopx c s out _ hx ih =>
    intro code nt γ a w hc hf m tm
    cases code <;> simp only [compCode] at hc <;> (try (cases hc; done)) <;> (try ((repeat' split at hc) <;> cases hc; done)) <;> (try (obtain ⟨_, _, e⟩ := some_pair hc; cases e; done))
    case loop x =>
      obtain ⟨x', hx', e⟩ := some_pair hc
      injection e with e1; subst e1
      have hL : WpL P x (Post nt γ s.mu w a out) a w := wpL_next (Go.wp_mono (ih hx' hf m tm).1 fun e a' w' hp => by
        cases e with
        | normal =>
          obtain ⟨γ', s', h1, _⟩ := hp
          cases out <;> simp [Ends, Out.abrupt] at h1 hx
        | _ => exact hp)
      exact ⟨wp_of_wpL hL, fun c' h => by injection h with h; subst h; exact hL⟩
  | exit n s =>
    intro code nt γ a w hc hf m tm
    cases code <;> simp only [compCode] at hc <;> (try (cases hc; done)) <;> (try ((repeat' split at hc) <;> cases hc; done)) <;> (try (obtain ⟨_, _, e⟩ := some_pair hc; cases e; done))
    case exit id =>
      injection hc with hc; injection hc with hc; subst hc
      exact ⟨Go.wp_exit (.mk (by simp [Ends]) hf m tm), fun c' h => by cases h⟩
  | ret s =>
    intro code nt γ a w hc hf m tm
    cases code <;> simp only [compCode] at hc <;> (try (cases hc; done)) <;> (try ((repeat' split at hc) <;> cases hc; done)) <;> (try (obtain ⟨_, _, e⟩ := some_pair hc; cases e; done))
    case ret => exact ⟨Go.wp_ret (.mk rfl hf m tm), fun c' h => by cases h⟩
  | @fn g f args out s' vs hFg hev hfin hret ih =>
    refine ⟨vs, rfl, ?_⟩
    have hcomp := hF g f hFg
    unfold comp at hcomp
    cases hP : P.funcs[g]? with
    | none => rw [hP] at hcomp; simp at hcomp
    | some fn =>
    rw [hP] at hcomp
    simp only [Option.bind_some, compFun] at hcomp
    cases hbody : fn.body with
    | none => rw [hbody] at hcomp; simp at hcomp
    | some c =>
    rw [hbody] at hcomp
    simp only at hcomp
    split at hcomp
    case isFalse => cases hcomp
    rename_i hname
    split at hcomp
    · injection hcomp with hcomp; subst hcomp; cases hev
    split at hcomp
    · injection hcomp with hcomp; subst hcomp; cases hev
    split at hcomp
    case h_2 => cases hcomp
    rename_i sc rs hsc hrs
    injection hcomp with hcomp; subst hcomp
    refine ⟨⟨fn, c, hP, hbody, ?_⟩, fun w st us hst hsz har => ?_⟩
    · have : ¬ fn.name = "runtime.NumGoroutine" := fun e => by rw [e] at hname; simp at hname
      simpa using this
    · let γ0 : Gh := ⟨fun _ => undef, fun _ => 0, st, w.heap.size, fun _ => 0⟩
      have m0 : MR γ0 (entry args).mu w := ⟨Nat.le_refl _, hst, (fun i cs h => by cases h), (fun i q h => by cases h), (fun i j h => by cases h), (fun i j g h => by cases h), (fun i j q b g h => by cases h), (fun i h => by cases h), ⟨(fun i es h => by cases h), (fun i j h => by cases h)⟩⟩
      have tm0 : Tm (entry args).mu [] := fun i hi => by rcases hi with hi | hi <;> cases hi
      have hf0 : AFR γ0 (entry args).mu w fn.ntmps (entry args).fr { tmps := us ++ Array.replicate (fn.ntmps - us.size) undef, defers := [] } := by
        refine ⟨by simp; omega, fun k => ?_⟩
        have hnth : (entry args).fr k = (args[k]?).getD .skip := by simp only [entry, nth_spec]
        rw [hnth]
        by_cases hk : k < args.length
        · have h1 : args[k]? = some args[k] := List.getElem?_eq_getElem hk
          have h2 : us[k]? = some (us[k]'(by omega)) := Array.getElem?_eq_getElem _
          rw [h1, Array.getD_eq_getD_getElem?, Array.getElem?_append_left (by omega), h2]
          exact AR.rel (γ := γ0) (har k _ _ h1 h2)
        · rw [List.getElem?_eq_none (by omega), Array.getD_eq_getD_getElem?, Array.getElem?_append_right (by omega)]
          have : ((Array.replicate (fn.ntmps - us.size) undef)[k - us.size]?).getD undef = undef := by
            rw [Array.getElem?_replicate]
            split <;> rfl
          rw [this]; rfl
      refine calls_of_wp hP hbody (Go.wp_mono (ih hsc hf0 m0 tm0).1 fun e a' w' hp => ?_)
      obtain ⟨γ', s2, h1, h2, h3, h4, h5, h6⟩ := hp
      obtain ⟨v, st', k1, k2, k3, k4, k5⟩ := ret_sim (own := ownFn fn.name) (vs := vs) (s := s2) hrs h2 h3 (by
        have : s2 = s' := by
          cases out <;> simp [Out.fin] at hfin <;> cases e <;> simp [Ends] at h1 <;> (subst hfin; exact h1.symm)
        rw [this]; exact hret)
      have hlo : γ'.lo = w.heap.size := h4.lo
      rw [hlo] at k3 k5
      have hR : ∃ v st', Ending.returned v = Ending.returned v ∧ True := ⟨v, st', rfl, trivial⟩
      have hend : ∃ v' st'', Ending.returned v = Ending.returned v' ∧ Below w.heap.size w w' ∧ (∀ b o, st b o → st'' b o) ∧ (∀ b o, st'' b o → st b o ∨ w.heap.size ≤ b) ∧ (∀ b o, st'' b o → b < w'.heap.size) ∧ RetR st'' w.heap.size w' vs v' :=
        ⟨v, st', rfl, h4.bel, fun b o h => k2 b o (h4.st b o h).1, fun b o h => (k3 b o h).elim (fun h => h4.nst b o h) .inr, k4, k5⟩
      cases out <;> simp [Out.fin] at hfin <;> cases e <;> simp [Ends] at h1 <;> exact ⟨h6, v, k1, hend⟩
  | @ccl g f e z ys hFg hcode hl =>
    refine ⟨_, rfl, ?_⟩
    have hcomp := hF g f hFg
    unfold comp at hcomp
    cases hP : P.funcs[g]? with
    | none => rw [hP] at hcomp; simp at hcomp
    | some fn =>
    rw [hP] at hcomp
    simp only [Option.bind_some, compFun] at hcomp
    cases hbody : fn.body with
    | none => rw [hbody] at hcomp; simp at hcomp
    | some c =>
    rw [hbody] at hcomp
    simp only at hcomp
    split at hcomp
    case isFalse => cases hcomp
    rename_i hname
    have hname' : (fn.name == "runtime.NumGoroutine") = false := by
      have : ¬ fn.name = "runtime.NumGoroutine" := fun e => by rw [e] at hname; simp at hname
      simpa using this
    split at hcomp
    · injection hcomp with hcomp; subst hcomp; cases hcode
    split at hcomp
    · rename_i e' z' hcl
      injection hcomp with hcomp; subst hcomp
      injection hcode with h1 h2; subst h1; subst h2
      exact clone_call (cloneOf_pos hcl) (fun x μ he => clone_sim hm hP hname' hcl he hl)
    · split at hcomp
      · rename_i sc rs hsc hrs
        injection hcomp with hcomp; subst hcomp
        simp only at hcode; subst hcode
        exact (code_noclone hsc).elim
      · cases hcomp
  | @icl g f e z x ys μ hFg hcode he hl =>
    refine ⟨_, _, rfl, ?_⟩
    have hcomp := hF g f hFg
    unfold comp at hcomp
    cases hP : P.funcs[g]? with
    | none => rw [hP] at hcomp; simp at hcomp
    | some fn =>
    rw [hP] at hcomp
    simp only [Option.bind_some, compFun] at hcomp
    cases hbody : fn.body with
    | none => rw [hbody] at hcomp; simp at hcomp
    | some c =>
    rw [hbody] at hcomp
    simp only at hcomp
    split at hcomp
    case isFalse => cases hcomp
    rename_i hname
    have hname' : (fn.name == "runtime.NumGoroutine") = false := by
      have : ¬ fn.name = "runtime.NumGoroutine" := fun e => by rw [e] at hname; simp at hname
      simpa using this
    split at hcomp
    · injection hcomp with hcomp; subst hcomp; cases hcode
    split at hcomp
    · rename_i e' z' hcl
      injection hcomp with hcomp; subst hcomp
      injection hcode with h1 h2; subst h1; subst h2
      exact clone_sim hm hP hname' hcl he hl
    · split at hcomp
      · rename_i sc rs hsc hrs
        injection hcomp with hcomp; subst hcomp
        simp only at hcode; subst hcode
        exact (code_noclone hsc).elim
      · cases hcomp
  | @spi g f k e z args μ μ' vs hFg hcode hs =>
    refine ⟨_, _, rfl, ?_⟩
    have hcomp := hF g f hFg
    unfold comp at hcomp
    cases hP : P.funcs[g]? with
    | none => rw [hP] at hcomp; simp at hcomp
    | some fn =>
    rw [hP] at hcomp
    simp only [Option.bind_some, compFun] at hcomp
    cases hbody : fn.body with
    | none => rw [hbody] at hcomp; simp at hcomp
    | some c =>
    rw [hbody] at hcomp
    simp only at hcomp
    split at hcomp
    case isFalse => cases hcomp
    split at hcomp
    · rename_i k' e' z' hsp
      injection hcomp with hcomp; subst hcomp
      injection hcode with h1 h2 h3; subst h1; subst h2; subst h3
      exact hO g fn _ _ _ hP hsp _ _ _ _ hs
    split at hcomp
    · injection hcomp with hcomp; subst hcomp; cases hcode
    split at hcomp
    · rename_i sc rs hsc hrs
      injection hcomp with hcomp; subst hcomp
      simp only at hcode; subst hcode
      exact (code_nospec hsc).elim
    · cases hcomp
  | @ifn g f args μ out s' vs hFg hev hfin hret ih =>
    refine ⟨vs, _, rfl, ?_⟩
    have hcomp := hF g f hFg
    unfold comp at hcomp
    cases hP : P.funcs[g]? with
    | none => rw [hP] at hcomp; simp at hcomp
    | some fn =>
    rw [hP] at hcomp
    simp only [Option.bind_some, compFun] at hcomp
    cases hbody : fn.body with
    | none => rw [hbody] at hcomp; simp at hcomp
    | some c =>
    rw [hbody] at hcomp
    simp only at hcomp
    split at hcomp
    case isFalse => cases hcomp
    rename_i hname
    split at hcomp
    · injection hcomp with hcomp; subst hcomp; cases hev
    split at hcomp
    · injection hcomp with hcomp; subst hcomp; cases hev
    split at hcomp
    case h_2 => cases hcomp
    rename_i sc rs hsc hrs
    injection hcomp with hcomp; subst hcomp
    refine ⟨⟨fn, c, hP, hbody, ?_⟩, fun γ w us hsz har m tm => ?_⟩
    · have : ¬ fn.name = "runtime.NumGoroutine" := fun e => by rw [e] at hname; simp at hname
      simpa using this
    · have hf0 : AFR γ μ w fn.ntmps (fun k => (nth args k).getD .skip) { tmps := us ++ Array.replicate (fn.ntmps - us.size) undef, defers := [] } := by
        refine ⟨by simp; omega, fun k => ?_⟩
        simp only [nth_spec]
        by_cases hk : k < args.length
        · have h1 : args[k]? = some args[k] := List.getElem?_eq_getElem hk
          have h2 : us[k]? = some (us[k]'(by omega)) := Array.getElem?_eq_getElem _
          rw [h1, Array.getD_eq_getD_getElem?, Array.getElem?_append_left (by omega), h2]
          exact har k _ _ h1 h2
        · rw [List.getElem?_eq_none (by omega), Array.getD_eq_getD_getElem?, Array.getElem?_append_right (by omega)]
          have : ((Array.replicate (fn.ntmps - us.size) undef)[k - us.size]?).getD undef = undef := by
            rw [Array.getElem?_replicate]
            split <;> rfl
          rw [this]; rfl
      refine calls_of_wp hP hbody (Go.wp_mono (ih hsc hf0 m tm).1 fun e a' w' hp => ?_)
      obtain ⟨γ', s2, h1, h2, h3, h4, h5, h6⟩ := hp
      obtain ⟨v, k1, k2⟩ := iret_sim (vs := vs) (s := s2) hrs h2 h3 (by
        have : s2 = s' := by
          cases out <;> simp [Out.fin] at hfin <;> cases e <;> simp [Ends] at h1 <;> (subst hfin; exact h1.symm)
        rw [this]; exact hret)
      have hss : s2 = s' := by
        cases out <;> simp [Out.fin] at hfin <;> cases e <;> simp [Ends] at h1 <;> (subst hfin; exact h1.symm)
      subst hss
      have hend : ∃ v' γ'', Ending.returned v = Ending.returned v' ∧ RetI γ'' s2.mu.tick w' vs v' ∧ MR γ'' s2.mu.tick w' ∧ Ext γ μ w γ'' s2.mu.tick w' ∧ Tm s2.mu.tick [] :=
        ⟨v, γ', rfl, FR.ext k2 (.mtick γ' s2.mu w'), h3.mtick, h4.trans (.mtick γ' s2.mu w'), Mu.tick_tm h5⟩
      cases out <;> simp [Out.fin] at hfin <;> cases e <;> simp [Ends] at h1 <;> exact ⟨h6, v, k1, hend⟩
end Go.Proofs.Ytndabolfhhppkaa.Am
