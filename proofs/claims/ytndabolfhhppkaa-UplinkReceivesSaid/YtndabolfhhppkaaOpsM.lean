/- One operation, on: maps from numbers to numbers, bools and structs of such. No condition. -/
import Derived.Test.YtndabolfhhppkaaOpsI
import Derived.MapKept
namespace Go.Proofs.Ytndabolfhhppkaa.Am
open Go Go.RowKit
variable {P : Program} {γ : Gh} {μ : Mu} {w : World} {nt : Nat} {D : List Nat} {fr : Fr} {a : Act}

theorem mapT_spec {t e : TypeId} (h : mapT P t = some e) : ∃ k, P.underlying t = some (.map k e) ∧ P.underlying k = some (.int .i64) := by
  unfold mapT at h
  split at h
  · rename_i k e' hu
    split at h
    · rename_i hk; injection h with h; subst h; exact ⟨k, hu, hk⟩
    · cases h
  · cases h
theorem valS_spec {c : Cell} {v : Value} (h : valS c = some v) : c = .val v ∧ scalar v = true := by
  unfold valS at h
  split at h <;> first
    | (injection h with h; subst h; exact ⟨rfl, rfl⟩)
    | cases h
theorem travS_spec : ∀ {cs : List Cell} {vs : List Value}, trav valS cs = some vs → cs = vs.map .val ∧ ∀ v ∈ vs, scalar v = true
  | [], vs, h => by simp [trav] at h; subst h; exact ⟨rfl, by simp⟩
  | c :: cs, vs, h => by
    simp only [trav] at h
    split at h
    · rename_i b q h1 h2
      injection h with h; subst h
      obtain ⟨e1, e2⟩ := valS_spec h1
      obtain ⟨k1, k2⟩ := travS_spec h2
      exact ⟨by rw [e1, k1]; rfl, fun v hv => (List.mem_cons.1 hv).elim (fun e => by rw [e]; exact e2) (k2 v)⟩
    · cases h
theorem vlv_rel {x : Vl} {v : Value} (h : vlv x = some v) : VR γ μ w x v := by
  cases x with
  | c x => obtain ⟨rfl, hs⟩ := valS_spec h; exact cr_val hs
  | agg cs =>
    simp only [vlv] at h
    obtain ⟨vs, hvs, e⟩ := some_pair h
    subst e
    obtain ⟨rfl, hs⟩ := travS_spec hvs
    refine ⟨vs, rfl, by simp, fun j c v hc hv => ?_⟩
    rw [List.getElem?_map, hv] at hc
    simp at hc; subst hc
    exact cr_val (hs v (List.mem_of_getElem? hv))
theorem vlv_inv {x : Vl} {u v : Value} (hr : VR γ μ w x u) (h : vlv x = some v) : u = v := by
  cases x with
  | c x => obtain ⟨rfl, hs⟩ := valS_spec h; exact (inv_val (show FR γ μ w (.v (.c (.val v))) u from hr)).1
  | agg cs =>
    simp only [vlv] at h
    obtain ⟨vs, hvs, e⟩ := some_pair h
    subst e
    obtain ⟨rfl, hs⟩ := travS_spec hvs
    obtain ⟨us, rfl, hl, hu⟩ := hr
    have : us = vs := by
      apply List.ext_getElem?
      intro j
      have hl' : us.length = vs.length := by simpa using hl
      by_cases hj : j < vs.length
      · have h1 := List.getElem?_eq_getElem hj
        have h2 := List.getElem?_eq_getElem (l := us) (i := j) (by omega)
        rw [h1, h2]
        have := hu j (.val vs[j]) us[j] (by rw [List.getElem?_map, h1]; rfl) h2
        exact congrArg some (inv_val (show FR γ μ w (.v (.c (.val vs[j]))) us[j] from this)).1
      · rw [List.getElem?_eq_none (by omega), List.getElem?_eq_none (by omega)]
    rw [this]
/-! ### Entries -/
def EnR (L : List MapEntry) (es : List (Int × Vl)) : Prop := L.map (fun e => (e.key, some e.val)) = es.map fun p => (Value.int .i64 p.1, vlv p.2)
theorem EnR.len {L : List MapEntry} {es : List (Int × Vl)} (h : EnR L es) : L.length = es.length := by simpa using congrArg List.length h
theorem enR_cons {e : MapEntry} {L : List MapEntry} {p : Int × Vl} {es : List (Int × Vl)} : EnR (e :: L) (p :: es) ↔ (e.key = .int .i64 p.1 ∧ some e.val = vlv p.2) ∧ EnR L es := by
  simp [EnR]
theorem EnR.find {n : Int} : ∀ {L : List MapEntry} {es : List (Int × Vl)} (i : Nat), EnR L es →
    (mfind es n = none ∧ Instr.findNow (.int .i64) (.int .i64 n) L i = some none ∧ mrem es n = es ∧ ∀ x v c, vlv x = some v → EnR (L ++ [⟨.int .i64 n, v, c⟩]) (mins es n x)) ∨
    ∃ j e y, mfind es n = some y ∧ Instr.findNow (.int .i64) (.int .i64 n) L i = some (some (i + j, e.val)) ∧ L[j]? = some e ∧ e.key = .int .i64 n ∧ vlv y = some e.val ∧
      (∀ x v, vlv x = some v → EnR (L.modify j fun e => { e with key := .int .i64 n, val := v }) (mins es n x)) ∧ EnR (L.eraseIdx j) (mrem es n)
  | [], [], i, h => .inl ⟨rfl, rfl, rfl, fun x v c hv => by simp [EnR, mins, hv]⟩
  | [], _ :: _, i, h => by simp [EnR] at h
  | _ :: _, [], i, h => by simp [EnR] at h
  | e :: L, p :: es, i, h => by
    obtain ⟨⟨h1, h2⟩, h3⟩ := enR_cons.1 h
    by_cases hp : p.1 = n
    · refine .inr ⟨0, e, p.2, by simp [mfind, hp], ?_, rfl, by rw [h1, hp], h2.symm, fun x v hv => ?_, ?_⟩
      · simp [Instr.findNow, Instr.sameNow, h1, hp]
      · simp only [List.modify_zero_cons, mins, hp, if_true]
        exact enR_cons.2 ⟨⟨rfl, hv.symm⟩, h3⟩
      · simpa [mrem, hp] using h3
    · rcases EnR.find (n := n) (i + 1) h3 with ⟨k1, k2, k3, k4⟩ | ⟨j, e', y, k1, k2, k3, k4, k5, k6, k7⟩
      · refine .inl ⟨by simp [mfind, hp, k1], ?_, by simp [mrem, hp, k3], fun x v c hv => ?_⟩
        · simp only [Instr.findNow, Instr.sameNow, h1, if_true]
          rw [show (n == p.1) = false by simpa using fun e => hp e.symm]
          exact k2
        · simp only [mins, hp, if_false, List.cons_append]
          exact enR_cons.2 ⟨⟨h1, h2⟩, k4 x v c hv⟩
      · refine .inr ⟨j + 1, e', y, by simp [mfind, hp, k1], ?_, by simpa using k3, k4, k5, fun x v hv => ?_, ?_⟩
        · simp only [Instr.findNow, Instr.sameNow, h1, if_true]
          rw [show (n == p.1) = false by simpa using fun e => hp e.symm, k2]
          simp; omega
        · simp only [mins, hp, if_false, List.modify_succ_cons]
          exact enR_cons.2 ⟨⟨h1, h2⟩, k6 x v hv⟩
        · simp only [mrem, hp, if_false, List.eraseIdx_cons_succ]
          exact enR_cons.2 ⟨⟨h1, h2⟩, k7⟩
/-! ### The memory with maps -/
theorem MR.maps (m : MR γ μ w) {mb' : Id → Nat} {mp' : Id → Option (List (Int × Vl))} {w' : World} (hb : Below γ.lo w w') (hc : ∀ b o, γ.st b o → w'.cell? (at_ b o) = w.cell? (at_ b o))
    (hh : ∀ (b : Nat) (vs : Array Value) (T : TypeId), w.heap[b]? = some (.cells vs T (0, 0)) → w'.heap[b]? = some (.cells vs T (0, 0)))
    (hm : MpR { γ with mb := mb' } mp' w') (hk : ∀ i, (μ.mp i).isSome = true → (mp' i).isSome = true ∧ mb' i = γ.mb i) :
    MR { γ with mb := mb' } { μ with mp := mp' } w' ∧ Ext γ μ w { γ with mb := mb' } { μ with mp := mp' } w' := by
  have e : Ext γ μ w { γ with mb := mb' } { μ with mp := mp' } w' := ⟨rfl, fun b o h => ⟨h, hc b o h⟩, fun _ _ h => .inl h, hb, fun _ h => ⟨h, rfl⟩, fun _ a h => ⟨rfl, a, h, .inr ⟨rfl, rfl, rfl⟩⟩, hk⟩
  refine ⟨⟨Nat.le_trans m.lo hb.size, fun b o h => Nat.lt_of_lt_of_le (m.stlt b o h) hb.size, fun i cs h => ?_, fun i q h => ?_, m.bb, m.ba, m.aa, m.sa, hm⟩, e⟩
  · obtain ⟨h1, h2, vs, T, h3, h4⟩ := m.box i cs h
    exact ⟨h1, h2, vs, T, hh _ _ _ h3, h4.ext e⟩
  · rcases m.arr i q h with hd | ⟨h1, h2, h3⟩
    · exact .inl (hd.keep rfl hb.size)
    refine .inr ⟨h1, h2, h3.imp id ?_⟩
    rintro ⟨g, cap, cur, k1, k2, k3, k4, k5, k6, k7, k8⟩
    exact ⟨g, cap, cur, k1, k2, hh _ _ _ k3, k4, k5, k6, fun j x hj => (k7 j x hj).imp fun v hv => ⟨hv.1, hv.2.keep e.st⟩, k8⟩
/-- A map is turned. -/
theorem MR.turn (m : MR γ μ w) {i : Id} {es es' : List (Int × Vl)} {en en' : Array MapEntry} {c c' : Nat} (hi : μ.mp i = some es) (hg : w.heap[γ.mb i]? = some (.map en c)) (hr : EnR en'.toList es') :
    MR γ { μ with mp := upd μ.mp i (some es') } { w with heap := w.heap.setIfInBounds (γ.mb i) (.map en' c') } ∧ Ext γ μ w γ { μ with mp := upd μ.mp i (some es') } { w with heap := w.heap.setIfInBounds (γ.mb i) (.map en' c') } := by
  obtain ⟨s1, s2⟩ := MapKept.heap_set (o' := .map en' c') hg
  have hlo := (m.mm.1 i es hi).1
  refine m.maps (mb' := γ.mb) ⟨rfl, rfl, rfl, by simp, fun k hk => s2 k (by omega)⟩ (fun b o _ => ?_) (fun b vs T h => ?_) ⟨fun j fs hj => ?_, fun j k hj hk hjk => ?_⟩ fun j hj => ⟨?_, rfl⟩
  · by_cases h : b = γ.mb i
    · subst h; simp only [World.cell?, at_, s1, hg]
    · simp only [World.cell?, at_, s2 b h]
  · exact (s2 b fun e => by rw [e, hg] at h; cases h).trans h
  · by_cases h : j = i
    · subst h
      rw [upd_same] at hj; injection hj with hj; subst hj
      exact ⟨hlo, en', c', s1, hr⟩
    · rw [upd_ne _ _ h] at hj
      obtain ⟨k1, en2, c2, k2, k3⟩ := m.mm.1 j fs hj
      have hne : γ.mb j ≠ γ.mb i := fun e => h (m.mm.2 j i (by rw [hj]; rfl) (by rw [hi]; rfl) e)
      exact ⟨k1, en2, c2, (s2 _ hne).trans k2, k3⟩
  · have some_ : ∀ j, (upd μ.mp i (some es') j).isSome = true → (μ.mp j).isSome = true := fun j hj => by
      by_cases h : j = i
      · subst h; rw [hi]; rfl
      · simpa [upd_ne _ _ h] using hj
    exact m.mm.2 j k (some_ j hj) (some_ k hk) hjk
  · by_cases h : j = i
    · subst h; simp [upd_same]
    · simp [upd_ne _ _ h, hj]
theorem inv_mref {i : Id} {v : Value} (h : FR γ μ w (.v (.c (.mref i))) v) : v = .map (some (γ.mb i)) ∧ (μ.mp i).isSome = true := by
  cases h with
  | z h => cases h with | dat h => cases h
  | mref h => exact ⟨rfl, h⟩
theorem sim_mkm {t : TypeId} {v : FV} {μ' : Mu} {id : Id} (m : MR γ μ w) (tm : Tm μ D) (ha : aop .mkm id fr μ = some (v, μ')) :
    OpOk γ μ w D ((do pure (Next.value (← Instr.makeMap t none)) : Sem Next).run P w) v μ' := by
  simp only [aop] at ha
  split at ha
  case isFalse => cases ha
  rename_i hn
  injection ha with ha; injection ha with e1 e2; subst e1; subst e2
  have hnone : μ.mp id = none := by simpa using hn
  have hb := below_alloc w (.map #[] 0)
  have ne_ : ∀ j, (μ.mp j).isSome = true → j ≠ id := fun j hj e => by rw [e, hnone] at hj; cases hj
  obtain ⟨s1, s2⟩ := MapKept.heap_alloc w (.map #[] 0)
  have lt_ : ∀ j, (μ.mp j).isSome = true → γ.mb j < w.heap.size := fun j hj => by
    obtain ⟨es, he⟩ := Option.isSome_iff_exists.1 hj
    obtain ⟨_, en, c, h, _⟩ := m.mm.1 j es he
    exact lt_of_some h
  obtain ⟨m', e⟩ := m.maps (mb' := upd γ.mb id w.heap.size) (mp' := upd μ.mp id (some [])) (w' := w.alloc (.map #[] 0)) (hb.mono m.lo) (fun b o h => hb.cell (p := at_ b o) (m.stlt b o h)) (fun b vs T h => (hb.block _ (lt_of_some h)).trans h)
    ⟨fun j fs hj => by
      by_cases h : j = id
      · subst h
        rw [upd_same] at hj; injection hj with hj; subst hj
        simp only [upd_same]
        exact ⟨m.lo, #[], 0, s1, rfl⟩
      · rw [upd_ne _ _ h] at hj
        simp only [upd_ne _ _ h]
        obtain ⟨k1, en2, c2, k2, k3⟩ := m.mm.1 j fs hj
        exact ⟨k1, en2, c2, (s2 _ (lt_of_some k2)).trans k2, k3⟩, fun j k hj hk hjk => by
      by_cases h : j = id
      · subst h
        by_cases h' : k = j
        · exact h'.symm
        · rw [upd_ne _ _ h'] at hk
          simp only [upd_same, upd_ne _ _ h'] at hjk
          exact absurd (lt_ k hk) (by omega)
      · rw [upd_ne _ _ h] at hj
        by_cases h' : k = id
        · subst h'
          simp only [upd_same, upd_ne _ _ h] at hjk
          exact absurd (lt_ j hj) (by omega)
        · rw [upd_ne _ _ h'] at hk
          simp only [upd_ne _ _ h, upd_ne _ _ h'] at hjk
          exact m.mm.2 j k hj hk hjk⟩
    (fun j hj => ⟨by rw [upd_ne _ _ (ne_ j hj)]; exact hj, upd_ne _ _ (ne_ j hj)⟩)
  refine ⟨_, .map (some w.heap.size), _, .inl (by simp [Instr.makeMap]), ?_, m', e, tm, rfl⟩
  have := CR.mref (γ := { γ with mb := upd γ.mb id w.heap.size }) (μ := { μ with mp := upd μ.mp id (some []) }) (w := w.alloc (.map #[] 0)) (i := id) (by simp [upd_same])
  simp only [upd_same] at this
  exact this
theorem mkey {x : Value} {n : Int} (h : FR γ μ w (.v (.c (.val (.int .i64 n)))) x) : x = .int .i64 n := (inv_val h).1
theorem sim_mset {t e : TypeId} {x k y : Operand} {x' k' y' : Opd} {v : FV} {μ' : Mu} {id : Id} (hf : AFR γ μ w nt fr a) (m : MR γ μ w) (tm : Tm μ D) (ht : mapT P t = some e) (hx : opdOf x = some x') (hk : opdOf k = some k') (hy : opdOf y = some y')
    (ha : aop (.mset x' k' y') id fr μ = some (v, μ')) : OpOk γ μ w D ((do Instr.mapUpdate t (a.eval x) (a.eval k) (a.eval y); pure Next.skip : Sem Next).run P w) v μ' := by
  have h1 := opd_rel hf hx
  have h2 := opd_rel hf hk
  have h3 := opd_rel hf hy
  obtain ⟨kt, hm, hkt⟩ := mapT_spec ht
  simp only [aop] at ha
  split at ha
  case h_2 => cases ha
  rename_i i n u o1 o2 o3
  rw [o1] at h1; rw [o2] at h2; rw [o3] at h3
  obtain ⟨e1, hs⟩ := inv_mref h1
  have e2 := mkey h2
  split at ha
  case isFalse => cases ha
  rename_i hv
  obtain ⟨val, hval⟩ := Option.isSome_iff_exists.1 hv
  have e3 := vlv_inv h3 hval
  obtain ⟨es, hes, e'⟩ := some_pair ha
  cases e'
  obtain ⟨hlo, en, c, hg, hr⟩ := m.mm.1 i es hes
  have hK : MapKept.IsKey (.int .i64) (.int .i64 n) := rfl
  rcases EnR.find (n := n) 0 hr with ⟨k1, k2, k3, k4⟩ | ⟨j, ent, z, k1, k2, k3, k4, k5, k6, k7⟩
  · obtain ⟨m', e⟩ := m.turn (c' := c + 1) (en' := en.push ⟨.int .i64 n, val, c⟩) hes hg (by rw [Array.toList_push]; exact k4 u val c hval)
    refine ⟨γ, undef, _, .inr ⟨?_, rfl⟩, rfl, m', e, tm, rfl⟩
    rw [e1, e2, e3]
    simp only [Instr.mapUpdate, Sem.run_bind, run_underlying hm, Result.andThen_ok, MapKept.run_getObj_map hg, MapKept.run_checkKey hkt hK, MapKept.run_findKey hkt k2, MapKept.run_setObj_map _ hg, Sem.run_pure]
  · obtain ⟨m', e⟩ := m.turn (c' := c) (en' := en.modify j fun e => { e with key := .int .i64 n, val := val }) hes hg (by rw [Array.toList_modify]; exact k6 u val hval)
    refine ⟨γ, undef, _, .inr ⟨?_, rfl⟩, rfl, m', e, tm, rfl⟩
    rw [e1, e2, e3]
    have hj : ((en[j]?).map (·.key)).getD (.int .i64 n) = .int .i64 n := by
      have : en[j]? = some ent := by simpa using k3
      rw [this]; exact k4
    rw [Nat.zero_add] at k2
    simp only [Instr.mapUpdate, Sem.run_bind, run_underlying hm, Result.andThen_ok, MapKept.run_getObj_map hg, MapKept.run_checkKey hkt hK, MapKept.run_findKey hkt k2, MapKept.run_setObj_map _ hg, Sem.run_pure, hj, MapKept.run_keyThatStays hK]
theorem sim_mget {t e : TypeId} {ok : Bool} {z : Vl} {x k : Operand} {x' k' : Opd} {v : FV} {μ' : Mu} {id : Id} (hf : AFR γ μ w nt fr a) (m : MR γ μ w) (tm : Tm μ D) (ht : mapT P t = some e) (hz : zeroV P e = some z) (hx : opdOf x = some x') (hk : opdOf k = some k')
    (ha : aop (.mget ok z x' k') id fr μ = some (v, μ')) : OpOk γ μ w D ((do pure (Next.value (← Instr.lookup t (a.eval x) (a.eval k) ok)) : Sem Next).run P w) v μ' := by
  have h1 := opd_rel hf hx
  have h2 := opd_rel hf hk
  obtain ⟨kt, hm, hkt⟩ := mapT_spec ht
  obtain ⟨info, zv, hi, hiz, hzr⟩ : ∃ info zv, P.info? e = some info ∧ info.zero = some zv ∧ VR γ μ w z zv := by
    unfold zeroV at hz
    cases hi : P.info? e with
    | none => rw [hi] at hz; simp at hz
    | some info =>
      rw [hi] at hz
      simp only [Option.bind_some] at hz
      cases hiz : info.zero with
      | none => rw [hiz] at hz; simp at hz
      | some zv =>
        rw [hiz] at hz
        simp only [Option.bind_some] at hz
        cases hv : vl zv with
        | none => rw [hv] at hz; simp at hz
        | some q =>
          rw [hv] at hz
          simp only [Option.bind_some] at hz
          split at hz
          · injection hz with hz; subst hz; exact ⟨info, zv, rfl, hiz, vl_rel hv⟩
          · cases hz
  simp only [aop] at ha
  split at ha
  case h_2 => cases ha
  rename_i i n o1 o2
  rw [o1] at h1; rw [o2] at h2
  obtain ⟨e1, hs⟩ := inv_mref h1
  have e2 := mkey h2
  obtain ⟨es, hes, e'⟩ := some_pair ha
  cases e'
  obtain ⟨hlo, en, c, hg, hr⟩ := m.mm.1 i es hes
  have hK : MapKept.IsKey (.int .i64) (.int .i64 n) := rfl
  have two : ∀ {y : Vl} {u : Value} {b : Bool}, VR γ μ w y u → FR γ μ w (.tup [y, .c (.val (.bool b))]) (.tuple #[u, .bool b]) := fun {y u b} h =>
    ⟨[u, .bool b], rfl, rfl, fun j x v hx hv => by
      match j with
      | 0 => simp at hx hv; subst hx; subst hv; exact h
      | 1 => simp at hx hv; subst hx; subst hv; exact cr_val (γ := γ) (μ := μ) (w := w) (x := .bool b) rfl
      | j + 2 => simp at hx⟩
  rcases EnR.find (n := n) 0 hr with ⟨k1, k2, k3, k4⟩ | ⟨j, ent, y, k1, k2, k3, k4, k5, k6, k7⟩
  · rw [k1]
    have hzv : (zeroValue e).run P w = .ok zv w := by simp [zeroValue, typeInfo, hi, hiz]
    cases ok with
    | true =>
      refine ok_val m tm (v' := .tuple #[zv, .bool false]) ?_ (two hzr)
      rw [e1, e2]
      simp [Instr.lookup, Sem.run_bind, run_underlying hm, MapKept.run_getObj_map hg, MapKept.run_checkKey hkt hK, MapKept.run_findKey hkt k2, hzv]
    | false =>
      refine ok_val m tm (v' := zv) ?_ hzr
      rw [e1, e2]
      simp [Instr.lookup, Sem.run_bind, run_underlying hm, MapKept.run_getObj_map hg, MapKept.run_checkKey hkt hK, MapKept.run_findKey hkt k2, hzv]
  · rw [k1]
    rw [Nat.zero_add] at k2
    cases ok with
    | true =>
      refine ok_val m tm (v' := .tuple #[ent.val, .bool true]) ?_ (two (vlv_rel k5))
      rw [e1, e2]
      simp [Instr.lookup, Sem.run_bind, run_underlying hm, MapKept.run_getObj_map hg, MapKept.run_checkKey hkt hK, MapKept.run_findKey hkt k2]
    | false =>
      refine ok_val m tm (v' := ent.val) ?_ (vlv_rel k5)
      rw [e1, e2]
      simp [Instr.lookup, Sem.run_bind, run_underlying hm, MapKept.run_getObj_map hg, MapKept.run_checkKey hkt hK, MapKept.run_findKey hkt k2]
theorem sim_mlen {t e : TypeId} {x : Operand} {x' : Opd} {v : FV} {μ' : Mu} {id : Id} {tt : TypeId} (hf : AFR γ μ w nt fr a) (m : MR γ μ w) (tm : Tm μ D) (hx : opdOf x = some x') (ht : mapT P t = some e)
    (ha : aop (.mlen x') id fr μ = some (v, μ')) : OpOk γ μ w D ((do pure (Next.value (← Builtin.len_ #[t] tt #[a.eval x])) : Sem Next).run P w) v μ' := by
  have h1 := opd_rel hf hx
  obtain ⟨kt, hm, hkt⟩ := mapT_spec ht
  simp only [aop] at ha
  split at ha
  case h_2 => cases ha
  rename_i i o1
  rw [o1] at h1
  obtain ⟨e1, hs⟩ := inv_mref h1
  obtain ⟨es, hes, e'⟩ := some_pair ha
  cases e'
  obtain ⟨hlo, en, c, hg, hr⟩ := m.mm.1 i es hes
  have hl : en.size = es.length := EnR.len hr
  exact ok_val m tm (v' := .int .i64 es.length) (by rw [e1]; simp [Builtin.len_, run_underlying hm, goInt, MapKept.run_getObj_map hg, hl]) (fr_val rfl)
theorem sim_mdel {t u e : TypeId} {x k : Operand} {x' k' : Opd} {v : FV} {μ' : Mu} {id : Id} {tt : TypeId} (hf : AFR γ μ w nt fr a) (m : MR γ μ w) (tm : Tm μ D) (hx : opdOf x = some x') (hk : opdOf k = some k') (ht : mapT P t = some e)
    (ha : aop (.mdel x' k') id fr μ = some (v, μ')) : OpOk γ μ w D ((do pure (Next.value (← Builtin.delete_ #[t, u] tt #[a.eval x, a.eval k])) : Sem Next).run P w) v μ' := by
  have h1 := opd_rel hf hx
  have h2 := opd_rel hf hk
  obtain ⟨kt, hm, hkt⟩ := mapT_spec ht
  simp only [aop] at ha
  split at ha
  case h_2 => cases ha
  rename_i i n o1 o2
  rw [o1] at h1; rw [o2] at h2
  obtain ⟨e1, hs⟩ := inv_mref h1
  have e2 := mkey h2
  obtain ⟨es, hes, e'⟩ := some_pair ha
  cases e'
  obtain ⟨hlo, en, c, hg, hr⟩ := m.mm.1 i es hes
  have hK : MapKept.IsKey (.int .i64) (.int .i64 n) := rfl
  have tupR : ∀ {γ : Gh} {μ : Mu} {w : World}, FR γ μ w (.tup []) (.tuple #[]) := ⟨[], rfl, rfl, fun j x v hx => by simp at hx⟩
  rcases EnR.find (n := n) 0 hr with ⟨k1, k2, k3, k4⟩ | ⟨j, ent, y, k1, k2, k3, k4, k5, k6, k7⟩
  · obtain ⟨m', e⟩ := m.turn (c' := c) (en' := en) (es' := mrem es n) hes hg (by rw [k3]; exact hr)
    refine ⟨γ, .tuple #[], _, .inl ?_, tupR, m', e, tm, rfl⟩
    rw [e1, e2]
    simp [Builtin.delete_, run_underlying hm, MapKept.run_getObj_map hg, MapKept.run_checkKey hkt hK, MapKept.run_findKey hkt k2, MapKept.run_setObj_map _ hg]
  · rw [Nat.zero_add] at k2
    have hj : j < en.size := by have := (List.getElem?_eq_some_iff.1 k3).1; simpa using this
    obtain ⟨m', e⟩ := m.turn (c' := c) (en' := en.eraseIdxIfInBounds j) (es' := mrem es n) hes hg (by
      rw [Array.eraseIdxIfInBounds, dif_pos hj, Array.toList_eraseIdx]; exact k7)
    refine ⟨γ, .tuple #[], _, .inl ?_, tupR, m', e, tm, rfl⟩
    rw [e1, e2]
    simp [Builtin.delete_, run_underlying hm, MapKept.run_getObj_map hg, MapKept.run_checkKey hkt hK, MapKept.run_findKey hkt k2, MapKept.run_setObj_map _ hg]
end Go.Proofs.Ytndabolfhhppkaa.Am
