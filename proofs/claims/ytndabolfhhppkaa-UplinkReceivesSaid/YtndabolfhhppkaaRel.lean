/- What the abstract machine's values are in the given model's memory, and how that is kept while memory grows. No condition. -/
import Derived.Test.YtndabolfhhppkaaComp
import Derived.Below
import Derived.Laws.Rows
import Derived.Deep.MidRow
namespace Go.Proofs.Ytndabolfhhppkaa.Am
open Go Go.RowKit

structure Gh where
  nu : Id → Value
  be : Id → Nat
  st : Nat → Nat → Prop
  lo : Nat
  mb : Id → Nat
def at_ (b o : Nat) : Addr := ⟨b, o, none⟩
def scalar : Value → Bool
  | .int _ _ => true
  | .bool _ => true
  | _ => false
/-- A datum in memory: nothing of it will change while the cells 'st' stay. -/
inductive DR (st : Nat → Nat → Prop) (w : World) : Cell → Value → Prop where
  | val {x : Value} : scalar x = true → DR st w (.val x) x
  | ro {sz : Nat} {xs : List (List Cell)} {A : Option Addr} {n c b o : Nat} {vs : Nat → Value} : n = xs.length → n ≤ c → c ≤ maxLen → (∀ r ∈ xs, r.length = sz) → (0 < n → A = some (at_ b o)) →
      (∀ j x, xs.flatten[j]? = some x → st b (o + j) ∧ w.cell? (at_ b (o + j)) = some (vs j)) → (∀ j x, xs.flatten[j]? = some x → DR st w x (vs j)) → DR st w (.ro sz xs) (.slice A n c)
def ptrs (bs : List Nat) : Array Value := (bs.map fun b => Value.pointer (some (at_ b 0))).toArray
/-- What is closed: data, nil, function literals by what they capture (in blocks below 'lo'). -/
inductive ZR (st : Nat → Nat → Prop) (lo : Nat) (w : World) : Cell → Value → Prop where
  | dat {c : Cell} {v : Value} : DR st w c v → ZR st lo w c v
  | nil {A : Option Addr} : ZR st lo w .nil (.slice A 0 0)
  | clo {g : Nat} {cs : List (List Cell)} {bs : List Nat} {vs : Nat → Nat → Value} : bs.length = cs.length → (∀ b ∈ bs, b < lo) →
      (∀ k c b j x, cs[k]? = some c → bs[k]? = some b → c[j]? = some x → w.cell? (at_ b j) = some (vs k j)) →
      (∀ k c j x, cs[k]? = some c → c[j]? = some x → ZR st lo w x (vs k j)) → ZR st lo w (.clo g cs) (.func (.func g) #[] (ptrs bs))
inductive CR (γ : Gh) (μ : Mu) (w : World) : Cell → Value → Prop where
  | z {c : Cell} {v : Value} : ZR γ.st γ.lo w c v → CR γ μ w c v
  | own {i : Id} : (μ.arr i).isSome = true → CR γ μ w (.own i) (γ.nu i)
  | fn {g : Nat} {ids : List Id} : (∀ i ∈ ids, (μ.box i).isSome = true) → CR γ μ w (.fn g ids) (.func (.func g) #[] (ptrs (ids.map γ.be)))
  | any : CR γ μ w .any .nilFunc
  | anym : CR γ μ w .any (.map none)
  | mref {i : Id} : (μ.mp i).isSome = true → CR γ μ w (.mref i) (.map (some (γ.mb i)))
def CRs (γ : Gh) (μ : Mu) (w : World) (cs : List Cell) (vs : List Value) : Prop := vs.length = cs.length ∧ ∀ (j : Nat) (c : Cell) (v : Value), cs[j]? = some c → vs[j]? = some v → CR γ μ w c v
def VR (γ : Gh) (μ : Mu) (w : World) : Vl → Value → Prop
  | .c x, v => CR γ μ w x v
  | .agg cs, v => ∃ vs : List Value, v = .agg vs.toArray ∧ CRs γ μ w cs vs
def VRs (γ : Gh) (μ : Mu) (w : World) (xs : List Vl) (vs : List Value) : Prop := vs.length = xs.length ∧ ∀ (j : Nat) (x : Vl) (v : Value), xs[j]? = some x → vs[j]? = some v → VR γ μ w x v
def FR (γ : Gh) (μ : Mu) (w : World) : FV → Value → Prop
  | .v x, v => VR γ μ w x v
  | .tup xs, v => ∃ vs : List Value, v = .tuple vs.toArray ∧ VRs γ μ w xs vs
  | .ptr i off, v => (μ.box i).isSome = true ∧ v = .pointer (some (at_ (γ.be i) off))
  | .cptr cs off, v => ∃ b o, ∃ vs : Nat → Value, v = .pointer (some (at_ b (o + off))) ∧ ∀ j c, cs[j]? = some c → (b < γ.lo ∨ γ.st b (o + j)) ∧ w.cell? (at_ b (o + j)) = some (vs j) ∧ CR γ μ w c (vs j)
  | .optr i k off, v => ∃ b o, v = .pointer (some (at_ b (o + off))) ∧ ∃ a, μ.arr i = some a ∧ (a.sz = 0 ∨ ∃ cap, γ.nu i = .slice (some (at_ b 0)) a.xs.length cap ∧ k < a.xs.length ∧ o = k * a.sz)
  | .otl i lo, v => (∀ c, v ≠ .bool c) ∧ ∃ a, μ.arr i = some a ∧ (a.sz = 0 ∨ ∃ X cap, γ.nu i = .slice X a.xs.length cap ∧ lo ≤ a.xs.length ∧ v = .slice (if cap = lo then X else X.map (·.add (lo * a.sz))) (a.xs.length - lo) (cap - lo))
  | .skip, v => v = undef

/-! ### What is kept -/
structure Ext (γ : Gh) (μ : Mu) (w : World) (γ' : Gh) (μ' : Mu) (w' : World) : Prop where
  lo : γ'.lo = γ.lo
  st : ∀ b o, γ.st b o → γ'.st b o ∧ w'.cell? (at_ b o) = w.cell? (at_ b o)
  nst : ∀ b o, γ'.st b o → γ.st b o ∨ γ.lo ≤ b
  bel : Below γ.lo w w'
  box : ∀ i, (μ.box i).isSome = true → (μ'.box i).isSome = true ∧ γ'.be i = γ.be i
  arr : ∀ i a, μ.arr i = some a → γ'.nu i = γ.nu i ∧ ∃ a', μ'.arr i = some a' ∧ (a'.sz = 0 ∨ (a'.sz = a.sz ∧ a'.e = a.e ∧ a'.xs.length = a.xs.length))
  mp : ∀ i, (μ.mp i).isSome = true → (μ'.mp i).isSome = true ∧ γ'.mb i = γ.mb i
theorem Ext.old {γ γ' : Gh} {μ μ' : Mu} {w w' : World} (h : Ext γ μ w γ' μ' w') : ∀ b o, b < γ.lo → w'.cell? (at_ b o) = w.cell? (at_ b o) := fun b o hb => h.bel.cell (p := at_ b o) hb
theorem Ext.refl (γ : Gh) (μ : Mu) (w : World) : Ext γ μ w γ μ w := ⟨rfl, fun _ _ h => ⟨h, rfl⟩, fun _ _ h => .inl h, Below.refl _ _, fun _ h => ⟨h, rfl⟩, fun _ a h => ⟨rfl, a, h, .inr ⟨rfl, rfl, rfl⟩⟩, fun _ h => ⟨h, rfl⟩⟩
theorem Ext.trans {γ γ' γ'' : Gh} {μ μ' μ'' : Mu} {w w' w'' : World} (h : Ext γ μ w γ' μ' w') (k : Ext γ' μ' w' γ'' μ'' w'') : Ext γ μ w γ'' μ'' w'' :=
  ⟨k.lo.trans h.lo, fun b o hs => ⟨(k.st b o (h.st b o hs).1).1, (k.st b o (h.st b o hs).1).2.trans (h.st b o hs).2⟩,
   fun b o hs => (k.nst b o hs).elim (fun h' => h.nst b o h') fun h' => .inr (by rw [h.lo] at h'; exact h'),
   h.bel.trans (k.bel.mono (Nat.le_of_eq h.lo.symm)),
   fun i hi => ⟨(k.box i (h.box i hi).1).1, (k.box i (h.box i hi).1).2.trans (h.box i hi).2⟩,
   fun i a ha => by
    obtain ⟨e1, a', h1, h2⟩ := h.arr i a ha
    obtain ⟨e2, a'', k1, k2⟩ := k.arr i a' h1
    refine ⟨e2.trans e1, a'', k1, ?_⟩
    rcases k2 with k2 | ⟨k2, k3, k4⟩
    · exact .inl k2
    rcases h2 with h2 | ⟨h2, h3, h4⟩
    · exact .inl (k2.trans h2)
    · exact .inr ⟨k2.trans h2, k3.trans h3, k4.trans h4⟩,
   fun i hi => ⟨(k.mp i (h.mp i hi).1).1, (k.mp i (h.mp i hi).1).2.trans (h.mp i hi).2⟩⟩
theorem DR.keep {st st' : Nat → Nat → Prop} {w w' : World} {c : Cell} {v : Value} (h : DR st w c v) (hs : ∀ b o, st b o → st' b o ∧ w'.cell? (at_ b o) = w.cell? (at_ b o)) : DR st' w' c v := by
  induction h with
  | val h => exact .val h
  | ro h1 h2 h3 h4 h5 h6 _ ih => exact .ro h1 h2 h3 h4 h5 (fun j x hj => ⟨(hs _ _ (h6 j x hj).1).1, (hs _ _ (h6 j x hj).1).2.trans (h6 j x hj).2⟩) ih
theorem ZR.keep {st st' : Nat → Nat → Prop} {lo lo' : Nat} {w w' : World} {c : Cell} {v : Value} (h : ZR st lo w c v) (hs : ∀ b o, st b o → st' b o ∧ w'.cell? (at_ b o) = w.cell? (at_ b o))
    (hl : lo ≤ lo') (ho : ∀ b o, b < lo → w'.cell? (at_ b o) = w.cell? (at_ b o)) : ZR st' lo' w' c v := by
  induction h with
  | dat h => exact .dat (h.keep hs)
  | nil => exact .nil
  | clo h1 h2 h3 _ ih =>
    refine .clo h1 (fun b hb => Nat.lt_of_lt_of_le (h2 b hb) hl) (fun k c b j x hc hb hx => ?_) ih
    rw [ho _ _ (h2 b (List.mem_of_getElem? hb))]; exact h3 k c b j x hc hb hx
theorem CR.ext {γ γ' : Gh} {μ μ' : Mu} {w w' : World} {c : Cell} {v : Value} (h : CR γ μ w c v) (e : Ext γ μ w γ' μ' w') : CR γ' μ' w' c v := by
  cases h with
  | z h => exact .z (h.keep e.st (Nat.le_of_eq e.lo.symm) e.old)
  | own h =>
    obtain ⟨a, ha⟩ := Option.isSome_iff_exists.1 h
    obtain ⟨e1, a', h1, _⟩ := e.arr _ a ha
    rw [← e1]; exact .own (by rw [h1]; rfl)
  | @fn g ids h =>
    have : ids.map γ.be = ids.map γ'.be := List.map_congr_left fun i hi => ((e.box i (h i hi)).2).symm
    rw [this]; exact .fn fun i hi => (e.box i (h i hi)).1
  | any => exact .any
  | anym => exact .anym
  | @mref i h => rw [← (e.mp i h).2]; exact .mref (e.mp i h).1
theorem CRs.ext {γ γ' : Gh} {μ μ' : Mu} {w w' : World} {cs : List Cell} {vs : List Value} (h : CRs γ μ w cs vs) (e : Ext γ μ w γ' μ' w') : CRs γ' μ' w' cs vs :=
  ⟨h.1, fun j c v hc hv => (h.2 j c v hc hv).ext e⟩
theorem VR.ext {γ γ' : Gh} {μ μ' : Mu} {w w' : World} {x : Vl} {v : Value} (h : VR γ μ w x v) (e : Ext γ μ w γ' μ' w') : VR γ' μ' w' x v := by
  cases x with
  | c x => exact CR.ext h e
  | agg cs => obtain ⟨vs, rfl, h⟩ := h; exact ⟨vs, rfl, h.ext e⟩
theorem VRs.ext {γ γ' : Gh} {μ μ' : Mu} {w w' : World} {xs : List Vl} {vs : List Value} (h : VRs γ μ w xs vs) (e : Ext γ μ w γ' μ' w') : VRs γ' μ' w' xs vs :=
  ⟨h.1, fun j c v hc hv => (h.2 j c v hc hv).ext e⟩
theorem FR.ext {γ γ' : Gh} {μ μ' : Mu} {w w' : World} {x : FV} {v : Value} (h : FR γ μ w x v) (e : Ext γ μ w γ' μ' w') : FR γ' μ' w' x v := by
  cases x with
  | v x => exact VR.ext h e
  | tup xs => obtain ⟨vs, rfl, h⟩ := h; exact ⟨vs, rfl, h.ext e⟩
  | ptr i off => exact ⟨(e.box i h.1).1, by rw [(e.box i h.1).2]; exact h.2⟩
  | cptr cs off =>
    obtain ⟨b, o, vs, rfl, h⟩ := h
    refine ⟨b, o, vs, rfl, fun j c hj => ?_⟩
    obtain ⟨h1, h2, h3⟩ := h j c hj
    refine ⟨h1.imp (fun h => by rw [e.lo]; exact h) fun h => (e.st _ _ h).1, ?_, h3.ext e⟩
    rcases h1 with h1 | h1
    · rw [e.old _ _ h1]; exact h2
    · rw [(e.st _ _ h1).2]; exact h2
  | optr i k off =>
    obtain ⟨b, o, hb, a, h1, h2⟩ := h
    obtain ⟨e1, a', k1, k2⟩ := e.arr i a h1
    refine ⟨b, o, hb, a', k1, ?_⟩
    rcases k2 with k2 | ⟨k2, k3, k4⟩
    · exact .inl k2
    rcases h2 with h2 | ⟨cap, h2, h3, h4⟩
    · exact .inl (k2.trans h2)
    · exact .inr ⟨cap, by rw [e1, h2, k4], by rw [k4]; exact h3, by rw [k2]; exact h4⟩
  | otl i lo =>
    obtain ⟨hb, a, h1, h2⟩ := h
    obtain ⟨e1, a', k1, k2⟩ := e.arr i a h1
    refine ⟨hb, a', k1, ?_⟩
    rcases k2 with k2 | ⟨k2, k3, k4⟩
    · exact .inl k2
    rcases h2 with h2 | ⟨X, cap, h2, h3, h4⟩
    · exact .inl (k2.trans h2)
    · exact .inr ⟨X, cap, by rw [e1, h2, k4], by rw [k4]; exact h3, by rw [k2, k4]; exact h4⟩
  | skip => exact h

/-! ### The memory -/
def ArrR (γ : Gh) (μ : Mu) (w : World) (i : Id) (a : Arr) : Prop :=
  (∀ r ∈ a.xs, r.length = a.sz) ∧ 0 < a.sz ∧
  ((∃ A, γ.nu i = .slice A 0 0 ∧ a.xs = []) ∨
   ∃ (g cap : Nat) (cur : Array Value), γ.nu i = .slice (some (at_ g 0)) a.xs.length cap ∧ γ.lo ≤ g ∧ w.heap[g]? = some (.cells cur a.e (0, 0)) ∧ a.xs.length ≤ cap ∧ cap ≤ maxLen ∧ cur.size = cap * a.sz ∧
     (∀ (j : Nat) (x : Cell), a.xs.flatten[j]? = some x → ∃ v : Value, cur[j]? = some v ∧ DR γ.st w x v) ∧ (μ.app i = true → ∀ o, a.xs.length * a.sz ≤ o → ¬ γ.st g o) ∧ (μ.sto i = true → ∀ o, ¬ γ.st g o))
def blk : Value → Option Nat
  | .slice (some a) _ c => if c = 0 then none else some a.block
  | _ => none
/-- A map in memory. -/
def MpR (γ : Gh) (mp : Id → Option (List (Int × Vl))) (w : World) : Prop :=
  (∀ i es, mp i = some es → γ.lo ≤ γ.mb i ∧ ∃ (en : Array MapEntry) (c : Nat), w.heap[γ.mb i]? = some (.map en c) ∧ en.toList.map (fun e => (e.key, some e.val)) = es.map fun p => (Value.int .i64 p.1, vlv p.2)) ∧
  ∀ i j, (mp i).isSome = true → (mp j).isSome = true → γ.mb i = γ.mb j → i = j
theorem MpR.keep {γ γ' : Gh} {mp : Id → Option (List (Int × Vl))} {w w' : World} (h : MpR γ mp w) (hl : γ'.lo = γ.lo) (hb : γ'.mb = γ.mb) (hh : ∀ (b : Nat) (en : Array MapEntry) (c : Nat), w.heap[b]? = some (Obj.map en c) → w'.heap[b]? = some (Obj.map en c)) : MpR γ' mp w' :=
  ⟨fun i es hi => by
    obtain ⟨h1, en, c, h2, h3⟩ := h.1 i es hi
    rw [hl, hb]
    exact ⟨h1, en, c, hh _ _ _ h2, h3⟩, by rw [hb]; exact h.2⟩
theorem MpR.same {γ γ' : Gh} {mp : Id → Option (List (Int × Vl))} {w : World} (h : MpR γ mp w) (hl : γ'.lo = γ.lo := by rfl) (hb : γ'.mb = γ.mb := by rfl) : MpR γ' mp w := h.keep hl hb fun _ _ _ h => h
/-- A row that is no more. -/
structure DeadR (γ : Gh) (w : World) (i : Id) (a : Arr) : Prop where
  sz : a.sz = 0
  xs : a.xs = []
  nu : ∃ A n c, γ.nu i = .slice A n c
  lt : ∀ g, blk (γ.nu i) = some g → g < w.heap.size
theorem DeadR.keep {γ γ' : Gh} {w w' : World} {i : Id} {a : Arr} (h : DeadR γ w i a) (hn : γ'.nu i = γ.nu i) (hs : w.heap.size ≤ w'.heap.size) : DeadR γ' w' i a :=
  ⟨h.sz, h.xs, by rw [hn]; exact h.nu, fun g hg => Nat.lt_of_lt_of_le (h.lt g (by rw [← hn]; exact hg)) hs⟩
structure MR (γ : Gh) (μ : Mu) (w : World) : Prop where
  lo : γ.lo ≤ w.heap.size
  stlt : ∀ b o, γ.st b o → b < w.heap.size
  box : ∀ i cs, μ.box i = some cs → γ.lo ≤ γ.be i ∧ (∀ o, ¬ γ.st (γ.be i) o) ∧ ∃ (vs : Array Value) (T : TypeId), w.heap[γ.be i]? = some (.cells vs T (0, 0)) ∧ CRs γ μ w cs vs.toList
  arr : ∀ i a, μ.arr i = some a → DeadR γ w i a ∨ ArrR γ μ w i a
  bb : ∀ i j, (μ.box i).isSome = true → (μ.box j).isSome = true → γ.be i = γ.be j → i = j
  ba : ∀ i j g, (μ.box i).isSome = true → (μ.arr j).isSome = true → blk (γ.nu j) = some g → γ.be i ≠ g
  aa : ∀ i j a b g, μ.arr i = some a → μ.arr j = some b → i ≠ j → blk (γ.nu i) = some g → blk (γ.nu j) = some g →
    (μ.app i = true → b.xs.length ≤ a.xs.length ∧ μ.app j = false ∧ (b.sz = a.sz ∨ b.xs = [])) ∧ (μ.sto i = true → b.xs = [])
  sa : ∀ i, μ.sto i = true → μ.app i = true
  mm : MpR γ μ.mp w
/-- Whatever has been made has been made at a time that is past, or now at one of the slots 'D'. -/
def Tm (μ : Mu) (D : List Nat) : Prop := ∀ i, (μ.box i).isSome = true ∨ (μ.arr i).isSome = true → i.1 < μ.t ∨ (i.1 = μ.t ∧ i.2 ∈ D)
theorem Tm.fresh {μ : Mu} {D : List Nat} (h : Tm μ D) {d : Nat} (hd : d ∉ D) : μ.box (μ.t, d) = none ∧ μ.arr (μ.t, d) = none := by
  constructor
  · cases hb : μ.box (μ.t, d) with
    | none => rfl
    | some cs => rcases h (μ.t, d) (.inl (by rw [hb]; rfl)) with h | h
                 · exact absurd h (Nat.lt_irrefl _)
                 · exact absurd h.2 hd
  · cases hb : μ.arr (μ.t, d) with
    | none => rfl
    | some cs => rcases h (μ.t, d) (.inr (by rw [hb]; rfl)) with h | h
                 · exact absurd h (Nat.lt_irrefl _)
                 · exact absurd h.2 hd
theorem scalar_one {v : Value} (h : scalar v = true) : v.oneCell' = true := by cases v <;> simp_all [scalar, Value.oneCell']
theorem DR.oneCell {st : Nat → Nat → Prop} {w : World} {c : Cell} {v : Value} (h : DR st w c v) : v.oneCell' = true := by
  cases h with
  | val h => exact scalar_one h
  | ro _ _ _ _ _ _ _ => rfl
theorem ZR.oneCell {st : Nat → Nat → Prop} {lo : Nat} {w : World} {c : Cell} {v : Value} (h : ZR st lo w c v) : v.oneCell' = true := by
  cases h with
  | dat h => exact h.oneCell
  | nil => rfl
  | clo _ _ _ _ => rfl
theorem MR.live {γ : Gh} {μ : Mu} {w : World} (m : MR γ μ w) {i : Id} {a : Arr} (h : μ.arr i = some a) {k : Nat} {r : List Cell} (hk : a.xs[k]? = some r) : a.sz ≠ 0 := fun hz => by
  rcases m.arr i a h with hd | hd
  · rw [hd.xs] at hk; simp at hk
  · have := hd.2.1; omega
theorem MR.liv {γ : Gh} {μ : Mu} {w : World} (m : MR γ μ w) {i : Id} {a : Arr} (h : μ.arr i = some a) (hz : a.sz ≠ 0) : ArrR γ μ w i a := (m.arr i a h).resolve_left fun hd => hz hd.sz
theorem MR.nuSlice {γ : Gh} {μ : Mu} {w : World} (m : MR γ μ w) {i : Id} (h : (μ.arr i).isSome = true) : ∃ A n c, γ.nu i = .slice A n c := by
  obtain ⟨a, ha⟩ := Option.isSome_iff_exists.1 h
  rcases m.arr i a ha with hd | hd
  · exact hd.nu
  rcases hd.2.2 with ⟨A, h, _⟩ | ⟨g, cap, cur, h, _⟩
  · exact ⟨_, _, _, h⟩
  · exact ⟨_, _, _, h⟩
theorem CR.oneCell {γ : Gh} {μ : Mu} {w : World} (m : MR γ μ w) {c : Cell} {v : Value} (h : CR γ μ w c v) : v.oneCell' = true := by
  cases h with
  | z h => exact h.oneCell
  | own h => obtain ⟨A, n, c, e⟩ := m.nuSlice h; rw [e]; rfl
  | fn h => rfl
  | any => rfl
  | anym => rfl
  | mref h => rfl
end Go.Proofs.Ytndabolfhhppkaa.Am
