/- From a law over the abstract machine to its row: arguments that read as data are values of the abstract machine. No condition. -/
import Derived.Test.YtndabolfhhppkaaMain
import Derived.WalkKit
import Derived.ProofKit
import Derived.OpenShut
import Derived.ChangeOld
import Derived.SizedLaws
import Derived.Carry
import Derived.Deep.Slices
import Derived.ChangeArms
namespace Go.Proofs.Ytndabolfhhppkaa.Am
open Go Go.RowKit Go.ChangeShapes Go.WideShapes Go.Deep
variable {P : Program}

/-- The types of cells: whole numbers, bools, rows of such. -/
inductive Ty where
  | i (k : IntKind)
  | b
  | s (es : List Ty)
inductive Fit : Ty → Cell → Prop where
  | i {k : IntKind} {n : Int} : k.min ≤ n → n ≤ k.max → Fit (.i k) (.val (.int k n))
  | b {x : Bool} : Fit .b (.val (.bool x))
  | s {es : List Ty} {xs : List (List Cell)} : xs.length ≤ maxLen → (∀ r ∈ xs, r.length = es.length) → (∀ r ∈ xs, ∀ (j : Nat) (t : Ty) (c : Cell), es[j]? = some t → r[j]? = some c → Fit t c) → Fit (.s es) (.ro es.length xs)
def Fits (l : List Ty) (cs : List Cell) : Prop := cs.length = l.length ∧ ∀ (j : Nat) (t : Ty) (c : Cell), l[j]? = some t → cs[j]? = some c → Fit t c
theorem Fits.nil : Fits [] [] := ⟨rfl, fun j t c h => by simp at h⟩
theorem Fits.append {l k : List Ty} {cs ds : List Cell} (h : Fits l cs) (h' : Fits k ds) : Fits (l ++ k) (cs ++ ds) := by
  refine ⟨by simp [h.1, h'.1], fun j t c ht hc => ?_⟩
  by_cases hj : j < l.length
  · rw [List.getElem?_append_left hj] at ht
    rw [List.getElem?_append_left (by rw [h.1]; exact hj)] at hc
    exact h.2 j t c ht hc
  · rw [List.getElem?_append_right (by omega)] at ht
    rw [List.getElem?_append_right (by rw [h.1]; omega), h.1] at hc
    exact h'.2 _ t c ht hc
theorem Fits.one {t : Ty} {c : Cell} (h : Fit t c) : Fits [t] [c] := ⟨rfl, fun j t' c' ht hc => by
  cases j with
  | zero => simp at ht hc; subst ht; subst hc; exact h
  | succ j => simp at ht⟩
/-- The fields of a struct, one behind the other from 'o' on. -/
def structTy (P : Program) (T : TypeId → Option (List Ty)) : Nat → List Field → Option (List Ty)
  | _, [] => some []
  | o, f :: r =>
    if f.offset = o then
      match T f.type with
      | none => none
      | some l => if P.cellsOf f.type = l.length then (structTy P T (o + l.length) r).map (l ++ ·) else none
    else none
def tyOf (P : Program) : Nat → TypeId → Option (List Ty)
  | 0, _ => none
  | n + 1, t =>
    match P.underlying t with
    | some (.int k) => some [.i k]
    | some .bool => some [.b]
    | some (.slice e) => (tyOf P n e).bind fun l => if P.cellsOf e = l.length ∧ 0 < l.length then some [.s l] else none
    | some (.struct fs) => (structTy P (tyOf P n) 0 fs.toList).bind fun l => if P.cellsOf t = l.length then some l else none
    | _ => none
section
variable {H : Type} {enc : TypeId × Value → H} {w : World} {base : Nat} {spare : Nat → Bool} {held : Bool}
def stOf (w : World) : Nat → Nat → Prop := fun b _ => b < w.heap.size
theorem cell_spot {a : Addr} {v : Value} (h : w.cell? a = some v) : a.spot = none ∧ a.block < w.heap.size := by
  unfold World.cell? at h
  split at h
  · rename_i c _ _ hh
    split at h
    · cases h
    · rename_i hs
      exact ⟨by simpa using hs, (Array.getElem?_eq_some_iff.1 hh).1⟩
  · cases h
theorem struct_fits {n : Nat} {fuel : Nat} (ih : ∀ {t : TypeId} {l : List Ty} {cs : List Value} {x : DataW H × List MemPlace}, tyOf P n t = some l → DataW.trod enc P w base spare held fuel t cs = some x → ∃ cells, LR (DR (stOf w) w) cells cs ∧ Fits l cells) :
    ∀ {fs : List Field} {o : Nat} {l : List Ty} {cs : List Value}, structTy P (tyOf P n) o fs = some l → (∀ f ∈ fs, ∃ x, DataW.trod enc P w base spare held fuel f.type ((cs.drop f.offset).take (P.cellsOf f.type)) = some x) → cs.length = o + l.length →
      ∃ cells, LR (DR (stOf w) w) cells (cs.drop o) ∧ Fits l cells
  | [], o, l, cs, h, _, hl => by
    simp only [structTy, Option.some.injEq] at h; subst h
    refine ⟨[], ?_, .nil⟩
    rw [List.drop_eq_nil_of_le (by simp at hl; omega)]
    exact LR.nil
  | f :: r, o, l, cs, h, hf, hl => by
    simp only [structTy] at h
    split at h
    case isFalse => cases h
    rename_i ho
    split at h
    · cases h
    · rename_i l1 hl1
      split at h
      case isFalse => cases h
      rename_i hc
      obtain ⟨l2, hl2, e⟩ := some_pair h
      subst e
      simp only [List.length_append] at hl
      obtain ⟨x, hx⟩ := hf f (by simp)
      obtain ⟨c1, k1, k2⟩ := ih hl1 hx
      obtain ⟨c2, k3, k4⟩ := struct_fits ih hl2 (fun g hg => hf g (List.mem_cons_of_mem _ hg)) (by omega)
      refine ⟨c1 ++ c2, ?_, k2.append k4⟩
      have : cs.drop o = (cs.drop f.offset).take (P.cellsOf f.type) ++ cs.drop (o + l1.length) := by
        rw [ho, hc, ← List.drop_drop, List.take_append_drop]
      rw [this]
      exact k1.append k3
theorem rows_flat {xs : List (List Cell)} {z : Nat} (hr : ∀ r ∈ xs, r.length = z) {j : Nat} {x : Cell} (h : xs.flatten[j]? = some x) : ∃ k i r, j = k * z + i ∧ i < z ∧ xs[k]? = some r ∧ r[i]? = some x := by
  induction xs generalizing j with
  | nil => simp at h
  | cons y ys ih =>
    have hy : y.length = z := hr y (by simp)
    rw [List.flatten_cons] at h
    by_cases hj : j < z
    · rw [List.getElem?_append_left (by omega)] at h
      exact ⟨0, j, y, by simp, hj, rfl, h⟩
    · rw [List.getElem?_append_right (by omega)] at h
      obtain ⟨k, i, r, h1, h2, h3, h4⟩ := ih (fun r hr' => hr r (by simp [hr'])) h
      exact ⟨k + 1, i, r, by rw [Nat.succ_mul]; omega, h2, by simpa using h3, h4⟩
theorem trod_fits : ∀ {n : Nat} {fuel : Nat} {t : TypeId} {l : List Ty} {cs : List Value} {x : DataW H × List MemPlace}, tyOf P n t = some l → DataW.trod enc P w base spare held fuel t cs = some x → ∃ cells, LR (DR (stOf w) w) cells cs ∧ Fits l cells := by
  intro n
  induction n with
  | zero => intro fuel t l cs x h; simp [tyOf] at h
  | succ n ih =>
    intro fuel t l cs x h hx
    simp only [tyOf] at h
    split at h
    · rename_i k hu
      injection h with h; subst h
      obtain ⟨m, rfl, _, hw⟩ := DataW.trod_int hu hx
      simp only [Lit.wf, Bool.and_eq_true, decide_eq_true_eq] at hw
      exact ⟨[.val (.int k m)], LR.cons (.val rfl) LR.nil, .one (.i hw.1 hw.2)⟩
    · rename_i hu
      injection h with h; subst h
      obtain ⟨b, rfl, _⟩ := DataW.trod_bool hu hx
      exact ⟨[.val (.bool b)], LR.cons (.val rfl) LR.nil, .one .b⟩
    · rename_i e hu
      cases he : tyOf P n e with
      | none => rw [he] at h; simp at h
      | some es =>
        rw [he] at h
        simp only [Option.bind_some] at h
        split at h
        case isFalse => cases h
        rename_i hce
        obtain ⟨hce, hpos⟩ := hce
        injection h with h; subst h
        rcases open_slice hu hx with ⟨rfl, _⟩ | ⟨a, len, cap, m, n', D, Pl, rfl, hb, hl, hm, hmm, _, hi⟩
        · exact ⟨[.ro es.length []], LR.cons ro_nil LR.nil, .one (.s (by simp) (by simp) (by simp))⟩
        · have hlm : len ≤ m := by rw [hmm]; split <;> omega
          have hrow : ∀ i, ∃ cells : List Cell, i < len → cells.length = es.length ∧ Fits es cells ∧ ∃ vs : List Value, LR (DR (stOf w) w) cells vs ∧ ∀ j, j < es.length → w.cell? ((a.add (i * es.length)).add j) = vs[j]? := by
            intro i
            by_cases hil : i < len
            · obtain ⟨cs', h1, h2⟩ := hi i (by omega)
              obtain ⟨cells, k1, k2⟩ := ih he h2
              obtain ⟨_, g1, g2⟩ := World.cells?_some h1
              rw [hce] at g1 g2
              exact ⟨cells, fun _ => ⟨k2.1, k2, cs', k1, g2⟩⟩
            · exact ⟨[], fun h => absurd h hil⟩
          let R : Nat → List Cell := fun i => Classical.choose (hrow i)
          have hR : ∀ i, i < len → (R i).length = es.length ∧ Fits es (R i) ∧ ∃ vs : List Value, LR (DR (stOf w) w) (R i) vs ∧ ∀ j, j < es.length → w.cell? ((a.add (i * es.length)).add j) = vs[j]? := fun i hi => Classical.choose_spec (hrow i) hi
          let xs : List (List Cell) := (List.range len).map R
          have hxl : xs.length = len := by simp [xs]
          have hxr : ∀ r ∈ xs, r.length = es.length := fun r hr => by
            obtain ⟨i, hi, rfl⟩ := List.mem_map.1 hr
            exact (hR i (by simpa using hi)).1
          have hcell : ∀ (j : Nat) (c : Cell), xs.flatten[j]? = some c → ∃ v, w.cell? (a.add j) = some v ∧ DR (stOf w) w c v := fun j c hj => by
            obtain ⟨k, i, r, rfl, hi', hk, hc⟩ := rows_flat hxr hj
            have hkl : k < len := by have := (List.getElem?_eq_some_iff.1 hk).1; omega
            have hrk : r = R k := by
              simp only [xs, List.getElem?_map, List.getElem?_range hkl, Option.map_some, Option.some.injEq] at hk
              exact hk.symm
            subst hrk
            obtain ⟨_, _, vs, hvs, hcl⟩ := hR k hkl
            obtain ⟨v, hv, hd⟩ := LR.get hvs hc
            refine ⟨v, ?_, hd⟩
            have := hcl i hi'
            rw [hv] at this
            rw [← this, Go.Deep.add_add]
          have hfit : Fit (.s es) (.ro es.length xs) := .s (by omega) hxr (fun r hr => by
            obtain ⟨i, hi, rfl⟩ := List.mem_map.1 hr
            exact (hR i (by simpa using hi)).2.1.2)
          refine ⟨[.ro es.length xs], LR.cons ?_ LR.nil, .one hfit⟩
          by_cases hz : xs.flatten = []
          · by_cases h0 : len = 0
            · refine .ro (b := 0) (o := 0) (vs := fun _ => undef) hxl.symm hl hm hxr (fun h => by omega) (fun j x hj => by rw [hz] at hj; simp at hj) (fun j x hj => by rw [hz] at hj; simp at hj)
            · exfalso
              have h1 : R 0 ∈ xs := List.mem_map.2 ⟨0, by simp; omega, rfl⟩
              have h2 := (hR 0 (by omega)).1
              have h3 : R 0 = [] := by
                apply List.eq_nil_iff_forall_not_mem.2
                intro c hc
                have : c ∈ xs.flatten := List.mem_flatten.2 ⟨_, h1, hc⟩
                rw [hz] at this; simp at this
              rw [h3] at h2; simp at h2; omega
          · obtain ⟨c0, hc0⟩ : ∃ c, xs.flatten[0]? = some c := by
              cases hf : xs.flatten with
              | nil => exact absurd hf hz
              | cons c _ => exact ⟨c, by simp⟩
            obtain ⟨v0, hv0, _⟩ := hcell 0 c0 hc0
            obtain ⟨hsp, hbl⟩ := cell_spot hv0
            have hsp' : a.spot = none := by
              simpa [Addr.add] using hsp
            have hat : ∀ j, a.add j = at_ a.block (a.off + j) := fun j => by
              cases a with
              | mk b o s => simp only at hsp'; subst hsp'; exact Addr.add_mid b o j
            have ha : a = at_ a.block a.off := by cases a; simp only at hsp'; subst hsp'; rfl
            have hblk : a.block < w.heap.size := by rw [hat] at hbl; exact hbl
            have hv := fun j => Classical.choose_spec (p := fun v => ∀ c, xs.flatten[j]? = some c → w.cell? (a.add j) = some v ∧ DR (stOf w) w c v) (by
              cases hj : xs.flatten[j]? with
              | none => exact ⟨undef, fun c h => by cases h⟩
              | some c => obtain ⟨v, h1, h2⟩ := hcell j c hj; exact ⟨v, fun c' h => by injection h with h; subst h; exact ⟨h1, h2⟩⟩)
            refine .ro (b := a.block) (o := a.off) hxl.symm hl hm hxr (fun _ => by rw [← ha]) (fun j x hj => ⟨hblk, ?_⟩) (fun j x hj => (hv j x hj).2)
            rw [← hat]; exact (hv j x hj).1
    · rename_i fs hu
      cases hs : structTy P (tyOf P n) 0 fs.toList with
      | none => rw [hs] at h; simp at h
      | some l' =>
        rw [hs] at h
        simp only [Option.bind_some] at h
        split at h
        case isFalse => cases h
        rename_i hc
        injection h with h; subst h
        obtain ⟨xs, m, rfl, _, hl, hlen, hf⟩ := DataW.trod_struct hu hx
        have := struct_fits (P := P) (n := n) (fuel := m) (enc := enc) (w := w) (base := base) (spare := spare) (held := held) (fun h1 h2 => ih h1 h2) hs (cs := cs) (fun f hf' => by
          obtain ⟨i, hi⟩ := List.getElem?_of_mem hf'
          have hi' : fs[i]? = some f := by simpa using hi
          have hil : i < fs.size := (Array.getElem?_eq_some_iff.1 hi').1
          exact ⟨xs[i]'(by omega), by rw [hf i f hi']; exact List.getElem?_eq_getElem _⟩) (by omega)
        simpa using this
    · cases h
/-- A parameter's type: is it a struct; its cells. -/
def argTy (P : Program) (t : TypeId) : Option (Bool × List Ty) :=
  match P.underlying t with
  | some (.struct _) => (tyOf P 6 t).map fun l => (true, l)
  | some (.int _) => (tyOf P 6 t).map fun l => (false, l)
  | some .bool => (tyOf P 6 t).map fun l => (false, l)
  | some (.slice _) => (tyOf P 6 t).map fun l => (false, l)
  | some (.array n e) =>
    match P.underlying e with
    | some (.int k) => if P.cellsOf t = n ∧ P.cellsOf e = 1 then some (true, List.replicate n (.i k)) else none
    | _ => none
  | _ => none
theorem ints_fit {n m : Nat} {e : TypeId} {k : IntKind} {cs : List Value} {xs : List (DataW H × List MemPlace)} (hu : P.underlying e = some (.int k)) (hl : cs.length = n) (hx : xs.length = n)
    (h : ∀ i, i < n → DataW.trod enc P w base spare held m e ((cs.drop i).take 1) = xs[i]?) : ∃ cells, LR (DR (stOf w) w) cells cs ∧ Fits (List.replicate n (.i k)) cells := by
  have hz : ∀ j : Nat, ∃ z : Int, j < n → cs[j]? = some (.int k z) ∧ k.min ≤ z ∧ z ≤ k.max := by
    intro j
    by_cases hj : j < n
    · have h1 := h j hj
      rw [List.getElem?_eq_getElem (by omega)] at h1
      obtain ⟨z, e1, _, hw⟩ := DataW.trod_int hu h1
      simp only [Lit.wf, Bool.and_eq_true, decide_eq_true_eq] at hw
      have e2 : ((cs.drop j).take 1)[0]? = some (.int k z) := by rw [e1]; rfl
      rw [List.getElem?_take_of_lt (by omega), List.getElem?_drop] at e2
      exact ⟨z, fun _ => ⟨by simpa using e2, hw⟩⟩
    · exact ⟨0, fun h => absurd h hj⟩
  let z : Nat → Int := fun j => Classical.choose (hz j)
  have hz' : ∀ j, j < n → cs[j]? = some (.int k (z j)) ∧ k.min ≤ z j ∧ z j ≤ k.max := fun j hj => Classical.choose_spec (hz j) hj
  have hget : ∀ (j : Nat) (c : Cell), ((List.range n).map fun j => Cell.val (.int k (z j)))[j]? = some c → j < n ∧ c = .val (.int k (z j)) := fun j c hc => by
    have hj : j < n := by have := (List.getElem?_eq_some_iff.1 hc).1; simpa using this
    rw [List.getElem?_map, List.getElem?_range hj, Option.map_some] at hc
    injection hc with hc
    exact ⟨hj, hc.symm⟩
  refine ⟨(List.range n).map fun j => .val (.int k (z j)), ⟨by simp [hl], fun j c v hc hv => ?_⟩, ⟨by simp, fun j t c ht hc => ?_⟩⟩
  · obtain ⟨hj, rfl⟩ := hget j c hc
    rw [(hz' j hj).1] at hv
    injection hv with hv
    subst hv
    exact .val rfl
  · obtain ⟨hj, rfl⟩ := hget j c hc
    rw [List.getElem?_replicate, if_pos hj] at ht
    injection ht with ht
    subst ht
    exact .i (hz' j hj).2.1 (hz' j hj).2.2
def FitA : Bool × List Ty → FV → Prop
  | (true, l), .v (.agg cs) => Fits l cs
  | (false, [t]), .v (.c c) => Fit t c
  | _, _ => False
def FitAll : List (Bool × List Ty) → List FV → Prop
  | [], [] => True
  | a :: l, x :: r => FitA a x ∧ FitAll l r
  | _, _ => False
theorem arg_open {r : Reach} {b0 : Nat} {t : TypeId} {v : Value} {d : DataW H} {ps : List MemPlace} {a : Bool × List Ty} (ha : argTy P t = some a) (hv : Value.okWide P w r b0 t v) (h : DataW.Trod enc P w base spare held t v d ps) :
    ∃ x, AR (stOf w) w.heap.size w x v ∧ FitA a x := by
  obtain ⟨fuel, hf⟩ := h
  have one : ∀ {l : List Ty} {c : Value}, tyOf P 6 t = some l → v = c → c.cells = #[c] → l.length = 1 → ∃ x, AR (stOf w) w.heap.size w x v ∧ FitA (false, l) x := by
    intro l c hl hvc hc h1
    subst hvc
    obtain ⟨cells, k1, k2⟩ := trod_fits hl hf
    rw [hc] at k1
    match l, cells, h1, k2.1 with
    | [t'], [c'], _, _ =>
      exact ⟨.v (.c c'), .dat (k1.2 0 c' v rfl rfl), k2.2 0 t' c' rfl rfl⟩
  have len1 : ∀ {l : List Ty}, tyOf P 6 t = some l → (∀ fs, P.underlying t ≠ some (.struct fs)) → l.length = 1 := by
    intro l hl hns
    simp only [tyOf] at hl
    split at hl
    · injection hl with hl; subst hl; rfl
    · injection hl with hl; subst hl; rfl
    · obtain ⟨q, hq, hl⟩ := Option.bind_eq_some_iff.1 hl
      split at hl
      · injection hl with hl; subst hl; rfl
      · cases hl
    · rename_i hu; exact absurd hu (hns _)
    · cases hl
  unfold argTy at ha
  split at ha
  · rename_i fs hu
    obtain ⟨l, hl, e⟩ := some_pair ha; subst e
    obtain ⟨cs, rfl, _⟩ := okWide_struct hu hv
    obtain ⟨cells, k1, k2⟩ := trod_fits hl hf
    exact ⟨.v (.agg cells), ⟨cs.toList, by simp, k1.1, fun j c v hc hv => .dat (k1.2 j c v hc hv)⟩, k2⟩
  · rename_i k hu
    obtain ⟨l, hl, e⟩ := some_pair ha; subst e
    obtain ⟨n, hn⟩ := okWide_int hu hv
    exact one hl hn rfl (len1 hl fun fs h => by rw [hu] at h; cases h)
  · rename_i hu
    obtain ⟨l, hl, e⟩ := some_pair ha; subst e
    obtain ⟨n, hn⟩ := okWide_bool hu hv
    exact one hl hn rfl (len1 hl fun fs h => by rw [hu] at h; cases h)
  · rename_i e' hu
    obtain ⟨l, hl, e⟩ := some_pair ha; subst e
    obtain ⟨A, n, c, hn⟩ := okWide_slice hu hv
    exact one hl hn rfl (len1 hl fun fs h => by rw [hu] at h; cases h)
  · rename_i n e' hu
    split at ha
    case h_2 => cases ha
    rename_i k hk
    split at ha
    case isFalse => cases ha
    rename_i hc
    injection ha with ha; subst ha
    obtain ⟨cs, rfl, _⟩ : ∃ cs, v = .agg cs ∧ cs.size = P.cellsOf t := by
      simp only [Value.okWide, hu] at hv
      obtain ⟨cs, h1, h2, _⟩ := hv
      exact ⟨cs, h1, h2⟩
    obtain ⟨xs, m, rfl, _, hl, hx, hf⟩ := DataW.trod_array hu hf
    obtain ⟨cells, k1, k2⟩ := ints_fit hk (by rw [← hc.1]; exact hl) hx (fun i hi => by have := hf i hi; rw [hc.2, Nat.mul_one] at this; exact this)
    exact ⟨.v (.agg cells), ⟨cs.toList, by simp, k1.1, fun j c v hc hv => .dat (k1.2 j c v hc hv)⟩, k2⟩
  · cases ha
theorem args_open {r : Reach} {b0 : Nat} : ∀ {ts : List TypeId} {vs : List Value} {ds : List (DataW H)} {ps : List MemPlace} {tys : List (Bool × List Ty)}, trav (argTy P) ts = some tys → (∀ (j : Nat) (t : TypeId) (v : Value), ts[j]? = some t → vs[j]? = some v → Value.okWide P w r b0 t v) →
    DataW.TrodAll enc P w base spare held ts vs ds ps → ∃ xs : List FV, xs.length = vs.length ∧ (∀ (j : Nat) (x : FV) (v : Value), xs[j]? = some x → vs[j]? = some v → AR (stOf w) w.heap.size w x v) ∧ FitAll tys xs
  | [], vs, ds, ps, tys, ha, hv, h => by
    simp only [trav, Option.some.injEq] at ha; subst ha
    obtain ⟨h1, _, _⟩ := trodAll_nil h
    subst h1
    exact ⟨[], rfl, fun j x v hx => by simp at hx, trivial⟩
  | t :: ts, vs, ds, ps, tys, ha, hv, h => by
    simp only [trav] at ha
    split at ha
    case h_2 => cases ha
    rename_i a tys' h1 h2
    injection ha with ha; subst ha
    obtain ⟨v, vs', d, ds', p, q, rfl, rfl, rfl, k1, k2⟩ := trodAll_cons h
    obtain ⟨x, x1, x2⟩ := arg_open h1 (hv 0 t v rfl rfl) k1
    obtain ⟨xs, y1, y2, y3⟩ := args_open h2 (fun j t v ht hv' => hv (j + 1) t v (by simpa using ht) (by simpa using hv')) k2
    refine ⟨x :: xs, by simp [y1], fun j x' v' hx hv' => ?_, x2, y3⟩
    cases j with
    | zero => simp at hx hv'; subst hx; subst hv'; exact x1
    | succ j => exact y2 j x' v' (by simpa using hx) (by simpa using hv')
theorem trodAll_back (hl : laidOutB P = true) {W W' : World} (hb : Below W.heap.size W W') : ∀ {ts : List TypeId} {vs : List Value} {ds : List (DataW H)} {ps : List MemPlace}, (ts.all fun t => P.readableRec t && decide (t < P.types.size)) = true →
    DataW.TrodAll enc P W 0 (fun _ => true) true ts vs ds ps → DataW.TrodAll enc P W' 0 (fun b => decide (b < W.heap.size)) true ts vs ds ps
  | [], vs, ds, ps, _, h => by
    obtain ⟨rfl, rfl, rfl⟩ := trodAll_nil h
    exact rfl
  | t :: ts, vs, ds, ps, ht, h => by
    simp only [List.all_cons, Bool.and_eq_true, decide_eq_true_eq] at ht
    obtain ⟨v, vs', d, ds', p, q, rfl, rfl, rfl, k1, k2⟩ := trodAll_cons h
    refine ⟨p, q, Below.trod hl ht.1.1 ht.1.2 k1 hb ?_, trodAll_back hl hb (by simpa using ht.2) k2, rfl⟩
    obtain ⟨m, hm⟩ := k1
    exact DataW.trod_lt m _ _ _ hm
/-- A law over the abstract machine, at arguments that read as data. -/
theorem law_calls {F : Nat → Option SFun} (hF : ∀ g f, F g = some f → comp P g = some f) (hm : P.follows .mixedOrders = true) (hO : Special P) {g : Nat} {ts : List TypeId} {tys : List (Bool × List Ty)} {args : Array Value} {ds : List (DataW H)} {ps : List MemPlace} {r : Reach} {b0 : Nat}
    (ha : trav (argTy P) ts = some tys) (hv : ∀ (j : Nat) (t : TypeId) (v : Value), ts[j]? = some t → args[j]? = some v → Value.okWide P w r b0 t v) (h : DataW.TrodAll enc P w base spare held ts args.toList ds ps)
    (hlaw : ∀ xs, FitAll tys xs → FC F g xs (· = [.c (B true)])) : Calls P g args w fun e w' => e = .returned (.bool true) ∧ Below w.heap.size w w' := by
  obtain ⟨xs, h1, h2, h3⟩ := args_open (P := P) (w := w) ha (fun j t v ht hv' => hv j t v ht (by simpa using hv')) h
  obtain ⟨vs, e, hs⟩ := sim hF hm hO (hlaw xs h3).ev
  injection e with e; subst e
  refine Calls.mono (hs.2 w (stOf w) args (fun b o h => h) (by simpa using h1.symm) (fun j x v hx hv' => h2 j x v hx (by simpa using hv'))) fun e w' hR => ?_
  obtain ⟨v, st', rfl, hb, _, _, _, hret⟩ := hR
  refine ⟨?_, hb⟩
  rcases hret with ⟨_, _, _, he, _⟩ | ⟨x, he, hd⟩ | ⟨hl, _⟩
  · injection he with he; injection he with he; cases he
  · injection he with he; subst he
    cases hd with
    | val _ => rfl
  · simp at hl
end
end Go.Proofs.Ytndabolfhhppkaa.Am
