/- Searching and filtering rides with a literal; acknowledging; the law of posting. No condition. -/
import Derived.Test.YtndabolfhhppkaaUH
namespace Go.Proofs.Ytndabolfhhppkaa.Am
open Go

theorem more_false {α : Type} {p : α → Bool} {l : List α} {k : Nat} {n : α} (h : ∀ (j : Nat) b, j < k → l[j]? = some b → p b = false) (hg : l[k]? = some n) (hp : p n = false) : ∀ (j : Nat) b, j < k + 1 → l[j]? = some b → p b = false := by
  intro j b hj hb
  by_cases hjk : j = k
  · subst hjk; rw [hg] at hb; injection hb with hb; subst hb; exact hp
  · exact h j b (by omega) hb
/-! ### Calls in the caller's memory, as a walk -/
def FinIR (res : List SRes) (K : List Vl → Mu → Prop) : Out → Prop
  | .norm s => Some_ (trav (iret1 s) res) fun vs => K vs s.mu.tick
  | .ret s => Some_ (trav (iret1 s) res) fun vs => K vs s.mu.tick
  | _ => False
section
variable {F : Nat → Option SFun} {s : St}
@[simp] theorem ret_fini_n (res : List SRes) (Q : List Vl → Mu → Prop) : Ret F (.norm s) [] (FinIR res Q) ↔ Some_ (trav (iret1 s) res) fun vs => Q vs s.mu.tick := Iff.rfl
@[simp] theorem ret_fini_r (res : List SRes) (Q : List Vl → Mu → Prop) : Ret F (.ret s) [] (FinIR res Q) ↔ Some_ (trav (iret1 s) res) fun vs => Q vs s.mu.tick := Iff.rfl
theorem ic_run {h : Nat} {c : SCode} {res : List SRes} {own : Bool} (hF : F h = some ⟨c, res, own⟩) (hn : c.isClone = false := by rfl) {args : List FV} {μ : Mu} {Q : List Vl → Mu → Prop} :
    IC F h args μ Q ↔ Run F c ⟨fun k => (nth args k).getD .skip, μ⟩ [] (FinIR res Q) := by
  rw [ic_enter hF hn]
  constructor
  · intro h; exact wp_mono h fun o k => by cases o <;> exact k
  · intro h; exact wp_mono h fun o k => by cases o <;> exact k
theorem IC.mono {g : Nat} {args : List FV} {μ : Mu} {K K' : List Vl → Mu → Prop} (h : IC F g args μ K) (hk : ∀ vs μ', K vs μ' → K' vs μ') : IC F g args μ K' := by
  obtain ⟨vs, μ', h1, h2⟩ := h; exact ⟨vs, μ', h1, hk _ _ h2⟩
end
/-- A function value that tells of rides what 'p' does, whatever the memory but for its variables. -/
def Off7 (bx box : Id → Option (List Cell)) : Prop := ∀ i : Id, i.2 ≠ 7 → box i = bx i
theorem off7_refl (bx : Id → Option (List Cell)) : Off7 bx bx := fun _ _ => rfl
theorem off7_upd {bx box : Id → Option (List Cell)} (h : Off7 bx box) (t : Nat) (x : List Cell) : Off7 bx (upd box (t, 7) x) := fun i hi => by
  rw [← h i hi]
  simp only [upd]
  rw [if_neg]
  intro e
  subst e
  exact hi rfl
def ClosOk (c : Cell) (box : Id → Option (List Cell)) (p : Rd → Bool) : Prop :=
  ∃ g cs, (∀ box', Off7 box box' → ∀ ar ap st t mp, frz ⟨box', ar, ap, st, t, mp⟩ depth c = some (.clo g cs) ∧ fids ⟨box', ar, ap, st, t, mp⟩ depth c = []) ∧ ∀ n K, FC F g (.v (.agg (eRd n)) :: cs.map fun c => .cptr c 0) K ↔ K [.c (B (p n))]
theorem f31 (l : List Rd) (sc c : Cell) (p : Rd → Bool) (bx : Id → Option (List Cell)) (ar : Id → Option Arr) (ap st : Id → Bool) (t : Nat) (mp : Id → Option (List (Int × Vl))) (hs : sc = .ro 7 (l.map eRd) ∨ ∃ i e, sc = .own i ∧ ar i = some ⟨e, 7, l.map eRd⟩) (hc : ClosOk c bx p) (hl : l.length ≤ 9223372036854775807) :
    IC F 31 [.v (.c sc), .v (.c c)] ⟨bx, ar, ap, st, t, mp⟩ fun vs μ' => vs = [.c (I (idxI p l))] ∧ ∃ t', μ' = ⟨bx, ar, ap, st, t', mp⟩ := by
  obtain ⟨g, cs, hz, hg⟩ := hc
  have hz1 := fun ar ap st t mp => (hz bx (off7_refl bx) ar ap st t mp).1
  have hz2 := fun ar ap st t mp => (hz bx (off7_refl bx) ar ap st t mp).2
  rw [ic_run F31]
  rcases hs with rfl | ⟨i, e, rfl, ha⟩
  · simp [b31]
    refine run_loop (fun q s => ∃ k t', k ≤ l.length ∧ q = l.length - k ∧ s.mu = ⟨bx, ar, ap, st, t', mp⟩ ∧ s.fr 0 = .v (.c (.ro 7 (l.map eRd))) ∧ s.fr 1 = .v (.c c) ∧ s.fr 7 = vI l.length ∧ s.fr 8 = vI k ∧ ∀ (j : Nat) x, j < k → l[j]? = some x → p x = false) l.length ⟨0, _, by omega, by omega, rfl, by simp, by simp, by simp, by simp, by simp⟩ ?_
    rintro J hJ q ⟨fr, μ⟩ ⟨k, t', hk, rfl, hμ, h0, h1, h7, h8, hn⟩
    simp only at hμ h0 h1 h7 h8
    subst hμ
    by_cases hkl : k < l.length
    · obtain ⟨x, hn'⟩ : ∃ x, l[k] = x := ⟨_, rfl⟩
      have hget : l[k]? = some x := by rw [← hn']; exact List.getElem?_eq_getElem hkl
      have hcx := hg x
      by_cases hp : p x = true
      · have : idxI p l = k := by simp only [idxI, idx_at hget hp hn]
        simp [h0, h1, h7, h8, hkl, hn', hz1, hz2, hcx, hp, this]
      · have hp' : p x = false := by simpa using hp
        have hw := wrapS (n := k) (by omega)
        simp [h0, h1, h7, h8, hkl, hn', hz1, hz2, hcx, hp', hw]
        exact ⟨l.length - (k + 1), by omega, hJ _ _ ⟨k + 1, _, by omega, rfl, rfl, by simp [h0], by simp [h1], by simp [h7], by simp, more_false hn hget hp'⟩⟩
    · have : idxI p l = -1 := by
        simp only [idxI]
        rw [idx_none fun j b hb => hn j b (by have := (List.getElem?_eq_some_iff.1 hb).1; omega) hb]
      simp [h0, h1, h7, h8, hkl, this]
  · simp [b31, ha]
    refine run_loop (fun q s => ∃ k t', k ≤ l.length ∧ q = l.length - k ∧ s.mu = ⟨bx, ar, ap, st, t', mp⟩ ∧ s.fr 0 = .v (.c (.own i)) ∧ s.fr 1 = .v (.c c) ∧ s.fr 7 = vI l.length ∧ s.fr 8 = vI k ∧ ∀ (j : Nat) x, j < k → l[j]? = some x → p x = false) l.length ⟨0, _, by omega, by omega, rfl, by simp, by simp, by simp, by simp, by simp⟩ ?_
    rintro J hJ q ⟨fr, μ⟩ ⟨k, t', hk, rfl, hμ, h0, h1, h7, h8, hn⟩
    simp only at hμ h0 h1 h7 h8
    subst hμ
    by_cases hkl : k < l.length
    · obtain ⟨x, hn'⟩ : ∃ x, l[k] = x := ⟨_, rfl⟩
      have hget : l[k]? = some x := by rw [← hn']; exact List.getElem?_eq_getElem hkl
      have hcx := hg x
      by_cases hp : p x = true
      · have : idxI p l = k := by simp only [idxI, idx_at hget hp hn]
        simp [h0, h1, h7, h8, ha, hkl, hn', hz1, hz2, hcx, hp, this]
      · have hp' : p x = false := by simpa using hp
        have hw := wrapS (n := k) (by omega)
        simp [h0, h1, h7, h8, ha, hkl, hn', hz1, hz2, hcx, hp', hw]
        exact ⟨l.length - (k + 1), by omega, hJ _ _ ⟨k + 1, _, by omega, rfl, rfl, by simp [h0], by simp [h1], by simp [h7], by simp, more_false hn hget hp'⟩⟩
    · have : idxI p l = -1 := by
        simp only [idxI]
        rw [idx_none fun j b hb => hn j b (by have := (List.getElem?_eq_some_iff.1 hb).1; omega) hb]
      simp [h0, h1, h7, h8, hkl, this]
theorem idx_first {p : Rd → Bool} : ∀ {l : List Rd} {k : Nat}, idx p l = some k → (l.take (k + 1)).filter (fun x => !p x) = l.take k
  | [], k, h => by cases h
  | x :: l, k, h => by
    simp only [idx] at h
    split at h
    · rename_i hp; injection h with h; subst h; simp [hp]
    · rename_i hp
      cases hk : idx p l with
      | none => rw [hk] at h; cases h
      | some j => rw [hk] at h; injection h with h; subst h; simp [hp, idx_first hk]
theorem idx_nope {p : Rd → Bool} {l : List Rd} (h : idx p l = none) : l.filter (fun x => !p x) = l := by
  have h1 := idxI_any (p := p) (l := l)
  simp only [idxI, h] at h1
  have h2 : l.any p = false := h1.symm
  rw [List.filter_eq_self]
  intro x hx
  have := List.any_eq_false.1 h2 x hx
  simpa using this
theorem set_take {r : List Rd} {w : Nat} {x : Rd} (h : w < r.length) : (r.set w x).take (w + 1) = r.take w ++ [x] := by
  rw [List.take_succ_eq_append_getElem (by simpa using h)]
  simp [List.take_set_of_le]
set_option maxHeartbeats 2000000 in
theorem f28 (l : List Rd) (i : Id) (e : Nat) (c : Cell) (p : Rd → Bool) (bx : Id → Option (List Cell)) (ar : Id → Option Arr) (ap st : Id → Bool) (t : Nat) (mp : Id → Option (List (Int × Vl))) (ha : ar i = some ⟨e, 7, l.map eRd⟩) (hst : st i = true) (hc : ClosOk c bx p) (hl : l.length < 9223372036854775807) :
    IC F 28 [.v (.c (.own i)), .v (.c c)] ⟨bx, ar, ap, st, t, mp⟩ fun vs μ' => ∃ c' bx' ar' ap' st' t' mp', vs = [.c c'] ∧ μ' = ⟨bx', ar', ap', st', t', mp'⟩ ∧ Off7 bx bx' ∧ ∀ b a s u v, elemsC ⟨b, ar', a, s, u, v⟩ 7 c' = some ((l.filter fun x => !p x).map eRd) := by
  have hc0 := hc
  obtain ⟨g, cs, hz, hg⟩ := hc
  have hz1 := fun b hb ar ap st t mp => (hz b hb ar ap st t mp).1
  have hz2 := fun b hb ar ap st t mp => (hz b hb ar ap st t mp).2
  rw [ic_run F28]
  simp [b28]
  refine IC.mono (f31 l (.own i) c p bx ar ap st _ _ (.inr ⟨i, e, rfl, ha⟩) hc0 (by omega)) ?_
  rintro vs μ' ⟨rfl, t1, rfl⟩
  cases hi : idx p l with
  | none =>
    have h1 : idxI p l = -1 := by simp only [idxI, hi]
    simp [h1]
    exact ⟨bx, ar, ⟨rfl, rfl⟩, off7_refl _, by rw [ha, idx_nope hi]; simp⟩
  | some k0 =>
    have h1 : idxI p l = k0 := by simp only [idxI, hi]
    have hk0 := idx_lt hi
    have hne : ¬ ((k0 : Int) = -1) := by omega
    have hw0 := wrapS (n := k0) (by omega)
    simp [h1, hne, hw0]
    refine run_loop (fun q s => ∃ (j w : Nat) (r : List Rd), w < j ∧ j ≤ l.length ∧ q = l.length - j ∧ Off7 bx s.mu.box ∧ s.mu.arr i = some ⟨e, 7, r.map eRd⟩ ∧ s.mu.sto i = true ∧ s.fr 0 = .v (.c (.own i)) ∧ s.fr 1 = .v (.c c) ∧ s.fr 5 = vI w ∧ s.fr 6 = vI j ∧ r.length = l.length ∧ r.take w = (l.take j).filter (fun x => !p x) ∧ r.drop j = l.drop j) (l.length - (k0 + 1))
      ⟨k0 + 1, k0, l, by omega, by omega, rfl, off7_refl _, by simp [ha], by simp [hst], by simp, by simp, by simp, by simp, rfl, (idx_first hi).symm, rfl⟩ ?_
    rintro J hJ q ⟨fr, ⟨bx', ar', ap', st', t', mp'⟩⟩ ⟨j, w, r, hwj, hjl, rfl, hb, hr, hs, g0, g1, g5, g6, hlen, htake, hdrop⟩
    simp only at hb hr hs g0 g1 g5 g6
    have hup := fun t' x t2 x2 => off7_upd (off7_upd hb t' x) t2 x2
    have hz1' := fun t' x t2 x2 => hz1 _ (hup t' x t2 x2)
    have hz2' := fun t' x t2 x2 => hz2 _ (hup t' x t2 x2)
    by_cases hlt : j < l.length
    · obtain ⟨x, hx⟩ : ∃ x, l[j] = x := ⟨_, rfl⟩
      have hxl : l[j]? = some x := by rw [← hx]; exact List.getElem?_eq_getElem hlt
      have hxr : r[j]? = some x := by
        have h2 := congrArg (fun l => l[0]?) hdrop
        simpa [hxl] using h2
      have hjr : j < r.length := by omega
      have hwr : w < r.length := by omega
      obtain ⟨y, hy⟩ : ∃ y, r[w]? = some y := ⟨_, List.getElem?_eq_getElem hwr⟩
      have hrx : r[j] = x := by rw [List.getElem?_eq_getElem hjr] at hxr; injection hxr
      have hry : r[w] = y := by rw [List.getElem?_eq_getElem hwr] at hy; injection hy
      have hcx := hg x
      have hw1 := wrapS (n := j) (by omega)
      have hw2 := wrapS (n := w) (by omega)
      have hwl : w < l.length := by omega
      have hdrop' : r.drop (j + 1) = l.drop (j + 1) := by
        rw [← List.drop_drop, ← List.drop_drop, hdrop]
      have htk : l.take (j + 1) = l.take j ++ [x] := by rw [List.take_succ_eq_append_getElem hlt, hx]
      by_cases hp : p x = true
      · simp [g0, g1, g5, g6, hr, hs, hlt, hrx, hlen, hz1', hz2', hcx, hp, hw1]
        exact ⟨l.length - (j + 1), by omega, hJ _ _ ⟨j + 1, w, r, by omega, by omega, rfl, hup _ _ _ _, by simp [hr], by simp [hs], by simp [g0], by simp [g1], by simp [g5], by simp, hlen, by rw [htk, List.filter_append, htake]; simp [hp], hdrop'⟩⟩
      · have hp' : p x = false := by simpa using hp
        simp [g0, g1, g5, g6, hr, hs, hlt, hrx, hwl, hlen, hz1', hz2', hcx, hp', hw1, hw2]
        exact ⟨l.length - (j + 1), by omega, hJ _ _ ⟨j + 1, w + 1, r.set w x, by omega, by omega, rfl, hup _ _ _ _, by simp, by simp [hs], by simp [g0], by simp [g1], by simp, by simp, by simp [hlen], by rw [htk, List.filter_append, ← htake, set_take hwr]; simp [hp'], by rw [List.drop_set_of_lt (by omega)]; exact hdrop'⟩⟩
    · have hje : j = l.length := by omega
      subst hje
      rw [List.take_length] at htake
      simp [g0, g5, g6, hr, hs, hlen]
      refine ⟨by omega, by omega, hb, ?_⟩
      rw [← htake, List.take_append_of_le_length (by simp; omega), List.take_take, Nat.min_self, List.map_take]
theorem f29 (r : Rd) (n : Int) (K : List Vl → Prop) : FC F 29 [.v (.agg (eRd r)), .cptr [I n] 0] K ↔ K [.c (B (decide (r.seq ≤ n)))] := by
  rw [fc_run F29]
  simp [b29]
def ackL (l : List Rd) (n : Int) : List Rd := l.filter fun r => !decide (r.seq ≤ n)
def ackO (o : Ob) (n : Int) : Ob := ⟨o.gate, o.next, ackL o.mail n⟩
theorem f19 (o : Ob) (n : Int) (h : o.mail.length ≤ 200) (K : List Vl → Prop) : FC F 19 [.v (.agg (eO o)), vI n] K ↔ K [.agg (eO (ackO o n))] := by
  refine FC.rule ?_ K
  rw [fc_run F19]
  have hc := f27 o.mail h
  simp [b19, hc]
  refine IC.mono (f28 o.mail _ 26 _ (fun r => decide (r.seq ≤ n)) _ _ _ _ _ _ (by simp) (by simp) ⟨29, [[I n]], fun box' hb ar ap st t mp => ⟨?_, ?_⟩, fun r K => f29 r n K⟩ (by omega)) ?_
  · have h3 := hb (0, 3) (by decide)
    simp at h3
    simp [frz, trav, h3]
  · have h3 := hb (0, 3) (by decide)
    simp at h3
    simp [fids, h3]
  rintro vs μ' ⟨c', bx', ar', ap', st', t', mp', rfl, rfl, hoff, he⟩
  have h2 := hoff (0, 2) (by decide)
  simp at h2
  have h4 := hoff (0, 4) (by decide)
  simp at h4
  have he' := he (fun _ => none) (fun _ => false) (fun _ => false) 0 (fun _ => none)
  simp [elemsC] at he'
  simp [he', h2, h4, ackO, ackL, hitQ, hitN]
theorem ackL_add (l : List Rd) (n : Int) (k : Nat) (r : Rd) (h : l[k]? = some r) : ackL (l.take (k + 1)) n = ackL (l.take k) n ++ if r.seq ≤ n then [] else [r] := by
  have hk := (List.getElem?_eq_some_iff.1 h).1
  have hr := (List.getElem?_eq_some_iff.1 h).2
  unfold ackL
  rw [List.take_succ_eq_append_getElem hk, List.filter_append, hr]
  by_cases c : r.seq ≤ n
  · simp [c]
  · simp [c]
theorem ackL_len (l : List Rd) (n : Int) : (ackL l n).length ≤ l.length := List.length_filter_le _ _
/-- A list of rides in a row that a slot made, or none yet. -/
def Rw (μ : Mu) (d : Nat) (l : List Rd) (c : Cell) : Prop := (c = .nil ∧ l = []) ∨ ∃ t, c = .own (t, d) ∧ μ.arr (t, d) = some ⟨26, 7, l.map eRd⟩ ∧ μ.app (t, d) = true
theorem f20 (o : Ob) (n : Int) (h : o.mail.length ≤ 200) (K : List Vl → Prop) : FC F 20 [.v (.agg (eO o)), vI n] K ↔ K [.agg (eO (ackO o n))] := by
  refine FC.rule ?_ K
  rw [fc_run F20]
  simp [b20]
  refine run_loop (fun q s => ∃ (k : Nat) (c : Cell), k ≤ o.mail.length ∧ q = o.mail.length - k ∧ s.fr 1 = vI n ∧ s.fr 2 = .ptr (0, 2) 0 ∧ s.mu.box (0, 2) = some (eO o) ∧ s.fr 4 = .ptr (0, 4) 0 ∧ s.mu.box (0, 4) = some [I 0, I 0, .nil] ∧ s.fr 5 = .ptr (1, 5) 0 ∧ s.mu.box (1, 5) = some [I o.gate, I o.next, c] ∧ s.fr 6 = vI k ∧ Rw s.mu 35 (ackL (o.mail.take k) n) c) o.mail.length ⟨0, .nil, by omega, by omega, by simp, by simp, by simp, by simp, by simp, by simp, by simp, by simp, .inl ⟨rfl, rfl⟩⟩ ?_
  rintro J hJ q ⟨fr, μ⟩ ⟨k, c, hk, rfl, g1, g2, gb, g4, gc, g5, gd, g6, hw⟩
  simp only at g1 g2 gb g4 gc g5 gd g6 hw
  by_cases hkl : k < o.mail.length
  · obtain ⟨r, hr⟩ : ∃ r, o.mail[k] = r := ⟨_, rfl⟩
    have hget : o.mail[k]? = some r := by rw [← hr]; exact List.getElem?_eq_getElem hkl
    have hws := wrapS (n := k) (by omega)
    have hadd := ackL_add o.mail n k r hget
    have hlen := ackL_len (o.mail.take k) n
    rw [List.length_take] at hlen
    have hlim : (ackL (o.mail.take k) n).length + 1 ≤ lim := by simp only [lim]; omega
    by_cases c1 : r.seq ≤ n
    · have c2 : ¬ (n < r.seq) := by omega
      rw [if_pos c1, List.append_nil] at hadd
      simp [g1, g2, gb, g4, gc, g5, gd, g6, hkl, hr, c2, hws]
      exact ⟨o.mail.length - (k + 1), by omega, hJ _ _ ⟨k + 1, c, by omega, rfl, by simp [g1], by simp [g2], by simp [gb], by simp [g4], by simp [gc], by simp [g5], by simp [gd], by simp, by rw [hadd]; exact hw⟩⟩
    · have c2 : n < r.seq := by omega
      rw [if_neg c1] at hadd
      rcases hw with ⟨rfl, hl⟩ | ⟨t, rfl, ha, hap⟩
      · rw [hl] at hadd
        simp [g1, g2, gb, g4, gc, g5, gd, g6, hkl, hr, c2, hws, lim]
        refine ⟨o.mail.length - (k + 1), by omega, hJ _ _ ⟨k + 1, .own (μ.t + 1 + 1, 35), by omega, rfl, by simp [g1], by simp [g2], by simp [gb], by simp [g4], by simp [gc], by simp [g5], by simp [gd], by simp, .inr ⟨_, rfl, ?_, ?_⟩⟩⟩
        · rw [hadd]; simp
        · simp
      · simp [g1, g2, gb, g4, gc, g5, gd, g6, hkl, hr, c2, hws, ha, hap, hlim]
        refine ⟨o.mail.length - (k + 1), by omega, hJ _ _ ⟨k + 1, .own (μ.t + 1 + 1, 35), by omega, rfl, by simp [g1], by simp [g2], by simp [gb], by simp [g4], by simp [gc], by simp [g5], by simp [gd], by simp, .inr ⟨_, rfl, ?_, ?_⟩⟩⟩
        · rw [hadd]; simp
        · simp
  · have hkk : k = o.mail.length := by omega
    subst hkk
    rw [List.take_length] at hw
    rcases hw with ⟨rfl, hl⟩ | ⟨t, rfl, ha, hap⟩
    · simp [g1, g2, gb, g4, gc, g5, gd, g6, hitQ, hitN, ackO, hl]
    · simp [g1, g2, gb, g4, gc, g5, gd, g6, hitQ, hitN, ackO, ha]
theorem open_ride {x : FV} (h : FitA (true, [ti, ti, ti, ti, ti, ti, ti]) x) : ∃ r : Rd, x = .v (.agg (eRd r)) ∧ RgR r := by
  cases x with
  | v x =>
    cases x with
    | c x => exact h.elim
    | agg cs =>
      obtain ⟨hl, hf⟩ := h
      match cs, hl with
      | [c1, c2, c3, c4, c5, c6, c7], _ =>
        obtain ⟨a1, rfl, r1⟩ := fit_int (hf 0 _ c1 rfl rfl)
        obtain ⟨a2, rfl, r2⟩ := fit_int (hf 1 _ c2 rfl rfl)
        obtain ⟨a3, rfl, _⟩ := fit_int (hf 2 _ c3 rfl rfl)
        obtain ⟨a4, rfl, _⟩ := fit_int (hf 3 _ c4 rfl rfl)
        obtain ⟨a5, rfl, _⟩ := fit_int (hf 4 _ c5 rfl rfl)
        obtain ⟨a6, rfl, _⟩ := fit_int (hf 5 _ c6 rfl rfl)
        obtain ⟨a7, rfl, _⟩ := fit_int (hf 6 _ c7 rfl rfl)
        exact ⟨⟨a1, a2, a3, a4, a5, a6, a7⟩, rfl, r1, r2⟩
  | _ => exact h.elim
abbrev tyRd : Bool × List Ty := (true, [ti, ti, ti, ti, ti, ti, ti])
theorem f3 (o : Ob) (r : Rd) (n : Int) (hn : R64 o.next) (K : List Vl → Prop) : FC F 3 [.v (.agg (eO o)), .v (.agg (eRd r)), vI n] K ↔ K [.c (B true)] := by
  refine FC.rule ?_ K
  rw [fc_run F3]
  have h1 := f10 o.mail
  by_cases c1 : (o.mail.length : Int) ≤ 200
  case neg =>
    rw [decide_eq_false c1] at h1
    simp [b3, f9, h1]
  rw [decide_eq_true c1] at h1
  have h2 := f11 n
  have h3 := f12 n
  have h4 := f13 o r hn
  have h5 := f14 o r hn
  have h6 := f15 ⟨n, 1, []⟩ ⟨n, 1, []⟩ (by simp)
  have h7 := f16 ⟨n, 1, [], []⟩ ⟨n, 1, [], []⟩ (by simp) (by simp)
  have h8 := f18 o (by omega)
  have h9 := f17 o.mail o.mail (by omega)
  have h10 := f19 o n (by omega)
  have h11 := f20 o n (by omega)
  have hal := ackL_len o.mail n
  have h12 := f15 (ackO o n) (ackO o n) (by show (ackL o.mail n).length ≤ _; omega)
  have hpl : (postO o r).1.mail.length ≤ 9223372036854775807 := by
    unfold postO
    split
    · simp
    · split
      · simp
      · split
        · simp
        · simp; omega
  have h13 := f15 (postO o r).1 (postO o r).1 hpl
  obtain ⟨q, hq⟩ : ∃ q, postO o r = q := ⟨_, rfl⟩
  obtain ⟨a, ha⟩ : ∃ a, ackO o n = a := ⟨_, rfl⟩
  rw [hq] at h4 h5 h13
  rw [ha] at h10 h11 h12
  clear hq ha hpl hal
  obtain ⟨⟨q1, q2, q3⟩, e⟩ := q
  obtain ⟨a1, a2, a3⟩ := a
  simp only [decide_true] at h6 h7 h9 h12 h13
  obtain ⟨X, hX⟩ : ∃ X, q3.map eRd = X := ⟨_, rfl⟩
  obtain ⟨Y, hY⟩ : ∃ Y, a3.map eRd = Y := ⟨_, rfl⟩
  obtain ⟨Z, hZ⟩ : ∃ Z, o.mail.map eRd = Z := ⟨_, rfl⟩
  have k2 : ∀ K, FC F 11 [vI n] K ↔ K [.agg [I n, I 1, .ro 7 []], .agg [I n, I 1, .ro 7 [], .ro 7 []]] := h2
  have k3 : ∀ K, FC F 12 [vI n] K ↔ K [.agg [I n, I 1, .ro 7 []], .agg [I n, I 1, .ro 7 [], .ro 7 []]] := h3
  have k6 : ∀ K, FC F 15 [.v (.agg [I n, I 1, .ro 7 []]), .v (.agg [I n, I 1, .ro 7 []])] K ↔ K [.c (B true)] := h6
  have k7 : ∀ K, FC F 16 [.v (.agg [I n, I 1, .ro 7 [], .ro 7 []]), .v (.agg [I n, I 1, .ro 7 [], .ro 7 []])] K ↔ K [.c (B true)] := h7
  have k4 : ∀ K, FC F 13 [.v (.agg [I o.gate, I o.next, .ro 7 Z]), .v (.agg (eRd r))] K ↔ K [.agg [I q1, I q2, .ro 7 X], .c (I e)] := by subst hX hZ; exact h4
  have k5 : ∀ K, FC F 14 [.v (.agg [I o.gate, I o.next, .ro 7 Z]), .v (.agg (eRd r))] K ↔ K [.agg [I q1, I q2, .ro 7 X], .c (I e)] := by subst hX hZ; exact h5
  have k8 : ∀ K, FC F 18 [.v (.agg [I o.gate, I o.next, .ro 7 Z])] K ↔ K [.c (.ro 7 Z)] := by subst hZ; exact h8
  have k9 : ∀ K, FC F 17 [.v (.c (.ro 7 Z)), .v (.c (.ro 7 Z))] K ↔ K [.c (B true)] := by subst hZ; exact h9
  have k10 : ∀ K, FC F 19 [.v (.agg [I o.gate, I o.next, .ro 7 Z]), vI n] K ↔ K [.agg [I a1, I a2, .ro 7 Y]] := by subst hZ hY; exact h10
  have k11 : ∀ K, FC F 20 [.v (.agg [I o.gate, I o.next, .ro 7 Z]), vI n] K ↔ K [.agg [I a1, I a2, .ro 7 Y]] := by subst hZ hY; exact h11
  have k12 : ∀ K, FC F 15 [.v (.agg [I a1, I a2, .ro 7 Y]), .v (.agg [I a1, I a2, .ro 7 Y])] K ↔ K [.c (B true)] := by subst hY; exact h12
  have k13 : ∀ K, FC F 15 [.v (.agg [I q1, I q2, .ro 7 X]), .v (.agg [I q1, I q2, .ro 7 X])] K ↔ K [.c (B true)] := by subst hX; exact h13
  have k1 : ∀ K, FC F 10 [.v (.c (.ro 7 Z))] K ↔ K [.c (B true)] := by subst hZ; exact h1
  rw [show eO o = [I o.gate, I o.next, .ro 7 Z] by rw [← hZ]]
  clear h1 h2 h3 h4 h5 h6 h7 h8 h9 h10 h11 h12 h13 c1 hn hX hY hZ
  obtain ⟨og, on, ol⟩ := o
  simp only at k4 k5 k8 k10 k11
  simp [b3, f9, k1, k2, k3, k4, k5, k6, k7, k8, k9, k10, k11, k12, k13, hitN]
theorem law3 (xs : List FV) (h : FitAll [tyO, tyRd, (false, [ti])] xs) : FC F 3 xs (· = [.c (B true)]) := by
  match xs, h with
  | [x, y, z], ⟨hx, hy, hz, _⟩ =>
    obtain ⟨o, rfl, _, hn, _, _⟩ := open_out hx
    obtain ⟨r, rfl, _⟩ := open_ride hy
    obtain ⟨n, rfl, _⟩ := open_int hz
    exact (f3 o r n hn _).2 rfl
end Go.Proofs.Ytndabolfhhppkaa.Am
