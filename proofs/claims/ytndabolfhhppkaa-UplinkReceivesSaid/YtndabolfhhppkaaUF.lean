/- Do boxes belong together: the program, the specification, and the law. No condition. -/
import Derived.Test.YtndabolfhhppkaaUE
namespace Go.Proofs.Ytndabolfhhppkaa.Am
open Go

def earB (mail : List Rd) : Int → List Rd → Bool
  | _, [] => true
  | last, r :: l => decide (last < r.seq) && hasB mail r && earB mail r.seq l
def bad1 (o : Ob) (i : Ib) : Prop := o.gate ≠ i.gate ∨ o.next < 1 ∨ 1000000 < o.next ∨ o.next - 1 < o.mail.length
instance (o : Ob) (i : Ib) : Decidable (bad1 o i) := by unfold bad1; infer_instance
def restB (o : Ob) (i : Ib) : Bool :=
  sucB o.gate (o.next - o.mail.length) 0 o.mail && (decide (o.next - o.mail.length ≤ i.next) && (decide (i.next ≤ o.next) && (decide ((i.got.length : Int) = i.next - 1) && (sucB i.gate 1 0 i.got && earB o.mail i.next i.early))))
def rightB (o : Ob) (i : Ib) : Bool := if bad1 o i then false else restB o i
structure Oko (o : Ob) : Prop where
  m : o.mail.length ≤ 200
  n : R64 o.next
structure Oki (i : Ib) : Prop where
  g : i.got.length ≤ 200
  e : i.early.length ≤ 200
  n : R64 i.next
set_option maxHeartbeats 4000000 in
theorem f23 (o : Ob) (i : Ib) (ho : Oko o) (hi : Oki i) (K : List Vl → Prop) : FC F 23 [.v (.agg (eO o)), .v (.agg (eI i))] K ↔ K [.c (B (rightB o i))] := by
  refine FC.rule ?_ K
  rw [fc_run F23]
  have hm := ho.m
  have hg := hi.g
  by_cases c1 : o.gate = i.gate
  case neg =>
    have e : rightB o i = false := if_pos (.inl c1)
    simp [b23, c1, e]
  by_cases c2 : o.next < 1
  · have e : rightB o i = false := if_pos (.inr (.inl c2))
    simp [b23, c1, c2, e]
  by_cases c3 : 1000000 < o.next
  · have e : rightB o i = false := if_pos (.inr (.inr (.inl c3)))
    simp [b23, c1, c2, c3, e]
  have w1 : IntKind.i64.wrap (o.next - 1) = o.next - 1 := wrap64 ⟨by omega, by omega⟩
  by_cases c4 : o.next - 1 < o.mail.length
  · have e : rightB o i = false := if_pos (.inr (.inr (.inr c4)))
    simp [b23, c1, c2, c3, w1, c4, e]
  have e0 : rightB o i = restB o i := if_neg (by unfold bad1; omega)
  have w2 : IntKind.i64.wrap (o.next - o.mail.length) = o.next - o.mail.length := wrap64 ⟨by omega, by omega⟩
  have s1 := f38 o.mail o.gate (o.next - o.mail.length) (by omega)
  have s2 := f38 i.got i.gate 1 (by omega)
  rw [e0]
  unfold restB
  cases d1 : sucB o.gate (o.next - o.mail.length) 0 o.mail with
  | false =>
    rw [d1, c1] at s1
    simp [b23, c1, c2, c3, w1, c4, w2, s1]
  | true =>
  rw [d1, c1] at s1
  by_cases c5 : o.next - o.mail.length ≤ i.next
  case neg =>
    have c5' : i.next < o.next - o.mail.length := by omega
    simp [b23, c1, c2, c3, w1, c4, w2, s1, c5, c5']
  have c5' : ¬ (i.next < o.next - o.mail.length) := by omega
  by_cases c6 : i.next ≤ o.next
  case neg =>
    have c6' : o.next < i.next := by omega
    simp [b23, c1, c2, c3, w1, c4, w2, s1, c5', c6, c6']
  have c6' : ¬ (o.next < i.next) := by omega
  have w3 : IntKind.i64.wrap (i.next - 1) = i.next - 1 := wrap64 ⟨by omega, by omega⟩
  by_cases c7 : (i.got.length : Int) = i.next - 1
  case neg => simp [b23, c1, c2, c3, w1, c4, w2, s1, c5', c6', w3, c7]
  cases d2 : sucB i.gate 1 0 i.got with
  | false =>
    rw [d2] at s2
    simp [b23, c1, c2, c3, w1, c4, w2, s1, s2, c5', c6', w3, c7]
  | true =>
  rw [d2] at s2
  have c5'' : decide (o.next - o.mail.length ≤ i.next) = true := by simp [c5]
  have c6'' : decide (i.next ≤ o.next) = true := by simp [c6]
  have c7'' : decide ((i.got.length : Int) = i.next - 1) = true := by simp [c7]
  rw [c5'', c6'', c7'']
  simp only [Bool.true_and]
  simp [b23, c1, c2, c3, w1, c4, w2, s1, s2, c5', c6', w3, c7]
  have hel := hi.e
  refine run_loop (fun q s => ∃ k last, k ≤ i.early.length ∧ q = i.early.length - k ∧ s.fr 2 = .ptr (0, 2) 0 ∧ s.mu.box (0, 2) = some [I i.gate, I o.next, .ro 7 (o.mail.map eRd)] ∧ s.fr 6 = vI last ∧ s.fr 79 = rR i.early ∧ s.fr 80 = vI i.early.length ∧ s.fr 81 = vI k ∧ earB o.mail i.next i.early = earB o.mail last (i.early.drop k)) i.early.length ⟨0, i.next, by omega, by omega, by simp, by simp [c1], by simp, by simp, by simp, by simp, rfl⟩ ?_
  rintro J hJ q ⟨fr, μ⟩ ⟨k, last, hk, rfl, g2, gb, g6, g79, g80, g81, hn⟩
  simp only at g2 gb g6 g79 g80 g81
  by_cases hkl : k < i.early.length
  · obtain ⟨r, hr⟩ : ∃ r, i.early[k] = r := ⟨_, rfl⟩
    have hget : i.early[k]? = some r := by rw [← hr]; exact List.getElem?_eq_getElem hkl
    rw [drop_cons hget] at hn
    simp only [earB] at hn
    have hws := wrapS (n := k) (by omega)
    have s3 := f39 o.mail r (by omega)
    by_cases e1 : last < r.seq
    · have e1' : ¬ (r.seq ≤ last) := by omega
      cases e2 : hasB o.mail r with
      | true =>
        rw [e2] at hn s3
        rw [decide_eq_true e1, Bool.true_and, Bool.true_and] at hn
        simp [g2, gb, g6, g79, g80, g81, hkl, hr, e1', s3, hws]
        exact ⟨i.early.length - (k + 1), by omega, hJ _ _ ⟨k + 1, r.seq, by omega, rfl, by simp [g2], by simp [gb], by simp, by simp [g79], by simp [g80], by simp, hn⟩⟩
      | false =>
        rw [e2] at hn s3
        rw [Bool.and_false, Bool.false_and] at hn
        simp [g2, gb, g6, g79, g80, g81, hkl, hr, e1', s3, hn]
    · have e1' : r.seq ≤ last := by omega
      rw [decide_eq_false e1, Bool.false_and, Bool.false_and] at hn
      simp [g2, gb, g6, g79, g80, g81, hkl, hr, e1', hn]
  · have : i.early.drop k = [] := List.drop_eq_nil_of_le (by omega)
    rw [this] at hn
    simp [g80, g81, hkl, hn, earB]
/-! ### The specification -/
theorem suc_one (k : Nat) (h : k < 9223372036854775807) : IntKind.i64.wrap (1 + (k : Int)) = ((k + 1 : Nat) : Int) := by
  rw [wrap64 ⟨by omega, by omega⟩]; omega
def earR (mail : List Rd) (next : Int) : Option Int → List Rd → Bool
  | _, [] => true
  | p, r :: l => decide (next < r.seq) && (match p with | none => true | some q => decide (q < r.seq)) && hasB mail r && earR mail next (some r.seq) l
theorem ear_same {mail : List Rd} {next : Int} : ∀ {l : List Rd} {last : Int} {p : Option Int}, (match p with | none => last = next | some q => last = q ∧ next < q) → earR mail next p l = earB mail last l
  | [], _, _, _ => rfl
  | r :: l, last, p, h => by
    simp only [earR, earB]
    cases p with
    | none =>
      simp only at h
      subst h
      simp only [Bool.and_true]
      by_cases c : last < r.seq
      · rw [ear_same (p := some r.seq) (last := r.seq) ⟨rfl, c⟩]
      · simp only [decide_eq_false c, Bool.false_and]
    | some q =>
      obtain ⟨rfl, hq⟩ := h
      by_cases c : last < r.seq
      · have c2 : next < r.seq := by omega
        rw [decide_eq_true c2]
        simp only [decide_eq_true c, Bool.true_and]
        rw [ear_same (p := some r.seq) (last := r.seq) ⟨rfl, c2⟩]
      · simp only [decide_eq_false c, Bool.and_false, Bool.false_and]
set_option maxHeartbeats 4000000 in
theorem f24 (o : Ob) (i : Ib) (ho : Oko o) (hi : Oki i) (K : List Vl → Prop) : FC F 24 [.v (.agg (eO o)), .v (.agg (eI i))] K ↔ K [.c (B (rightB o i))] := by
  refine FC.rule ?_ K
  rw [fc_run F24]
  have hm := ho.m
  have hg := hi.g
  have hel := hi.e
  by_cases c1 : o.gate = i.gate
  case neg =>
    have e : rightB o i = false := if_pos (.inl c1)
    simp [b24, c1, e]
  by_cases c2 : o.next < 1
  · have e : rightB o i = false := if_pos (.inr (.inl c2))
    simp [b24, c1, c2, e]
  by_cases c3 : 1000000 < o.next
  · have e : rightB o i = false := if_pos (.inr (.inr (.inl c3)))
    simp [b24, c1, c2, c3, e]
  have w1 : IntKind.i64.wrap (o.next - 1) = o.next - 1 := wrap64 ⟨by omega, by omega⟩
  by_cases c4 : o.next - 1 < o.mail.length
  · have e : rightB o i = false := if_pos (.inr (.inr (.inr c4)))
    simp [b24, c1, c2, c3, w1, c4, e]
  have e0 : rightB o i = restB o i := if_neg (by unfold bad1; omega)
  rw [e0]
  obtain ⟨first, hf⟩ : ∃ f, o.next - o.mail.length = f := ⟨_, rfl⟩
  have w2 : IntKind.i64.wrap (o.next - o.mail.length) = first := by rw [← hf]; exact wrap64 ⟨by omega, by omega⟩
  have hrest : restB o i = (sucB o.gate first 0 o.mail && (decide (first ≤ i.next) && (decide (i.next ≤ o.next) && (decide ((i.got.length : Int) = i.next - 1) && (sucB i.gate 1 0 i.got && earR o.mail i.next none i.early))))) := by
    unfold restB
    rw [hf, ear_same (p := none) rfl]
  rw [hrest]
  simp [b24, c1, c2, c3, w1, c4, w2]
  refine run_loop (fun q s => ∃ k, k ≤ o.mail.length ∧ q = o.mail.length - k ∧ s.fr 2 = .ptr (0, 2) 0 ∧ s.mu.box (0, 2) = some [I i.gate, I o.next, .ro 7 (o.mail.map eRd)] ∧ s.fr 3 = .ptr (0, 3) 0 ∧ s.mu.box (0, 3) = some (eI i) ∧ s.fr 5 = vI first ∧ s.fr 6 = vI k ∧ sucB i.gate first 0 o.mail = sucB i.gate first k (o.mail.drop k)) o.mail.length ⟨0, by omega, by omega, by simp, by simp [c1], by simp, by simp, by simp, by simp, rfl⟩ ?_
  rintro J hJ q ⟨fr, μ⟩ ⟨k, hk, rfl, g2, gb, g3, gc, g5, g6, hn⟩
  simp only at g2 gb g3 gc g5 g6
  by_cases hkl : k < o.mail.length
  · obtain ⟨r, hr⟩ : ∃ r, o.mail[k] = r := ⟨_, rfl⟩
    have hget : o.mail[k]? = some r := by rw [← hr]; exact List.getElem?_eq_getElem hkl
    rw [drop_cons hget] at hn
    simp only [sucB] at hn
    have hws := wrapS (n := k) (by omega)
    by_cases e1 : r.gate = i.gate
    · by_cases e2 : r.seq = IntKind.i64.wrap (first + k)
      · rw [show (r.gate == i.gate) = true by simp [e1], show (r.seq == IntKind.i64.wrap (first + k)) = true by rw [e2]; simp, Bool.true_and, Bool.true_and] at hn
        simp [g2, gb, g5, g6, hkl, hr, e1, e2, hws]
        exact ⟨o.mail.length - (k + 1), by omega, hJ _ _ ⟨k + 1, by omega, rfl, by simp [g2], by simp [gb], by simp [g3], by simp [gc], by simp [g5], by simp, hn⟩⟩
      · have e2' : (r.seq == IntKind.i64.wrap (first + k)) = false := by simpa using e2
        rw [e2', Bool.and_false, Bool.false_and] at hn
        simp [g2, gb, g5, g6, hkl, hr, e1, e2, hn]
    · have e1' : (r.gate == i.gate) = false := by simpa using e1
      rw [e1', Bool.false_and, Bool.false_and] at hn
      simp [g2, gb, g6, hkl, hr, e1, hn]
  have h0 : o.mail.drop k = [] := List.drop_eq_nil_of_le (by omega)
  rw [h0] at hn
  simp only [sucB] at hn
  rw [hn, Bool.true_and]
  by_cases c5 : i.next < 1
  · have : ¬ (first ≤ i.next) := by omega
    simp [g2, gb, g3, gc, g5, g6, hkl, c5, this]
  by_cases c6 : o.next < i.next
  · have : ¬ (i.next ≤ o.next) := by omega
    simp [g2, gb, g3, gc, g5, g6, hkl, c5, c6, this]
  by_cases c7 : i.next < first
  · have : ¬ (first ≤ i.next) := by omega
    simp [g2, gb, g3, gc, g5, g6, hkl, c5, c6, c7, this]
  have w3 : IntKind.i64.wrap (i.next - 1) = i.next - 1 := wrap64 ⟨by omega, by omega⟩
  have c6' : i.next ≤ o.next := by omega
  have c7' : first ≤ i.next := by omega
  by_cases c8 : (i.got.length : Int) = i.next - 1
  case neg => simp [g2, gb, g3, gc, g5, g6, hkl, c5, c6, c7, w3, c8]
  rw [decide_eq_true c6', decide_eq_true c7', decide_eq_true c8, Bool.true_and, Bool.true_and, Bool.true_and]
  simp [g2, gb, g3, gc, g5, g6, hkl, c5, c6, c7, w3, c8]
  clear hn h0 hJ
  refine run_loop (fun q s => ∃ k, k ≤ i.got.length ∧ q = i.got.length - k ∧ s.fr 2 = .ptr (0, 2) 0 ∧ s.mu.box (0, 2) = some [I i.gate, I o.next, .ro 7 (o.mail.map eRd)] ∧ s.fr 3 = .ptr (0, 3) 0 ∧ s.mu.box (0, 3) = some (eI i) ∧ s.fr 7 = vI k ∧ sucB i.gate 1 0 i.got = sucB i.gate 1 k (i.got.drop k)) i.got.length ⟨0, by omega, by omega, by simp [g2], by simp [gb], by simp [g3], by simp [gc], by simp, rfl⟩ ?_
  clear g2 gb g3 gc g5 g6
  rintro J hJ q ⟨fr, μ⟩ ⟨k, hk, rfl, g2, gb, g3, gc, g7, hn⟩
  simp only at g2 gb g3 gc g7
  by_cases hkl : k < i.got.length
  · obtain ⟨r, hr⟩ : ∃ r, i.got[k] = r := ⟨_, rfl⟩
    have hget : i.got[k]? = some r := by rw [← hr]; exact List.getElem?_eq_getElem hkl
    rw [drop_cons hget] at hn
    have hws := wrapS (n := k) (by omega)
    simp only [sucB, suc_one k (by omega)] at hn
    by_cases e1 : r.gate = i.gate
    · by_cases e2 : r.seq = ((k + 1 : Nat) : Int)
      · rw [show (r.gate == i.gate) = true by simp [e1], show (r.seq == ((k + 1 : Nat) : Int)) = true by rw [e2]; simp, Bool.true_and, Bool.true_and] at hn
        simp [g2, gb, g3, gc, g7, hkl, hr, e1, e2, hws]
        exact ⟨i.got.length - (k + 1), by omega, hJ _ _ ⟨k + 1, by omega, rfl, by simp [g2], by simp [gb], by simp [g3], by simp [gc], by simp, hn⟩⟩
      · have e2' : (r.seq == ((k + 1 : Nat) : Int)) = false := by simpa using e2
        rw [e2', Bool.and_false, Bool.false_and] at hn
        have e3 : ¬ (r.seq = (k : Int) + 1) := by omega
        simp [g3, gc, g7, hkl, hr, e1, e3, hws, hn]
    · have e1' : (r.gate == i.gate) = false := by simpa using e1
      rw [e1', Bool.false_and, Bool.false_and] at hn
      simp [g3, gc, g7, hkl, hr, e1, hn]
  have h0 : i.got.drop k = [] := List.drop_eq_nil_of_le (by omega)
  rw [h0] at hn
  simp only [sucB] at hn
  rw [hn, Bool.true_and]
  simp [g3, gc, g7, hkl]
  clear hn h0 hJ
  refine run_loop (fun q s => ∃ k p, k ≤ i.early.length ∧ q = i.early.length - k ∧ s.fr 2 = .ptr (0, 2) 0 ∧ s.mu.box (0, 2) = some [I i.gate, I o.next, .ro 7 (o.mail.map eRd)] ∧ s.fr 3 = .ptr (0, 3) 0 ∧ s.mu.box (0, 3) = some (eI i) ∧ s.fr 8 = vI k ∧ p = (if k = 0 then none else (i.early[k - 1]?).map Rd.seq) ∧ earR o.mail i.next none i.early = earR o.mail i.next p (i.early.drop k)) i.early.length ⟨0, none, by omega, by omega, by simp [g2], by simp [gb], by simp [g3], by simp [gc], by simp, by simp, rfl⟩ ?_
  clear g2 gb g3 gc g7
  rintro J hJ q ⟨fr, μ⟩ ⟨k, p, hk, rfl, g2, gb, g3, gc, g8, hp, hn⟩
  simp only at g2 gb g3 gc g8
  by_cases hkl : k < i.early.length
  case neg =>
    have h0 : i.early.drop k = [] := List.drop_eq_nil_of_le (by omega)
    rw [h0] at hn
    simp [g3, gc, g8, hkl, hn, earR]
  obtain ⟨r, hr⟩ : ∃ r, i.early[k] = r := ⟨_, rfl⟩
  have hget : i.early[k]? = some r := by rw [← hr]; exact List.getElem?_eq_getElem hkl
  rw [drop_cons hget] at hn
  simp only [earR] at hn
  have hws := wrapS (n := k) (by omega)
  have s3 := f40 o.mail r (by omega)
  have more : earR o.mail i.next none i.early = earR o.mail i.next (some r.seq) (i.early.drop (k + 1)) → ∀ fr' μ', fr' 2 = .ptr (0, 2) 0 → μ'.box (0, 2) = some [I i.gate, I o.next, .ro 7 (o.mail.map eRd)] → fr' 3 = .ptr (0, 3) 0 → μ'.box (0, 3) = some (eI i) → fr' 8 = vI ((k + 1 : Nat) : Int) → ∃ m', m' < i.early.length - k ∧ J m' ⟨fr', μ'⟩ :=
    fun h fr' μ' a2 ab a3 ac a8 => ⟨i.early.length - (k + 1), by omega, hJ _ _ ⟨k + 1, some r.seq, by omega, rfl, a2, ab, a3, ac, a8, by simp [hr, hkl], h⟩⟩
  by_cases e1 : i.next < r.seq
  case neg =>
    have e1' : r.seq ≤ i.next := by omega
    rw [decide_eq_false e1, Bool.false_and, Bool.false_and, Bool.false_and] at hn
    simp [g2, gb, g3, gc, g8, hkl, hr, e1', hn]
  have e1' : ¬ (r.seq ≤ i.next) := by omega
  rw [decide_eq_true e1, Bool.true_and] at hn
  by_cases hk0 : k = 0
  · subst hk0
    simp only [if_true] at hp
    subst hp
    simp only [Bool.true_and] at hn
    cases e2 : hasB o.mail r with
    | true =>
      rw [e2] at hn s3
      rw [Bool.true_and] at hn
      simp [g2, gb, g3, gc, g8, hkl, hr, e1', s3, wrap64 (n := 1) ⟨by omega, by omega⟩]
      exact more hn _ _ (by simp [g2]) (by simp [gb]) (by simp [g3]) (by simp [gc]) (by simp)
    | false =>
      rw [e2] at hn s3
      rw [Bool.false_and] at hn
      simp [g2, gb, g3, gc, g8, hkl, hr, e1', s3, hn]
  · have hk1 : k - 1 < i.early.length := by omega
    obtain ⟨x, hx⟩ : ∃ x, i.early[k - 1] = x := ⟨_, rfl⟩
    rw [if_neg hk0, List.getElem?_eq_getElem hk1, hx, Option.map_some] at hp
    subst hp
    simp only at hn
    have wk : IntKind.i64.wrap ((k : Int) - 1) = ((k - 1 : Nat) : Int) := by rw [wrap64 ⟨by omega, by omega⟩]; omega
    have hkp : (0 : Int) < k := by omega
    by_cases e3 : x.seq < r.seq
    · have e3' : ¬ (r.seq ≤ x.seq) := by omega
      rw [decide_eq_true e3, Bool.true_and] at hn
      cases e2 : hasB o.mail r with
      | true =>
        rw [e2] at hn s3
        rw [Bool.true_and] at hn
        simp [g2, gb, g3, gc, g8, hkl, hr, e1', s3, hws, wk, hk1, hx, e3', Nat.pos_of_ne_zero hk0]
        exact more hn _ _ (by simp [g2]) (by simp [gb]) (by simp [g3]) (by simp [gc]) (by simp)
      | false =>
        rw [e2] at hn s3
        rw [Bool.false_and] at hn
        simp [g2, gb, g3, gc, g8, hkl, hr, e1', s3, hn, wk, hk1, hx, e3', Nat.pos_of_ne_zero hk0]
    · have e3' : r.seq ≤ x.seq := by omega
      rw [decide_eq_false e3, Bool.false_and, Bool.false_and] at hn
      simp [g2, gb, g3, gc, g8, hkl, hr, e1', hn, wk, hk1, hx, e3', Nat.pos_of_ne_zero hk0]
end Go.Proofs.Ytndabolfhhppkaa.Am
