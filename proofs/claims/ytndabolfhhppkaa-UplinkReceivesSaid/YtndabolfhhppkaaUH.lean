/- Posting, the pending rides, equality of boxes. No condition. -/
import Derived.Test.YtndabolfhhppkaaUG
namespace Go.Proofs.Ytndabolfhhppkaa.Am
open Go

theorem f17 (l k : List Rd) (hl : l.length ≤ 9223372036854775807) (K : List Vl → Prop) : FC F 17 [rR l, rR k] K ↔ K [.c (B (decide (l = k)))] := by
  refine FC.rule ?_ K
  rw [fc_run F17]
  by_cases hlen : l.length = k.length
  case neg =>
    have hne : ¬ (l = k) := fun e => hlen (by rw [e])
    have hi : ¬ ((l.length : Int) = k.length) := by omega
    rw [decide_eq_false hne]
    simp [b17, hlen, hi]
  simp [b17, hlen]
  refine run_loop (fun q s => ∃ j, j ≤ l.length ∧ q = l.length - j ∧ s.fr 0 = rR l ∧ s.fr 1 = rR k ∧ s.fr 5 = vI j ∧ decide (l = k) = decide (l.drop j = k.drop j)) l.length ⟨0, by omega, by omega, by simp, by simp, by simp, rfl⟩ ?_
  rintro J hJ q ⟨fr, μ⟩ ⟨j, hj, rfl, h0, h1, h5, hn⟩
  simp only at h0 h1 h5
  by_cases hjl : j < l.length
  · obtain ⟨x, hx⟩ : ∃ x, l[j] = x := ⟨_, rfl⟩
    have hjk : j < k.length := by omega
    obtain ⟨y, hy⟩ : ∃ y, k[j] = y := ⟨_, rfl⟩
    have hget : l[j]? = some x := by rw [← hx]; exact List.getElem?_eq_getElem hjl
    have hgek : k[j]? = some y := by rw [← hy]; exact List.getElem?_eq_getElem hjk
    rw [drop_cons hget, drop_cons hgek] at hn
    have hws := wrapS (n := j) (by omega)
    have he := eqv x y
    by_cases hp : x = y
    · subst hp
      rw [decide_eq_true rfl] at he
      simp [-eqCells, he, h0, h1, h5, hjl, hjk, hx, hy, hws]
      exact ⟨l.length - (j + 1), by omega, hJ _ _ ⟨j + 1, by omega, rfl, by simp [h0], by simp [h1], by simp, by rw [hn]; simp⟩⟩
    · rw [decide_eq_false hp] at he
      have hn' : decide (l = k) = false := by rw [hn]; simp [hp]
      rw [hn']
      simp [-eqCells, he, h0, h1, h5, hjl, hjk, hx, hy]
  · have e1 : l.drop j = [] := List.drop_eq_nil_of_le (by omega)
    have e2 : k.drop j = [] := List.drop_eq_nil_of_le (by omega)
    rw [e1, e2] at hn
    rw [hn]
    simp [h0, h5, hjl]
deriving instance DecidableEq for Ob
deriving instance DecidableEq for Ib
theorem f15 (o p : Ob) (hl : o.mail.length ≤ 9223372036854775807) (K : List Vl → Prop) : FC F 15 [.v (.agg (eO o)), .v (.agg (eO p))] K ↔ K [.c (B (decide (o = p)))] := by
  rw [fc_run F15]
  have h := f17 o.mail p.mail hl
  obtain ⟨g, n, m⟩ := o
  obtain ⟨g', n', m'⟩ := p
  simp only at h
  by_cases c1 : g = g'
  · by_cases c2 : n = n'
    · by_cases c3 : m = m'
      · subst c3
        simp [b15, h, c1, c2]
      · simp [b15, h, c1, c2, c3]
    · simp [b15, c1, c2]
  · simp [b15, c1]
theorem f16 (o p : Ib) (hl : o.got.length ≤ 9223372036854775807) (he : o.early.length ≤ 9223372036854775807) (K : List Vl → Prop) : FC F 16 [.v (.agg (eI o)), .v (.agg (eI p))] K ↔ K [.c (B (decide (o = p)))] := by
  rw [fc_run F16]
  have h := f17 o.got p.got hl
  have h2 := f17 o.early p.early he
  obtain ⟨g, n, m, e⟩ := o
  obtain ⟨g', n', m', e'⟩ := p
  simp only at h h2
  by_cases c1 : g = g'
  · by_cases c2 : n = n'
    · by_cases c3 : m = m'
      · subst c3
        by_cases c4 : e = e'
        · subst c4
          simp [b16, h, h2, c1, c2]
        · simp [b16, h, h2, c1, c2, c4]
      · simp [b16, h, c1, c2, c3]
    · simp [b16, c1, c2]
  · simp [b16, c1]
theorem f11 (g : Int) (K : List Vl → Prop) : FC F 11 [vI g] K ↔ K [.agg (eO ⟨g, 1, []⟩), .agg (eI ⟨g, 1, [], []⟩)] := by
  rw [fc_run F11]
  simp [b11]
  exact Iff.rfl
theorem f12 (g : Int) (K : List Vl → Prop) : FC F 12 [vI g] K ↔ K [.agg (eO ⟨g, 1, []⟩), .agg (eI ⟨g, 1, [], []⟩)] := by
  rw [fc_run F12]
  simp [b12]
  exact Iff.rfl
theorem f27 (l : List Rd) (hl : l.length ≤ 200) (K : List Vl → Prop) : FC F 27 [rR l] K ↔ K [.c (.fresh 26 7 (l.map eRd))] := by
  rw [fc_clone (K := K) F27]
  have : l.length ≤ lim := by simp only [lim]; omega
  simp [this]
def postO (o : Ob) (r : Rd) : Ob × Int :=
  if r.gate ≠ o.gate then (⟨0, 0, []⟩, 1)
  else if r.seq ≠ o.next then (⟨0, 0, []⟩, 11)
  else if 64 ≤ (o.mail.length : Int) ∨ 1000000 ≤ o.next then (⟨0, 0, []⟩, 9)
  else (⟨o.gate, o.next + 1, o.mail ++ [r]⟩, 0)
theorem f13 (o : Ob) (r : Rd) (hn : R64 o.next) (K : List Vl → Prop) : FC F 13 [.v (.agg (eO o)), .v (.agg (eRd r))] K ↔ K [.agg (eO (postO o r).1), .c (I (postO o r).2)] := by
  rw [fc_run F13]
  by_cases c1 : r.gate = o.gate
  case neg =>
    simp [b13, c1, postO]
    exact Iff.rfl
  by_cases c2 : r.seq = o.next
  case neg =>
    simp [b13, c1, c2, postO]
    exact Iff.rfl
  by_cases c3 : 64 ≤ (o.mail.length : Int)
  · simp [b13, c1, c2, c3, postO]
    exact Iff.rfl
  by_cases c4 : 1000000 ≤ o.next
  · simp [b13, c1, c2, c3, c4, postO]
    exact Iff.rfl
  have w := wrap64 (n := o.next + 1) ⟨by have := hn.1; omega, by omega⟩
  have hc := f27 o.mail (by omega)
  have hl1 : o.mail.length + 1 ≤ lim := by simp only [lim]; omega
  have e : [Cell.val (Value.int IntKind.i64 o.gate), Cell.val (Value.int IntKind.i64 o.next), Cell.val (Value.int IntKind.i64 r.ser), Cell.val (Value.int IntKind.i64 r.cnt), Cell.val (Value.int IntKind.i64 r.prod), Cell.val (Value.int IntKind.i64 r.lift), Cell.val (Value.int IntKind.i64 r.at_)] = eRd r := by rw [← c1, ← c2]
  have e2 : eO ⟨o.gate, o.next + 1, o.mail ++ [r]⟩ = [I o.gate, I (o.next + 1), .ro 7 (o.mail.map eRd ++ [eRd r])] := by simp only [eO, List.map_append, List.map_cons, List.map_nil]
  simp [b13, c1, c2, c3, c4, postO, w, hc, hl1, hitQ, hitN]
  rw [e, e2]
theorem f14 (o : Ob) (r : Rd) (hn : R64 o.next) (K : List Vl → Prop) : FC F 14 [.v (.agg (eO o)), .v (.agg (eRd r))] K ↔ K [.agg (eO (postO o r).1), .c (I (postO o r).2)] := by
  rw [fc_run F14]
  by_cases c1 : r.gate = o.gate
  case neg =>
    simp [b14, c1, postO]
    exact Iff.rfl
  by_cases c2 : r.seq = o.next
  case neg =>
    simp [b14, c1, c2, postO]
    exact Iff.rfl
  by_cases c3 : 64 ≤ (o.mail.length : Int)
  · simp [b14, c1, c2, c3, postO]
    exact Iff.rfl
  by_cases c4 : 1000000 ≤ o.next
  · simp [b14, c1, c2, c3, c4, postO]
    exact Iff.rfl
  have w := wrap64 (n := o.next + 1) ⟨by have := hn.1; omega, by omega⟩
  have hl0 : o.mail.length ≤ lim := by simp only [lim]; omega
  have hl1 : o.mail.length + 1 ≤ lim := by simp only [lim]; omega
  have e : [Cell.val (Value.int IntKind.i64 o.gate), Cell.val (Value.int IntKind.i64 o.next), Cell.val (Value.int IntKind.i64 r.ser), Cell.val (Value.int IntKind.i64 r.cnt), Cell.val (Value.int IntKind.i64 r.prod), Cell.val (Value.int IntKind.i64 r.lift), Cell.val (Value.int IntKind.i64 r.at_)] = eRd r := by rw [← c1, ← c2]
  have e2 : eO ⟨o.gate, o.next + 1, o.mail ++ [r]⟩ = [I o.gate, I (o.next + 1), .ro 7 (o.mail.map eRd ++ [eRd r])] := by simp only [eO, List.map_append, List.map_cons, List.map_nil]
  simp [b14, c1, c2, c3, c4, postO, w, hl0, hl1]
  rw [e, e2]
theorem f18 (o : Ob) (h : o.mail.length ≤ 200) (K : List Vl → Prop) : FC F 18 [.v (.agg (eO o))] K ↔ K [.c (.ro 7 (o.mail.map eRd))] := by
  rw [fc_run F18]
  have hc := f27 o.mail h
  simp [b18, hc]
end Go.Proofs.Ytndabolfhhppkaa.Am
