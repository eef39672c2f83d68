/- Receiving, as it is specified. No condition. -/
import Derived.Test.YtndabolfhhppkaaUJ
namespace Go.Proofs.Ytndabolfhhppkaa.Am
open Go

def takeI (i : Ib) (k : Nat) (x : Rd) : Ib := ⟨i.gate, i.next + 1, i.got ++ [x], i.early.take k ++ i.early.drop (k + 1)⟩
/-- The early rides that follow join the rides that the box has. -/
def chase : Nat → Ib → Ib
  | 0, i => i
  | n + 1, i => match idx (isQ i.next) i.early with
    | none => i
    | some k => match i.early[k]? with
      | none => i
      | some x => chase n (takeI i k x)
def run (i : Ib) : Ib := chase i.early.length i
theorem run_none {i : Ib} (h : idx (isQ i.next) i.early = none) : run i = i := by
  unfold run
  cases i.early.length with
  | zero => rfl
  | succ n => simp only [chase, h]
theorem takeI_len {i : Ib} {k : Nat} {x : Rd} (h : k < i.early.length) : (takeI i k x).early.length + 1 = i.early.length := by
  simp only [takeI, List.length_append, List.length_take, List.length_drop]; omega
theorem run_some {i : Ib} {k : Nat} {x : Rd} (h : idx (isQ i.next) i.early = some k) (hx : i.early[k]? = some x) : run i = run (takeI i k x) := by
  have hl := takeI_len (x := x) (idx_lt h)
  unfold run
  rw [← hl]
  simp only [chase, h, hx]
def recv (i : Ib) (r : Rd) : Ib :=
  if r.gate ≠ i.gate ∨ r.seq < i.next then i
  else if i.next < r.seq then (if i.early.any (isQ r.seq) = true then i else ⟨i.gate, i.next, i.got, insL i.early r⟩)
  else run (nxtI i r)
structure Oks (i : Ib) : Prop where
  g : i.got.length + i.early.length ≤ 900
  lo : 1 ≤ i.next
  hi : i.next + i.early.length ≤ 1000000000
set_option maxHeartbeats 4000000 in
theorem f22 (i : Ib) (r : Rd) (h : Oks i) (K : List Vl → Prop) : FC F 22 [.v (.agg (eI i)), .v (.agg (eRd r))] K ↔ K [.agg (eI (recv i r)), .c (I ((recv i r).next - 1))] := by
  refine FC.rule ?_ K
  rw [fc_run F22]
  have hg := h.g
  have hlo := h.lo
  have hhi := h.hi
  have w0 : IntKind.i64.wrap (i.next - 1) = i.next - 1 := wrap64 ⟨by omega, by omega⟩
  by_cases c1 : r.gate = i.gate
  case neg =>
    have e : recv i r = i := if_pos (.inl c1)
    rw [e]
    simp [b22, c1, w0, hitQ, hitN]
  by_cases c2 : r.seq < i.next
  · have e : recv i r = i := if_pos (.inr c2)
    rw [e]
    simp [b22, c1, c2, w0, hitQ, hitN]
  have e0 : ¬ (r.gate ≠ i.gate ∨ r.seq < i.next) := by
    rintro (h | h)
    · exact h c1
    · exact c2 h
  by_cases c3 : i.next < r.seq
  · have h1 := f35 i.early r.seq (by omega)
    have h2 := f36 i.early r (by omega)
    simp only [eRd, c1] at h2
    have e : recv i r = if i.early.any (isQ r.seq) = true then i else ⟨i.gate, i.next, i.got, insL i.early r⟩ := by
      unfold recv
      rw [if_neg e0, if_pos c3]
    rw [e]
    cases hx : idx (isQ r.seq) i.early with
    | some k =>
      have hk : idxI (isQ r.seq) i.early = k := by simp only [idxI, hx]
      have ha : i.early.any (isQ r.seq) = true := by rw [← idx_any, hx]; rfl
      rw [if_pos ha]
      rw [hk] at h1
      have hk0 : ¬ ((k : Int) < 0) := by omega
      simp [b22, c1, c2, c3, w0, h1, hk0, hitQ, hitN]
    | none =>
      have hk : idxI (isQ r.seq) i.early = -1 := by simp only [idxI, hx]
      have ha : ¬ (i.early.any (isQ r.seq) = true) := by rw [← idx_any, hx]; simp
      rw [if_neg ha]
      rw [hk] at h1
      simp [b22, c1, c2, c3, w0, h1, h2, hitQ, hitN]
  have e : recv i r = run (nxtI i r) := by
    unfold recv
    rw [if_neg e0, if_neg c3]
  have h1 := f37 i r ⟨by omega, by omega⟩ (by omega)
  simp only [eRd, c1] at h1
  rw [e]
  simp [b22, c1, c2, c3, h1]
  refine run_loop (fun q s => ∃ (j : Ib) (c : Cell), q = j.early.length ∧ s.fr 2 = .ptr (0, 2) 0 ∧ s.mu.box (0, 2) = some [I j.gate, I j.next, .ro 7 (j.got.map eRd), c] ∧ s.fr 4 = .ptr (0, 4) 0 ∧ s.mu.box (0, 4) = some [I 0, I 0, .nil, .nil] ∧ (c = .ro 7 (j.early.map eRd) ∨ ∃ t, c = .own (t, 70) ∧ t < s.mu.t ∧ s.mu.arr (t, 70) = some ⟨26, 7, j.early.map eRd⟩) ∧ run (nxtI i r) = run j ∧ j.got.length + j.early.length ≤ 901 ∧ 1 ≤ j.next ∧ j.next + j.early.length ≤ 1000000001) i.early.length ⟨nxtI i r, .ro 7 (i.early.map eRd), rfl, by simp, by simp [nxtI], by simp, by simp, .inl rfl, rfl, by simp [nxtI]; omega, by simp [nxtI]; omega, by simp [nxtI]; omega⟩ ?_
  clear h1 e e0 c1 c2 c3 w0 hg hlo hhi
  rintro J hJ q ⟨fr, μ⟩ ⟨j, c, rfl, g2, gb, g4, gc, hc, hrun, hg, hlo, hhi⟩
  simp only at g2 gb g4 gc hc
  rw [hrun]
  have w0 : IntKind.i64.wrap (j.next - 1) = j.next - 1 := wrap64 ⟨by omega, by omega⟩
  have h1 := f35 j.early j.next (by omega)
  cases hx : idx (isQ j.next) j.early with
  | none =>
    have hk : idxI (isQ j.next) j.early = -1 := by simp only [idxI, hx]
    rw [hk] at h1
    rw [run_none hx]
    rcases hc with rfl | ⟨t, rfl, ht, ha⟩
    · simp [g2, gb, g4, gc, h1, w0, hitQ, hitN]
    · simp [g2, gb, g4, gc, ha, h1, w0, hitQ, hitN]
  | some k =>
    have hk : idxI (isQ j.next) j.early = k := by simp only [idxI, hx]
    have hkl := idx_lt hx
    obtain ⟨x, hx2⟩ : ∃ x, j.early[k] = x := ⟨_, rfl⟩
    have hget : j.early[k]? = some x := by rw [← hx2]; exact List.getElem?_eq_getElem hkl
    rw [hk] at h1
    have h2 := f37 j x ⟨by omega, by omega⟩ (by omega)
    have hk0 : (0 : Int) ≤ k := by omega
    have hws := wrapS (n := k) (by omega)
    have hlen := takeI_len (x := x) hkl
    have hlim : k + (j.early.length - (k + 1)) ≤ lim := by simp only [lim]; omega
    have hlim2 : k ≤ lim := by simp only [lim]; omega
    have hk1 : (0 : Int) ≤ (k : Int) + 1 := by omega
    have hk2 : k + 1 ≤ j.early.length := by omega
    have hst : List.take j.early.length (j.early.map eRd) = j.early.map eRd := List.take_of_length_le (by simp)
    have hgl : (takeI j k x).got.length = j.got.length + 1 := by simp [takeI]
    have hnx : (takeI j k x).next = j.next + 1 := rfl
    rcases hc with rfl | ⟨t, rfl, ht, ha⟩
    · simp [g2, gb, h1, h2, hk0, hk1, hk2, hws, hkl, hx2, hlim, hlim2, Nat.le_of_lt hkl]
      exact ⟨(takeI j k x).early.length, by omega, hJ _ _ ⟨takeI j k x, .own (μ.t + 1 + 1 + 1 + 1, 70), rfl, by simp [g2], by simp [takeI, nxtI], by simp [g4], by simp [gc], .inr ⟨_, rfl, by simp <;> omega, by simp [takeI, hst]⟩, hrun.trans (run_some hx hget), by omega, by omega, by omega⟩⟩
    · have hne : ¬ (t = μ.t + 1 + 1 + 1 + 1) := by omega
      simp [hne, g2, gb, ha, h1, h2, hk0, hk1, hk2, hws, hkl, hx2, hlim, hlim2, Nat.le_of_lt hkl]
      exact ⟨(takeI j k x).early.length, by omega, hJ _ _ ⟨takeI j k x, .own (μ.t + 1 + 1 + 1 + 1, 70), rfl, by simp [g2], by simp [takeI, nxtI], by simp [g4], by simp [gc], .inr ⟨_, rfl, by simp <;> omega, by simp [takeI, hst]⟩, hrun.trans (run_some hx hget), by omega, by omega, by omega⟩⟩
end Go.Proofs.Ytndabolfhhppkaa.Am
