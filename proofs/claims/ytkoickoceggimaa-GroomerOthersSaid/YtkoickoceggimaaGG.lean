/- The law of grooming. No condition. -/
import Derived.Test.YtkoickoceggimaaGF
namespace Go.Proofs.Ytkoickoceggimaa.Am
open Go

theorem right_len {l : List Gr} (h : rightG l = 0) : l.length ≤ 16 := by
  unfold rightG at h
  split at h
  · cases h
  · omega
def defG (m : Mp) (l : List Gr) : Bool := (rightE m == 0) && (rightG l == 0)
theorem f17 (m : Mp) (l : List Gr) (h : Okm m) (hl : l.length ≤ 9223372036854775807) (K : List Vl → Prop) : FC F 17 [.v (.agg (eM m)), rG l] K ↔ K [.c (B (defG m l))] := by
  rw [fc_run F17]
  have h1 := f14 m h
  have h2 := f13 l hl
  unfold defG
  by_cases c : rightE m = 0
  · simp [b17, h1, h2, c]
  · have c' : (rightE m == 0) = false := by simpa using c
    simp [b17, h1, c']
theorem def_parts {m : Mp} {l : List Gr} (h : defG m l = true) : rightE m = 0 ∧ rightG l = 0 := by
  simpa [defG] using h
theorem groomL_len {m : Mp} {l : List Gr} {id run sec t : Int} : (groomL m l id run sec t).length ≤ l.length := by
  unfold groomL
  split
  · simp
  · split
    · split <;> simp
    · simp
theorem f6 (m : Mp) (l : List Gr) (id run sec t : Int) (h : Okm m) (hl : l.length ≤ 9223372036854775807) (K : List Vl → Prop) :
    FC F 6 [.v (.agg (eM m)), rG l, vI id, vI run, vI sec, vI t] K ↔ K [.c (B true)] := by
  rw [fc_run F6]
  have h1 := f17 m l h hl
  cases c : defG m l with
  | false => rw [c] at h1; simp [b6, f11, h1]
  | true =>
    rw [c] at h1
    have hlen := right_len (def_parts c).2
    have h2 := f21 m l id run sec t h (by omega)
    have h3 := f22 m l id run sec t h (by omega)
    have h4 := f20 (groomL m l id run sec t) (by have := groomL_len (m := m) (l := l) (id := id) (run := run) (sec := sec) (t := t); omega)
    simp [b6, f11, h1, h2, h3, h4]
theorem law6 (xs : List FV) (h : FitAll [tyM, tyG, (false, [ti]), (false, [ti]), (false, [ti]), (false, [ti])] xs) : FC F 6 xs (· = [.c (B true)]) := by
  match xs, h with
  | [x, y, a, b, c, d], ⟨hx, hy, ha, hb, hc, hd, _⟩ =>
    obtain ⟨m, rfl, hm, _⟩ := open_map hx
    obtain ⟨l, rfl, hl, _⟩ := open_grs hy
    obtain ⟨a, rfl, _⟩ := open_int ha
    obtain ⟨b, rfl, _⟩ := open_int hb
    obtain ⟨c, rfl, _⟩ := open_int hc
    obtain ⟨d, rfl, _⟩ := open_int hd
    exact (f6 m l a b c d hm hl _).2 rfl
end Go.Proofs.Ytkoickoceggimaa.Am
