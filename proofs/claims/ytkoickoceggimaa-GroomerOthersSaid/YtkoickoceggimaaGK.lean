/- The law of time. No condition. -/
import Derived.Test.YtkoickoceggimaaGJ
namespace Go.Proofs.Ytkoickoceggimaa.Am
open Go

theorem tickR_all {l : List Gr} {t : Int} : (tickR l t).length ≤ l.length := by
  have := tickR_len (l := l) (t := t) (k := l.length)
  rwa [List.take_length] at this
theorem f7 (m : Mp) (l : List Gr) (t run : Int) (h : Okm m) (hl : l.length ≤ 9223372036854775807) (K : List Vl → Prop) :
    FC F 7 [.v (.agg (eM m)), rG l, vI t, vI run] K ↔ K [.c (B true)] := by
  rw [fc_run F7]
  have h1 := f17 m l h hl
  cases c : defG m l with
  | false => rw [c] at h1; simp [b7, f11, h1]
  | true =>
    rw [c] at h1
    have hlen := right_len (def_parts c).2
    have h2 := f23 m l t h (by omega)
    have h3 := f24 m l t h (by omega)
    have h4 := f20 (l.map (tick1 m t)) (by rw [List.length_map]; omega)
    have h5 := f25 (tickR l t) (by have := tickR_all (l := l) (t := t); omega)
    have h6 := f26 l run hl
    have h7 := f27 l run hl
    obtain ⟨X, hX⟩ : ∃ X, (l.map (tick1 m t)).map eGr = X := ⟨_, rfl⟩
    rw [hX] at h2 h3
    simp only [rG, hX] at h4
    simp [b7, f11, h1, h2, h3, h4, h5, h6, h7]
theorem law7 (xs : List FV) (h : FitAll [tyM, tyG, (false, [ti]), (false, [ti])] xs) : FC F 7 xs (· = [.c (B true)]) := by
  match xs, h with
  | [x, y, a, b], ⟨hx, hy, ha, hb, _⟩ =>
    obtain ⟨m, rfl, hm, _⟩ := open_map hx
    obtain ⟨l, rfl, hl, _⟩ := open_grs hy
    obtain ⟨a, rfl, _⟩ := open_int ha
    obtain ⟨b, rfl, _⟩ := open_int hb
    exact (f7 m l a b hm hl _).2 rfl
end Go.Proofs.Ytkoickoceggimaa.Am
