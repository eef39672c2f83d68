/- The way through the costs. No condition. -/
import Derived.Test.YtkoickoceggimaaGN
namespace Go.Proofs.Ytkoickoceggimaa.Am
open Go

def hitB (T : Tab) (node c : Int) (n : Nat) (e : Ed) : Bool :=
  match T e.c with
  | none => false
  | some p => (e.b == node) && ((c == p.1 + e.d) && ((n : Int) == (p.2 : Int) + 1))
structure Frm (μ μ' : Mu) : Prop where
  mp : μ'.mp = μ.mp
  arr : μ'.arr = μ.arr
  app : μ'.app = μ.app
  sto : μ'.sto = μ.sto
  box : ∀ j : Id, j.2 ≠ 4 → j.2 ≠ 6 → μ'.box j = μ.box j
theorem Frm.trans {μ μ' μ'' : Mu} (h : Frm μ μ') (k : Frm μ' μ'') : Frm μ μ'' :=
  ⟨k.mp.trans h.mp, k.arr.trans h.arr, k.app.trans h.app, k.sto.trans h.sto, fun j a b => (k.box j a b).trans (h.box j a b)⟩
theorem Frm.tick {μ μ' : Mu} (h : Frm μ μ') (t : Nat) : Frm μ { μ' with t := t } := ⟨h.mp, h.arr, h.app, h.sto, h.box⟩
/-- What the search for the next edge finds in memory. -/
structure Her (T : Tab) (node c : Int) (n : Nat) (i : Id) (a1 a2 a3 : Nat) (μ : Mu) : Prop where
  b1 : μ.box (a1, 9) = some [.mref i]
  b2 : μ.box (a2, 13) = some [I node]
  b3 : μ.box (a3, 14) = some [I c, I n]
  m : ∃ xs, μ.mp i = some xs ∧ Rep xs T
theorem Her.frm {T : Tab} {node c : Int} {n : Nat} {i : Id} {a1 a2 a3 : Nat} {μ μ' : Mu} (h : Her T node c n i a1 a2 a3 μ) (k : Frm μ μ') : Her T node c n i a1 a2 a3 μ' :=
  ⟨by rw [k.box _ (by simp) (by simp)]; exact h.b1, by rw [k.box _ (by simp) (by simp)]; exact h.b2, by rw [k.box _ (by simp) (by simp)]; exact h.b3, by rw [k.mp]; exact h.m⟩
set_option maxHeartbeats 4000000 in
theorem f64 {E : List Ed} {to : Int} {T : Tab} (hE : EOk E) (hmid : Mid E to T) {e : Ed} (he : e ∈ E) (node c : Int) (n : Nat) (i : Id) (a1 a2 a3 : Nat) (μ : Mu) (h : Her T node c n i a1 a2 a3 μ) :
    IC F 64 [.v (.agg (eEd e)), .ptr (a1, 9) 0, .ptr (a2, 13) 0, .ptr (a3, 14) 0] μ fun vs μ' => vs = [.c (B (hitB T node c n e))] ∧ Frm μ μ' := by
  obtain ⟨b1, b2, b3, xs, hm, hrep⟩ := h
  rw [ic_run F64]
  have hec := hE.cost e he
  cases h1 : T e.c with
  | none =>
    have m1 : mfind xs e.c = none := by rw [hrep, h1]; rfl
    have hh : hitB T node c n e = false := by unfold hitB; rw [h1]
    rw [hh]
    simp [b64, b1, hm, m1]
    exact ⟨rfl, rfl, rfl, rfl, fun ⟨x, y⟩ h4 h6 => by simp only at h4 h6; simp [h4, h6]⟩
  | some p =>
    obtain ⟨c1, n1⟩ := p
    have m1 : mfind xs e.c = some (cvP (c1, n1)) := by rw [hrep, h1]; rfl
    have nums := hmid.nums hE h1
    have hw1 : IntKind.i64.wrap (c1 + e.d) = c1 + e.d := wrap64 ⟨by omega, by omega⟩
    have hw2 : IntKind.i64.wrap ((n1 : Int) + 1) = (n1 : Int) + 1 := wrap64 ⟨by omega, by omega⟩
    have hh : hitB T node c n e = ((e.b == node) && ((c == c1 + e.d) && ((n : Int) == (n1 : Int) + 1))) := by unfold hitB; rw [h1]
    rw [hh]
    by_cases hn : e.b = node
    · subst hn
      simp [b64, b1, b2, b3, hm, m1, hw1, hw2]
      exact ⟨rfl, rfl, rfl, rfl, fun ⟨x, y⟩ h4 h6 => by simp only at h4 h6; simp [h4, h6]⟩
    · have hn' : (e.b == node) = false := by simpa using hn
      simp [b64, b1, b2, hm, m1, hn']
      exact ⟨rfl, rfl, rfl, rfl, fun ⟨x, y⟩ h4 h6 => by simp only at h4 h6; simp [h4, h6]⟩
set_option maxHeartbeats 4000000 in
theorem f63 {E : List Ed} {to : Int} {T : Tab} (hE : EOk E) (hmid : Mid E to T) (node c : Int) (n : Nat) (i : Id) (a1 a2 a3 : Nat) (μ0 : Mu) (h : Her T node c n i a1 a2 a3 μ0) :
    IC F 63 [rE E, .v (.c (.fn 64 [(a1, 9), (a2, 13), (a3, 14)]))] μ0 fun vs μ' => vs = [.c (I (idxI (hitB T node c n) E))] ∧ Frm μ0 μ' := by
  rw [ic_run F63]
  have hel := hE.len
  simp [b63]
  refine run_loop (fun q s => ∃ k, k ≤ E.length ∧ q = E.length - k ∧ s.fr 0 = rE E ∧ s.fr 1 = .v (.c (.fn 64 [(a1, 9), (a2, 13), (a3, 14)])) ∧ s.fr 7 = vI E.length ∧ s.fr 8 = vI k ∧ Frm μ0 s.mu ∧ ∀ (j : Nat) e, j < k → E[j]? = some e → hitB T node c n e = false) E.length
    ⟨0, by omega, by omega, by simp, by simp, by simp, by simp, ⟨rfl, rfl, rfl, rfl, fun _ _ _ => rfl⟩, fun j e h => absurd h (Nat.not_lt_zero _)⟩ ?_
  rintro J hJ q ⟨fr, μ⟩ ⟨k, hk, rfl, h0, h1, h7, h8, hf, hn⟩
  simp only at h0 h1 h7 h8 hf
  by_cases hkl : k < E.length
  case neg =>
    have : idxI (hitB T node c n) E = -1 := by
      simp only [idxI]
      rw [idx_none fun j b hb => hn j b (by have := (List.getElem?_eq_some_iff.1 hb).1; omega) hb]
    simp [h0, h7, h8, hkl, this]
    exact hf.tick _
  obtain ⟨e, hn'⟩ : ∃ e, E[k] = e := ⟨_, rfl⟩
  have hget : E[k]? = some e := by rw [← hn']; exact List.getElem?_eq_getElem hkl
  have he : e ∈ E := List.mem_of_getElem? hget
  have hws := wrapS (n := k) (by omega)
  simp [h0, h1, h7, h8, hkl, hn']
  refine IC.mono (f64 hE hmid he node c n i a1 a2 a3 _ ((h.frm hf).frm ⟨rfl, rfl, rfl, rfl, fun _ _ _ => rfl⟩)) ?_
  rintro vs μ' ⟨rfl, hf'⟩
  have hf2 : Frm μ0 μ' := hf.trans ⟨hf'.mp, hf'.arr, hf'.app, hf'.sto, hf'.box⟩
  cases hb : hitB T node c n e with
  | true =>
    have : idxI (hitB T node c n) E = k := by simp only [idxI, idx_at hget hb hn]
    simp [this]
    exact hf2.tick _
  | false =>
    simp [hws]
    refine ⟨E.length - (k + 1), by omega, hJ _ _ ⟨k + 1, by omega, rfl, by simp [h0], by simp [h1], by simp [h7], by simp, hf2.tick _, fun j e' hj he' => ?_⟩⟩
    by_cases hjk : j = k
    · subst hjk; rw [hget] at he'; injection he' with he'; subst he'; exact hb
    · exact hn j e' (by omega) he'
end Go.Proofs.Ytkoickoceggimaa.Am
