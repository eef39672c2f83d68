/- Sweep: the library's DeleteFunc on a row of one's own; the runs that begin at a node. No condition. -/
import Derived.Test.YtephpcoffonjfaaSC
namespace Go.Proofs.Ytephpcoffonjfaa.Am
open Go

theorem idx_first {p : Int → Bool} : ∀ {l : List Int} {k : Nat}, idx p l = some k → (l.take (k + 1)).filter (fun x => !p x) = l.take k
  | [], k, h => by cases h
  | x :: l, k, h => by
    simp only [idx] at h
    split at h
    · rename_i hp; injection h with h; subst h; simp [hp]
    · rename_i hp
      cases hk : idx p l with
      | none => rw [hk] at h; cases h
      | some j => rw [hk] at h; injection h with h; subst h; simp [hp, idx_first hk]
theorem idx_nope {p : Int → Bool} {l : List Int} (h : idx p l = none) : l.filter (fun x => !p x) = l := by
  have h1 := idxI_any p l
  simp only [idxI, h] at h1
  have h2 : l.any p = false := h1.symm
  rw [List.filter_eq_self]
  intro x hx
  have := List.any_eq_false.1 h2 x hx
  simpa using this
theorem set_take {r : List Int} {w : Nat} {x : Int} (h : w < r.length) : (r.set w x).take (w + 1) = r.take w ++ [x] := by
  rw [List.take_succ_eq_append_getElem (by simpa using h)]
  simp [List.take_set_of_le]
set_option maxHeartbeats 2000000 in
theorem f54 (l : List Int) (i : Id) (e : Nat) (c : Cell) (p : Int → Bool) (bx : Id → Option (List Cell)) (ar : Id → Option Arr) (ap st : Id → Bool) (t : Nat) (ha : ar i = some ⟨e, 1, l.map e1⟩) (hst : st i = true) (hc : ClosOk c bx p) (hl : l.length < 9223372036854775807) :
    IC F 54 [.v (.c (.own i)), .v (.c c)] ⟨bx, ar, ap, st, t⟩ fun vs μ' => ∃ c' ar' ap' st' t', vs = [.c c'] ∧ μ' = ⟨bx, ar', ap', st', t'⟩ ∧ ∀ b a s u, elemsC ⟨b, ar', a, s, u⟩ 1 c' = some ((l.filter fun x => !p x).map e1) := by
  have hc0 := hc
  obtain ⟨g, cs, hz, hg⟩ := hc
  have hz1 := fun ar ap st t => (hz ar ap st t).1
  have hz2 := fun ar ap st t => (hz ar ap st t).2
  rw [ic_run F54]
  simp [b54]
  refine IC.mono (f50 l (.own i) c p bx ar ap st _ (.inr ⟨i, e, rfl, ha⟩) hc0 (by omega)) ?_
  rintro vs μ' ⟨rfl, t1, rfl⟩
  cases hi : idx p l with
  | none =>
    have h1 : idxI p l = -1 := by simp only [idxI, hi]
    simp [h1]
    rw [ha, idx_nope hi]
    simp
  | some k0 =>
    have h1 : idxI p l = k0 := by simp only [idxI, hi]
    have hk0 := idx_lt hi
    have hne : ¬ ((k0 : Int) = -1) := by omega
    have hw0 := wrapS (n := k0) (by omega)
    simp [h1, hne, hw0]
    refine run_loop (fun q s => ∃ (j w : Nat) (r : List Int), w < j ∧ j ≤ l.length ∧ q = l.length - j ∧ s.mu.box = bx ∧ s.mu.arr i = some ⟨e, 1, r.map e1⟩ ∧ s.mu.sto i = true ∧ s.fr 0 = .v (.c (.own i)) ∧ s.fr 1 = .v (.c c) ∧ s.fr 5 = vI w ∧ s.fr 6 = vI j ∧ r.length = l.length ∧ r.take w = (l.take j).filter (fun x => !p x) ∧ r.drop j = l.drop j) (l.length - (k0 + 1))
      ⟨k0 + 1, k0, l, by omega, by omega, rfl, rfl, by simp [ha], by simp [hst], by simp, by simp, by simp, by simp, rfl, (idx_first hi).symm, rfl⟩ ?_
    rintro J hJ q ⟨fr, ⟨bx', ar', ap', st', t'⟩⟩ ⟨j, w, r, hwj, hjl, rfl, hb, hr, hs, g0, g1, g5, g6, hlen, htake, hdrop⟩
    simp only at hb hr hs g0 g1 g5 g6
    subst hb
    by_cases hlt : j < l.length
    · obtain ⟨x, hx⟩ : ∃ x, l[j] = x := ⟨_, rfl⟩
      have hxl : l[j]? = some x := by rw [← hx]; exact List.getElem?_eq_getElem hlt
      have hxr : r[j]? = some x := by
        have h2 := congrArg (fun l => l[0]?) hdrop
        simpa [hxl] using h2
      have hjr : j < r.length := by omega
      have hwr : w < r.length := by omega
      obtain ⟨y, hy⟩ : ∃ y, r[w]? = some y := ⟨_, List.getElem?_eq_getElem hwr⟩
      have hrx : r[j] = x := by rw [List.getElem?_eq_getElem hjr] at hxr; injection hxr
      have hry : r[w] = y := by rw [List.getElem?_eq_getElem hwr] at hy; injection hy
      have hcx := hg x
      have hw1 := wrapS (n := j) (by omega)
      have hw2 := wrapS (n := w) (by omega)
      have hwl : w < l.length := by omega
      have hdrop' : r.drop (j + 1) = l.drop (j + 1) := by
        rw [← List.drop_drop, ← List.drop_drop, hdrop]
      have htk : l.take (j + 1) = l.take j ++ [x] := by rw [List.take_succ_eq_append_getElem hlt, hx]
      by_cases hp : p x = true
      · simp [g0, g1, g5, g6, hr, hs, hlt, hrx, hlen, hz1, hz2, hcx, hp, hw1]
        exact ⟨l.length - (j + 1), by omega, hJ _ _ ⟨j + 1, w, r, by omega, by omega, rfl, rfl, by simp [hr], by simp [hs], by simp [g0], by simp [g1], by simp [g5], by simp, hlen, by rw [htk, List.filter_append, htake]; simp [hp], hdrop'⟩⟩
      · have hp' : p x = false := by simpa using hp
        simp [g0, g1, g5, g6, hr, hs, hlt, hrx, hwl, hlen, hz1, hz2, hcx, hp', hw1, hw2]
        exact ⟨l.length - (j + 1), by omega, hJ _ _ ⟨j + 1, w + 1, r.set w x, by omega, by omega, rfl, rfl, by simp, by simp [hs], by simp [g0], by simp [g1], by simp, by simp, by simp [hlen], by rw [htk, List.filter_append, ← htake, set_take hwr]; simp [hp'], by rw [List.drop_set_of_lt (by omega)]; exact hdrop'⟩⟩
    · have hje : j = l.length := by omega
      subst hje
      rw [List.take_length] at htake
      simp [g0, g5, g6, hr, hs, hlen]
      refine ⟨by omega, by omega, ?_⟩
      rw [← htake, List.take_append_of_le_length (by simp; omega), List.take_take, Nat.min_self, List.map_take]
/-- The runs of a list that begin at a node. -/
def fromL (m : Mp) (l : List Int) (node : Int) : List Int := l.filter fun k => (findRn m k).fr == node
theorem f74 (m : Mp) (l : List Int) (node : Int) (h : Okm m) (hl : l.length ≤ 1000) (K : List Vl → Prop) : FC F 74 [.v (.agg (eM m)), .v (.c (.ro 1 (l.map e1))), vI node] K ↔ K [.c (.ro 1 ((fromL m l node).map e1))] := by
  refine FC.rule ?_ K
  rw [fc_run F74]
  have hcl : ∀ K, FC F 55 [.v (.c (.ro 1 (l.map e1)))] K ↔ K [.c (.fresh 3 1 (l.map e1))] := fun K => by
    rw [fc_clone (K := K) F55]
    have : l.length ≤ lim := by simp only [lim]; omega
    simp [this]
  simp [b74, hcl]
  refine IC.mono (f54 l _ 3 _ (fun k => (findRn m k).fr != node) _ _ _ _ _ (by simp) (by simp) ⟨84, [eM m, [I node]], fun ar ap st t => ⟨?_, ?_⟩, fun n K => f84 m n node h K⟩ (by omega)) ?_
  · simp [frz, trav]
  · simp [fids]
  rintro vs μ' ⟨c', ar', ap', st', t', rfl, rfl, he⟩
  have : (l.filter fun x => !(findRn m x).fr != node) = l.filter fun k => (findRn m k).fr == node := by congr 1; funext x; simp [bne]
  rw [this] at he
  have he' := he (fun _ => none) (fun _ => false) (fun _ => false) 0
  simp only [elemsC] at he'
  simp [he', fromL]
end Go.Proofs.Ytephpcoffonjfaa.Am
