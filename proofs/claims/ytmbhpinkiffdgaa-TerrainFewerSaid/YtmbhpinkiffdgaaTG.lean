/- Terrain: heights; the law TerrainVertical over the abstract machine. No condition. -/
import Derived.Test.YtmbhpinkiffdgaaTF
namespace Go.Proofs.Ytmbhpinkiffdgaa.Am
open Go

def upI (m : Mp) (fr to : Int) : Int := IntKind.i64.wrap ((findNd m to).alt - (findNd m fr).alt)
theorem f49 (m : Mp) (fr to : Int) (h : Okm m) (K : List Vl → Prop) : FC F 49 [.v (.agg (eM m)), vI fr, vI to] K ↔ K [.c (I (upI m fr to)), .c (B (hasNd m fr && hasNd m to))] := by
  rw [fc_run F49]
  have h1 := f15 m fr h.n
  have h2 := f15 m to h.n
  by_cases c1 : hasNd m fr = true <;> simp [b49, h1, h2, c1, upI]
def vertE (m : Mp) (id : Int) : Int := if hasLf m id = true then upI m (findLf m id).fr (findLf m id).to else 0
theorem f21 (m : Mp) (id : Int) (h : Okm m) (K : List Vl → Prop) : FC F 21 [.v (.agg (eM m)), vI id] K ↔ K [.c (I (vertE m id))] := by
  rw [fc_run F21]
  have h1 := f17 m id h.l
  have h2 := f49 m (findLf m id).fr (findLf m id).to h
  by_cases c1 : hasLf m id = true <;> simp [b21, h1, h2, c1, vertE]
theorem f22 (m : Mp) (id : Int) (h : Okm m) (K : List Vl → Prop) : FC F 22 [.v (.agg (eM m)), vI id] K ↔ K [.c (I (vertE m id))] := by
  rw [fc_run F22]
  have h1 := f18 m id h.l
  have h2 := f16 m (findLf m id).fr h.n
  have h3 := f16 m (findLf m id).to h.n
  by_cases c1 : hasLf m id = true <;> simp [b22, h1, h2, h3, c1, vertE, upI]
theorem nodes_ok : ∀ {l : List Nd} {p : Option Int}, nodesE p l = 0 → ∀ x ∈ l, inn x.id 1 9999 = true ∧ inn x.alt 0 5000 = true
  | [], _, _, x, hx => by simp at hx
  | y :: l, p, h, x, hx => by
    simp only [nodesE] at h
    split at h
    · cases h
    · rename_i hr
      split at h
      · cases h
      · rcases List.mem_cons.1 hx with rfl | hx
        · simpa using hr
        · exact nodes_ok h x hx
theorem lifts_ok {m : Mp} : ∀ {l : List Lf} {p : Option Int}, liftsE m p l = 0 → ∀ x ∈ l, risesE m x.fr x.to = 0
  | [], _, _, x, hx => by simp at hx
  | y :: l, p, h, x, hx => by
    simp only [liftsE] at h
    by_cases h0 : liftE m p y = 0
    · rw [if_neg (by simpa using h0)] at h
      rcases List.mem_cons.1 hx with rfl | hx
      · simp only [liftE] at h0
        split at h0
        · split at h0
          · cases h0
          · split at h0
            · exact h0
            · rename_i hr; simpa using hr
        · cases h0
      · exact lifts_ok h x hx
    · rw [if_pos h0] at h; exact absurd h h0
theorem fnd_mem {α : Type} {p : α → Bool} {z : α} {l : List α} (h : (idx p l).isSome = true) : fnd p z l ∈ l := by
  obtain ⟨k, hk⟩ := Option.isSome_iff_exists.1 h
  obtain ⟨a, ha, _⟩ := idx_some hk
  simp only [fnd, hk, ha, Option.getD_some]
  exact List.mem_of_getElem? ha
theorem right_parts {m : Mp} (h : rightE m = 0) : tooLong m = false ∧ nodesE none m.nodes = 0 ∧ liftsE m none m.lifts = 0 ∧ runsE m none m.runs = 0 ∧ basesE m = 0 := by
  unfold rightE at h
  split at h
  · cases h
  · rename_i h1
    split at h
    · rename_i h2; exact absurd h h2
    · rename_i h2
      split at h
      · rename_i h3; exact absurd h h3
      · rename_i h3
        split at h
        · rename_i h4; exact absurd h h4
        · rename_i h4
          exact ⟨by simpa using h1, by simpa using h2, by simpa using h3, by simpa using h4, h⟩
theorem rises_parts {m : Mp} {fr to : Int} (h : risesE m fr to = 0) : hasNd m fr = true ∧ hasNd m to = true ∧ (findNd m fr).alt < (findNd m to).alt := by
  unfold risesE at h
  split at h
  · rename_i hb
    simp only [Bool.and_eq_true] at hb
    split at h
    · cases h
    · rename_i hc; exact ⟨hb.1, hb.2, by omega⟩
  · cases h
theorem alt_in {m : Mp} (h : nodesE none m.nodes = 0) {id : Int} (hh : hasNd m id = true) : 0 ≤ (findNd m id).alt ∧ (findNd m id).alt ≤ 5000 := by
  have := (nodes_ok h _ (fnd_mem (z := zNd) hh)).2
  simp only [inn, Bool.and_eq_true, decide_eq_true_eq] at this
  exact this
theorem vert_pos {m : Mp} (h : rightE m = 0) (id : Int) : decide (0 < vertE m id) = hasLf m id := by
  obtain ⟨_, h1, h2, _⟩ := right_parts h
  unfold vertE
  by_cases c : hasLf m id = true
  · obtain ⟨r1, r2, r3⟩ := rises_parts (lifts_ok h2 _ (fnd_mem (z := zLf) c))
    have a1 := alt_in h1 r1
    have a2 := alt_in h1 r2
    have hw : upI m (findLf m id).fr (findLf m id).to = (findNd m (findLf m id).to).alt - (findNd m (findLf m id).fr).alt := wrap64 (by constructor <;> (simp only [findLf] at *; omega))
    rw [if_pos c, hw, c]
    simp only [findLf] at *
    exact decide_eq_true (by omega)
  · simp [c]
theorem f5 (m : Mp) (id : Int) (h : Okm m) (K : List Vl → Prop) : FC F 5 [.v (.agg (eM m)), vI id] K ↔ K [.c (B true)] := by
  rw [fc_run F5]
  have h1 := f14 m h
  have h2 := f17 m id h.l
  have h3 := f21 m id h
  have h4 := f22 m id h
  by_cases c : rightE m = 0
  · have hp := vert_pos c id
    simp [b5, f11, h1, h2, h3, h4, c, hp]
  · simp [b5, f11, h1, c]
theorem law5 (xs : List FV) (h : FitAll [tyM, (false, [ti])] xs) : FC F 5 xs (· = [.c (B true)]) := by
  match xs, h with
  | [x, y], ⟨hx, hy, _⟩ =>
    obtain ⟨m, rfl, hm, _⟩ := open_map hx
    obtain ⟨n, rfl, _⟩ := open_int hy
    exact (f5 m n hm _).2 rfl
end Go.Proofs.Ytmbhpinkiffdgaa.Am
