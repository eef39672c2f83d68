/- Sweep: searching with a literal, filtering in place, which runs are ready. No condition. -/
import Derived.Test.YtephpcoffonjfaaSB
namespace Go.Proofs.Ytephpcoffonjfaa.Am
open Go

/-! ### Calls in the caller's memory, as a walk -/
def FinIR (res : List SRes) (K : List Vl → Mu → Prop) : Out → Prop
  | .norm s => Some_ (trav (iret1 s) res) fun vs => K vs s.mu.tick
  | .ret s => Some_ (trav (iret1 s) res) fun vs => K vs s.mu.tick
  | _ => False
section
variable {F : Nat → Option SFun} {s : St}
@[simp] theorem ret_fini_n (res : List SRes) (Q : List Vl → Mu → Prop) : Ret F (.norm s) [] (FinIR res Q) ↔ Some_ (trav (iret1 s) res) fun vs => Q vs s.mu.tick := Iff.rfl
@[simp] theorem ret_fini_r (res : List SRes) (Q : List Vl → Mu → Prop) : Ret F (.ret s) [] (FinIR res Q) ↔ Some_ (trav (iret1 s) res) fun vs => Q vs s.mu.tick := Iff.rfl
theorem ic_run {h : Nat} {c : SCode} {res : List SRes} {own : Bool} (hF : F h = some ⟨c, res, own⟩) (hn : c.isClone = false := by rfl) {args : List FV} {μ : Mu} {Q : List Vl → Mu → Prop} :
    IC F h args μ Q ↔ Run F c ⟨fun k => (nth args k).getD .skip, μ⟩ [] (FinIR res Q) := by
  rw [ic_enter hF hn]
  constructor
  · intro h; exact wp_mono h fun o k => by cases o <;> exact k
  · intro h; exact wp_mono h fun o k => by cases o <;> exact k
theorem IC.mono {g : Nat} {args : List FV} {μ : Mu} {K K' : List Vl → Mu → Prop} (h : IC F g args μ K) (hk : ∀ vs μ', K vs μ' → K' vs μ') : IC F g args μ K' := by
  obtain ⟨vs, μ', h1, h2⟩ := h; exact ⟨vs, μ', h1, hk _ _ h2⟩
end
/-- A function value that tells of whole numbers what 'p' does, whatever the memory but for its variables. -/
def ClosOk (c : Cell) (box : Id → Option (List Cell)) (p : Int → Bool) : Prop :=
  ∃ g cs, (∀ ar ap st t, frz ⟨box, ar, ap, st, t⟩ depth c = some (.clo g cs) ∧ fids ⟨box, ar, ap, st, t⟩ depth c = []) ∧ ∀ n K, FC F g (vI n :: cs.map fun c => .cptr c 0) K ↔ K [.c (B (p n))]
theorem f50 (l : List Int) (sc c : Cell) (p : Int → Bool) (bx : Id → Option (List Cell)) (ar : Id → Option Arr) (ap st : Id → Bool) (t : Nat) (hs : sc = .ro 1 (l.map e1) ∨ ∃ i e, sc = .own i ∧ ar i = some ⟨e, 1, l.map e1⟩) (hc : ClosOk c bx p) (hl : l.length ≤ 9223372036854775807) :
    IC F 50 [.v (.c sc), .v (.c c)] ⟨bx, ar, ap, st, t⟩ fun vs μ' => vs = [.c (I (idxI p l))] ∧ ∃ t', μ' = ⟨bx, ar, ap, st, t'⟩ := by
  obtain ⟨g, cs, hz, hg⟩ := hc
  have hz1 := fun ar ap st t => (hz ar ap st t).1
  have hz2 := fun ar ap st t => (hz ar ap st t).2
  rw [ic_run F50]
  rcases hs with rfl | ⟨i, e, rfl, ha⟩
  · simp [b50]
    refine run_loop (fun q s => ∃ k t', k ≤ l.length ∧ q = l.length - k ∧ s.mu = ⟨bx, ar, ap, st, t'⟩ ∧ s.fr 0 = .v (.c (.ro 1 (l.map e1))) ∧ s.fr 1 = .v (.c c) ∧ s.fr 7 = vI l.length ∧ s.fr 8 = vI k ∧ ∀ (j : Nat) x, j < k → l[j]? = some x → p x = false) l.length ⟨0, _, by omega, by omega, rfl, by simp, by simp, by simp, by simp, by simp⟩ ?_
    rintro J hJ q ⟨fr, μ⟩ ⟨k, t', hk, rfl, hμ, h0, h1, h7, h8, hn⟩
    simp only at hμ h0 h1 h7 h8
    subst hμ
    by_cases hkl : k < l.length
    · obtain ⟨x, hn'⟩ : ∃ x, l[k] = x := ⟨_, rfl⟩
      have hget : l[k]? = some x := by rw [← hn']; exact List.getElem?_eq_getElem hkl
      have hcx := hg x
      by_cases hp : p x = true
      · have : idxI p l = k := by simp only [idxI, idx_at hget hp hn]
        simp [h0, h1, h7, h8, hkl, hn', hz1, hz2, hcx, hp, this]
      · have hp' : p x = false := by simpa using hp
        have hw := wrapS (n := k) (by omega)
        simp [h0, h1, h7, h8, hkl, hn', hz1, hz2, hcx, hp', hw]
        exact ⟨l.length - (k + 1), by omega, hJ _ _ ⟨k + 1, _, by omega, rfl, rfl, by simp [h0], by simp [h1], by simp [h7], by simp, more_false hn hget hp'⟩⟩
    · have : idxI p l = -1 := by
        simp only [idxI]
        rw [idx_none fun j b hb => hn j b (by have := (List.getElem?_eq_some_iff.1 hb).1; omega) hb]
      simp [h0, h1, h7, h8, hkl, this]
  · simp [b50, ha]
    refine run_loop (fun q s => ∃ k t', k ≤ l.length ∧ q = l.length - k ∧ s.mu = ⟨bx, ar, ap, st, t'⟩ ∧ s.fr 0 = .v (.c (.own i)) ∧ s.fr 1 = .v (.c c) ∧ s.fr 7 = vI l.length ∧ s.fr 8 = vI k ∧ ∀ (j : Nat) x, j < k → l[j]? = some x → p x = false) l.length ⟨0, _, by omega, by omega, rfl, by simp, by simp, by simp, by simp, by simp⟩ ?_
    rintro J hJ q ⟨fr, μ⟩ ⟨k, t', hk, rfl, hμ, h0, h1, h7, h8, hn⟩
    simp only at hμ h0 h1 h7 h8
    subst hμ
    by_cases hkl : k < l.length
    · obtain ⟨x, hn'⟩ : ∃ x, l[k] = x := ⟨_, rfl⟩
      have hget : l[k]? = some x := by rw [← hn']; exact List.getElem?_eq_getElem hkl
      have hcx := hg x
      by_cases hp : p x = true
      · have : idxI p l = k := by simp only [idxI, idx_at hget hp hn]
        simp [h0, h1, h7, h8, ha, hkl, hn', hz1, hz2, hcx, hp, this]
      · have hp' : p x = false := by simpa using hp
        have hw := wrapS (n := k) (by omega)
        simp [h0, h1, h7, h8, ha, hkl, hn', hz1, hz2, hcx, hp', hw]
        exact ⟨l.length - (k + 1), by omega, hJ _ _ ⟨k + 1, _, by omega, rfl, rfl, by simp [h0], by simp [h1], by simp [h7], by simp, more_false hn hget hp'⟩⟩
    · have : idxI p l = -1 := by
        simp only [idxI]
        rw [idx_none fun j b hb => hn j b (by have := (List.getElem?_eq_some_iff.1 hb).1; omega) hb]
      simp [h0, h1, h7, h8, hkl, this]
theorem f58 (l : List Int) (g : Nat) (cs : List (List Cell)) (p : Int → Bool) (hg : ∀ n K, FC F g (vI n :: cs.map fun c => .cptr c 0) K ↔ K [.c (B (p n))]) (hl : l.length ≤ 9223372036854775807) (K : List Vl → Prop) :
    FC F 58 [.v (.c (.ro 1 (l.map e1))), .v (.c (.clo g cs))] K ↔ K [.c (B (l.any p))] := by
  refine FC.rule ?_ K
  rw [fc_run F58]
  rw [← idxI_any]
  simp [b58]
  refine IC.mono (f50 l _ _ p _ _ _ _ _ (.inl rfl) ⟨g, cs, fun _ _ _ _ => ⟨rfl, rfl⟩, hg⟩ hl) ?_
  rintro vs μ' ⟨rfl, t', rfl⟩
  simp
theorem f77 (m : Mp) (k top : Int) (g : Nat) (cs : List (List Cell)) (p : Int → Bool) (h : Okm m) (hg : ∀ n K, FC F g (vI n :: cs.map fun c => .cptr c 0) K ↔ K [.c (B (p n))]) (K : List Vl → Prop) :
    FC F 77 [vI k, .cptr (eM m) 0, .cptr [I top] 0, .cptr [.clo g cs] 0] K ↔ K [.c (B (((findRn m k).to == top) && !p k))] := by
  rw [fc_run F77]
  have h1 := f72 m k h
  have h2 := hg k
  by_cases c : (findRn m k).to = top
  · simp [b77, h1, h2, c]
  · have c' : ((findRn m k).to == top) = false := by simpa using c
    simp [b77, h1, c']
def readyB (m : Mp) (l : List Int) (id : Int) (p : Int → Bool) : Bool := !l.any fun k => ((findRn m k).to == (findRn m id).fr) && !p k
theorem f43 (m : Mp) (l : List Int) (id : Int) (g : Nat) (cs : List (List Cell)) (p : Int → Bool) (h : Okm m) (hg : ∀ n K, FC F g (vI n :: cs.map fun c => .cptr c 0) K ↔ K [.c (B (p n))]) (hl : l.length ≤ 9223372036854775807) (K : List Vl → Prop) :
    FC F 43 [.v (.agg (eM m)), .v (.c (.ro 1 (l.map e1))), vI id, .v (.c (.clo g cs))] K ↔ K [.c (B (readyB m l id p))] := by
  rw [fc_run F43]
  have h1 := f72 m id h
  have h2 := f58 l 77 [eM m, [I (findRn m id).fr], [.clo g cs]] (fun k => ((findRn m k).to == (findRn m id).fr) && !p k) (fun n K => f77 m n (findRn m id).fr g cs p h hg K) hl
  simp [b43, h1, h2, readyB]
theorem f44 (l : List Sw) (k : Int) (hl : l.length ≤ 9223372036854775807) (K : List Vl → Prop) : FC F 44 [vI k, .cptr [.ro 4 (l.map eSw)] 0] K ↔ K [.c (B (swB l k))] := by
  rw [fc_run F44]
  have h := f42 l k hl
  simp [b44, h]
theorem f84 (m : Mp) (k node : Int) (h : Okm m) (K : List Vl → Prop) : FC F 84 [vI k, .cptr (eM m) 0, .cptr [I node] 0] K ↔ K [.c (B ((findRn m k).fr != node))] := by
  rw [fc_run F84]
  have h1 := f72 m k h
  simp [b84, h1]
end Go.Proofs.Ytephpcoffonjfaa.Am
