/- The search for the costs. No condition. -/
import Derived.Test.YtkoickoceggimaaGM
namespace Go.Proofs.Ytkoickoceggimaa.Am
open Go

/-! ### Calls in the caller's memory, as a walk -/
def FinIR (res : List SRes) (K : List Vl → Mu → Prop) : Out → Prop
  | .norm s => Some_ (trav (iret1 s) res) fun vs => K vs s.mu.tick
  | .ret s => Some_ (trav (iret1 s) res) fun vs => K vs s.mu.tick
  | _ => False
section
variable {F : Nat → Option SFun} {s : St}
@[simp] theorem ret_fini_n (res : List SRes) (Q : List Vl → Mu → Prop) : Ret F (.norm s) [] (FinIR res Q) ↔ Some_ (trav (iret1 s) res) fun vs => Q vs s.mu.tick := Iff.rfl
@[simp] theorem ret_fini_r (res : List SRes) (Q : List Vl → Mu → Prop) : Ret F (.ret s) [] (FinIR res Q) ↔ Some_ (trav (iret1 s) res) fun vs => Q vs s.mu.tick := Iff.rfl
theorem ic_run {h : Nat} {c : SCode} {res : List SRes} {own : Bool} (hF : F h = some ⟨c, res, own⟩) (hn : c.isClone = false := by rfl) {args : List FV} {μ : Mu} {Q : List Vl → Mu → Prop} :
    IC F h args μ Q ↔ Run F c ⟨fun k => (nth args k).getD .skip, μ⟩ [] (FinIR res Q) := by
  rw [ic_enter hF hn]
  constructor
  · intro h; exact wp_mono h fun o k => by cases o <;> exact k
  · intro h; exact wp_mono h fun o k => by cases o <;> exact k
theorem IC.mono {g : Nat} {args : List FV} {μ : Mu} {K K' : List Vl → Mu → Prop} (h : IC F g args μ K) (hk : ∀ vs μ', K vs μ' → K' vs μ') : IC F g args μ K' := by
  obtain ⟨vs, μ', h1, h2⟩ := h; exact ⟨vs, μ', h1, hk _ _ h2⟩
theorem FC.mono {g : Nat} {args : List FV} {K K' : List Vl → Prop} (h : FC F g args K) (hk : ∀ vs, K vs → K' vs) : FC F g args K' := by
  obtain ⟨vs, h1, h2⟩ := h; exact ⟨vs, h1, hk _ h2⟩
end
abbrev rE (E : List Ed) : FV := .v (.c (.ro 4 (E.map eEd)))
def lessB (c n c' n' : Int) : Bool := decide (c < c') || (decide (c = c') && decide (n < n'))
theorem f67 (c c' n n' : Int) (K : List Vl → Prop) : FC F 67 [.v (.agg [I c, I n]), .v (.agg [I c', I n'])] K ↔ K [.c (B (lessB c n c' n'))] := by
  rw [fc_run F67]
  unfold lessB
  by_cases h1 : c < c'
  · simp [b67, h1]
  · by_cases h2 : c = c'
    · simp [b67, h2]
    · have h2' : (c == c') = false := by simpa using h2
      simp [b67, h1, h2, h2']
@[simp] theorem vlv_two (a b : Int) : (vlv (.agg [I a, I b])).isSome = true := rfl
abbrev mE (E : List Ed) (to : Int) (T : Tab) : Nat := sumL (weight T) (keysE E to)
set_option maxHeartbeats 4000000 in
theorem f62 (E : List Ed) (to : Int) (hE : EOk E) (μ0 : Mu) (hmp : ∀ i, μ0.mp i = none) :
    IC F 62 [rE E, vI to] μ0 fun vs μ' => ∃ i xs T, vs = [.c (.mref i)] ∧ μ'.mp i = some xs ∧ Rep xs T ∧ Mid E to T ∧ ∀ e ∈ E, stab T e.b e.c e.d := by
  rw [ic_run F62]
  simp [b62, hmp]
  refine run_loop (fun q s => ∃ b T xs i, q = 2 * mE E to T + (if b = true then 1 else 0) ∧ s.fr 0 = rE E ∧ s.fr 5 = .v (.c (.mref i)) ∧ s.mu.mp i = some xs ∧ Rep xs T ∧ Mid E to T ∧ s.fr 6 = .v (.c (B b)) ∧ (b = false → ∀ e ∈ E, stab T e.b e.c e.d))
    (2 * mE E to (updT (fun _ => none) to (0, 0)) + 1) ⟨true, updT (fun _ => none) to (0, 0), mins [] to (cvP (0, 0)), (μ0.t + 1, 13), by simp, by simp, by simp, by simp [mins], rep_nil.upd to (0, 0), mid_start, by simp, by simp⟩ ?_
  rintro J hJ q ⟨fr, μ⟩ ⟨b, T0, xs0, i, rfl, h0, h5, hm, hrep, hmid, h6, hst⟩
  simp only at h0 h5 hm h6
  cases b with
  | false =>
    have hs := hst rfl
    simp [h6, h5]
    exact ⟨i.1, i.2, rfl, xs0, hm, T0, hrep, hmid, hs⟩
  | true =>
  simp [h0, h6]
  refine run_loop (fun q s => ∃ k T xs, k ≤ E.length ∧ q = E.length - k ∧ s.fr 0 = rE E ∧ s.fr 5 = .v (.c (.mref i)) ∧ s.fr 18 = rE E ∧ s.fr 19 = vI E.length ∧ s.fr 20 = vI k ∧ s.mu.mp i = some xs ∧ Rep xs T ∧ Mid E to T ∧
      ((s.fr 6 = .v (.c (B true)) ∧ mE E to T < mE E to T0) ∨ (s.fr 6 = .v (.c (B false)) ∧ T = T0 ∧ ∀ (j : Nat) e, j < k → E[j]? = some e → stab T e.b e.c e.d))) E.length
    ⟨0, T0, xs0, by omega, by omega, by simp [h0], by simp [h5], by simp, by simp, by simp, by simp [hm], hrep, hmid, .inr ⟨by simp, rfl, fun j e h => absurd h (Nat.not_lt_zero _)⟩⟩ ?_
  rintro J2 hJ2 q ⟨fr, μ⟩ ⟨k, T, xs, hk, rfl, g0, g5, g18, g19, g20, gm, grep, gmid, gch⟩
  simp only at g0 g5 g18 g19 g20 gm gch
  by_cases hkl : k < E.length
  case neg =>
    have hke : k = E.length := by omega
    subst hke
    simp [g18, g19, g20]
    rcases gch with ⟨g6, hlt⟩ | ⟨g6, rfl, hall⟩
    · exact ⟨2 * mE E to T + 1, by omega, hJ _ _ ⟨true, T, xs, i, by simp, by simp [g0], by simp [g5], by simp [gm], grep, gmid, by simp [g6], by simp⟩⟩
    · exact ⟨2 * mE E to T, by omega, hJ _ _ ⟨false, T, xs, i, by simp, by simp [g0], by simp [g5], by simp [gm], grep, gmid, by simp [g6], fun _ e he => by
        obtain ⟨j, hj⟩ := List.getElem?_of_mem he
        exact hall j e (List.getElem?_eq_some_iff.1 hj).1 hj⟩⟩
  obtain ⟨e, hn'⟩ : ∃ e, E[k] = e := ⟨_, rfl⟩
  have hget : E[k]? = some e := by rw [← hn']; exact List.getElem?_eq_getElem hkl
  have he : e ∈ E := List.mem_of_getElem? hget
  have hel := hE.len
  have hws := wrapS (n := k) (by omega)
  have hec := hE.cost e he
  have same : stab T e.b e.c e.d → ∀ fr' μ', fr' 0 = rE E → fr' 5 = .v (.c (.mref i)) → fr' 18 = rE E → fr' 19 = vI E.length → fr' 20 = vI ((k + 1 : Nat) : Int) → fr' 6 = fr 6 → μ'.mp i = some xs → ∃ m', m' < E.length - k ∧ J2 m' ⟨fr', μ'⟩ := by
    intro hst' fr' μ' a0 a5 a18 a19 a20 a6 am
    refine ⟨E.length - (k + 1), by omega, hJ2 _ _ ⟨k + 1, T, xs, by omega, rfl, a0, a5, a18, a19, a20, am, grep, gmid, ?_⟩⟩
    rcases gch with ⟨g6, hlt⟩ | ⟨g6, hT, hall⟩
    · exact .inl ⟨by rw [← g6]; exact a6, hlt⟩
    · refine .inr ⟨by rw [← g6]; exact a6, hT, fun j e' hj he' => ?_⟩
      by_cases hjk : j = k
      · subst hjk; rw [hget] at he'; injection he' with he'; subst he'; exact hst'
      · exact hall j e' (by omega) he'
  have set : ∀ c n, T e.c = some (c, n) → better T e.b (c + e.d) (n + 1) → ∀ fr' μ', fr' 0 = rE E → fr' 5 = .v (.c (.mref i)) → fr' 18 = rE E → fr' 19 = vI E.length → fr' 20 = vI ((k + 1 : Nat) : Int) → fr' 6 = .v (.c (B true)) → μ'.mp i = some (mins xs e.b (.agg [I (c + e.d), I ((n : Int) + 1)])) → ∃ m', m' < E.length - k ∧ J2 m' ⟨fr', μ'⟩ := by
    intro c n hc hbt fr' μ' a0 a5 a18 a19 a20 a6 am
    obtain ⟨u1, u2⟩ := gmid.upd hE he hc hbt
    refine ⟨E.length - (k + 1), by omega, hJ2 _ _ ⟨k + 1, _, _, by omega, rfl, a0, a5, a18, a19, a20, am, grep.upd e.b (c + e.d, n + 1), u1, .inl ⟨a6, ?_⟩⟩⟩
    rcases gch with ⟨_, hlt⟩ | ⟨_, hT, _⟩
    · exact Nat.lt_trans u2 hlt
    · subst hT; exact u2
  cases h1 : T e.c with
  | none =>
    have m1 : mfind xs e.c = none := by rw [grep, h1]; rfl
    simp [g5, g18, g19, g20, gm, hkl, hn', m1, hws]
    exact same (fun c n h => by rw [h1] at h; cases h) _ _ (by simp [g0]) (by simp [g5]) (by simp [g18]) (by simp [g19]) (by simp) (by simp) (by simp [gm])
  | some p =>
  obtain ⟨c, n⟩ := p
  have m1 : mfind xs e.c = some (cvP (c, n)) := by rw [grep, h1]; rfl
  have nums := gmid.nums hE h1
  have hw1 : IntKind.i64.wrap (c + e.d) = c + e.d := wrap64 ⟨by omega, by omega⟩
  have hw2 := wrapS (n := n) (by omega)
  cases h2 : T e.b with
  | none =>
    have m2 : mfind xs e.b = none := by rw [grep, h2]; rfl
    simp [g5, g18, g19, g20, gm, hkl, hn', m1, m2, hw1, hw2, hws]
    exact set c n h1 (fun c' n' h => by rw [h2] at h; cases h) _ _ (by simp [g0]) (by simp [g5]) (by simp [g18]) (by simp [g19]) (by simp) (by simp) (by simp)
  | some p =>
  obtain ⟨c', n'⟩ := p
  have m2 : mfind xs e.b = some (cvP (c', n')) := by rw [grep, h2]; rfl
  have hl := f67 (c + e.d) c' ((n : Int) + 1) n'
  have hbs : lessB (c + e.d) ((n : Int) + 1) c' n' = true ↔ (c + e.d < c' ∨ c + e.d = c' ∧ (n : Int) + 1 < n') := by simp [lessB]
  cases hb : lessB (c + e.d) ((n : Int) + 1) c' n' with
  | true =>
    rw [hb] at hl
    have hbt := hbs.1 hb
    simp [g5, g18, g19, g20, gm, hkl, hn', m1, m2, hw1, hw2, hws, hl]
    exact set c n h1 (fun c2 n2 h => by rw [h2] at h; injection h with h; injection h with q1 q2; subst q1 q2; omega) _ _ (by simp [g0]) (by simp [g5]) (by simp [g18]) (by simp [g19]) (by simp) (by simp) (by simp)
  | false =>
    rw [hb] at hl
    have hbt : ¬ (c + e.d < c' ∨ c + e.d = c' ∧ (n : Int) + 1 < n') := fun h => by rw [hbs.2 h] at hb; cases hb
    simp [g5, g18, g19, g20, gm, hkl, hn', m1, m2, hw1, hw2, hws, hl]
    refine same (fun c2 n2 h => ?_) _ _ (by simp [g0]) (by simp [g5]) (by simp [g18]) (by simp [g19]) (by simp) (by simp) (by simp [gm])
    rw [h1] at h; injection h with h; injection h with q1 q2; subst q1 q2
    refine ⟨c', n', h2, ?_⟩
    unfold nb
    omega
end Go.Proofs.Ytkoickoceggimaa.Am
