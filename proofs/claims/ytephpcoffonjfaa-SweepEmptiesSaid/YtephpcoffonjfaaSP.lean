/- Sweep: persons who are pushed in an order that is allowed all leave; plain, but for the sums' contract. No condition. -/
import Derived.Test.YtephpcoffonjfaaSO
namespace Go.Proofs.Ytephpcoffonjfaa.Am
open Go

def goodL (l : List Int) : Prop := ∀ x ∈ l, 0 ≤ x
theorem sum_set {l : List Int} {i : Nat} {v x : Int} (h : l[i]? = some x) : (l.set i v).sum = l.sum - x + v := by
  induction l generalizing i with
  | nil => simp at h
  | cons y l ih =>
    cases i with
    | zero => simp at h; subst h; simp; omega
    | succ i =>
      have h' : l[i]? = some x := by simpa using h
      have := ih h'
      simp only [List.set_cons_succ, List.sum_cons, this]; omega
theorem sum_nonneg {l : List Int} (h : goodL l) : 0 ≤ l.sum := by
  induction l with
  | nil => simp
  | cons y l ih =>
    have h1 := h y (by simp)
    have h2 := ih fun x hx => h x (by simp [hx])
    simp only [List.sum_cons]; omega
theorem le_sum {l : List Int} (h : goodL l) {x : Int} (hx : x ∈ l) : x ≤ l.sum := by
  induction l with
  | nil => simp at hx
  | cons y l ih =>
    have h1 := h y (by simp)
    have h3 : goodL l := fun x hx => h x (by simp [hx])
    have h2 := sum_nonneg h3
    simp only [List.sum_cons]
    rcases List.mem_cons.1 hx with rfl | hx
    · omega
    · have := ih h3 hx; omega
theorem le_sum2 {l : List Int} (h : goodL l) {i k : Nat} {x y : Int} (hi : l[i]? = some x) (hk : l[k]? = some y) (hne : i ≠ k) : x + y ≤ l.sum := by
  have h1 := sum_set (v := 0) hi
  have hg : goodL (l.set i 0) := fun z hz => by
    rcases List.mem_or_eq_of_mem_set hz with hz | hz
    · exact h z hz
    · omega
  have hm : y ∈ l.set i 0 := by
    refine List.mem_of_getElem? (i := k) ?_
    rw [List.getElem?_set_ne hne]; exact hk
  have := le_sum hg hm
  omega
theorem sum_zero {l : List Int} (h : ∀ x ∈ l, x = 0) : l.sum = 0 := by
  induction l with
  | nil => rfl
  | cons y l ih => simp only [List.sum_cons, h y (by simp), ih fun x hx => h x (by simp [hx])]; rfl
theorem sumA_plain {l : List Int} (h : goodL l) (hs : ∀ x ∈ l, x ≤ 1000000) (hl : l.length ≤ 64) : ∀ {k : Nat}, k ≤ l.length → sumA l k = (l.take k).sum ∧ 0 ≤ (l.take k).sum ∧ (l.take k).sum ≤ 1000000 * (k : Int)
  | 0, _ => by simp [sumA]
  | k + 1, hk => by
    obtain ⟨h1, h2, h3⟩ := sumA_plain h hs hl (k := k) (by omega)
    obtain ⟨x, hx⟩ : ∃ x, l[k]? = some x := ⟨_, List.getElem?_eq_getElem (by omega)⟩
    have hkl := List.getElem?_eq_some_iff.1 hx
    have hxm := List.mem_of_getElem? hx
    have g1 := h x hxm
    have g2 := hs x hxm
    have ht : (l.take (k + 1)).sum = (l.take k).sum + x := by
      rw [List.take_succ_eq_append_getElem hkl.1, hkl.2, List.sum_append]; simp
    rw [sumA_step hx, h1, ht]
    refine ⟨wrap64 ⟨by omega, by omega⟩, by omega, by push_cast; omega⟩
/-- An order in which runs can be swept: each once, after all that come before it, and all. -/
structure VOrd (m : Mp) (runs ord : List Int) : Prop where
  mem : ∀ x ∈ ord, x ∈ runs
  cond : ∀ (k : Nat) x, ord[k]? = some x → (ord.take k).contains x = false ∧ ∀ a ∈ runs, bef m a x = true → (ord.take k).contains a = true
  cov : ∀ x ∈ runs, x ∈ ord
structure PushOk (m : Mp) (s : Sp) (ord : List Int) (n : Int) (k : Nat) (l : List Int) (g : Int) : Prop where
  len : l.length = s.runs.length
  good : goodL l
  sum : l.sum + g = n
  g0 : 0 ≤ g
  zero : ∀ (j : Nat) (x : Int) (i : Nat), j < k → ord[j]? = some x → s.runs[i]? = some x → l[i]? = some 0
theorem runs_inj {runs : List Int} (hlt : runs.Pairwise (· < ·)) {i j : Nat} {x : Int} (hi : runs[i]? = some x) (hj : runs[j]? = some x) : i = j := by
  obtain ⟨a1, a2⟩ := List.getElem?_eq_some_iff.1 hi
  obtain ⟨b1, b2⟩ := List.getElem?_eq_some_iff.1 hj
  rcases Nat.lt_trichotomy i j with h | h | h
  · have := (List.pairwise_iff_getElem.1 hlt) i j a1 b1 h; omega
  · exact h
  · have := (List.pairwise_iff_getElem.1 hlt) j i b1 a1 h; omega
theorem push_step {m : Mp} {s : Sp} {ord : List Int} {n : Int} {k : Nat} {l : List Int} {g : Int} (hz : runsS m s.runs = 0) (hlt : s.runs.Pairwise (· < ·)) (hv : VOrd m s.runs ord) (hn : n ≤ 1000000) (hp : PushOk m s ord n k l g) {x : Int} {i : Nat} (hx : ord[k]? = some x) (hi : s.runs[i]? = some x) :
    PushOk m s ord n (k + 1) (pushL m s l i) (g + pushN m s l i) ∧ 0 ≤ pushN m s l i ∧ (pushL m s l i).sum + pushN m s l i = l.sum := by
  obtain ⟨p1, p2, p3, p4, p5⟩ := hp
  have hil := (List.getElem?_eq_some_iff.1 hi).1
  obtain ⟨v, hvv⟩ : ∃ v, l[i]? = some v := ⟨_, List.getElem?_eq_getElem (by omega)⟩
  have hv0 := p2 v (List.mem_of_getElem? hvv)
  have hs1 := sum_set (v := 0) hvv
  have hgd : l.getD i 0 = v := getD_at hvv
  have hg1 : goodL (l.set i 0) := fun z hz => by
    rcases List.mem_or_eq_of_mem_set hz with hz | hz
    · exact p2 z hz
    · omega
  have hnn := sum_nonneg p2
  by_cases c : outB m x = true
  · have e1 : pushL m s l i = l.set i 0 := by simp [pushL, hi, c]
    have e2 : pushN m s l i = v := by simp [pushN, hi, c, hvv]
    rw [e1, e2]
    refine ⟨⟨by simpa using p1, hg1, by omega, by omega, fun j y q hj hy hq => ?_⟩, hv0, by omega⟩
    by_cases hqi : i = q
    · subst hqi; rw [List.getElem?_set_self (by omega)]
    · rw [List.getElem?_set_ne hqi]
      by_cases hjk : j = k
      · subst hjk; rw [hx] at hy; injection hy with hy; subst hy
        exact absurd (runs_inj hlt hi hq) hqi
      · exact p5 j y q (by omega) hy hq
  · have c' : outB m x = false := by simpa using c
    obtain ⟨t, ht, htl⟩ := least_some hz hi c'
    obtain ⟨y, hy, hby⟩ := idx_some ht
    have hlt' : leastN m s.runs x = t := by simp [leastN, ht]
    -- where the persons go isn't swept yet
    have hxk := (hv.cond k x hx).1
    have hnot : ∀ j z, j ≤ k → ord[j]? = some z → z ≠ y := by
      intro j z hj hz' he
      subst he
      have h2 := (hv.cond j z hz').2 x (hv.mem x (List.mem_of_getElem? hx)) hby
      have : (ord.take k).contains x = true := by
        have hm := List.contains_iff_mem.1 h2
        refine List.contains_iff_mem.2 ?_
        have e : ord.take j = (ord.take k).take j := by rw [List.take_take, Nat.min_eq_left hj]
        rw [e] at hm
        exact List.mem_of_mem_take hm
      rw [hxk] at this; cases this
    have hit : i ≠ t := fun e => by
      subst e
      rw [hi] at hy; injection hy with hy
      exact hnot k x (Nat.le_refl _) hx hy
    obtain ⟨u, hu⟩ : ∃ u, l[t]? = some u := ⟨_, List.getElem?_eq_getElem (by omega)⟩
    have hu0 := p2 u (List.mem_of_getElem? hu)
    have huv := le_sum2 p2 hvv hu hit
    have hu1 : (l.set i 0)[t]? = some u := by rw [List.getElem?_set_ne hit]; exact hu
    have hs2 := sum_set (v := u + v) hu1
    have hwr : IntKind.i64.wrap (u + v) = u + v := wrap64 ⟨by omega, by omega⟩
    have e1 : pushL m s l i = (l.set i 0).set t (u + v) := by
      unfold pushL
      rw [getD_at hi, if_neg c, hlt', getD_at hu1, hgd, hwr]
    have e2 : pushN m s l i = 0 := by unfold pushN; rw [getD_at hi, if_neg c]
    rw [e1, e2]
    refine ⟨⟨by simpa using p1, fun z hz => ?_, by omega, by omega, fun j w q hj hw hq => ?_⟩, by omega, by omega⟩
    · rcases List.mem_or_eq_of_mem_set hz with hz | hz
      · exact hg1 z hz
      · omega
    · have hqt : t ≠ q := fun e => by
        subst e
        rw [hy] at hq; injection hq with hq
        exact hnot j w (by omega) hw hq.symm
      rw [List.getElem?_set_ne hqt]
      by_cases hqi : i = q
      · subst hqi; rw [List.getElem?_set_self (by omega)]
      · rw [List.getElem?_set_ne hqi]
        by_cases hjk : j = k
        · subst hjk; rw [hx] at hw; injection hw with hw; subst hw
          exact absurd (runs_inj hlt hi hq) hqi
        · exact p5 j w q (by omega) hw hq
theorem idxN_at {runs : List Int} {x : Int} (h : x ∈ runs) : runs[idxN runs x]? = some x := by
  obtain ⟨i, hi, _⟩ := idx_mem h
  obtain ⟨a, ha, hp⟩ := idx_some hi
  have : a = x := by simpa using hp
  simp [idxN, hi, ha, this]
theorem go_ok {m : Mp} {s : Sp} {ord l : List Int} {n : Int} (hz : runsS m s.runs = 0) (hlt : s.runs.Pairwise (· < ·)) (hv : VOrd m s.runs ord) (hn : n ≤ 1000000) (hlen : l.length = s.runs.length) (hg : goodL l) (hsum : l.sum = n) :
    ∀ {k : Nat}, k ≤ ord.length → PushOk m s ord n k (goA m s ord l k).1 (goA m s ord l k).2
  | 0, _ => ⟨hlen, hg, by simp [goA, hsum], by simp [goA], fun j x i hj => by omega⟩
  | k + 1, hk => by
    have ih := go_ok hz hlt hv hn hlen hg hsum (k := k) (by omega)
    obtain ⟨x, hx⟩ : ∃ x, ord[k]? = some x := ⟨_, List.getElem?_eq_getElem (by omega)⟩
    have hi := idxN_at (hv.mem x (List.mem_of_getElem? hx))
    have hst := push_step hz hlt hv hn ih hx hi
    have hnn := sum_nonneg ih.good
    have hs0 := ih.sum
    have hg0 := ih.g0
    have hnn2 := sum_nonneg hst.1.good
    have hw : IntKind.i64.wrap ((goA m s ord l k).2 + pushN m s (goA m s ord l k).1 (idxN s.runs x)) = (goA m s ord l k).2 + pushN m s (goA m s ord l k).1 (idxN s.runs x) := wrap64 ⟨by omega, by omega⟩
    have e : goA m s ord l (k + 1) = (pushL m s (goA m s ord l k).1 (idxN s.runs x), (goA m s ord l k).2 + pushN m s (goA m s ord l k).1 (idxN s.runs x)) := by
      simp only [goA, getD_at hx, hw]
    rw [e]
    exact hst.1
theorem all_out {m : Mp} {s : Sp} {ord l : List Int} {n g : Int} (hv : VOrd m s.runs ord) (hp : PushOk m s ord n ord.length l g) : l.sum = 0 ∧ g = n ∧ ∀ x ∈ l, x = 0 := by
  have h0 : ∀ x ∈ l, x = 0 := by
    intro x hx
    obtain ⟨i, hi⟩ := List.getElem?_of_mem hx
    have hil := (List.getElem?_eq_some_iff.1 hi).1
    have hr : s.runs[i]? = some (s.runs[i]'(by have := hp.len; omega)) := List.getElem?_eq_getElem _
    obtain ⟨j, hj⟩ := List.getElem?_of_mem (hv.cov _ (List.mem_of_getElem? hr))
    have := hp.zero j _ i (List.getElem?_eq_some_iff.1 hj).1 hj hr
    rw [hi] at this; injection this
  have hs := sum_zero h0
  exact ⟨hs, by have := hp.sum; omega, h0⟩
theorem ord_valid {m : Mp} (h : rightE m = 0) {s : Sp} (hall : ∀ x ∈ s.runs, hasRn m x = true) (hlt : s.runs.Pairwise (· < ·)) : VOrd m s.runs (ordA m s) := by
  have hlen : (ordA m s).length = s.runs.length := iterO_full h hall hlt (Nat.le_refl _)
  have hc : ∀ (k : Nat) x, (ordA m s)[k]? = some x → ((ordA m s).take k).contains x = false ∧ ∀ a ∈ s.runs, bef m a x = true → ((ordA m s).take k).contains a = true := by
    intro k x hx
    have hk := (List.getElem?_eq_some_iff.1 hx).1
    obtain ⟨j, y, hj, hjy, hy⟩ := ord_at h hall hlt (i := k) (by omega)
    rw [hx] at hy; injection hy with hy; subst hy
    obtain ⟨a, ha, hp⟩ := idx_some hj
    rw [hjy] at ha; injection ha with ha; subst ha
    rw [condO_iff hall (List.mem_of_getElem? hjy)] at hp
    simp only [Bool.and_eq_true] at hp
    obtain ⟨p1, p2⟩ := hp
    refine ⟨by simpa using p1, fun b hb hbb => ?_⟩
    cases hcb : ((ordA m s).take k).contains b with
    | true => rfl
    | false =>
      have hany : (s.runs.any fun a => bef m a x && !((ordA m s).take k).contains a) = true := List.any_eq_true.2 ⟨b, hb, by rw [hbb, hcb]; rfl⟩
      rw [hany] at p2; cases p2
  have hnd : (ordA m s).Pairwise (· ≠ ·) := by
    rw [List.pairwise_iff_getElem]
    intro i j hi hj hij e
    have := (hc j _ (List.getElem?_eq_getElem hj)).1
    have hin : ((ordA m s).take j).contains (ordA m s)[j] = true := by
      refine List.contains_iff_mem.2 ?_
      rw [← e]
      refine List.mem_of_getElem? (i := i) ?_
      rw [List.getElem?_take_of_lt hij, List.getElem?_eq_getElem hi]
    rw [this] at hin; cases hin
  refine ⟨fun x hx => iterO_mem hx, hc, fun x hx => ?_⟩
  -- as many different ones as there are
  apply Classical.byContradiction
  intro hno
  have h1 := nodup_len (l := x :: ordA m s) (k := s.runs) (List.pairwise_cons.2 ⟨fun y hy e => hno (by rw [e]; exact hy), hnd⟩) (fun y hy => by
    rcases List.mem_cons.1 hy with rfl | hy
    · exact hx
    · exact iterO_mem hy)
  simp only [List.length_cons] at h1
  omega
theorem swept_valid {m : Mp} {s : Sp} (h : rightS m s = 0) (hd : doneB s = true) : VOrd m s.runs (s.swept.map Sw.run) := by
  obtain ⟨_, _, h3⟩ := right_zero h
  have hsw : ∀ (l : List Sw) x, swB l x = (l.map Sw.run).contains x := by
    intro l x
    induction l with
    | nil => rfl
    | cons w l ih =>
      unfold swB at ih ⊢
      simp only [List.any_cons, List.map_cons, List.contains_cons, ih]
      congr 1
      by_cases c : w.run = x
      · simp [c]
      · have c' : ¬ x = w.run := fun e => c e.symm
        have e1 : (w.run == x) = false := by simpa using c
        have e2 : (x == w.run) = false := by simpa using c'
        rw [e1, e2]
  refine ⟨fun x hx => ?_, fun k x hx => ?_, fun x hx => ?_⟩
  · obtain ⟨w, hw, rfl⟩ := List.mem_map.1 hx
    obtain ⟨k, hk⟩ := List.getElem?_of_mem hw
    exact List.contains_iff_mem.1 (chk_zero h3 hk).1
  · rw [List.getElem?_map] at hx
    cases hk : s.swept[k]? with
    | none => rw [hk] at hx; cases hx
    | some w =>
      rw [hk] at hx; injection hx with hx; subst hx
      obtain ⟨c1, c2, c3⟩ := chk_zero h3 hk
      rw [hsw, List.map_take] at c2
      refine ⟨c2, fun a ha hb => ?_⟩
      unfold freeB at c3
      cases hcb : ((s.swept.map Sw.run).take k).contains a with
      | true => rfl
      | false =>
        have hany : (s.runs.any fun a => bef m a w.run && !swB (s.swept.take k) a) = true := List.any_eq_true.2 ⟨a, ha, by rw [hb, hsw, List.map_take, hcb]; rfl⟩
        rw [hany] at c3; cases c3
  · unfold doneB at hd
    have := List.any_eq_false.1 (by simpa using hd : (s.runs.any fun id => !swB s.swept id) = false) x hx
    have h2 : swB s.swept x = true := by simpa using this
    rw [hsw] at h2
    exact List.contains_iff_mem.1 h2
def badL (l : List Int) : Bool := l.any badN
set_option maxHeartbeats 4000000 in
theorem f32 (l : List Int) (hl : l.length ≤ 9223372036854775807) (K : List Vl → Prop) : FC F 32 [.v (.c (.ro 1 (l.map e1)))] K ↔ K [.c (I (if badL l = true then 0 else sumA l l.length)), .c (B (!badL l))] := by
  refine FC.rule ?_ K
  rw [fc_run F32]
  simp [b32]
  refine run_loop (fun q t => ∃ k, k ≤ l.length ∧ q = l.length - k ∧ t.fr 0 = .v (.c (.ro 1 (l.map e1))) ∧ t.fr 4 = vI (sumA l k) ∧ t.fr 5 = vI k ∧ ∀ (j : Nat) x, j < k → l[j]? = some x → badN x = false) l.length ⟨0, by omega, by omega, by simp, by simp [sumA], by simp, by simp⟩ ?_
  rintro J hJ q ⟨fr, μ⟩ ⟨k, hk, rfl, g0, g4, g5, hn⟩
  simp only at g0 g4 g5
  by_cases hkl : k < l.length
  · obtain ⟨x, hx⟩ : ∃ x, l[k] = x := ⟨_, rfl⟩
    have hget : l[k]? = some x := by rw [← hx]; exact List.getElem?_eq_getElem hkl
    have hst := sumA_step hget
    have hws := wrapS (n := k) (by omega)
    by_cases c1 : x < 0
    · have : badL l = true := any_true hget (by simp [badN, c1])
      simp [g0, g4, g5, hkl, hx, c1, this]
    · by_cases c2 : 1000000 < x
      · have : badL l = true := any_true hget (by simp [badN, c2])
        simp [g0, g4, g5, hkl, hx, c1, c2, this]
      · have hb : badN x = false := by simp [badN]; omega
        simp [g0, g4, g5, hkl, hx, c1, c2, hws]
        exact ⟨l.length - (k + 1), by omega, hJ _ _ ⟨k + 1, by omega, rfl, by simp [g0], by simp [hst], by simp, more_false hn hget hb⟩⟩
  · have hke : k = l.length := by omega
    subst hke
    have : badL l = false := any_false hn (by omega)
    simp [g0, g4, g5, this]
end Go.Proofs.Ytephpcoffonjfaa.Am
