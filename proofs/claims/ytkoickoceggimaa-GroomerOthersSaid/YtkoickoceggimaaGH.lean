/- Vehicles: time goes on, and the law of it. No condition. -/
import Derived.Test.YtkoickoceggimaaGG
namespace Go.Proofs.Ytkoickoceggimaa.Am
open Go

def endN (m : Mp) (g : Gr) : Int := if g.state = 1 then g.to else if g.state = 2 ∧ hasRn m g.run = true then (findRn m g.run).to else g.node
def endG (m : Mp) (g : Gr) : Gr := { g with node := endN m g, state := 0, to := 0, run := 0 }
def tick1 (m : Mp) (t : Int) (g : Gr) : Gr := if t < g.till then g else endG m g
def overB (t : Int) (g : Gr) : Bool := decide (g.till ≤ t) && (g.state == 2)
def tickR (l : List Gr) (t : Int) : List Int := (l.filter (overB t)).map (·.run)
theorem tickR_step {l : List Gr} {t : Int} {k : Nat} {g : Gr} (h : l[k]? = some g) : tickR (l.take (k + 1)) t = if overB t g = true then tickR (l.take k) t ++ [g.run] else tickR (l.take k) t := by
  unfold tickR
  rw [← take_app h, List.filter_append, List.map_append]
  by_cases c : overB t g = true
  · simp [c]
  · have c' : overB t g = false := by simpa using c
    simp [c']
theorem tickR_len {l : List Gr} {t : Int} {k : Nat} : (tickR (l.take k) t).length ≤ k := by
  unfold tickR
  rw [List.length_map]
  exact Nat.le_trans (List.length_filter_le ..) (by rw [List.length_take]; omega)
theorem f51 (m : Mp) (g : Gr) (h : Okm m) (K : List Vl → Prop) : FC F 51 [.v (.agg (eM m)), .v (.agg (eGr g))] K ↔ K [.agg (eGr (endG m g))] := by
  rw [fc_run F51]
  have h1 := f30 m g.run h.r
  by_cases c1 : g.state = 1
  · have e : endN m g = g.to := if_pos c1
    simp [b51, h1, c1, endG, e]
  · by_cases c2 : g.state = 2
    · cases c3 : hasRn m g.run with
      | true =>
        rw [c3] at h1
        have e : endN m g = (findRn m g.run).to := by unfold endN; rw [if_neg c1, if_pos ⟨c2, c3⟩]
        simp [b51, h1, c2, endG, e]
      | false =>
        rw [c3] at h1
        have e : endN m g = g.node := by unfold endN; rw [if_neg c1, if_neg (by rw [c3]; simp)]
        simp [b51, h1, c2, endG, e]
    · have e : endN m g = g.node := by unfold endN; rw [if_neg c1, if_neg (fun h => c2 h.1)]
      simp [b51, h1, c1, c2, endG, e]
end Go.Proofs.Ytkoickoceggimaa.Am
