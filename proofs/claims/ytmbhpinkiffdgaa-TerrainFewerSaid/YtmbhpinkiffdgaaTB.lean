/- Terrain: what a map is as an argument; the law TerrainFinds over the abstract machine. No condition. -/
import Derived.Test.YtmbhpinkiffdgaaTA
import Derived.Test.YtmbhpinkiffdgaaRow
namespace Go.Proofs.Ytmbhpinkiffdgaa.Am
open Go

theorem f11 (K : List Vl → Prop) : FC F 11 [] K ↔ K [.c (B true)] := fc_ev (n := 2000) (by kernel_rfl) K
def light (m : Mp) : Bool := decide ((m.nodes.length : Int) ≤ 70) && decide ((m.lifts.length : Int) ≤ 70) && decide ((m.runs.length : Int) ≤ 70) && decide ((m.bases.length : Int) ≤ 70)
theorem f12 (m : Mp) (K : List Vl → Prop) : FC F 12 [.v (.agg (eM m))] K ↔ K [.c (B (light m))] := by
  rw [fc_run F12]
  by_cases h1 : (m.nodes.length : Int) ≤ 70 <;> by_cases h2 : (m.lifts.length : Int) ≤ 70 <;> by_cases h3 : (m.runs.length : Int) ≤ 70 <;> simp [b12, light, h1, h2, h3]
/-- A map's lengths, as an argument's are. -/
structure Okm (m : Mp) : Prop where
  n : m.nodes.length ≤ 9223372036854775807
  l : m.lifts.length ≤ 9223372036854775807
  r : m.runs.length ≤ 9223372036854775807
  b : m.bases.length ≤ 9223372036854775807
theorem f4 (m : Mp) (id : Int) (h : Okm m) (K : List Vl → Prop) : FC F 4 [.v (.agg (eM m)), vI id] K ↔ K [.c (B true)] := by
  rw [fc_run F4]
  have h1 := f15 m id h.n
  have h2 := f16 m id h.n
  have h3 := f17 m id h.l
  have h4 := f18 m id h.l
  have h5 := f19 m id h.r
  have h6 := f20 m id h.r
  by_cases hl : light m = true
  · simp [b4, f11, f12, hl, h1, h2, h3, h4, h5, h6]
  · simp [b4, f11, f12, hl]
end Go.Proofs.Ytmbhpinkiffdgaa.Am
