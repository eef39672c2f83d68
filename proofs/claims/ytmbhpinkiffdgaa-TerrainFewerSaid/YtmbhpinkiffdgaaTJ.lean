/- Terrain: the checks of lifts and runs, as the program does them. No condition. -/
import Derived.Test.YtmbhpinkiffdgaaTI
namespace Go.Proofs.Ytmbhpinkiffdgaa.Am
open Go

theorem up_plain {m : Mp} (hn : nodesE none m.nodes = 0) {fr to : Int} (h : (hasNd m fr && hasNd m to) = true) : upI m fr to = (findNd m to).alt - (findNd m fr).alt := by
  simp only [Bool.and_eq_true] at h
  have a1 := alt_in hn h.1
  have a2 := alt_in hn h.2
  exact wrap64 (by constructor <;> omega)
theorem leO_plain {n : Int} {p : Option Int} (h : 1 ≤ n) : leO n p = decide (n ≤ p.getD 0) := by
  cases p with
  | none => simp only [leO, Option.getD_none]; exact (decide_eq_false (by omega)).symm
  | some q => rfl

theorem f36 (m : Mp) (hm : Okm m) (hn : nodesE none m.nodes = 0) (p : Option Int) (x : Lf) (K : List Vl → Prop) : FC F 36 [.v (.agg (eM m)), .v (.agg (eLf x)), vI (p.getD 0)] K ↔ K [.c (I (liftE m p x))] := by
  rw [fc_run F36]
  have hr0 := f49 m x.fr x.to hm
  by_cases c1 : inn x.id 1 9999 = true
  case neg =>
    have hE : liftE m p x = 2 := by simp [liftE, rngLf, c1]
    rw [hE]
    simp only [inn] at c1
    simp [b36, f54, c1]
  by_cases c2 : inn x.op 1 8 = true
  case neg =>
    have hE : liftE m p x = 2 := by simp [liftE, rngLf, c1, c2]
    rw [hE]
    simp only [inn] at c1 c2
    simp [b36, f54, c1, c2]
  by_cases c3 : inn x.len 10 6000 = true
  case neg =>
    have hE : liftE m p x = 2 := by simp [liftE, rngLf, c1, c2, c3]
    rw [hE]
    simp only [inn] at c1 c2 c3
    simp [b36, f54, c1, c2, c3]
  by_cases c4 : inn x.speed 500 12000 = true
  case neg =>
    have hE : liftE m p x = 2 := by simp [liftE, rngLf, c1, c2, c3, c4]
    rw [hE]
    simp only [inn] at c1 c2 c3 c4
    simp [b36, f54, c1, c2, c3, c4]
  by_cases c5 : inn x.seats 1 16 = true
  case neg =>
    have hE : liftE m p x = 2 := by simp [liftE, rngLf, c1, c2, c3, c4, c5]
    rw [hE]
    simp only [inn] at c1 c2 c3 c4 c5
    simp [b36, f54, c1, c2, c3, c4, c5]
  by_cases c6 : inn x.spac 5 1000 = true
  case neg =>
    have hE : liftE m p x = 2 := by simp [liftE, rngLf, c1, c2, c3, c4, c5, c6]
    rw [hE]
    simp only [inn] at c1 c2 c3 c4 c5 c6
    simp [b36, f54, c1, c2, c3, c4, c5, c6]
  have hrg : rngLf x = true := by simp [rngLf, c1, c2, c3, c4, c5, c6]
  have hid : 1 ≤ x.id := by simp only [inn, Bool.and_eq_true, decide_eq_true_eq] at c1; omega
  have hsp : x.spac ≠ 0 := by simp only [inn, Bool.and_eq_true, decide_eq_true_eq] at c6; omega
  have hlo := leO_plain (p := p) hid
  simp only [inn] at c1 c2 c3 c4 c5 c6
  by_cases cp : x.id ≤ p.getD 0
  case pos =>
    have hE : liftE m p x = 7 := by simp [liftE, hrg, hlo, cp]
    rw [hE]
    simp [b36, f54, c1, c2, c3, c4, c5, c6, hr0, cp]
  by_cases r : (hasNd m x.fr && hasNd m x.to) = true
  case neg =>
    have r' : (hasNd m x.fr && hasNd m x.to) = false := by simpa using r
    have r2 : (hasNd m x.to && hasNd m x.fr) = false := by rw [Bool.and_comm]; exact r'
    have hE : liftE m p x = 8 := by simp [liftE, hrg, hlo, cp, risesE, r', r2]
    rw [hE]
    simp only [r'] at hr0
    simp [b36, f54, c1, c2, c3, c4, c5, c6, hr0, cp]
  have hup := up_plain hn r
  have r2 : (hasNd m x.to && hasNd m x.fr) = true := by rw [Bool.and_comm]; exact r
  simp only [r, hup] at hr0
  by_cases q : (findNd m x.to).alt ≤ (findNd m x.fr).alt
  case pos =>
    have q' : (findNd m x.to).alt - (findNd m x.fr).alt ≤ 0 := by omega
    have hE : liftE m p x = 11 := by simp only [liftE, hrg, hlo, cp, risesE, r, q]; simp
    rw [hE]
    simp [b36, f54, c1, c2, c3, c4, c5, c6, hr0, cp, q']
  have q' : ¬ ((findNd m x.to).alt - (findNd m x.fr).alt ≤ 0) := by omega
  have hR : risesE m x.fr x.to = 0 := by simp only [risesE, r, q]; simp
  have hE : liftE m p x = if carr x = true then 0 else 1 := by simp [liftE, hrg, hlo, cp, hR]
  rw [hE]
  by_cases t1 : (IntKind.i64.wrap (2 * x.len)).tmod x.spac = 0
  case neg =>
    have t1' : ((IntKind.i64.wrap (2 * x.len)).tmod x.spac == 0) = false := by simpa using t1
    simp [b36, f54, c1, c2, c3, c4, c5, c6, hr0, cp, q', hsp, t1, t1', carr]
  by_cases t2 : inn (IntKind.i64.wrap ((IntKind.i64.wrap (2 * x.len)).tdiv x.spac)) 1 200 = true
  case neg =>
    have t2' := t2
    simp only [inn] at t2'
    simp [b36, f54, c1, c2, c3, c4, c5, c6, hr0, cp, q', hsp, t1, t2', t2, carr]
  have t2' := t2
  simp only [inn] at t2'
  simp [b36, f54, c1, c2, c3, c4, c5, c6, hr0, cp, q', hsp, t1, t2', t2, carr]
theorem f37 (m : Mp) (hm : Okm m) (hn : nodesE none m.nodes = 0) (p : Option Int) (x : Rn) (K : List Vl → Prop) : FC F 37 [.v (.agg (eM m)), .v (.agg (eRn x)), vI (p.getD 0)] K ↔ K [.c (I (runE m p x))] := by
  rw [fc_run F37]
  have hr0 := f49 m x.fr x.to hm
  by_cases c1 : inn x.id 1 9999 = true
  case neg =>
    have hE : runE m p x = 2 := by simp [runE, rngRn, c1]
    rw [hE]
    simp only [inn] at c1
    simp [b37, f54, c1]
  by_cases c2 : inn x.op 1 8 = true
  case neg =>
    have hE : runE m p x = 2 := by simp [runE, rngRn, c1, c2]
    rw [hE]
    simp only [inn] at c1 c2
    simp [b37, f54, c1, c2]
  by_cases c3 : inn x.grade 1 4 = true
  case neg =>
    have hE : runE m p x = 2 := by simp [runE, rngRn, c1, c2, c3]
    rw [hE]
    simp only [inn] at c1 c2 c3
    simp [b37, f54, c1, c2, c3]
  by_cases c4 : inn x.zone 1 32 = true
  case neg =>
    have hE : runE m p x = 2 := by simp [runE, rngRn, c1, c2, c3, c4]
    rw [hE]
    simp only [inn] at c1 c2 c3 c4
    simp [b37, f54, c1, c2, c3, c4]
  by_cases c5 : inn x.len 10 20000 = true
  case neg =>
    have hE : runE m p x = 2 := by simp [runE, rngRn, c1, c2, c3, c4, c5]
    rw [hE]
    simp only [inn] at c1 c2 c3 c4 c5
    simp [b37, f54, c1, c2, c3, c4, c5]
  have hrg : rngRn x = true := by simp [rngRn, c1, c2, c3, c4, c5]
  have hid : 1 ≤ x.id := by simp only [inn, Bool.and_eq_true, decide_eq_true_eq] at c1; omega
  have hlo := leO_plain (p := p) hid
  simp only [inn] at c1 c2 c3 c4 c5
  by_cases cp : x.id ≤ p.getD 0
  case pos =>
    have hE : runE m p x = 7 := by simp [runE, hrg, hlo, cp]
    rw [hE]
    simp [b37, f54, c1, c2, c3, c4, c5, hr0, cp]
  by_cases r : (hasNd m x.fr && hasNd m x.to) = true
  case neg =>
    have r' : (hasNd m x.fr && hasNd m x.to) = false := by simpa using r
    have r2 : (hasNd m x.to && hasNd m x.fr) = false := by rw [Bool.and_comm]; exact r'
    have hE : runE m p x = 8 := by simp [runE, hrg, hlo, cp, risesE, r', r2]
    rw [hE]
    simp only [r'] at hr0
    simp [b37, f54, c1, c2, c3, c4, c5, hr0, cp]
  have hup := up_plain hn r
  have r2 : (hasNd m x.to && hasNd m x.fr) = true := by rw [Bool.and_comm]; exact r
  simp only [r, hup] at hr0
  by_cases q : (findNd m x.fr).alt ≤ (findNd m x.to).alt
  case pos =>
    have q' : 0 ≤ (findNd m x.to).alt - (findNd m x.fr).alt := by omega
    have hE : runE m p x = 11 := by simp only [runE, hrg, hlo, cp, risesE, r2, q]; simp
    rw [hE]
    simp [b37, f54, c1, c2, c3, c4, c5, hr0, cp, q]
  have q' : ¬ (0 ≤ (findNd m x.to).alt - (findNd m x.fr).alt) := by omega
  have hR : risesE m x.to x.fr = 0 := by simp only [risesE, r2, q]; simp
  have hE : runE m p x = 0 := by simp [runE, hrg, hlo, cp, hR]
  rw [hE]
  simp [b37, f54, c1, c2, c3, c4, c5, hr0, cp, q]
end Go.Proofs.Ytmbhpinkiffdgaa.Am
