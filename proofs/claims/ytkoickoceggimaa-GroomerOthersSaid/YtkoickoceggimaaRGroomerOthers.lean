/- The row of the law GroomerOthers: for every input the law returns true, and each argument reads behind the call as it read before. No condition. -/
import Derived.Test.YtkoickoceggimaaRows
import Derived.Test.YtkoickoceggimaaHA
namespace Go.Proofs.Ytkoickoceggimaa.groomerOthers
open Go.ChangeShapes Go.WideShapes Go.ChangeAt Go.RowKit Go.Proofs.Ytkoickoceggimaa.Am
theorem own : ownKnob Try.prog.godebug = none := by kernel_rfl
theorem laidOut : laidOutB Try.prog = true := by kernel_rfl
set_option maxRecDepth 100000 in
theorem lifted (os : Os) (started : os.Started) (H : Type) (enc : TypeId × Value → H) :
    ReturnsInHanded {} Try.checked os 10 .any (Rows.groomerOthersSpec.pre6 enc Try.prog Try.f10 Rows.groomerOthersRow.domain false) (Rows.groomerOthersSpec.post enc Try.prog Try.f10 false true false false) := by
  refine returnsInHanded_of_change_sized (C := Try.checked) own started (by kernel_rfl) Try.func10
    (ChangeSpec.witness6 (enc := enc) (C := Try.checked) false ⟨#[], #[.agg #[.slice none 0 0, .slice none 0 0, .slice none 0 0, .slice none 0 0], .slice none 0 0, .int .i64 0, .int .i64 0, .int .i64 0, .int .i64 0, .agg #[.int .i64 0, .int .i64 0]], []⟩ 8 (by kernel_rfl) (by kernel_rfl) (by kernel_rfl) (by kernel_rfl)) ?_
  intro W base args ds gs before hval0 hW hcnd hsz0 _
  have hval : ∀ (j : Nat) (t : TypeId) (v : Value), Try.f10.params.toList[j]? = some t → args[j]? = some v → Value.okWide Try.prog W .any base t v := fun j t v ht hv => hval0 j t v (by simpa using ht) hv
  have hW' := hW
  obtain ⟨p, q, hA, hV, rfl, hfz, hnd⟩ := hW
  obtain ⟨rfl, rfl⟩ := trodVars_none hV
  obtain ⟨v0, vs0, d0, ds0, p0, q0, g0, rfl, k0, h0, r0⟩ := trodAll_cons (t := Try.f10.params.toList.getD 0 0) (ts := Try.f10.params.toList.drop 1) hA
  obtain ⟨v1, vs1, d1, ds1, p1, q1, g1, rfl, k1, h1, r1⟩ := trodAll_cons (t := Try.f10.params.toList.getD 1 0) (ts := Try.f10.params.toList.drop 2) r0
  obtain ⟨v2, vs2, d2, ds2, p2, q2, g2, rfl, k2, h2, r2⟩ := trodAll_cons (t := Try.f10.params.toList.getD 2 0) (ts := Try.f10.params.toList.drop 3) r1
  obtain ⟨v3, vs3, d3, ds3, p3, q3, g3, rfl, k3, h3, r3⟩ := trodAll_cons (t := Try.f10.params.toList.getD 3 0) (ts := Try.f10.params.toList.drop 4) r2
  obtain ⟨v4, vs4, d4, ds4, p4, q4, g4, rfl, k4, h4, r4⟩ := trodAll_cons (t := Try.f10.params.toList.getD 4 0) (ts := Try.f10.params.toList.drop 5) r3
  obtain ⟨v5, vs5, d5, ds5, p5, q5, g5, rfl, k5, h5, r5⟩ := trodAll_cons (t := Try.f10.params.toList.getD 5 0) (ts := Try.f10.params.toList.drop 6) r4
  obtain ⟨v6, vs6, d6, ds6, p6, q6, g6, rfl, k6, h6, r6⟩ := trodAll_cons (t := Try.f10.params.toList.getD 6 0) (ts := Try.f10.params.toList.drop 7) r5
  obtain ⟨_, rfl, _⟩ := trodAll_nil r6
  refine (law_calls (tys := [tyM, tyG, (false, [ti]), (false, [ti]), (false, [ti]), (false, [ti]), (true, [ti, ti])]) F_ok (by kernel_rfl) (by kernel_rfl) hval hA law10).mono fun e W' ⟨he, bel⟩ => ?_
  subst he
  exact ⟨_, rfl, _, _, _, [], _, [], hW', trodAll_mk1 (shut_bool (by kernel_rfl) _), trodAll_back laidOut bel (by kernel_rfl) hA, rfl, bel.frame _, fun h => by cases h⟩
theorem over : Rows.groomerOthersRow.holds Try.pinned (OpenSpec.ofChange Rows.groomerOthersSpec) :=
  OpenClaim.holds_of_wide 10 Try.f10 rfl rfl rfl rfl rfl rfl rfl ⟨rfl, rfl, rfl, rfl, rfl⟩ rfl rfl rfl rfl rfl (by kernel_rfl) Try.func10 (by kernel_rfl)
    (of_decide_eq_true (by kernel_rfl)) (by unfold Func.isWrapper; first | (rw [if_pos (by decide +kernel)]; kernel_rfl) | (rw [if_neg (by decide +kernel)]; exact ⟨rfl, rfl⟩))
    (fun os started H enc _ => lifted os started H enc)
theorem proved : Rows.GroomerOthersSaid := over
end Go.Proofs.Ytkoickoceggimaa.groomerOthers
namespace Go.Proofs.Ytkoickoceggimaa
/-- The row, under a short name, for the claim. -/
theorem groomerOthers_holds : Rows.GroomerOthersSaid := groomerOthers.proved
end Go.Proofs.Ytkoickoceggimaa
