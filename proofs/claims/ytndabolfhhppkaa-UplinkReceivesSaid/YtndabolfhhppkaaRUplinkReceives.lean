/- The row of the law UplinkReceives: for every input the law returns true, and each argument reads behind the call as it read before. No condition. -/
import Derived.Test.YtndabolfhhppkaaRows
import Derived.Test.YtndabolfhhppkaaUL
namespace Go.Proofs.Ytndabolfhhppkaa.uplinkReceives
open Go.ChangeShapes Go.WideShapes Go.ChangeAt Go.RowKit Go.Proofs.Ytndabolfhhppkaa.Am
theorem own : ownKnob Try.prog.godebug = none := by kernel_rfl
theorem laidOut : laidOutB Try.prog = true := by kernel_rfl
set_option maxRecDepth 100000 in
theorem lifted (os : Os) (started : os.Started) (H : Type) (enc : TypeId × Value → H) :
    ReturnsInHanded {} Try.checked os 4 .any (Rows.uplinkReceivesSpec.pre6 enc Try.prog Try.f4 Rows.uplinkReceivesRow.domain false) (Rows.uplinkReceivesSpec.post enc Try.prog Try.f4 false true false false) := by
  refine returnsInHanded_of_change_sized (C := Try.checked) own started (by kernel_rfl) Try.func4
    (ChangeSpec.witness6 (enc := enc) (C := Try.checked) false ⟨#[], #[.agg #[.int .i64 0, .int .i64 0, .slice none 0 0, .slice none 0 0], .agg #[.int .i64 0, .int .i64 0, .int .i64 0, .int .i64 0, .int .i64 0, .int .i64 0, .int .i64 0]], []⟩ 8 (by kernel_rfl) (by kernel_rfl) (by kernel_rfl) (by kernel_rfl)) ?_
  intro W base args ds gs before hval0 hW hcnd hsz0 _
  have hval : ∀ (j : Nat) (t : TypeId) (v : Value), Try.f4.params.toList[j]? = some t → args[j]? = some v → Value.okWide Try.prog W .any base t v := fun j t v ht hv => hval0 j t v (by simpa using ht) hv
  have hW' := hW
  obtain ⟨p, q, hA, hV, rfl, hfz, hnd⟩ := hW
  obtain ⟨rfl, rfl⟩ := trodVars_none hV
  obtain ⟨v0, vs0, d0, ds0, p0, q0, g0, rfl, k0, h0, r0⟩ := trodAll_cons (t := Try.f4.params.toList.getD 0 0) (ts := Try.f4.params.toList.drop 1) hA
  obtain ⟨v1, vs1, d1, ds1, p1, q1, g1, rfl, k1, h1, r1⟩ := trodAll_cons (t := Try.f4.params.toList.getD 1 0) (ts := Try.f4.params.toList.drop 2) r0
  obtain ⟨_, rfl, _⟩ := trodAll_nil r1
  refine (law_calls (tys := [tyI, tyRd]) F_ok (by kernel_rfl) special (by kernel_rfl) hval hA law4).mono fun e W' ⟨he, bel⟩ => ?_
  subst he
  exact ⟨_, rfl, _, _, _, [], _, [], hW', trodAll_mk1 (shut_bool (by kernel_rfl) _), trodAll_back laidOut bel (by kernel_rfl) hA, rfl, bel.frame _, fun h => by cases h⟩
theorem over : Rows.uplinkReceivesRow.holds Try.pinned (OpenSpec.ofChange Rows.uplinkReceivesSpec) :=
  OpenClaim.holds_of_wide 4 Try.f4 rfl rfl rfl rfl rfl rfl rfl ⟨rfl, rfl, rfl, rfl, rfl⟩ rfl rfl rfl rfl rfl (by kernel_rfl) Try.func4 (by kernel_rfl)
    (of_decide_eq_true (by kernel_rfl)) (by unfold Func.isWrapper; first | (rw [if_pos (by decide +kernel)]; kernel_rfl) | (rw [if_neg (by decide +kernel)]; exact ⟨rfl, rfl⟩))
    (fun os started H enc _ => lifted os started H enc)
theorem proved : Rows.UplinkReceivesSaid := over
end Go.Proofs.Ytndabolfhhppkaa.uplinkReceives
namespace Go.Proofs.Ytndabolfhhppkaa
/-- The row, under a short name, for the claim. -/
theorem uplinkReceives_holds : Rows.UplinkReceivesSaid := uplinkReceives.proved
end Go.Proofs.Ytndabolfhhppkaa
