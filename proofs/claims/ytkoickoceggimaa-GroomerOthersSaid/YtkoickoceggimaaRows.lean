/-
  No cell of these rows narrows 'for every input' (looked for: loops, veiled, ifaces, maps, wideKeys, modest, calm, conditions, laid).
  DERIVED. THE GIVEN ROWS OF THIS SEAT. 8 by the template 'for every input the law returns true; each argument reads behind the call as it read before'; 0 by the template 'total and deterministic' (their statements: YtkoickoceggimaaTotals.lean).
  GIVEN WITH THE SEED: the statements are not yours to turn. If you find one false, say at which input.
  Laid BY PROGRAM, IN A SANDBOX (cutbox-rows.mjs): the forced cells as the released guide's own fill.sh prints them over the translation fe70d0c31e3162e1… (all of the seat's roots in one cut). By AI agents, Wed Nov 11 2026. No macro, syntax, notation, axiom, sorry.
-/
import Derived.Test.YtkoickoceggimaaChecked
import GoSem.Claim
import GoSem.ClaimJoined
import GoSem.ClaimMapViews
import Derived.JoinedTies
import Derived.KernelRfl
namespace Go.Proofs.Ytkoickoceggimaa
/- THE CELL 'sum', in the pinned program and in every row, IS THE sha256 OF THE DUMP (.gsa) THAT YtkoickoceggimaaProg.lean LOADS. Nothing in Lean hashes anything: it is a label: what it is worth is what the hold of that sum in a sandbox is worth. -/
noncomputable def Try.pinned : Pinned := { name := "ytkoickoceggimaa", sum := "fe70d0c31e3162e1fd4ed31a42cfdfd8e1b8278ad9880be51f39aec8beeaa441", checked := Try.checked }
namespace Rows
def none {H : Type} : Left H := { results := [], args := [] }

/-- 'skiarealaw45.GroomerChecks': WHATEVER THE INPUT: true; the input reads as it did. -/
def groomerChecksSpec : ChangeSpec := { name := "groomerChecks", fn := fun _ => fun
  | [d] => { results := [.lit (.bool true)], args := [d] }
  | _ => none }
def groomerChecksRow : OpenClaim := { program := "ytkoickoceggimaa", sum := "fe70d0c31e3162e1fd4ed31a42cfdfd8e1b8278ad9880be51f39aec8beeaa441", func := "skiarea/skiarealaw45.GroomerChecks", spec := "groomerChecks", unfollowed := true, recurses := true, apart := false }
def GroomerChecksSaid : Prop := groomerChecksRow.holds Try.pinned (OpenSpec.ofChange groomerChecksSpec)

/-- ITS FALSE NEIGHBOUR: 'it returns false'. Refute it at one input. -/
def groomerChecksWrong : ChangeSpec := { name := "groomerChecks", fn := fun _ => fun
  | [d] => { results := [.lit (.bool false)], args := [d] }
  | _ => none }
def GroomerChecksWrongFalsely : Prop := groomerChecksRow.holds Try.pinned (OpenSpec.ofChange groomerChecksWrong)

/-- 'skiarealaw45.GroomerWays': WHATEVER THE INPUT: true; the input reads as it did. -/
def groomerWaysSpec : ChangeSpec := { name := "groomerWays", fn := fun _ => fun
  | [d1, d2, d3] => { results := [.lit (.bool true)], args := [d1, d2, d3] }
  | _ => none }
def groomerWaysRow : OpenClaim := { program := "ytkoickoceggimaa", sum := "fe70d0c31e3162e1fd4ed31a42cfdfd8e1b8278ad9880be51f39aec8beeaa441", func := "skiarea/skiarealaw45.GroomerWays", spec := "groomerWays", unfollowed := true, recurses := true, apart := false }
def GroomerWaysSaid : Prop := groomerWaysRow.holds Try.pinned (OpenSpec.ofChange groomerWaysSpec)

/-- ITS FALSE NEIGHBOUR: 'it returns false'. Refute it at one input. -/
def groomerWaysWrong : ChangeSpec := { name := "groomerWays", fn := fun _ => fun
  | [d1, d2, d3] => { results := [.lit (.bool false)], args := [d1, d2, d3] }
  | _ => none }
def GroomerWaysWrongFalsely : Prop := groomerWaysRow.holds Try.pinned (OpenSpec.ofChange groomerWaysWrong)

/-- 'skiarealaw45.GroomerSends': WHATEVER THE INPUT: true; the input reads as it did. -/
def groomerSendsSpec : ChangeSpec := { name := "groomerSends", fn := fun _ => fun
  | [d1, d2, d3, d4, d5] => { results := [.lit (.bool true)], args := [d1, d2, d3, d4, d5] }
  | _ => none }
def groomerSendsRow : OpenClaim := { program := "ytkoickoceggimaa", sum := "fe70d0c31e3162e1fd4ed31a42cfdfd8e1b8278ad9880be51f39aec8beeaa441", func := "skiarea/skiarealaw45.GroomerSends", spec := "groomerSends", unfollowed := true, recurses := true, apart := false }
def GroomerSendsSaid : Prop := groomerSendsRow.holds Try.pinned (OpenSpec.ofChange groomerSendsSpec)

/-- ITS FALSE NEIGHBOUR: 'it returns false'. Refute it at one input. -/
def groomerSendsWrong : ChangeSpec := { name := "groomerSends", fn := fun _ => fun
  | [d1, d2, d3, d4, d5] => { results := [.lit (.bool false)], args := [d1, d2, d3, d4, d5] }
  | _ => none }
def GroomerSendsWrongFalsely : Prop := groomerSendsRow.holds Try.pinned (OpenSpec.ofChange groomerSendsWrong)

/-- 'skiarealaw45.GroomerGrooms': WHATEVER THE INPUT: true; the input reads as it did. -/
def groomerGroomsSpec : ChangeSpec := { name := "groomerGrooms", fn := fun _ => fun
  | [d1, d2, d3, d4, d5, d6] => { results := [.lit (.bool true)], args := [d1, d2, d3, d4, d5, d6] }
  | _ => none }
def groomerGroomsRow : OpenClaim := { program := "ytkoickoceggimaa", sum := "fe70d0c31e3162e1fd4ed31a42cfdfd8e1b8278ad9880be51f39aec8beeaa441", func := "skiarea/skiarealaw45.GroomerGrooms", spec := "groomerGrooms", unfollowed := true, recurses := true, apart := false }
def GroomerGroomsSaid : Prop := groomerGroomsRow.holds Try.pinned (OpenSpec.ofChange groomerGroomsSpec)

/-- ITS FALSE NEIGHBOUR: 'it returns false'. Refute it at one input. -/
def groomerGroomsWrong : ChangeSpec := { name := "groomerGrooms", fn := fun _ => fun
  | [d1, d2, d3, d4, d5, d6] => { results := [.lit (.bool false)], args := [d1, d2, d3, d4, d5, d6] }
  | _ => none }
def GroomerGroomsWrongFalsely : Prop := groomerGroomsRow.holds Try.pinned (OpenSpec.ofChange groomerGroomsWrong)

/-- 'skiarealaw45.GroomerTicks': WHATEVER THE INPUT: true; the input reads as it did. -/
def groomerTicksSpec : ChangeSpec := { name := "groomerTicks", fn := fun _ => fun
  | [d1, d2, d3, d4] => { results := [.lit (.bool true)], args := [d1, d2, d3, d4] }
  | _ => none }
def groomerTicksRow : OpenClaim := { program := "ytkoickoceggimaa", sum := "fe70d0c31e3162e1fd4ed31a42cfdfd8e1b8278ad9880be51f39aec8beeaa441", func := "skiarea/skiarealaw45.GroomerTicks", spec := "groomerTicks", unfollowed := true, recurses := true, apart := false }
def GroomerTicksSaid : Prop := groomerTicksRow.holds Try.pinned (OpenSpec.ofChange groomerTicksSpec)

/-- ITS FALSE NEIGHBOUR: 'it returns false'. Refute it at one input. -/
def groomerTicksWrong : ChangeSpec := { name := "groomerTicks", fn := fun _ => fun
  | [d1, d2, d3, d4] => { results := [.lit (.bool false)], args := [d1, d2, d3, d4] }
  | _ => none }
def GroomerTicksWrongFalsely : Prop := groomerTicksRow.holds Try.pinned (OpenSpec.ofChange groomerTicksWrong)

/-- 'skiarealaw45.GroomerTimes': WHATEVER THE INPUT: true; the input reads as it did. -/
def groomerTimesSpec : ChangeSpec := { name := "groomerTimes", fn := fun _ => fun
  | [d1, d2, d3, d4, d5, d6, d7] => { results := [.lit (.bool true)], args := [d1, d2, d3, d4, d5, d6, d7] }
  | _ => none }
def groomerTimesRow : OpenClaim := { program := "ytkoickoceggimaa", sum := "fe70d0c31e3162e1fd4ed31a42cfdfd8e1b8278ad9880be51f39aec8beeaa441", func := "skiarea/skiarealaw45.GroomerTimes", spec := "groomerTimes", unfollowed := true, recurses := true, apart := false }
def GroomerTimesSaid : Prop := groomerTimesRow.holds Try.pinned (OpenSpec.ofChange groomerTimesSpec)

/-- ITS FALSE NEIGHBOUR: 'it returns false'. Refute it at one input. -/
def groomerTimesWrong : ChangeSpec := { name := "groomerTimes", fn := fun _ => fun
  | [d1, d2, d3, d4, d5, d6, d7] => { results := [.lit (.bool false)], args := [d1, d2, d3, d4, d5, d6, d7] }
  | _ => none }
def GroomerTimesWrongFalsely : Prop := groomerTimesRow.holds Try.pinned (OpenSpec.ofChange groomerTimesWrong)

/-- 'skiarealaw45.GroomerWay': WHATEVER THE INPUT: true; the input reads as it did. -/
def groomerWaySpec : ChangeSpec := { name := "groomerWay", fn := fun _ => fun
  | [d1, d2, d3, d4] => { results := [.lit (.bool true)], args := [d1, d2, d3, d4] }
  | _ => none }
def groomerWayRow : OpenClaim := { program := "ytkoickoceggimaa", sum := "fe70d0c31e3162e1fd4ed31a42cfdfd8e1b8278ad9880be51f39aec8beeaa441", func := "skiarea/skiarealaw45.GroomerWay", spec := "groomerWay", unfollowed := true, recurses := true, apart := false }
def GroomerWaySaid : Prop := groomerWayRow.holds Try.pinned (OpenSpec.ofChange groomerWaySpec)

/-- ITS FALSE NEIGHBOUR: 'it returns false'. Refute it at one input. -/
def groomerWayWrong : ChangeSpec := { name := "groomerWay", fn := fun _ => fun
  | [d1, d2, d3, d4] => { results := [.lit (.bool false)], args := [d1, d2, d3, d4] }
  | _ => none }
def GroomerWayWrongFalsely : Prop := groomerWayRow.holds Try.pinned (OpenSpec.ofChange groomerWayWrong)

/-- 'skiarealaw45.GroomerOthers': WHATEVER THE INPUT: true; the input reads as it did. -/
def groomerOthersSpec : ChangeSpec := { name := "groomerOthers", fn := fun _ => fun
  | [d1, d2, d3, d4, d5, d6, d7] => { results := [.lit (.bool true)], args := [d1, d2, d3, d4, d5, d6, d7] }
  | _ => none }
def groomerOthersRow : OpenClaim := { program := "ytkoickoceggimaa", sum := "fe70d0c31e3162e1fd4ed31a42cfdfd8e1b8278ad9880be51f39aec8beeaa441", func := "skiarea/skiarealaw45.GroomerOthers", spec := "groomerOthers", unfollowed := true, recurses := true, apart := false }
def GroomerOthersSaid : Prop := groomerOthersRow.holds Try.pinned (OpenSpec.ofChange groomerOthersSpec)

/-- ITS FALSE NEIGHBOUR: 'it returns false'. Refute it at one input. -/
def groomerOthersWrong : ChangeSpec := { name := "groomerOthers", fn := fun _ => fun
  | [d1, d2, d3, d4, d5, d6, d7] => { results := [.lit (.bool false)], args := [d1, d2, d3, d4, d5, d6, d7] }
  | _ => none }
def GroomerOthersWrongFalsely : Prop := groomerOthersRow.holds Try.pinned (OpenSpec.ofChange groomerOthersWrong)

/- THE SECOND FORM. 'bulk': how many values and letters a reading holds, each counted each time it is reached (what is shared counts as often as it is met; a slice's spare places count too). A statement '..UptoSaid' is the law's where the arguments, and the package variables that the reading takes, are together of bulk at most 1048576: NARROWER than '..Said'. Prove '..Said' where nothing that the law and all that it calls make is longer than what came in: it says more and counts as full. Else prove '..UptoSaid'. A law counts once. -/
mutual
def uptoBulk {H : Type} : DataW H → Nat
  | .lit (.string bytes) => bytes.length + 1
  | .lit _ => 1
  | .nil => 1
  | .ptr d => uptoBulk d + 1
  | .slice elems spare => uptoBulkAll elems + uptoBulkAll spare + 1
  | .agg parts => uptoBulkAll parts + 1
  | .iface _ d => uptoBulk d + 1
  | .map entries => uptoBulkEntries entries + 1
  | .held _ => 1
def uptoBulkAll {H : Type} : List (DataW H) → Nat
  | [] => 0
  | d :: r => uptoBulk d + uptoBulkAll r
def uptoBulkEntries {H : Type} : List (Lit × DataW H) → Nat
  | [] => 0
  | x :: r => uptoBulkEntry x + uptoBulkEntries r
def uptoBulkEntry {H : Type} : Lit × DataW H → Nat
  | (.string bytes, d) => bytes.length + uptoBulk d + 1
  | (_, d) => uptoBulk d + 1
 end
def uptoSmall : (H : Type) → List (DataW H) → Bool := fun _ ds => decide (uptoBulkAll ds ≤ 1048576)
def OpenSpec.upto (s : _root_.Go.ChangeSpec) : _root_.Go.OpenSpec := { _root_.Go.OpenSpec.ofChange s with cond := some uptoSmall }

/-- 'skiarealaw45.GroomerChecks', WHERE WHAT IT READS IS OF BULK AT MOST 1048576: true; the input reads as it did. -/
def groomerChecksUptoRow : OpenClaim := { program := "ytkoickoceggimaa", sum := "fe70d0c31e3162e1fd4ed31a42cfdfd8e1b8278ad9880be51f39aec8beeaa441", func := "skiarea/skiarealaw45.GroomerChecks", spec := "groomerChecks", unfollowed := true, recurses := true, apart := false, narrowed := true }
def GroomerChecksUptoSaid : Prop := groomerChecksUptoRow.holds Try.pinned (OpenSpec.upto groomerChecksSpec)

/-- 'skiarealaw45.GroomerWays', WHERE WHAT IT READS IS OF BULK AT MOST 1048576: true; the input reads as it did. -/
def groomerWaysUptoRow : OpenClaim := { program := "ytkoickoceggimaa", sum := "fe70d0c31e3162e1fd4ed31a42cfdfd8e1b8278ad9880be51f39aec8beeaa441", func := "skiarea/skiarealaw45.GroomerWays", spec := "groomerWays", unfollowed := true, recurses := true, apart := false, narrowed := true }
def GroomerWaysUptoSaid : Prop := groomerWaysUptoRow.holds Try.pinned (OpenSpec.upto groomerWaysSpec)

/-- 'skiarealaw45.GroomerSends', WHERE WHAT IT READS IS OF BULK AT MOST 1048576: true; the input reads as it did. -/
def groomerSendsUptoRow : OpenClaim := { program := "ytkoickoceggimaa", sum := "fe70d0c31e3162e1fd4ed31a42cfdfd8e1b8278ad9880be51f39aec8beeaa441", func := "skiarea/skiarealaw45.GroomerSends", spec := "groomerSends", unfollowed := true, recurses := true, apart := false, narrowed := true }
def GroomerSendsUptoSaid : Prop := groomerSendsUptoRow.holds Try.pinned (OpenSpec.upto groomerSendsSpec)

/-- 'skiarealaw45.GroomerGrooms', WHERE WHAT IT READS IS OF BULK AT MOST 1048576: true; the input reads as it did. -/
def groomerGroomsUptoRow : OpenClaim := { program := "ytkoickoceggimaa", sum := "fe70d0c31e3162e1fd4ed31a42cfdfd8e1b8278ad9880be51f39aec8beeaa441", func := "skiarea/skiarealaw45.GroomerGrooms", spec := "groomerGrooms", unfollowed := true, recurses := true, apart := false, narrowed := true }
def GroomerGroomsUptoSaid : Prop := groomerGroomsUptoRow.holds Try.pinned (OpenSpec.upto groomerGroomsSpec)

/-- 'skiarealaw45.GroomerTicks', WHERE WHAT IT READS IS OF BULK AT MOST 1048576: true; the input reads as it did. -/
def groomerTicksUptoRow : OpenClaim := { program := "ytkoickoceggimaa", sum := "fe70d0c31e3162e1fd4ed31a42cfdfd8e1b8278ad9880be51f39aec8beeaa441", func := "skiarea/skiarealaw45.GroomerTicks", spec := "groomerTicks", unfollowed := true, recurses := true, apart := false, narrowed := true }
def GroomerTicksUptoSaid : Prop := groomerTicksUptoRow.holds Try.pinned (OpenSpec.upto groomerTicksSpec)

/-- 'skiarealaw45.GroomerTimes', WHERE WHAT IT READS IS OF BULK AT MOST 1048576: true; the input reads as it did. -/
def groomerTimesUptoRow : OpenClaim := { program := "ytkoickoceggimaa", sum := "fe70d0c31e3162e1fd4ed31a42cfdfd8e1b8278ad9880be51f39aec8beeaa441", func := "skiarea/skiarealaw45.GroomerTimes", spec := "groomerTimes", unfollowed := true, recurses := true, apart := false, narrowed := true }
def GroomerTimesUptoSaid : Prop := groomerTimesUptoRow.holds Try.pinned (OpenSpec.upto groomerTimesSpec)

/-- 'skiarealaw45.GroomerWay', WHERE WHAT IT READS IS OF BULK AT MOST 1048576: true; the input reads as it did. -/
def groomerWayUptoRow : OpenClaim := { program := "ytkoickoceggimaa", sum := "fe70d0c31e3162e1fd4ed31a42cfdfd8e1b8278ad9880be51f39aec8beeaa441", func := "skiarea/skiarealaw45.GroomerWay", spec := "groomerWay", unfollowed := true, recurses := true, apart := false, narrowed := true }
def GroomerWayUptoSaid : Prop := groomerWayUptoRow.holds Try.pinned (OpenSpec.upto groomerWaySpec)

/-- 'skiarealaw45.GroomerOthers', WHERE WHAT IT READS IS OF BULK AT MOST 1048576: true; the input reads as it did. -/
def groomerOthersUptoRow : OpenClaim := { program := "ytkoickoceggimaa", sum := "fe70d0c31e3162e1fd4ed31a42cfdfd8e1b8278ad9880be51f39aec8beeaa441", func := "skiarea/skiarealaw45.GroomerOthers", spec := "groomerOthers", unfollowed := true, recurses := true, apart := false, narrowed := true }
def GroomerOthersUptoSaid : Prop := groomerOthersUptoRow.holds Try.pinned (OpenSpec.upto groomerOthersSpec)

end Rows
end Go.Proofs.Ytkoickoceggimaa
