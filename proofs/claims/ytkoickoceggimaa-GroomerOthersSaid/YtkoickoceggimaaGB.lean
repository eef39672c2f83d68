/- The examples of the chapter: they are as said. No condition. -/
import Derived.Test.YtkoickoceggimaaGA
namespace Go.Proofs.Ytkoickoceggimaa.Am
open Go

theorem f11 (K : List Vl → Prop) : FC F 11 [] K ↔ K [.c (B true)] := fc_ev (n := 5000) (by kernel_rfl) K
end Go.Proofs.Ytkoickoceggimaa.Am
