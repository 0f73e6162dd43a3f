/- Contracts: the buoys that mark the sides of channels; the law. -/
import Derived.Test.YtffkcjcaeppboacGreatDoorGsm
namespace Go.Proofs.YtffkcjcaeppboacGreatDoor
open Go Go.RowKit Classical
set_option maxRecDepth 100000
set_option maxHeartbeats 2000000
set_option linter.unusedVariables false
set_option linter.unusedSimpArgs false
structure Buo where
  atX : Int
  atY : Int
  kind : Int
def Buo.cs (v : Buo) : List AV := [.int .i64 v.atX, .int .i64 v.atY, .int .i64 v.kind]
theorem NoB.oBuo (v : Buo) : NoB (.agg v.cs) := (.aggC (.int _ _) (.aggC (.int _ _) (.aggC (.int _ _) .agg0)))
def buoLI (p : List Buo × Int) : AV := .tup [.sl true 3 (p.1.map Buo.cs), .int .i64 p.2]
theorem NoB.buoLI (p : List Buo × Int) : NoB (buoLI p) := .tupC (.rows .oBuo) (.tupC (.int _ _) .tup0)
set_option maxHeartbeats 4000000
end Go.Proofs.YtffkcjcaeppboacGreatDoor
