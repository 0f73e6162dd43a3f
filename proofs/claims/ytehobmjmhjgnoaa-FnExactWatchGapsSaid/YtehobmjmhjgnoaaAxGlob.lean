/- The package variables: none is leant on. -/
import Derived.Test.YtehobmjmhjgnoaaProg
import Derived.WalkKit
namespace Go.Proofs.Ytehobmjmhjgnoaa
/-- The blocks of the package variables that are leant on; what they hold. -/
def NG : Nat := 0
def GF (_ : Nat → Option Go.Obj) : Prop := True
end Go.Proofs.Ytehobmjmhjgnoaa
