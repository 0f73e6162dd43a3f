/- What the texts of door rows import. -/
import Derived.Test.YtlfnlgbojbgcnaaGreatDoorPcl
import Derived.Test.YtlfnlgbojbgcnaaGreatDoorAxGl
import Derived.Test.YtlfnlgbojbgcnaaGreatDoorTie
import Derived.Test.YtlfnlgbojbgcnaaGreatDoorCards
import Derived.ProofKit
import Derived.LaidMore
import Derived.OpenShut
import Derived.Stop.Joined
import Derived.SevenTiedAt
namespace Go.Proofs.YtlfnlgbojbgcnaaGreatDoor
set_option linter.unusedVariables false
set_option linter.unusedSimpArgs false
theorem door : True := trivial
end Go.Proofs.YtlfnlgbojbgcnaaGreatDoor
