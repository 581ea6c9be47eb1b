/- The statement EngineStops: a part of the frame of the law: facts on the given program that the kernel reckons; no conditions. -/
import Derived.Test.YtjaammiblfndaaaGreatDoorRows
import Derived.Test.YtjaammiblfndaaaGreatDoorTie
import Derived.Test.YtjaammiblfndaaaGreatDoorCards
import Derived.WalkKit
import Derived.ProofKit
import Derived.OpenShut
import Derived.LaidMore
import Derived.SevenTiedAt
import Derived.Lay
namespace Go.Proofs.YtjaammiblfndaaaGreatDoor.engineStops
open Go.ChangeShapes Go.WideShapes Go.ChangeAt Go.RowKit
set_option linter.all false

/-- The tied card: what is asked of the program, the looks. -/
theorem p4 : true = Tryz.prog.looks [] := by kernel_rfl
end Go.Proofs.YtjaammiblfndaaaGreatDoor.engineStops
