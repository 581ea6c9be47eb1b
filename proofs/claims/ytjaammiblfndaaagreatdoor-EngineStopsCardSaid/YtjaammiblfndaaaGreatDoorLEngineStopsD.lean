/- The statement EngineStops: a part of the frame of the law: facts on the given program that the kernel reckons; no conditions. -/
import Derived.Test.YtjaammiblfndaaaGreatDoorRows
import Derived.Test.YtjaammiblfndaaaGreatDoorTie
import Derived.Test.YtjaammiblfndaaaGreatDoorCards
import Derived.WalkKit
import Derived.ProofKit
import Derived.OpenShut
import Derived.LaidMore
import Derived.SevenTiedAt
import Derived.Lay
namespace Go.Proofs.YtjaammiblfndaaaGreatDoor.engineStops
open Go.ChangeShapes Go.WideShapes Go.ChangeAt Go.RowKit
set_option linter.all false

/-- The tied card: what is asked of the program. -/
theorem p1 : (Rows.engineStopsRow).wfByText (OpenSpec.ofChange Rows.engineStopsSpec) = true := by kernel_rfl
theorem p2 : Tryz.pinned.checked.prog.mainIs = some (Prod.fst (true, "9c6eb029d6082cabac06c190ebd65ca5cbd8a042b20c7029fd42d5d89c799ba4"), (Prod.snd (true, "9c6eb029d6082cabac06c190ebd65ca5cbd8a042b20c7029fd42d5d89c799ba4")).toList) := by kernel_rfl
theorem p3 : Tryz.prog.funcNamed "rampart/rampartlaw25.EngineStops" = some 4 := by kernel_rfl
theorem p5 : ([3, 3, 3].all fun u => !Tryz.prog.wantsStandIn u) = true := by kernel_rfl
end Go.Proofs.YtjaammiblfndaaaGreatDoor.engineStops
