/- The statement EngineStops: a part of the frame of the law: facts on the given program that the kernel reckons; no conditions. -/
import Derived.Test.YtjaammiblfndaaaGreatDoorLEngineStopsA
import Derived.Test.YtjaammiblfndaaaGreatDoorFzTF
import Derived.Test.YtjaammiblfndaaaGreatDoorRows
import Derived.Test.YtjaammiblfndaaaGreatDoorTie
import Derived.Test.YtjaammiblfndaaaGreatDoorCards
import Derived.WalkKit
import Derived.ProofKit
import Derived.OpenShut
import Derived.LaidMore
import Derived.SevenTiedAt
import Derived.Lay
namespace Go.Proofs.YtjaammiblfndaaaGreatDoor.engineStops
open Go.ChangeShapes Go.WideShapes Go.ChangeAt Go.RowKit
set_option linter.all false

set_option maxRecDepth 100000 in
theorem lifted (os : Os) (started : os.Started) (H : Type) (enc : TypeId × Value → H) :
    ReturnsInHanded {} Tryz.checked os 4 .any (fun w args => (Rows.engineStopsSpec.pre enc Tryz.prog Tryz.f4 [] false w args ∧ laidMetH Tryz.prog listed w) ∧ sizedMet enc Tryz.prog Tryz.f4 (OpenSpec.ofChange Rows.engineStopsSpec) false w args) (Rows.engineStopsSpec.post enc Tryz.prog Tryz.f4 false true false false) :=
  Ram.law_lifted_laid (C := Tryz.checked) (n := 8) (tys := [.one (.i .i64), .one (.i .i64), .one (.i .i64)]) (tb := 4) own started z1 Tryz.func4
    (ChangeSpec.witness_shaped (enc := enc) (C := Tryz.checked) (os := os) (X := fun w _ => laidMetH Tryz.prog listed w) false (World.laidAll Tryz.prog os listed) #[.int .i64 0, .int .i64 0, .int .i64 0] 8 (World.laidAll_os _ _ _) (World.shaped_of_ZipB (z2 os) (z3 os)) (z4 os) (z5 os H enc) (z6 os H enc) (door_met os _))
    laid z7 rfl (fun ds h => by match ds, h with | [_, _, _], _ => rfl) (by kernel_rfl) (by kernel_rfl) Tryz.underlying4 (fun _ M args _ h => f4 M args h)

end Go.Proofs.YtjaammiblfndaaaGreatDoor.engineStops
