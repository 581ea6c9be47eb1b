/- The statement EngineStops: a part of the frame of the law: facts on the given program that the kernel reckons; no conditions. -/
import Derived.Test.YtjaammiblfndaaaGreatDoorLEngineStopsB
import Derived.Test.YtjaammiblfndaaaGreatDoorFzTF
import Derived.Test.YtjaammiblfndaaaGreatDoorRows
import Derived.Test.YtjaammiblfndaaaGreatDoorTie
import Derived.Test.YtjaammiblfndaaaGreatDoorCards
import Derived.WalkKit
import Derived.ProofKit
import Derived.OpenShut
import Derived.LaidMore
import Derived.SevenTiedAt
import Derived.Lay
namespace Go.Proofs.YtjaammiblfndaaaGreatDoor.engineStops
open Go.ChangeShapes Go.WideShapes Go.ChangeAt Go.RowKit
set_option linter.all false

theorem band {a b : Bool} (h1 : a = true) (h2 : b = true) : (a && b) = true := by rw [h1, h2]; rfl
set_option maxHeartbeats 4000000 in
theorem joined : joinedFacts Tryz.prog 4 Tryz.f4 Rows.engineStopsSpec Rows.engineStopsRow = true := by
  unfold joinedFacts
  repeat' with_reducible refine band ?_ ?_
  all_goals first | with_reducible exact laid | as_aux_lemma => kernel_rfl
theorem over : Rows.engineStopsRow.holds Tryz.pinned (OpenSpec.ofChange Rows.engineStopsSpec) :=
  OpenClaim.holds_of_wide 4 Tryz.f4 rfl rfl rfl rfl rfl rfl rfl ⟨rfl, rfl, rfl, rfl, rfl⟩ rfl rfl rfl rfl rfl (by kernel_rfl) Tryz.func4 joined
    (of_decide_eq_true (by kernel_rfl)) (by unfold Func.isWrapper; first | (rw [if_pos (by decide +kernel)]; kernel_rfl) | (rw [if_neg (by decide +kernel)]; exact ⟨rfl, rfl⟩))
    (fun os started H enc _ => lifted os started H enc)

end Go.Proofs.YtjaammiblfndaaaGreatDoor.engineStops
