/- The statement EngineStops: the law of the given program returns true for every input, the listed variables reading as the program's text lays them (the card ties these); no other conditions. -/
import Derived.Test.YtjaammiblfndaaaGreatDoorLEngineStopsC
import Derived.Test.YtjaammiblfndaaaGreatDoorLEngineStopsD
import Derived.Test.YtjaammiblfndaaaGreatDoorLEngineStopsE
import Derived.Test.YtjaammiblfndaaaGreatDoorLEngineStopsF
import Derived.Test.YtjaammiblfndaaaGreatDoorFzTF
import Derived.Test.YtjaammiblfndaaaGreatDoorRows
import Derived.Test.YtjaammiblfndaaaGreatDoorTie
import Derived.Test.YtjaammiblfndaaaGreatDoorCards
import Derived.WalkKit
import Derived.ProofKit
import Derived.OpenShut
import Derived.LaidMore
import Derived.SevenTiedAt
import Derived.Lay
namespace Go.Proofs.YtjaammiblfndaaaGreatDoor.engineStops
open Go.ChangeShapes Go.WideShapes Go.ChangeAt Go.RowKit
set_option linter.all false

/-- The tied card. -/
theorem proved : Rows.EngineStopsCardSaid :=
  Claim7.holds_tied_plain_at .later [] [.data, .pinned, .pinned] true (true, "9c6eb029d6082cabac06c190ebd65ca5cbd8a042b20c7029fd42d5d89c799ba4") true
    over (fun _ h => by cases h) p1 (fun _ h => by cases h) engineStops_row_tie rfl ⟨rfl, rfl⟩ p2 rfl
    (fun f fn hf hfn => by
      obtain rfl : f = 4 := Option.some.inj (p3.symm.trans hf) |>.symm
      obtain rfl : fn = Tryz.f4 := (Option.some.inj (Tryz.func4.symm.trans hfn)).symm
      exact ⟨p4, fun j t ht => by
        rw [Tryz.params4] at ht
        have hm : t ∈ [3, 3, 3] := by simpa using Array.mem_of_getElem? ht
        exact (show Tryz.prog.wantsStandIn t = false by simpa using List.all_eq_true.1 p5 t hm)⟩)
    p6
#print axioms proved
end Go.Proofs.YtjaammiblfndaaaGreatDoor.engineStops
