/- The statement EngineStops: a part of the frame of the law: facts on the given program that the kernel reckons; no conditions. -/
import Derived.Test.YtjaammiblfndaaaGreatDoorRows
import Derived.Test.YtjaammiblfndaaaGreatDoorTie
import Derived.Test.YtjaammiblfndaaaGreatDoorCards
import Derived.WalkKit
import Derived.ProofKit
import Derived.OpenShut
import Derived.LaidMore
import Derived.SevenTiedAt
import Derived.Lay
namespace Go.Proofs.YtjaammiblfndaaaGreatDoor.engineStops
open Go.ChangeShapes Go.WideShapes Go.ChangeAt Go.RowKit
set_option linter.all false

theorem own : ownKnob Tryz.prog.godebug = none := by kernel_rfl
theorem laid : laidOutB Tryz.prog = true := by kernel_rfl
def listed : List (String × DataW Unit) := [("unicode/utf8.acceptRanges", Rows.laid_unicode_utf8_acceptRanges), ("unicode.CaseRanges", Rows.laid_unicode_CaseRanges), ("unicode/utf8.first", Rows.laid_unicode_utf8_first)]

/-- The door's own heap meets the condition. -/
theorem door_met (os : Os) (args : Array Value) : laidMetH Tryz.prog listed ((World.laidAll Tryz.prog os listed).forCall (fun _ _ => 0) ⟨#[], args, []⟩).memory := by
  rw [MakeChecks.laidMetH_plain _ _ _ (by kernel_rfl)]
  exact laidMet_laidAll _ (by kernel_rfl) (by kernel_rfl)

theorem z1 : Tryz.checked.prog.inits.idxOf? 4 = none := by kernel_rfl
theorem z2 (os : Os) : World.variablesZipB Tryz.checked.prog ((World.laidAll Tryz.prog os listed).forCall (fun _ _ => 0) { blocks := #[], args := #[.int .i64 0, .int .i64 0, .int .i64 0] }) = true := by kernel_rfl
theorem z3 (os : Os) : List.take ((begin Tryz.checked.prog (fun _ _ => 0) default).world.heap.size - Tryz.checked.prog.globals.size) (List.drop Tryz.checked.prog.globals.size ((World.laidAll Tryz.prog os listed).forCall (fun _ _ => 0) { blocks := #[], args := #[.int .i64 0, .int .i64 0, .int .i64 0] }).heap.toList) = List.drop Tryz.checked.prog.globals.size (begin Tryz.checked.prog (fun _ _ => 0) default).world.heap.toList := by kernel_rfl
theorem z4 (os : Os) : Input.okWideB Tryz.checked.prog ((World.laidAll Tryz.prog os listed).forCall (fun _ _ => 0) { blocks := #[], args := #[.int .i64 0, .int .i64 0, .int .i64 0] }) 4 { blocks := #[], args := #[.int .i64 0, .int .i64 0, .int .i64 0] } = true := by kernel_rfl
theorem z5 (os : Os) (H : Type) (enc : TypeId × Value → H) : ChangeSpec.preB enc Tryz.checked.prog Tryz.f4 Rows.engineStopsSpec [] false ((World.laidAll Tryz.prog os listed).forCall (fun _ _ => 0) { blocks := #[], args := #[.int .i64 0, .int .i64 0, .int .i64 0] }).memory #[.int .i64 0, .int .i64 0, .int .i64 0] 8 = true := by kernel_rfl
theorem z6 (os : Os) (H : Type) (enc : TypeId × Value → H) : ChangeSpec.sizedB enc Tryz.checked.prog Tryz.f4 Rows.engineStopsSpec false ((World.laidAll Tryz.prog os listed).forCall (fun _ _ => 0) { blocks := #[], args := #[.int .i64 0, .int .i64 0, .int .i64 0] }).memory #[.int .i64 0, .int .i64 0, .int .i64 0] 8 = true := by kernel_rfl
theorem z7 : (Tryz.f4.params.toList.all fun t => Tryz.checked.prog.readableRec t && decide (t < Tryz.checked.prog.types.size)) = true := by kernel_rfl
end Go.Proofs.YtjaammiblfndaaaGreatDoor.engineStops
