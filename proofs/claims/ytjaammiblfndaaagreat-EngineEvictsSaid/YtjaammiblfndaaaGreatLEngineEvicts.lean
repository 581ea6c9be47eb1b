/- The statement EngineEvicts: the law of the given program returns true for every input; no conditions. -/
import Derived.Test.YtjaammiblfndaaaGreatEzEF
import Derived.Test.YtjaammiblfndaaaGreatRows
import Derived.WalkKit
import Derived.ProofKit
import Derived.OpenShut
namespace Go.Proofs.YtjaammiblfndaaaGreat.engineEvicts
open Go.ChangeShapes Go.WideShapes Go.ChangeAt Go.RowKit
set_option linter.all false

theorem own : ownKnob Tryz.prog.godebug = none := by kernel_rfl
theorem laid : laidOutB Tryz.prog = true := by kernel_rfl

set_option maxRecDepth 100000 in
theorem lifted (os : Os) (started : os.Started) (H : Type) (enc : TypeId × Value → H) :
    ReturnsInHanded {} Tryz.checked os 6 .any (Rows.engineEvictsSpec.pre6 enc Tryz.prog Tryz.f6 Rows.engineEvictsRow.domain false) (Rows.engineEvictsSpec.post enc Tryz.prog Tryz.f6 false true false false) :=
  Ram.law_lifted (C := Tryz.checked) (n := 8) (tys := [.one (.i .i64), .one (.i .i64)]) (tb := 4) own started (by kernel_rfl) Tryz.func6
    (ChangeSpec.witness6 (enc := enc) (C := Tryz.checked) false ⟨#[], #[.int .i64 0, .int .i64 0], []⟩ 8 (by kernel_rfl) (by kernel_rfl) (by kernel_rfl) (by kernel_rfl))
    laid (by kernel_rfl) rfl (fun ds h => by match ds, h with | [_, _], _ => rfl) (by kernel_rfl) (by kernel_rfl) Tryz.underlying4 (fun _ M args h => Go.Proofs.YtjaammiblfndaaaGreat.f6 M args h)

theorem over : Rows.engineEvictsRow.holds Tryz.pinned (OpenSpec.ofChange Rows.engineEvictsSpec) :=
  OpenClaim.holds_of_wide 6 Tryz.f6 rfl rfl rfl rfl rfl rfl rfl ⟨rfl, rfl, rfl, rfl, rfl⟩ rfl rfl rfl rfl rfl (by kernel_rfl) Tryz.func6 (by kernel_rfl)
    (of_decide_eq_true (by kernel_rfl)) (by unfold Func.isWrapper; first | (rw [if_pos (by decide +kernel)]; kernel_rfl) | (rw [if_neg (by decide +kernel)]; exact ⟨rfl, rfl⟩))
    (fun os started H enc _ => lifted os started H enc)

/-- The statement. -/
theorem proved : Rows.EngineEvictsSaid :=
  over
#print axioms proved
end Go.Proofs.YtjaammiblfndaaaGreat.engineEvicts
