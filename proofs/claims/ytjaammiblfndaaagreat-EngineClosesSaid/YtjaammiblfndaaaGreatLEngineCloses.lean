/- The statement EngineCloses: the law of the given program returns true for every input; no conditions. -/
import Derived.Test.YtjaammiblfndaaaGreatEzCF
import Derived.Test.YtjaammiblfndaaaGreatRows
import Derived.WalkKit
import Derived.ProofKit
import Derived.OpenShut
namespace Go.Proofs.YtjaammiblfndaaaGreat.engineCloses
open Go.ChangeShapes Go.WideShapes Go.ChangeAt Go.RowKit
set_option linter.all false

theorem own : ownKnob Tryz.prog.godebug = none := by kernel_rfl
theorem laid : laidOutB Tryz.prog = true := by kernel_rfl

set_option maxRecDepth 100000 in
theorem lifted (os : Os) (started : os.Started) (H : Type) (enc : TypeId × Value → H) :
    ReturnsInHanded {} Tryz.checked os 5 .any (Rows.engineClosesSpec.pre6 enc Tryz.prog Tryz.f5 Rows.engineClosesRow.domain false) (Rows.engineClosesSpec.post enc Tryz.prog Tryz.f5 false true false false) :=
  Ram.law_lifted (C := Tryz.checked) (n := 8) (tys := [.one (.i .i64), .one (.i .i64)]) (tb := 4) own started (by kernel_rfl) Tryz.func5
    (ChangeSpec.witness6 (enc := enc) (C := Tryz.checked) false ⟨#[], #[.int .i64 0, .int .i64 0], []⟩ 8 (by kernel_rfl) (by kernel_rfl) (by kernel_rfl) (by kernel_rfl))
    laid (by kernel_rfl) rfl (fun ds h => by match ds, h with | [_, _], _ => rfl) (by kernel_rfl) (by kernel_rfl) Tryz.underlying4 (fun _ M args h => Go.Proofs.YtjaammiblfndaaaGreat.f5 M args h)

theorem over : Rows.engineClosesRow.holds Tryz.pinned (OpenSpec.ofChange Rows.engineClosesSpec) :=
  OpenClaim.holds_of_wide 5 Tryz.f5 rfl rfl rfl rfl rfl rfl rfl ⟨rfl, rfl, rfl, rfl, rfl⟩ rfl rfl rfl rfl rfl (by kernel_rfl) Tryz.func5 (by kernel_rfl)
    (of_decide_eq_true (by kernel_rfl)) (by unfold Func.isWrapper; first | (rw [if_pos (by decide +kernel)]; kernel_rfl) | (rw [if_neg (by decide +kernel)]; exact ⟨rfl, rfl⟩))
    (fun os started H enc _ => lifted os started H enc)

/-- The statement. -/
theorem proved : Rows.EngineClosesSaid :=
  over
#print axioms proved
end Go.Proofs.YtjaammiblfndaaaGreat.engineCloses
