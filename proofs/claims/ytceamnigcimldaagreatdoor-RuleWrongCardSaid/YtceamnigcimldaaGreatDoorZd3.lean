/- A part of the proof: contracts of functions, over the abstract machine. -/
import Derived.Test.YtceamnigcimldaaGreatDoorZd2
set_option linter.unusedVariables false
set_option linter.unusedSimpArgs false
set_option linter.all false
/- The example, run. -/
namespace Go.Proofs.YtceamnigcimldaaGreatDoor
open Ram Go
open Go.RowKit (Below)

variable {W0 : World} {H : AH}

theorem awake_run : toldTrue (call 25 [] AH.none) = true := by kernel_rfl
/-- rampartlaw11.awake. -/
theorem f25 : ACalls Tryz.prog W0 25 [] H fun e H' => e = .ret (.b true) ∧ H = H' :=
  acalls_anywhere rfl rfl fun _ _ => of_told call_ok awake_run
def tab2 (f : FuncId) : Option AFn := match Nat.beq f 25 with
  | true => none
  | false => tab.get f
theorem tab2_ok : ∀ f af, tab2 f = some af → compFn Tryz.prog f = some af := by
  intro f af h
  unfold tab2 at h
  split at h
  · cases h
  · exact FT.sound tab_ok f af h
def lib2 : FuncId → List V → AH → Option (AEnd × AH) := libOr lib (libSame 25 (.b true))
theorem lib2_ok : CallOk Tryz.prog W0 lib2 := libOr_ok lib_ok (libSame_ok fun _ => f25)
/-- Runs, the example being known. -/
def call2 : FuncId → List V → AH → Option (AEnd × AH) := evFn tab2 lib2 5000 30
theorem call2_ok : CallOk Tryz.prog W0 call2 := evFn_sound tab2_ok lib2_ok 30

def wrongEnv (a b k n : Int) : Env := (((((((initEnv 0 [.i .i64 a, .i .i64 b] .leaf).set 4 (.b false)).set 14 (.i .i64 a)).set 15 (.i .i64 k)).set 5 (.i .i64 k)).set 16 (.i .i64 b)).set 17 (.i .i64 n)).set 6 (.i .i64 n)
def wrongRest : ACode := match c5.code with
  | .seq _ (.seq _ (.seq _ r)) => r
  | _ => .skip
def wrongOk (a b : Int) (k n : Nat) : Bool := (evCode call2 5000 wrongRest (wrongEnv a b k n) AH.none).told c5.res
end Go.Proofs.YtceamnigcimldaaGreatDoor
