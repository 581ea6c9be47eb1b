/- A part of the proof: contracts of functions, over the abstract machine. -/
import Derived.Test.YtjaammiblfndaaaGreatDoorFxl
set_option linter.unusedVariables false
set_option linter.unusedSimpArgs false
set_option linter.all false
/- Short words for annotated code. -/
namespace Ram
open Go
instance instX (n : Nat) : OfNat X n := ⟨.t n⟩
instance instV (n : Nat) : OfNat V n := ⟨.i .i64 (Int.ofNat n)⟩
section
variable {P : Program}
def mM (d n : Nat) : SOper P := ⟨some d, .pure (.mv (.t n)), none⟩
def mK (d : Nat) (v : V) : SOper P := ⟨some d, .pure (.mv (.c v)), none⟩
def mB (o : BinOp) (d : Nat) (x y : X) : SOper P := ⟨some d, .pure (.bin o x y), none⟩
def mF (k d : Nat) (x : X) : SOper P := ⟨some d, .pure (.fieldAddr k x), none⟩
def mU (d : Nat) (o : PureOp) : SOper P := ⟨some d, .pure o, none⟩
def mL (d : Nat) (x : X) : SOper P := ⟨some d, .read (.ld1 x), none⟩
def mR (d : Nat) (o : ReadOp) : SOper P := ⟨some d, .read o, none⟩
def mN (d : Nat) (o : AllocOp) : SOper P := ⟨some d, .alloc o, none⟩
def mZ (o : ActOp) : SOper P := ⟨none, .act o, none⟩
def mY (d : Nat) (o : ActOp) : SOper P := ⟨some d, .act o, none⟩
def mQ (d f : Nat) (xs : List X) (c : RunF P f) : SOper P := ⟨some d, .call f xs c, none⟩
def mV (d : Nat) (g : X) (xs : List X) (l : List (Alt P)) (ys : List (YAlt P)) : SOper P := ⟨some d, .callV g xs l ys, none⟩
def SOper.g (o : SOper P) (d : Nat) (b : Bool) : SOper P := { o with guard := some (d, b) }
end
end Ram
