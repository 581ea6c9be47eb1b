/- A part of the proof: contracts of functions, over the abstract machine. -/
import Derived.Test.YtmdmabedfleacaaDoorCi13
import Derived.Test.YtmdmabedfleacaaDoorDoTab
set_option linter.unusedVariables false
set_option linter.unusedSimpArgs false
set_option linter.all false
namespace Go.Proofs.YtmdmabedfleacaaDoor
open Ram Go
open Go.RowKit (Below)

variable {W0 : World} {H : AH}

theorem tab_up {W : World} (ht : Tab W0) (h : Below W0.heap.size W0 W) : Tab W := Lib.tabBelow_of_tabIs ht W h
def lib : FuncId → List V → AH → Option (AEnd × AH) := libOr (libItoa 35) (libOr (libJoin 43) (libSame 38 (.agg masksRow)))
theorem f38' : ACalls Tryd.prog W0 38 [] H fun e H' => e = .ret (.agg masksRow) ∧ H = H' :=
  acalls_anywhere rfl (by decide) fun _ _ => f38.mono fun _ _ h => h.1
theorem lib_ok (ht : Tab W0) : CallOk Tryd.prog W0 lib :=
  libOr_ok (libItoa_ok fun _ _ h0 h1 => f35 ht h0 h1) (libOr_ok (libJoin_ok fun _ _ _ _ _ _ hs hl hn => f43 hs hl hn) (libSame_ok fun _ => f38'))
/-- Runs of this program. -/
def call : FuncId → List V → AH → Option (AEnd × AH) := evFn tab.get lib 200 20
theorem call_ok (ht : Tab W0) : CallOk Tryd.prog W0 call := evFn_sound (FT.sound tab_ok) (lib_ok ht) 20

theorem many_run (n : Int) : ((List.range 7).all fun k => [true, false].all fun b =>
    (evCode call 200 (match c10.code with | .seq _ (.seq _ r) => r | _ => .skip) (((((initEnv 0 [.i .i64 n, .b b] .leaf).set 4 (.b false)).set 9 (.i .i64 n)).set 10 (.i .i64 k)).set 5 (.i .i64 k)) AH.none).told c10.res) = true := by kernel_rfl

/-- The law CidrMany. -/
theorem f10 (A : AH) (args : List V) (ht : Tab W0) (h : HasA A [.one (.i .i64), .one .b] args) : ACalls Tryd.prog W0 10 args A fun e _ => e = .ret (.b true) := by
  obtain ⟨n, _, rfl, hn, h⟩ := h.invi
  obtain ⟨b, _, rfl, h2⟩ := h.invb
  rw [h2.inv0]
  refine (acalls_anywhere (v := .b true) rfl rfl fun W hW => ?_).mono fun e H h => h.1
  have htW := tab_up ht hW
  refine acalls_of k10 (by simp) ?_
  rw [awp_assoc]
  refine awp_cut (fun env H => env = (((((initEnv 0 [.i .i64 n, .b b] .leaf).set 4 (.b false)).set 9 (.i .i64 n)).set 10 (.i .i64 (n % 7))).set 5 (.i .i64 (n % 7))) ∧ H = AH.none) ?_ ?_
  · simp -dsimp
    refine (f12 (by omega) (by omega)).next ?_
    rintro _ rfl
    simp -dsimp
    exact hold_mk ⟨rfl, rfl⟩
  · rintro _ _ ⟨rfl, rfl⟩
    obtain ⟨k, hk⟩ : ∃ k : Nat, n % 7 = k := ⟨(n % 7).toNat, by omega⟩
    have hk7 : k < 7 := by omega
    rw [hk]
    refine evCode_sound (rounds := 200) (call_ok htW) (post_told ?_)
    have := List.all_eq_true.1 (many_run n) k (List.mem_range.2 hk7)
    exact List.all_eq_true.1 this b (by cases b <;> simp)
end Go.Proofs.YtmdmabedfleacaaDoor
