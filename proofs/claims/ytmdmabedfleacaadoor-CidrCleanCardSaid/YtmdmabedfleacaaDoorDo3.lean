/- A part of the proof: contracts of functions, over the abstract machine. -/
import Derived.Test.YtmdmabedfleacaaDoorDo2
import Derived.Lib.ItoaLen
set_option linter.unusedVariables false
set_option linter.unusedSimpArgs false
set_option linter.all false
namespace Go.Proofs.YtmdmabedfleacaaDoor
open Ram Go

variable {W0 : World} {H : AH}

theorem dotted_len {a : Int} : (dotted a).length ≤ 15 := by
  have hle : ∀ x : Int, 0 ≤ x → x < 256 → (Lib.decDigits x.toNat).length ≤ 3 := fun x hx0 hx => by
    have := dec_len' 3 x.toNat (by omega)
    omega
  unfold dotted octs
  simp only [Lib.join, List.intercalate, List.intersperse, List.flatten_cons, List.length_append, List.length_cons, List.flatten_nil, List.length_nil]
  have := hle (a / 16777216 % 256) (by omega) (by omega)
  have := hle (a / 65536 % 256) (by omega) (by omega)
  have := hle (a / 256 % 256) (by omega) (by omega)
  have := hle (a % 256) (by omega) (by omega)
  omega

theorem dec_n {n : Nat} (h : n < 256) : (Lib.decDigits n).length ≤ 3 := by
  have := dec_len' 3 n (by omega)
  omega

/-- rampartref09.Dotted. -/
theorem f33 {a : Int} (h0 : 0 ≤ a) (h1 : a < 4294967296) : ACalls Tryd.prog W0 33 [.i .u32 a] H fun e H' => e = .ret (.s (dotted a)) ∧ H = H' := by
  refine acalls_in k33 (by simp) ?_
  have e : ∀ d : Int, 0 < d → a.fdiv d = a / d := fun d hd => Int.fdiv_eq_ediv_of_nonneg a (by omega)
  have s24 : a.fdiv (2 ^ min 24 IntKind.u32.bits) = a / 16777216 := by simp [IntKind.bits, e]
  have s16 : a.fdiv (2 ^ min 16 IntKind.u32.bits) = a / 65536 := by simp [IntKind.bits, e]
  have s8 : a.fdiv (2 ^ min 8 IntKind.u32.bits) = a / 256 := by simp [IntKind.bits, e]
  obtain ⟨n3, hn3⟩ : ∃ n : Nat, (n : Int) = a / 16777216 := ⟨(a / 16777216).toNat, by omega⟩
  obtain ⟨n2, hn2⟩ : ∃ n : Nat, (n : Int) = a / 65536 % 256 := ⟨(a / 65536 % 256).toNat, by omega⟩
  obtain ⟨n1, hn1⟩ : ∃ n : Nat, (n : Int) = a / 256 % 256 := ⟨(a / 256 % 256).toNat, by omega⟩
  obtain ⟨n0, hn0⟩ : ∃ n : Nat, (n : Int) = a % 256 := ⟨(a % 256).toNat, by omega⟩
  have a2 : andI .u32 (a / 65536) 255 = n2 := (and255 (by omega)).trans hn2.symm
  have a1 : andI .u32 (a / 256) 255 = n1 := (and255 (by omega)).trans hn1.symm
  have a0 : andI .u32 a 255 = n0 := (and255 (by omega)).trans hn0.symm
  have w3 : IntKind.i64.wrap (n3 : Int) = n3 := wrap_i64 (by omega) (by omega)
  have w2 : IntKind.i64.wrap (n2 : Int) = n2 := wrap_i64 (by omega) (by omega)
  have w1 : IntKind.i64.wrap (n1 : Int) = n1 := wrap_i64 (by omega) (by omega)
  have w0 : IntKind.i64.wrap (n0 : Int) = n0 := wrap_i64 (by omega) (by omega)
  have l3 := dec_n (n := n3) (by omega)
  have l2 := dec_n (n := n2) (by omega)
  have l1 := dec_n (n := n1) (by omega)
  have l0 := dec_n (n := n0) (by omega)
  simp -dsimp [s24, ← hn3, w3]
  refine (f44 n3 (by omega)).next ?_
  rintro _ rfl
  simp -dsimp
  rw [add_s (by simp; omega)]
  simp -dsimp [s16, a2, w2]
  refine (f44 n2 (by omega)).next ?_
  rintro _ rfl
  simp -dsimp
  rw [add_s (by simp; omega)]
  simp -dsimp
  rw [add_s (by simp; omega)]
  simp -dsimp [s8, a1, w1]
  refine (f44 n1 (by omega)).next ?_
  rintro _ rfl
  simp -dsimp
  rw [add_s (by simp; omega)]
  simp -dsimp
  rw [add_s (by simp; omega)]
  simp -dsimp [a0, w0]
  refine (f44 n0 (by omega)).next ?_
  rintro _ rfl
  simp -dsimp
  rw [add_s (by simp; omega)]
  simp -dsimp
  refine fin_mk ⟨?_, rfl⟩
  unfold dotted octs
  have e3 : (a / 16777216 % 256).toNat = n3 := by omega
  have e2 : (a / 65536 % 256).toNat = n2 := by omega
  have e1 : (a / 256 % 256).toNat = n1 := by omega
  have e0 : (a % 256).toNat = n0 := by omega
  rw [e3, e2, e1, e0]
  simp [Lib.join, List.intercalate, List.intersperse]

/-- rampartref21.dec. -/
theorem f36 {n : Int} (h0 : -9223372036854775807 ≤ n) (h1 : n ≤ 9223372036854775807) : ACalls Tryd.prog W0 36 [.i .i64 n] H fun e H' => e = .ret (.s (Lib.itoa n)) ∧ H = H' := by
  refine acalls_in k36 (by simp) ?_
  by_cases hn : n < 0
  · have hw : IntKind.i64.wrap (-n) = ((n.natAbs : Nat) : Int) := by rw [wrap_i64 (by omega) (by omega)]; omega
    simp -dsimp [hn, hw]
    refine (f44 n.natAbs (by omega)).next ?_
    rintro _ rfl
    have hl : (Lib.decDigits n.natAbs).length ≤ 19 := by
      have := dec_len' 19 n.natAbs (by omega)
      omega
    simp -dsimp
    rw [add_s (by simp; omega)]
    simp -dsimp
    refine fin_mk ⟨?_, rfl⟩
    unfold Lib.itoa
    rw [if_pos hn]
  · obtain ⟨m, rfl⟩ := Int.eq_ofNat_of_zero_le (show 0 ≤ n by omega)
    simp -dsimp [hn]
    refine (f44 m (by omega)).next ?_
    rintro _ rfl
    simp -dsimp
    refine fin_mk ⟨?_, rfl⟩
    rw [itoa_pos (by omega)]; rfl

/-- rampartlaw00.Digits. -/
theorem f34 {n : Nat} (h : n < 9223372036854775808) : ACalls Tryd.prog W0 34 [.i .i64 n] H fun e H' => e = .ret (.s (Lib.decDigits n)) ∧ H = H' := by
  refine acalls_in k34 (by simp) ?_
  simp -dsimp
  refine (f44 n h).next ?_
  rintro _ rfl
  simp -dsimp
  exact fin_mk ⟨rfl, rfl⟩

structure Tup.ok (t : Tup) : Prop where
  p0 : -9223372036854775808 ≤ t.p
  p1 : t.p ≤ 9223372036854775807
  s0 : 0 ≤ t.s
  s1 : t.s < 4294967296
  d0 : 0 ≤ t.d
  d1 : t.d < 4294967296
  a0 : -9223372036854775808 ≤ t.sp
  a1 : t.sp ≤ 9223372036854775807
  b0 : -9223372036854775808 ≤ t.dp
  b1 : t.dp ≤ 9223372036854775807

def ptext (p : Int) : List UInt8 := if p = 1 then [105, 99, 109, 112] else if p = 6 then [116, 99, 112] else if p = 17 then [117, 100, 112] else Lib.itoa p
def ttext (t : Tup) : List UInt8 := ptext t.p ++ ([32] ++ (dotted t.s ++ ([58] ++ (Lib.itoa t.sp ++ ([62] ++ (dotted t.d ++ ([58] ++ Lib.itoa t.dp)))))))
end Go.Proofs.YtmdmabedfleacaaDoor
