/- A part of the proof: contracts of functions, over the abstract machine. -/
import Derived.Test.YtmdmabedfleacaaDoorCi14
set_option linter.unusedVariables false
set_option linter.unusedSimpArgs false
set_option linter.all false
namespace Go.Proofs.YtmdmabedfleacaaDoor
open Ram Go

variable {W0 : World} {H : AH}

theorem or_u32 {a b : Int} (h0 : 0 ≤ a) (h1 : a < 4294967296) (g0 : 0 ≤ b) (g1 : b < 4294967296) : orI .u32 a b = ((a.toNat ||| b.toNat : Nat) : Int) := by
  rw [or_eq]
  show IntKind.u32.wrap (BitVec.ofInt 32 a ||| BitVec.ofInt 32 b).toNat = _
  rw [BitVec.toNat_or, ofInt32 h0 h1, ofInt32 g0 g1]
  have : a.toNat ||| b.toNat < 2 ^ 32 := Nat.or_lt_two_pow (by omega) (by omega)
  exact wrap_u32 (by omega) (by omega)
theorem or_add {n m : Nat} {k : Nat} (h : m < 2 ^ k) (hn : n * 2 ^ k + m < 4294967296) : orI .u32 ((n * 2 ^ k : Nat) : Int) (m : Int) = ((n * 2 ^ k + m : Nat) : Int) := by
  rw [or_u32 (by omega) (by omega) (by omega) (by omega)]
  rw [Int.toNat_natCast, Int.toNat_natCast, ← Nat.shiftLeft_eq, ← Nat.shiftLeft_add_eq_or_of_lt h, Nat.shiftLeft_eq]

theorem one_clean {v : Int} (h0 : 0 ≤ v) : cleanL [⟨v, 32⟩] = [⟨v, 32⟩] := by
  have hc : cut1 ⟨v, 32⟩ = ⟨v, 32⟩ := by unfold cut1 top; simp
  have hok : okSet [(⟨v, 32⟩ : Net)] = true := by simp [okSet, okBits]
  unfold cleanL
  rw [hok]
  simp only [if_true, cleanTo, List.length_singleton, List.take_succ_cons, List.take_zero, List.zipIdx_singleton]
  have hg : goesB [(⟨v, 32⟩ : Net)] ⟨v, 32⟩ 0 = false := by
    refine goesB_false fun k hk => ?_
    have : k = 0 := by simpa using hk
    subst this
    simp [goK]
  simp [hg, hc]

/-- The law CidrDotted. -/
theorem f11 (A : AH) (args : List V) (ht : Tab W0) (h : HasA A [.one (.i .i64), .one (.i .i64), .one (.i .i64), .one (.i .i64)] args) : ACalls Tryd.prog W0 11 args A fun e _ => e = .ret (.b true) := by
  obtain ⟨a, _, rfl, _, h⟩ := h.invi
  obtain ⟨b, _, rfl, _, h⟩ := h.invi
  obtain ⟨c, _, rfl, _, h⟩ := h.invi
  obtain ⟨d, _, rfl, _, h⟩ := h.invi
  rw [h.inv0]
  obtain ⟨x, hx⟩ : ∃ x : Nat, a % 256 = x := ⟨(a % 256).toNat, by omega⟩
  obtain ⟨y, hy⟩ : ∃ y : Nat, b % 256 = y := ⟨(b % 256).toNat, by omega⟩
  obtain ⟨z, hz⟩ : ∃ z : Nat, c % 256 = z := ⟨(c % 256).toNat, by omega⟩
  obtain ⟨w, hw⟩ : ∃ w : Nat, d % 256 = w := ⟨(d % 256).toNat, by omega⟩
  have bx : x < 256 := by omega
  have bY : y < 256 := by omega
  have bz : z < 256 := by omega
  have bw : w < 256 := by omega
  refine acalls_in k11 (by simp) ?_
  simp -dsimp
  refine (f12 (by omega) (by omega)).next ?_
  rintro _ rfl
  simp -dsimp
  refine (f12 (by omega) (by omega)).next ?_
  rintro _ rfl
  simp -dsimp
  refine (f12 (by omega) (by omega)).next ?_
  rintro _ rfl
  simp -dsimp
  refine (f12 (by omega) (by omega)).next ?_
  rintro _ rfl
  rw [hx, hy, hz, hw]
  have c1 : ∀ n : Nat, n < 256 → IntKind.u32.wrap (n : Int) = n := fun n hn => wrap_u32 (by omega) (by omega)
  have e1 : IntKind.u32.wrap ((x : Int) * 2 ^ min 24 IntKind.u32.bits) = ((x * 2 ^ 24 : Nat) : Int) := by
    rw [show min 24 IntKind.u32.bits = 24 by decide, wrap_u32 (by omega) (by omega)]; simp
  have e2 : IntKind.u32.wrap ((y : Int) * 2 ^ min 16 IntKind.u32.bits) = ((y * 2 ^ 16 : Nat) : Int) := by
    rw [show min 16 IntKind.u32.bits = 16 by decide, wrap_u32 (by omega) (by omega)]; simp
  have e3 : IntKind.u32.wrap ((z : Int) * 2 ^ min 8 IntKind.u32.bits) = ((z * 2 ^ 8 : Nat) : Int) := by
    rw [show min 8 IntKind.u32.bits = 8 by decide, wrap_u32 (by omega) (by omega)]; simp
  have o1 : orI .u32 ((x * 2 ^ 24 : Nat) : Int) ((y * 2 ^ 16 : Nat) : Int) = (((x * 256 + y) * 2 ^ 16 : Nat) : Int) := by
    rw [or_add (by omega) (by omega)]; omega
  have o2 : orI .u32 (((x * 256 + y) * 2 ^ 16 : Nat) : Int) ((z * 2 ^ 8 : Nat) : Int) = (((x * 65536 + y * 256 + z) * 2 ^ 8 : Nat) : Int) := by
    rw [or_add (by omega) (by omega)]; omega
  have o3 : orI .u32 (((x * 65536 + y * 256 + z) * 2 ^ 8 : Nat) : Int) (w : Int) = ((x * 16777216 + y * 65536 + z * 256 + w : Nat) : Int) := by
    rw [or_add (by omega) (by omega)]; omega
  obtain ⟨v, hv⟩ : ∃ v : Nat, v = x * 16777216 + y * 65536 + z * 256 + w := ⟨_, rfl⟩
  rw [← hv] at o3
  have hor : orI .u32 (orI .u32 (orI .u32 ((x : Int) * 16777216) ((y : Int) * 65536)) ((z : Int) * 256)) (w : Int) = v := by
    rw [← o3, ← o2, ← o1]; simp
  have hdot : dotted (v : Int) = Lib.decDigits x ++ 46 :: (Lib.decDigits y ++ 46 :: (Lib.decDigits z ++ 46 :: Lib.decDigits w)) := by
    rw [dotted_eq]
    have h1 : ((v : Int) / 16777216 % 256).toNat = x := by omega
    have h2 : ((v : Int) / 65536 % 256).toNat = y := by omega
    have h3 : ((v : Int) / 256 % 256).toNat = z := by omega
    have h4 : ((v : Int) % 256).toNat = w := by omega
    rw [h1, h2, h3, h4]
  have hv32 : v < 4294967296 := by omega
  simp -dsimp [c1 x bx, c1 y bY, c1 z bz, c1 w bw, e1, e2, e3, o1, o2, o3]
  have dl : ∀ n : Nat, n < 256 → (Lib.decDigits n).length ≤ 21 := fun n hn => by
    have := Lib.itoa_length_le (n : Int) (by omega) (by omega)
    rwa [itoa_pos (by omega), Int.toNat_natCast] at this
  have lx := dl x bx
  have ly := dl y bY
  have lz := dl z bz
  have lw := dl w bw
  refine (f34 (by omega)).next ?_
  rintro _ rfl
  simp -dsimp
  rw [add_s (by simp; omega)]
  simp -dsimp
  refine (f34 (by omega)).next ?_
  rintro _ rfl
  simp -dsimp
  rw [add_s (by simp; omega)]
  simp -dsimp
  rw [add_s (by simp; omega)]
  simp -dsimp
  refine (f34 (by omega)).next ?_
  rintro _ rfl
  simp -dsimp
  rw [add_s (by simp; omega)]
  simp -dsimp
  rw [add_s (by simp; omega)]
  simp -dsimp
  refine (f34 (by omega)).next ?_
  rintro _ rfl
  simp -dsimp
  rw [add_s (by simp; omega)]
  simp -dsimp
  rw [hor]
  refine (f32 ht (by omega) (by omega)).next ?_
  rintro H2 h2
  rw [hdot]
  have hn2 : ∀ n ∈ [(⟨v, 32⟩ : Net)], n.ok := by
    intro n hn
    simp only [List.mem_singleton] at hn
    subst hn
    exact ⟨by simp, by simp; omega, by simp, by simp⟩
  simp -dsimp [binS, splice]
  have hs : SlV (H2.alloc (.cells .rw [.i .u32 v, .i .i64 32])) .rw 2 (.sl 2 (some (H2.next, 0)) 1 1) ([(⟨v, 32⟩ : Net)].map nRow) (fun _ => True) := by
    refine .inr ⟨H2.next, 0, 1, [.i .u32 v, .i .i64 32], by simp, trivial, ?_⟩
    have := SlAt.of (H := H2.alloc (.cells .rw [.i .u32 v, .i .i64 32])) (md := .rw) (es := 2) (id := H2.next) (o := 0) (cap := 1) (rows := [nRow ⟨v, 32⟩]) (A := []) (B := []) (by simp) (by simp) (by simp) rfl (by simp) (by simp)
    simpa using this
  refine (f30 ht hs (by simp) hn2).next ?_
  rintro H3 h3
  have ht1 : setT true [(⟨v, 32⟩ : Net)] = 33 :: (dotted v ++ [47, 51, 50]) := by
    unfold setT
    rw [one_clean (by omega)]
    have : okSet [(⟨v, 32⟩ : Net)] = true := by simp [okSet, okBits]
    have h32 : Lib.itoa 32 = [51, 50] := by decide +kernel
    simp [this, preT, bodyT, netT, h32]
  rw [ht1, hdot]
  simp -dsimp
  rw [add_s (by simp; omega)]
  simp -dsimp
  rw [add_s (by simp; omega)]
  simp -dsimp [binS]
  refine (f21 ht).next ?_
  rintro H4 h4
  simp -dsimp
  exact fin_mk rfl
end Go.Proofs.YtmdmabedfleacaaDoor
