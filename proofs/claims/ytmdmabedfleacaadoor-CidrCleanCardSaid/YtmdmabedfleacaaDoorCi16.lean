/- A part of the proof: contracts of functions, over the abstract machine. -/
import Derived.Test.YtmdmabedfleacaaDoorCi15
set_option linter.unusedVariables false
set_option linter.unusedSimpArgs false
set_option linter.all false
namespace Go.Proofs.YtmdmabedfleacaaDoor
open Ram Go

variable {W0 : World} {H : AH}

theorem xor_bit {a j s : Nat} : a / 2 ^ s = (a ^^^ 2 ^ j) / 2 ^ s ↔ j < s := by
  rw [← nat_xor_div]
  have : a ^^^ (a ^^^ 2 ^ j) = 2 ^ j := by rw [← Nat.xor_assoc, Nat.xor_self, Nat.zero_xor]
  rw [this, Nat.div_eq_zero_iff]
  constructor
  · rintro (h | h)
    · have := Nat.pow_pos (n := s) (show 0 < 2 by omega); omega
    · exact (Nat.pow_lt_pow_iff_right (by omega)).1 h
  · exact fun h => .inr ((Nat.pow_lt_pow_iff_right (by omega)).2 h)

theorem one_has {a : Int} {k : Nat} (hk : k ≤ 32) (x : Int) : hasS false [⟨a, k⟩] x = decide (top k x = top k a) := by
  have hok : okSet [(⟨a, (k : Int)⟩ : Net)] = true := by simp [okSet, okBits]; omega
  simp [hasS, hok, inNet]

/-- The law CidrNets. -/
theorem f9 (A : AH) (args : List V) (ht : Tab W0) (h : HasA A [.one (.i .u32), .one (.i .i64), .one (.i .u32), .one (.i .i64)] args) : ACalls Tryd.prog W0 9 args A fun e _ => e = .ret (.b true) := by
  obtain ⟨a, _, rfl, ha, h⟩ := h.invi
  obtain ⟨bits, _, rfl, _, h⟩ := h.invi
  obtain ⟨b, _, rfl, hb, h⟩ := h.invi
  obtain ⟨flip, _, rfl, _, h⟩ := h.invi
  rw [h.inv0]
  obtain ⟨a0, a1⟩ := has_u32 ha
  obtain ⟨b0, b1⟩ := has_u32 hb
  obtain ⟨k, hk⟩ : ∃ k : Nat, bits % 33 = k := ⟨(bits % 33).toNat, by omega⟩
  obtain ⟨f, hf⟩ : ∃ f : Nat, flip % 32 = f := ⟨(flip % 32).toNat, by omega⟩
  have hk33 : k < 33 := by omega
  have hf32 : f < 32 := by omega
  refine acalls_in k9 (by simp) ?_
  simp -dsimp
  refine (f12 (by omega) (by omega)).next ?_
  rintro _ rfl
  rw [hk]
  simp -dsimp [splice]
  obtain ⟨H1, hH1⟩ : ∃ H1, H1 = (A.alloc (.cells .rw [.i .u32 a, .i .i64 k])).alloc (.cells .rw [.b false, .sl 2 (some (A.next, 0)) 1 1]) := ⟨_, rfl⟩
  rw [← hH1]
  have l1 : A.next + 1 < H1.next := by rw [hH1]; simp
  have gs : H1.get (A.next + 1) = some (.cells .rw [.b false, .sl 2 (some (A.next, 0)) 1 1]) := by rw [hH1]; simp
  have hs : SlV H1 .rw 2 (.sl 2 (some (A.next, 0)) 1 1) ([(⟨a, k⟩ : Net)].map nRow) (fun _ => True) := by
    refine .inr ⟨A.next, 0, 1, [.i .u32 a, .i .i64 k], by simp, trivial, ?_⟩
    have := SlAt.of (H := H1) (md := .rw) (es := 2) (id := A.next) (o := 0) (cap := 1) (rows := [nRow ⟨a, k⟩]) (A := []) (B := []) (by rw [hH1]; simp) (by omega) (by simp) rfl (by simp) (by simp)
    simpa using this
  have hn : ∀ n ∈ [(⟨a, (k : Int)⟩ : Net)], n.ok := by
    intro n hn
    simp only [List.mem_singleton] at hn
    subst hn
    exact ⟨a0, a1, by simp <;> omega, by simp <;> omega⟩
  refine (f12 (by omega) (by omega)).next ?_
  rintro _ rfl
  rw [hf]
  have w1 : IntKind.i64.wrap (31 - (f : Int)) = ((31 - f : Nat) : Int) := by rw [wrap_i64 (by omega) (by omega)]; omega
  have w2 : IntKind.i64.wrap (32 - (k : Int)) = ((32 - k : Nat) : Int) := by rw [wrap_i64 (by omega) (by omega)]; omega
  have w3 : ∀ n : Nat, n < 1000 → IntKind.u64.wrap (n : Int) = n := fun n hn => by simp [IntKind.wrap, IntKind.signed, IntKind.bits]; omega
  obtain ⟨j, hj⟩ : ∃ j : Nat, j = 31 - f := ⟨_, rfl⟩
  obtain ⟨s, hs'⟩ : ∃ s : Nat, s = 32 - k := ⟨_, rfl⟩
  obtain ⟨p, hp⟩ : ∃ p : Nat, p = 2 ^ j := ⟨_, rfl⟩
  have hpl : p ≤ 2 ^ 31 := by rw [hp]; exact Nat.pow_le_pow_right (by omega) (by omega)
  have hcast : ((2 : Int) ^ j) = (p : Int) := by rw [hp]; simp
  have w4 : IntKind.u32.wrap (p : Int) = (p : Int) := wrap_u32 (by omega) (by omega)
  have mj : min j IntKind.u32.bits = j := by simp [IntKind.bits]; omega
  have ms : min s IntKind.u32.bits = s := by simp [IntKind.bits]; omega
  obtain ⟨x1, x2, x3⟩ := xor_u32 a0 a1 (b := (p : Int)) (by omega) (by omega)
  obtain ⟨c, hc⟩ : ∃ c, c = xorI .u32 a (p : Int) := ⟨_, rfl⟩
  rw [← hc] at x1 x2 x3
  have nj : ¬ (j : Int) < 0 := by omega
  have ns : ¬ (s : Int) < 0 := by omega
  rw [← hj] at w1
  rw [← hs'] at w2
  have hfd : ∀ z : Int, z.fdiv (2 ^ s) = top k z := fun z => by
    unfold top; rw [← hs']; exact Int.fdiv_eq_ediv_of_nonneg _ (Int.le_of_lt (Int.pow_pos (by decide)))
  have hkz : ((k : Int) = 0) = (k = 0) := by rw [eq_iff_iff]; omega
  have hsame : (decide (k = 0) || decide (top k a = top k b)) = decide (top k b = top k a) := by
    by_cases hz : k = 0
    · subst hz
      have : top 0 b = top 0 a := by unfold top; omega
      simp [this]
    · simp [hz, eq_comm]
  have hcf : decide (top k c = top k a) = decide (k ≤ f) := by
    rw [Bool.eq_iff_iff]
    simp only [decide_eq_true_eq]
    obtain ⟨n, rfl⟩ := Int.eq_ofNat_of_zero_le a0
    have e : c = ((n ^^^ 2 ^ j : Nat) : Int) := by rw [x1, Int.toNat_natCast, Int.toNat_natCast, hp]
    have := xor_bit (a := n) (j := j) (s := s)
    unfold top
    rw [e, ← hs']
    have cc : ∀ y : Nat, ((y : Int) / 2 ^ s) = ((y / 2 ^ s : Nat) : Int) := fun y => by simp
    rw [cc, cc]
    omega
  have nok : ∀ n : Int, -1000 < n → n < 1000 → ∀ m ∈ [(⟨0, n⟩ : Net)], m.ok := fun n h1 h2 m hm => by
    simp only [List.mem_singleton] at hm
    subst hm
    exact ⟨by simp, by simp, by simp; omega, by simp; omega⟩
  have okf : ∀ n : Int, n < 0 ∨ 32 < n → okSet [(⟨0, n⟩ : Net)] = false := fun n h => by simp [okSet, okBits]; omega
  have one : ∀ (n : Int) (H2 : AH), SlV (H2.alloc (.cells .rw [.i .u32 0, .i .i64 n])) .rw 2 (.sl 2 (some (H2.next, 0)) 1 1) ([(⟨0, n⟩ : Net)].map nRow) (fun _ => True) := fun n H2 => by
    refine .inr ⟨H2.next, 0, 1, [.i .u32 0, .i .i64 n], by simp, trivial, ?_⟩
    have := SlAt.of (H := H2.alloc (.cells .rw [.i .u32 0, .i .i64 n])) (md := .rw) (es := 2) (id := H2.next) (o := 0) (cap := 1) (rows := [nRow ⟨0, n⟩]) (A := []) (B := []) (by simp) (by simp) (by simp) rfl (by simp) (by simp)
    simpa using this
  have wf1 : IntKind.i64.wrap (33 + (f : Int)) = 33 + f := wrap_i64 (by omega) (by omega)
  have wf2 : IntKind.i64.wrap (-1 - (f : Int)) = -1 - f := wrap_i64 (by omega) (by omega)
  have hkf : ((k : Int) ≤ f) = (k ≤ f) := by rw [eq_iff_iff]; omega
  have hcc : xorI .u32 a (p : Int) = c := hc.symm
  simp -dsimp [w1, w3 j (by omega), nj, mj, shl_eq, hcast, w4, hcc]
  have rest : ∀ (same : Bool), same = decide (top k b = top k a) → True := fun _ _ => trivial
  by_cases hz : k = 0
  · have hz' : (k : Int) = 0 := by omega
    have hsm : decide (top k b = top k a) = true := by rw [← hsame]; simp [hz]
    simp -dsimp [hkz, hz, ldCells_of gs]
    refine (f28 hs (by simp) hn a0 a1).next ?_
    rintro H2 h2
    rw [one_has (by omega), decide_eq_true rfl]
    have g2 := Grows.at h2 l1 gs
    simp -dsimp [ldCells_of g2]
    refine (f28 (hs.keep h2 fun _ _ h => h) (by simp) hn b0 b1).next ?_
    rintro H3 h3
    have h3 := h2.trans h3
    rw [one_has (by omega), hsm]
    have g3 := Grows.at h3 l1 gs
    simp -dsimp [ldCells_of g3]
    refine (f28 (hs.keep h3 fun _ _ h => h) (by simp) hn x2 x3).next ?_
    rintro H4 h4
    rw [one_has (by omega), hcf]
    have hkf0 : k ≤ f := by omega
    have hkf1 : (0 : Int) ≤ f := by omega
    simp -dsimp [hkf0, hkf1, hz', wf1]
    refine (f22 (one _ _) (by simp)).next ?_
    rintro H5 h5
    rw [okf _ (by omega)]
    simp -dsimp [wf2]
    refine (f22 (one _ _) (by simp)).next ?_
    rintro H6 h6
    rw [okf _ (by omega)]
    simp -dsimp
    refine (f21 ht).next ?_
    rintro H7 h7
    simp -dsimp
    exact fin_mk rfl
  · simp -dsimp [w2, w3 s (by omega), ns, ms, hkz, hz, shr_eq, hfd, ldCells_of gs]
    refine (f28 hs (by simp) hn a0 a1).next ?_
    rintro H2 h2
    rw [one_has (by omega), decide_eq_true rfl]
    have g2 := Grows.at h2 l1 gs
    simp -dsimp [ldCells_of g2]
    refine (f28 (hs.keep h2 fun _ _ h => h) (by simp) hn b0 b1).next ?_
    rintro H3 h3
    have h3 := h2.trans h3
    have hsm : (decide (top k b = top k a) == decide (top k a = top k b)) = true := by
      rw [← hsame]; simp [hz]
    rw [one_has (by omega)]
    have g3 := Grows.at h3 l1 gs
    simp -dsimp [ldCells_of g3, hsm]
    refine (f28 (hs.keep h3 fun _ _ h => h) (by simp) hn x2 x3).next ?_
    rintro H4 h4
    rw [one_has (by omega), hcf]
    simp -dsimp [hkf, wf1]
    refine (f22 (one _ _) (by simp)).next ?_
    rintro H5 h5
    rw [okf _ (by omega)]
    simp -dsimp [wf2]
    refine (f22 (one _ _) (by simp)).next ?_
    rintro H6 h6
    rw [okf _ (by omega)]
    simp -dsimp
    refine (f21 ht).next ?_
    rintro H7 h7
    simp -dsimp
    exact fin_mk rfl
end Go.Proofs.YtmdmabedfleacaaDoor
