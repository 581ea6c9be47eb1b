/- A part of the proof: contracts of functions, over the abstract machine. -/
import Derived.Test.YtmdmabedfleacaaDoorCi2
set_option linter.unusedVariables false
set_option linter.unusedSimpArgs false
set_option linter.all false
namespace Go.Proofs.YtmdmabedfleacaaDoor
open Ram Go

variable {W0 : World} {H : AH}

/-- A net; as it lies. -/
structure Net where
  addr : Int
  bits : Int
  deriving DecidableEq
@[simp] def nRow (n : Net) : List V := [.i .u32 n.addr, .i .i64 n.bits]
structure Net.ok (n : Net) : Prop where
  a0 : 0 ≤ n.addr
  a1 : n.addr < 4294967296
  b0 : -9223372036854775808 ≤ n.bits
  b1 : n.bits ≤ 9223372036854775807

def inNet (n : Net) (a : Int) : Bool := decide (top n.bits.toNat a = top n.bits.toNat n.addr)

/-- cidr.has. -/
theorem f41 {n : Net} {a : Int} (hn : n.ok) (h0 : 0 ≤ n.bits) (h1 : n.bits ≤ 32) (a0 : 0 ≤ a) (a1 : a < 4294967296) : ACalls Tryd.prog W0 41 [.agg (nRow n), .i .u32 a] H fun e H' => e = .ret (.b (inNet n a)) ∧ Grows H H' := by
  obtain ⟨k, hk⟩ := Int.eq_ofNat_of_zero_le h0
  have hk33 : k < 33 := by omega
  have hk32 : k ≤ 32 := by omega
  refine acalls_in k41 (by simp) ?_
  have ha := and_mk a0 a1 hk32
  have hb := and_mk hn.a0 hn.a1 hk32
  simp only [nRow, hk]
  simp -dsimp
  refine f38.next ?_
  rintro H2 h2
  have gx := Grows.at h2 (i := H.next) (o := .cells .rw [.i .u32 n.addr, .i .i64 k]) (by simp <;> omega) (by simp)
  have hlt : (k : Int) < 33 := by omega
  simp -dsimp [gx, hlt, masks_at hk33, ha, hb]
  refine fin_mk ⟨?_, (Keeps.alloc' Keeps.refl).trans h2⟩
  unfold inNet
  rw [hk, Int.toNat_natCast]
  congr 2
  rw [Bool.eq_iff_iff]
  simp only [decide_eq_true_eq]
  exact top_eq

/-- rampartref09.mask. -/
theorem f40 {k : Nat} (hk : k ≤ 32) : ACalls Tryd.prog W0 40 [.i .i64 k] H fun e H' => e = .ret (.i .u32 (mk k)) ∧ H = H' := by
  refine acalls_in k40 (by simp) ?_
  by_cases hz : k = 0
  · subst hz
    simp -dsimp
    exact fin_mk ⟨by rw [show mk 0 = 0 by decide], rfl⟩
  · have hz' : ¬ (k : Int) ≤ 0 := by omega
    have hw : IntKind.i64.wrap (32 - (k : Int)) = ((32 - k : Nat) : Int) := by rw [wrap_i64 (by omega) (by omega)]; omega
    obtain ⟨s, hs⟩ : ∃ s : Nat, s = 32 - k := ⟨_, rfl⟩
    have hw2 : IntKind.u64.wrap (s : Int) = s := by simp [IntKind.wrap, IntKind.signed, IntKind.bits]; omega
    have hneg : ¬ (s : Int) < 0 := by omega
    have hmin : min s IntKind.u32.bits = s := by simp [IntKind.bits]; omega
    have hm := mk_of' ⟨k, by omega⟩ hz
    simp only at hm
    rw [← hs] at hw hm
    simp -dsimp [hz', hz, hw, hw2, hneg, hmin, hm]
    exact fin_mk ⟨rfl, rfl⟩

/-- rampartref09.in. -/
theorem f42 {n : Net} {a : Int} (hn : n.ok) (h0 : 0 ≤ n.bits) (h1 : n.bits ≤ 32) (a0 : 0 ≤ a) (a1 : a < 4294967296) : ACalls Tryd.prog W0 42 [.agg (nRow n), .i .u32 a] H fun e H' => e = .ret (.b (inNet n a)) ∧ Grows H H' := by
  obtain ⟨k, hk⟩ := Int.eq_ofNat_of_zero_le h0
  have hk32 : k ≤ 32 := by omega
  refine acalls_in k42 (by simp) ?_
  have hx := xor_top hn.a0 hn.a1 a0 a1 hk32
  obtain ⟨x, hxx⟩ : ∃ x, x = xorI .u32 n.addr a := ⟨_, rfl⟩
  rw [← hxx] at hx
  simp only [nRow, hk]
  simp -dsimp [← hxx]
  refine (f40 hk32).next ?_
  rintro _ rfl
  obtain ⟨y, hy⟩ : ∃ y, y = andI .u32 x (mk k) := ⟨_, rfl⟩
  rw [← hy] at hx
  simp -dsimp [← hy]
  refine fin_mk ⟨?_, Keeps.alloc' Keeps.refl⟩
  unfold inNet
  rw [hk, Int.toNat_natCast]
  congr 2
  rw [Bool.eq_iff_iff]
  simp only [decide_eq_true_eq]
  rw [hx]
  exact eq_comm

def covers (n m : Net) : Bool := decide (n.bits ≤ m.bits) && inNet n m.addr
/-- rampartref09.covers. -/
theorem f39 {n m : Net} (hn : n.ok) (h0 : 0 ≤ n.bits) (h1 : n.bits ≤ 32) (hm : m.ok) : ACalls Tryd.prog W0 39 [.agg (nRow n), .agg (nRow m)] H fun e H' => e = .ret (.b (covers n m)) ∧ Grows H H' := by
  refine acalls_in k39 (by simp) ?_
  simp only [nRow]
  by_cases h : n.bits ≤ m.bits
  · simp -dsimp [h]
    refine (f42 hn h0 h1 hm.a0 hm.a1).next ?_
    rintro H2 h2
    simp -dsimp
    exact fin_mk ⟨by simp [covers, h], (Keeps.alloc' (Keeps.alloc' Keeps.refl)).trans h2⟩
  · simp -dsimp [h]
    exact fin_mk ⟨by simp [covers, h], Keeps.alloc' (Keeps.alloc' Keeps.refl)⟩

def okBits (n : Net) : Bool := decide (0 ≤ n.bits) && decide (n.bits ≤ 32)
def okSet (l : List Net) : Bool := decide (l.length ≤ 4) && l.all okBits

/-- A set of nets, as a value. -/
def setV (not : Bool) (v : V) : V := .agg [.b not, v]
end Go.Proofs.YtmdmabedfleacaaDoor
