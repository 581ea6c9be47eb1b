/- A part of the proof: contracts of functions, over the abstract machine. -/
import Derived.Test.YtceamnigcimldaaGreatDoorZp6
set_option linter.unusedVariables false
set_option linter.unusedSimpArgs false
set_option linter.all false
/- Nets: may a set be. -/
namespace Go.Proofs.YtceamnigcimldaaGreatDoor
open Ram Go

variable {W0 : World} {H : AH}

structure Net where
  addr : Int
  bits : Int
  deriving DecidableEq
@[simp] def nRow (n : Net) : List V := [.i .u32 n.addr, .i .i64 n.bits]
structure Net.ok (n : Net) : Prop where
  a0 : 0 ≤ n.addr
  a1 : n.addr < 4294967296
  b0 : -9223372036854775808 ≤ n.bits
  b1 : n.bits ≤ 9223372036854775807
def okBits (n : Net) : Bool := decide (0 ≤ n.bits) && decide (n.bits ≤ 32)
def okSet (l : List Net) : Bool := decide (l.length ≤ 4) && l.all okBits
theorem take_allN {l : List Net} {i : Nat} (h : i < l.length) : (l.take (i + 1)).all okBits = ((l.take i).all okBits && okBits l[i]) := by
  rw [List.take_add_one, List.getElem?_eq_getElem h, List.all_append]; simp

/-- cidr.Check. -/
theorem f65 {not : Bool} {v : V} {l : List Net} {md : Md} {F : Nat → Prop} (hs : SlV H md 2 v (l.map nRow) F) (hl : l.length < 4611686018427387904) : ACalls Tryz.prog W0 65 [.agg [.b not, v]] H fun e H' => e = .ret (.b (okSet l)) ∧ Grows H H' := by
  obtain ⟨e', a', cap', hv⟩ := hs.len
  rw [List.length_map] at hv
  have hone : V.one v = true := by rw [hv]; rfl
  refine acalls_in k65 (by simp) ?_
  have hc4 : ((l.length : Int) ≤ 4) = (l.length ≤ 4) := by rw [eq_iff_iff]; omega
  rw [hv] at hone
  simp -dsimp [hv, hone, hc4]
  have hk0 : ∀ V, Grows H (H.alloc (.cells .rw [.b not, V])) := fun _ => Keeps.alloc' Keeps.refl
  refine awp_round (fun m env H1 => ∃ i : Nat, i ≤ l.length ∧ m = l.length - i ∧ Grows H H1 ∧ env.get 1 = some (.p (some (H.next, 0))) ∧ env.get 11 = some v ∧ env.get 12 = some (.i .i64 l.length) ∧ env.get 13 = some (.i .i64 i) ∧ env.get 3 = some (.b (decide (l.length ≤ 4) && (l.take i).all okBits))) l.length
    ⟨0, by omega, by omega, hk0 _, by simp, by simp [hv], by simp, by simp, by simp⟩ ?_
  rintro m env H1 ⟨i, hi, rfl, hgr, e1, e11, e12, e13, e3⟩
  by_cases hlt : i < l.length
  · have hr : l[i]? = some l[i] := List.getElem?_eq_getElem hlt
    rcases hs with ⟨hnil, _⟩ | ⟨id, o, cap, cs, rfl, hF, hs⟩
    · simp only [List.map_eq_nil_iff] at hnil; subst hnil; simp at hlt
    have hs1 := hs.keep hgr fun h => h
    have hrow := hs1.row (i := i) (r := nRow l[i]) (by simp [hr])
    simp only [nRow] at hrow
    have hwi : IntKind.i64.wrap ((i : Int) + 1) = (i : Int) + 1 := wrap_i64 (by omega) (by omega)
    have hta := take_allN hlt
    have hg2 : ∀ X, Grows H (H1.alloc X) := fun _ => Keeps.alloc' hgr
    obtain ⟨acc, hacc⟩ : ∃ acc, acc = (decide (l.length ≤ 4) && (l.take i).all okBits) := ⟨_, rfl⟩
    rw [← hacc] at e3
    have hnx : (decide (l.length ≤ 4) && (l.take (i + 1)).all okBits) = (acc && okBits l[i]) := by rw [hta, hacc, Bool.and_assoc]
    cases acc
    · simp -dsimp [e1, e11, e12, e13, e3, hlt, hrow, hwi]
      exact hold_mk ⟨l.length - (i + 1), by omega, i + 1, by omega, rfl, hg2 _, by simp [e1], by simp [e11], by simp [e12], by simp, by simp [e3, hnx]⟩
    · by_cases b0 : 0 ≤ l[i].bits
      · by_cases b1 : l[i].bits ≤ 32
        · simp -dsimp [e1, e11, e12, e13, e3, hlt, hrow, hwi, b0, b1]
          exact hold_mk ⟨l.length - (i + 1), by omega, i + 1, by omega, rfl, hg2 _, by simp [e1], by simp [e11], by simp [e12], by simp, by simp [hnx, okBits, b0, b1]⟩
        · simp -dsimp [e1, e11, e12, e13, e3, hlt, hrow, hwi, b0, b1]
          exact hold_mk ⟨l.length - (i + 1), by omega, i + 1, by omega, rfl, hg2 _, by simp [e1], by simp [e11], by simp [e12], by simp, by simp [hnx, okBits, b0, b1]⟩
      · simp -dsimp [e1, e11, e12, e13, e3, hlt, hrow, hwi, b0]
        exact hold_mk ⟨l.length - (i + 1), by omega, i + 1, by omega, rfl, hg2 _, by simp [e1], by simp [e11], by simp [e12], by simp, by simp [hnx, okBits, b0]⟩
  · rw [List.take_of_length_le (by omega)] at e3
    simp -dsimp [e1, e11, e12, e13, e3, hlt]
    exact fin_mk ⟨rfl, hgr⟩

/-- rampartref09.Check. -/
theorem f70 {not : Bool} {v : V} {l : List Net} {md : Md} {F : Nat → Prop} (hs : SlV H md 2 v (l.map nRow) F) (hl : l.length < 4611686018427387904) : ACalls Tryz.prog W0 70 [.agg [.b not, v]] H fun e H' => e = .ret (.b (okSet l)) ∧ Grows H H' := by
  obtain ⟨e', a', cap', hv⟩ := hs.len
  rw [List.length_map] at hv
  have hone : V.one v = true := by rw [hv]; rfl
  refine acalls_in k70 (by simp) ?_
  have hk0 : Grows H (H.alloc (.cells .rw [.b not, v])) := Keeps.alloc' Keeps.refl
  simp -dsimp [hone]
  refine awp_round (fun m env H1 => ∃ i : Nat, i ≤ l.length ∧ m = l.length - i ∧ Grows (H.alloc (.cells .rw [.b not, v])) H1 ∧ env.get 1 = some (.p (some (H.next, 0))) ∧ env.get 3 = some (.i .i64 i) ∧ (l.take i).all okBits = true) l.length
    ⟨0, by omega, by omega, Keeps.refl, by simp, by simp, by simp⟩ ?_
  rintro m env H1 ⟨i, hi, rfl, hgr, e1, e3, hall⟩
  have gx := Grows.at hgr (i := H.next) (o := .cells .rw [.b not, v]) (by simp <;> omega) (by simp)
  rw [hv] at gx
  by_cases hlt : i < l.length
  · have hr : l[i]? = some l[i] := List.getElem?_eq_getElem hlt
    rcases hs with ⟨hnil, _⟩ | ⟨id, o, cap, cs, hvv, hF, hs⟩
    · simp only [List.map_eq_nil_iff] at hnil; subst hnil; simp at hlt
    rw [List.length_map] at hvv
    rw [hvv] at hv
    cases hv
    have hs1 := hs.keep (hk0.trans hgr) fun h => h
    have hc := hs1.cell (i := i) (j := 1) (r := nRow l[i]) (by rw [List.getElem?_map, hr]; rfl) (by omega)
    simp at hc
    have hwi : IntKind.i64.wrap ((i : Int) + 1) = (i : Int) + 1 := wrap_i64 (by omega) (by omega)
    have hta := take_allN hlt
    rw [hall, Bool.true_and] at hta
    have hbad : okBits l[i] = false → okSet l = false := fun h => by
      unfold okSet
      rw [Bool.and_eq_false_iff]
      right
      rw [List.all_eq_false]
      exact ⟨l[i], List.getElem_mem hlt, by simp [h]⟩
    by_cases b0 : l[i].bits < 0
    · have hb : okBits l[i] = false := by simp [okBits]; omega
      simp -dsimp [e1, e3, gx, hlt, hs1.get, hc, b0]
      exact fin_mk ⟨by rw [hbad hb], hk0.trans hgr⟩
    · by_cases b1 : 32 < l[i].bits
      · have hb : okBits l[i] = false := by simp [okBits]; omega
        simp -dsimp [e1, e3, gx, hlt, hs1.get, hc, b0, b1]
        exact fin_mk ⟨by rw [hbad hb], hk0.trans hgr⟩
      · have hb : okBits l[i] = true := by simp [okBits]; omega
        simp -dsimp [e1, e3, gx, hlt, hs1.get, hc, b0, b1, hwi]
        exact hold_mk ⟨l.length - (i + 1), by omega, i + 1, by omega, rfl, hgr, by simp [e1], by simp, by rw [hta, hb]⟩
  · rw [List.take_of_length_le (by omega)] at hall
    have hc4 : ((l.length : Int) ≤ 4) = (l.length ≤ 4) := by rw [eq_iff_iff]; omega
    simp -dsimp [e1, e3, gx, hlt, hc4]
    exact fin_mk ⟨by simp [okSet, hall], hk0.trans hgr⟩
end Go.Proofs.YtceamnigcimldaaGreatDoor
