/- A part of the proof: contracts of functions, over the abstract machine. -/
import Derived.Test.YtmdmabedfleacaaDoorDo9
set_option linter.unusedVariables false
set_option linter.unusedSimpArgs false
set_option linter.all false
namespace Go.Proofs.YtmdmabedfleacaaDoor
open Ram Go

variable {W0 : World} {H : AH}

/-- The first k bits. -/
def mk (k : Nat) : Int := 4294967296 - 2 ^ (32 - k)
def masksRow : List V := (List.range 33).map fun k => .i .u32 (mk k)

theorem mk_of : ∀ n : Fin 33, IntKind.u32.wrap (IntKind.u64.wrap (4294967295 * 2 ^ (32 - n.val))) = mk n := by decide
theorem mk_of' : ∀ n : Fin 33, n.val ≠ 0 → IntKind.u32.wrap (4294967295 * 2 ^ (32 - n.val)) = mk n := by decide

theorem masks_len : masksRow.length = 33 := by simp [masksRow]
theorem masks_at {i : Nat} (h : i < 33) : masksRow[i]? = some (.i .u32 (mk i)) := by
  unfold masksRow
  rw [List.getElem?_map, List.getElem?_range h]; rfl
theorem masks_splice {i : Nat} (h : i < 33) : splice (masksRow.take i ++ List.replicate (33 - i) (.i .u32 0)) i [.i .u32 (mk i)] = masksRow.take (i + 1) ++ List.replicate (33 - (i + 1)) (.i .u32 0) := by
  have hl : (masksRow.take i).length = i := by rw [List.length_take, masks_len]; omega
  unfold splice
  rw [List.take_append_of_le_length (by omega), List.take_of_length_le (by omega), List.take_add_one, masks_at h]
  simp only [List.length_singleton, Option.toList_some]
  congr 1
  rw [List.drop_append, List.drop_of_length_le (by omega), hl]
  simp
  omega

/-- cidr.masks. -/
theorem f38 : ACalls Tryd.prog W0 38 [] H fun e H' => e = .ret (.agg masksRow) ∧ Grows H H' := by
  refine acalls_in k38 (by simp) ?_
  have hz : ∀ H : AH, ((H.alloc (.cells .rw (List.replicate 33 (.i .u32 0)))).alloc (.cells .rw (List.replicate 33 (.i .u32 0)))) = ((H.alloc (.cells .rw [.i .u32 0, .i .u32 0, .i .u32 0, .i .u32 0, .i .u32 0, .i .u32 0, .i .u32 0, .i .u32 0, .i .u32 0, .i .u32 0, .i .u32 0, .i .u32 0, .i .u32 0, .i .u32 0, .i .u32 0, .i .u32 0, .i .u32 0, .i .u32 0, .i .u32 0, .i .u32 0, .i .u32 0, .i .u32 0, .i .u32 0, .i .u32 0, .i .u32 0, .i .u32 0, .i .u32 0, .i .u32 0, .i .u32 0, .i .u32 0, .i .u32 0, .i .u32 0, .i .u32 0])).alloc (.cells .rw [.i .u32 0, .i .u32 0, .i .u32 0, .i .u32 0, .i .u32 0, .i .u32 0, .i .u32 0, .i .u32 0, .i .u32 0, .i .u32 0, .i .u32 0, .i .u32 0, .i .u32 0, .i .u32 0, .i .u32 0, .i .u32 0, .i .u32 0, .i .u32 0, .i .u32 0, .i .u32 0, .i .u32 0, .i .u32 0, .i .u32 0, .i .u32 0, .i .u32 0, .i .u32 0, .i .u32 0, .i .u32 0, .i .u32 0, .i .u32 0, .i .u32 0, .i .u32 0, .i .u32 0])) := fun _ => rfl
  simp -dsimp
  rw [← hz]
  clear hz
  refine awp_round (fun m env H1 => ∃ i : Nat, i ≤ 33 ∧ m = 33 - i ∧ env.get 0 = some (.p (some (H.next, 0))) ∧ env.get 1 = some (.p (some (H.next + 1, 0))) ∧ env.get 3 = some (.i .i64 i) ∧ H1.next = H.next + 2 ∧ Grows H H1 ∧
    H1.get H.next = some (.cells .rw (List.replicate 33 (.i .u32 0))) ∧ H1.get (H.next + 1) = some (.cells .rw (masksRow.take i ++ List.replicate (33 - i) (.i .u32 0)))) 33
    ⟨0, by omega, by omega, by simp, by simp, by simp, by simp, Keeps.alloc' (Keeps.alloc' Keeps.refl), by simp, by simp⟩ ?_
  rintro m env H1 ⟨i, hi, rfl, e0, e1, e3, n1, hgr, g0, g1⟩
  by_cases hlt : i < 33
  · have hw : IntKind.i64.wrap (32 - (i : Int)) = ((32 - i : Nat) : Int) := by rw [wrap_i64 (by omega) (by omega)]; omega
    have hneg : ¬ ((32 - i : Nat) : Int) < 0 := by omega
    have hlt' : (i : Int) < 33 := by omega
    have hwi : IntKind.i64.wrap ((i : Int) + 1) = (i : Int) + 1 := wrap_i64 (by omega) (by omega)
    have hm := mk_of ⟨i, hlt⟩
    simp only at hm
    obtain ⟨s, hs⟩ : ∃ s : Nat, s = 32 - i := ⟨_, rfl⟩
    have hmin : min s IntKind.u64.bits = s := by simp [IntKind.bits]; omega
    rw [← hs] at hw hneg hm
    simp -dsimp [e0, e1, e3, hlt', hw, hneg, hmin, hm, g1, hlt]
    have hle : i + 1 ≤ min i masksRow.length + (33 - i) := by rw [masks_len]; omega
    simp -dsimp [hle]
    rw [masks_splice hlt]
    simp -dsimp [e0, e1, e3, hwi]
    refine hold_mk ⟨33 - (i + 1), by omega, i + 1, by omega, rfl, by simp [e0], by simp [e1], by simp, by simp [n1], Keeps.set_new hgr (by omega), by rw [AH.get_set, if_neg (by omega)]; exact g0, by rw [AH.get_set, if_pos rfl, show 33 - (i + 1) = 32 - i by omega]⟩
  · have : i = 33 := by omega
    subst this
    rw [List.take_of_length_le (by rw [masks_len]; omega)] at g1
    simp at g1
    have hld : ldCells H1 (H.next + 1) 0 33 = some masksRow := by
      unfold ldCells
      rw [g1]
      simp only [Nat.zero_add, masks_len, Nat.le_refl, if_true, List.drop_zero]
      rw [List.take_of_length_le (by rw [masks_len]; omega)]
    have hones : masksRow.all V.one = true := by decide
    have hspl : splice (List.replicate 33 (V.i .u32 0)) 0 masksRow = masksRow := by simp [splice, masks_len]
    have hm33 : masksRow.length = 33 := masks_len
    obtain ⟨zs, hzs⟩ : ∃ zs, zs = List.replicate 33 (V.i .u32 0) := ⟨_, rfl⟩
    have hzl : zs.length = 33 := by rw [hzs]; simp
    rw [← hzs] at g0 hspl
    simp -dsimp [e0, e1, e3, hld, g0, hm33, hones, hspl, hzl]
    have hld2 : ldCells (H1.set H.next (.cells .rw masksRow)) H.next 0 33 = some masksRow := by
      unfold ldCells
      rw [AH.get_set, if_pos rfl]
      simp only [Nat.zero_add, masks_len, Nat.le_refl, if_true, List.drop_zero]
      rw [List.take_of_length_le (by rw [masks_len]; omega)]
    simp -dsimp [hm33, List.take_of_length_le]
    exact fin_mk ⟨rfl, Keeps.set_new hgr (by omega)⟩
end Go.Proofs.YtmdmabedfleacaaDoor
