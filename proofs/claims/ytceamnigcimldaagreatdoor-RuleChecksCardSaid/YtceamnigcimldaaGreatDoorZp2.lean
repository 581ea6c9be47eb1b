/- A part of the proof: contracts of functions, over the abstract machine. -/
import Derived.Test.YtceamnigcimldaaGreatDoorZd1
import Derived.Test.YtceamnigcimldaaGreatDoorZeFn
import Derived.Test.YtceamnigcimldaaGreatDoorPo1
set_option linter.unusedVariables false
set_option linter.unusedSimpArgs false
set_option linter.all false
/- Ports: may a set be; is a number in it; marks. -/
namespace Go.Proofs.YtceamnigcimldaaGreatDoor
open Ram Go Go.Proofs.Ports

variable {W0 : World} {H : AH}

@[simp] def spRow (s : Sp) : List V := [.i .i64 s.f, .i .i64 s.t]
def okB (s : Sp) : Bool := decide (0 ≤ s.f) && (decide (s.f ≤ s.t) && decide (s.t ≤ 65535))
def okP (l : List Sp) : Bool := decide (l.length ≤ 4) && l.all okB
theorem okP_len {l : List Sp} (h : okP l = true) : l.length ≤ 4 := by unfold okP at h; rw [Bool.and_eq_true] at h; simpa using h.1
theorem okB_iff {s : Sp} : okB s = true ↔ okSp s := by simp [okB, okSp]
theorem okP_mem {l : List Sp} (h : okP l = true) : ∀ s ∈ l, okSp s := by
  intro s hs
  unfold okP at h
  rw [Bool.and_eq_true, List.all_eq_true] at h
  exact okB_iff.1 (h.2 s hs)
theorem take_all {l : List Sp} {i : Nat} (h : i < l.length) : (l.take (i + 1)).all okB = ((l.take i).all okB && okB l[i]) := by rw [take_snoc h, List.all_append]; simp
theorem take_inS {l : List Sp} {i : Nat} (h : i < l.length) (n : Int) : inS (l.take (i + 1)) n = (inS (l.take i) n || (decide (l[i].f ≤ n) && decide (n ≤ l[i].t))) := by
  unfold inS; rw [take_snoc h, List.any_append]; simp

/-- ports.Check. -/
theorem f66 {not : Bool} {v : V} {l : List Sp} {md : Md} {F : Nat → Prop} (hs : SlV H md 2 v (l.map spRow) F) (hl : l.length < 4611686018427387904) : ACalls Tryz.prog W0 66 [.agg [.b not, v]] H fun e H' => e = .ret (.b (okP l)) ∧ Grows H H' := by
  obtain ⟨e', a', cap', hv⟩ := hs.len
  rw [List.length_map] at hv
  have hone : V.one v = true := by rw [hv]; rfl
  refine acalls_in k66 (by simp) ?_
  have hc4 : ((l.length : Int) ≤ 4) = (l.length ≤ 4) := by rw [eq_iff_iff]; omega
  rw [hv] at hone
  simp -dsimp [hv, hone, hc4]
  have hk0 : ∀ V, Grows H (H.alloc (.cells .rw [.b not, V])) := fun _ => Keeps.alloc' Keeps.refl
  refine awp_round (fun m env H1 => ∃ i : Nat, i ≤ l.length ∧ m = l.length - i ∧ Grows H H1 ∧ env.get 1 = some (.p (some (H.next, 0))) ∧ env.get 11 = some v ∧ env.get 12 = some (.i .i64 l.length) ∧ env.get 13 = some (.i .i64 i) ∧ env.get 3 = some (.b (decide (l.length ≤ 4) && (l.take i).all okB))) l.length
    ⟨0, by omega, by omega, hk0 _, by simp, by simp [hv], by simp, by simp, by simp⟩ ?_
  rintro m env H1 ⟨i, hi, rfl, hgr, e1, e11, e12, e13, e3⟩
  by_cases hlt : i < l.length
  · obtain ⟨id, o, cap, cs, hvv, hF, sa, _⟩ := at_row hs hlt
    have hs1 := sa.keep hgr fun h => h
    have hrow := hs1.row (row_at hlt)
    simp only [spRow] at hrow
    have hwi := wrap_succ (i := i) (by omega)
    have hta := take_all hlt
    have hg2 : ∀ X, Grows H (H1.alloc X) := fun _ => Keeps.alloc' hgr
    obtain ⟨acc, hacc⟩ : ∃ acc, acc = (decide (l.length ≤ 4) && (l.take i).all okB) := ⟨_, rfl⟩
    rw [← hacc] at e3
    have hnx : (decide (l.length ≤ 4) && (l.take (i + 1)).all okB) = (acc && okB l[i]) := by rw [hta, hacc, Bool.and_assoc]
    rw [hvv] at e11
    cases acc
    · simp -dsimp [e1, e11, e12, e13, e3, hlt, hrow, hwi]
      exact hold_mk ⟨l.length - (i + 1), by omega, i + 1, by omega, rfl, hg2 _, by simp [e1], by simp [e11, hvv], by simp [e12], by simp, by simp [e3, hnx]⟩
    · by_cases b0 : 0 ≤ l[i].f
      · by_cases b1 : l[i].f ≤ l[i].t
        · by_cases b2 : l[i].t ≤ 65535
          · simp -dsimp [e1, e11, e12, e13, e3, hlt, hrow, hwi, b0, b1, b2]
            exact hold_mk ⟨l.length - (i + 1), by omega, i + 1, by omega, rfl, hg2 _, by simp [e1], by simp [e11, hvv], by simp [e12], by simp, by simp [hnx, okB, b0, b1, b2]⟩
          · simp -dsimp [e1, e11, e12, e13, e3, hlt, hrow, hwi, b0, b1, b2]
            exact hold_mk ⟨l.length - (i + 1), by omega, i + 1, by omega, rfl, hg2 _, by simp [e1], by simp [e11, hvv], by simp [e12], by simp, by simp [hnx, okB, b0, b1, b2]⟩
        · simp -dsimp [e1, e11, e12, e13, e3, hlt, hrow, hwi, b0, b1]
          exact hold_mk ⟨l.length - (i + 1), by omega, i + 1, by omega, rfl, hg2 _, by simp [e1], by simp [e11, hvv], by simp [e12], by simp, by simp [hnx, okB, b0, b1]⟩
      · simp -dsimp [e1, e11, e12, e13, e3, hlt, hrow, hwi, b0]
        exact hold_mk ⟨l.length - (i + 1), by omega, i + 1, by omega, rfl, hg2 _, by simp [e1], by simp [e11, hvv], by simp [e12], by simp, by simp [hnx, okB, b0]⟩
  · rw [List.take_of_length_le (by omega)] at e3
    simp -dsimp [e1, e11, e12, e13, e3, hlt]
    exact fin_mk ⟨rfl, hgr⟩

/-- rampartref10.Check. -/
theorem f71 {not : Bool} {v : V} {l : List Sp} {md : Md} {F : Nat → Prop} (hs : SlV H md 2 v (l.map spRow) F) (hl : l.length < 4611686018427387904) : ACalls Tryz.prog W0 71 [.agg [.b not, v]] H fun e H' => e = .ret (.b (okP l)) ∧ Grows H H' := by
  obtain ⟨e', a', cap', hv⟩ := hs.len
  rw [List.length_map] at hv
  have hone : V.one v = true := by rw [hv]; rfl
  refine acalls_in k71 (by simp) ?_
  have hk0 : Grows H (H.alloc (.cells .rw [.b not, v])) := Keeps.alloc' Keeps.refl
  simp -dsimp [hone]
  refine awp_round (fun m env H1 => ∃ i : Nat, i ≤ l.length ∧ m = l.length - i ∧ Grows (H.alloc (.cells .rw [.b not, v])) H1 ∧ env.get 1 = some (.p (some (H.next, 0))) ∧ env.get 3 = some (.i .i64 i) ∧ (l.take i).all okB = true) l.length
    ⟨0, by omega, by omega, Keeps.refl, by simp, by simp, by simp⟩ ?_
  rintro m env H1 ⟨i, hi, rfl, hgr, e1, e3, hall⟩
  have gx := Grows.at hgr (i := H.next) (o := .cells .rw [.b not, v]) (by simp <;> omega) (by simp)
  by_cases hlt : i < l.length
  · obtain ⟨id, o, cap, cs, hvv, hF, sa, _⟩ := at_row hs hlt
    have hs1 := sa.keep (hk0.trans hgr) fun h => h
    have c0 := hs1.cell (j := 0) (row_at hlt) (by omega)
    have c1 := hs1.cell (j := 1) (row_at hlt) (by omega)
    simp at c0 c1
    rw [hvv] at gx
    have hwi := wrap_succ (i := i) (by omega)
    have hta := take_all hlt
    rw [hall, Bool.true_and] at hta
    have hbad : okB l[i] = false → okP l = false := fun h => by
      unfold okP
      rw [Bool.and_eq_false_iff]
      right
      rw [List.all_eq_false]
      exact ⟨l[i], List.getElem_mem hlt, by simp [h]⟩
    by_cases b0 : l[i].f < 0
    · have hb : okB l[i] = false := by simp [okB]; omega
      simp -dsimp [e1, e3, gx, hlt, hs1.get, c0, c1, b0]
      exact fin_mk ⟨by rw [hbad hb], hk0.trans hgr⟩
    · by_cases b1 : l[i].t < l[i].f
      · have hb : okB l[i] = false := by simp [okB]; omega
        simp -dsimp [e1, e3, gx, hlt, hs1.get, c0, c1, b0, b1]
        exact fin_mk ⟨by rw [hbad hb], hk0.trans hgr⟩
      · by_cases b2 : 65535 < l[i].t
        · have hb : okB l[i] = false := by simp [okB]; omega
          simp -dsimp [e1, e3, gx, hlt, hs1.get, c0, c1, b0, b1, b2]
          exact fin_mk ⟨by rw [hbad hb], hk0.trans hgr⟩
        · have hb : okB l[i] = true := by simp [okB]; omega
          simp -dsimp [e1, e3, gx, hlt, hs1.get, c0, c1, b0, b1, b2, hwi]
          exact hold_mk ⟨l.length - (i + 1), by omega, i + 1, by omega, rfl, hgr, by simp [e1], by simp, by rw [hta, hb]⟩
  · rw [List.take_of_length_le (by omega)] at hall
    have hc4 : ((l.length : Int) ≤ 4) = (l.length ≤ 4) := by rw [eq_iff_iff]; omega
    rw [hv] at gx
    simp -dsimp [e1, e3, gx, hlt, hc4]
    exact fin_mk ⟨by simp [okP, hall], hk0.trans hgr⟩
end Go.Proofs.YtceamnigcimldaaGreatDoor
