/- A part of the proof: contracts of functions, over the abstract machine. -/
import Derived.Test.YtceamnigcimldaaGreatDoorZr5
set_option linter.unusedVariables false
set_option linter.unusedSimpArgs false
set_option linter.all false
/- Rules together: both answers. -/
namespace Go.Proofs.YtceamnigcimldaaGreatDoor
open Ram Go Go.Proofs.Ports

variable {W0 : World} {H : AH}

def allR (rl : List Rl) : Int := if 40 < rl.length then 5 else if rl.all checkR = false then 7 else if (rl.map Rl.sid).Nodup then 0 else 8
theorem all_stop {rl : List Rl} {i : Nat} (h : i < rl.length) (hc : checkR rl[i] = false) : rl.all checkR = false := by
  rw [List.all_eq_false]
  exact ⟨rl[i], List.getElem_mem h, by simp [hc]⟩
theorem all_succ {rl : List Rl} {i : Nat} (h : i < rl.length) : (rl.take (i + 1)).all checkR = ((rl.take i).all checkR && checkR rl[i]) := by
  rw [take_snoc h, List.all_append]; simp

set_option maxRecDepth 4000 in
set_option maxHeartbeats 1000000 in
/-- rule.All. -/
theorem f30 {md mr : Md} {F G : Nat → Prop} {v : V} {rows : List (List V)} {rl : List Rl} (hs : SlV H mr 15 v rows G) (hr : RowsR H md F rows rl) (hl : rl.length ≤ 1000) : ACalls Tryz.prog W0 30 [v] H fun e H' => e = .ret (.i .i64 (allR rl)) ∧ Grows H H' := by
  obtain ⟨e', a', cap', hv⟩ := hs.len
  have hlen := hr.len
  rw [hlen] at hv
  refine acalls_in k30 (by simp) ?_
  by_cases h40 : 40 < rl.length
  · have h40i : (40 : Int) < rl.length := by omega
    simp -dsimp [hv, h40, h40i]
    exact fin_mk ⟨by unfold allR; rw [if_pos h40], Keeps.refl⟩
  have h40i : ¬ (40 : Int) < rl.length := by omega
  simp -dsimp [hv, h40, h40i]
  refine awp_round (fun m env H1 => ∃ i : Nat, i ≤ rl.length ∧ m = rl.length - i ∧ Grows H H1 ∧ env.get 0 = some v ∧ env.get 8 = some v ∧ env.get 9 = some (.i .i64 rl.length) ∧ env.get 10 = some (.i .i64 i) ∧ (rl.take i).all checkR = true) rl.length
    ⟨0, by omega, by omega, Keeps.refl, by simp [hv], by simp [hv], by simp, by simp, by simp⟩ ?_
  rintro m env H1 ⟨i, hi, rfl, hgr, e0, e8, e9, e10, hall⟩
  by_cases hlt : i < rl.length
  · have hlr : i < rows.length := by omega
    obtain ⟨id, o, cap, cs, hvv, hF, sa, _⟩ := rows_row (hs.keep hgr fun _ _ h => h) hlr
    rw [hlen] at hvv
    have hrow := sa.row (List.getElem?_eq_getElem hlr)
    obtain ⟨v1, v2, v3, v4, v5, hI⟩ := hr.at' i hlr hlt
    have o1 := slv_one hI.s1
    have o2 := slv_one hI.s2
    have o3 := slv_one hI.s3
    have o4 := slv_one hI.s4
    have o5 := slv_one hI.s5
    have hwi := wrap_succ (i := i) (by omega)
    have hsu := all_succ hlt
    rw [hall, Bool.true_and] at hsu
    have kA : ∀ X, Grows H (H1.alloc X) := fun _ => Keeps.alloc' hgr
    have hcall := fun X => f28 (W0 := W0) (hI.keep (kA X) fun _ _ h => h)
    rw [hI.row] at hrow
    rw [hvv] at e8
    simp -dsimp [e0, e8, e9, e10, hlt, hrow, splice, o1, o2, o3, o4, o5]
    rw [← hI.row]
    refine (hcall _).next ?_
    rintro H2 h2
    have h2 := (kA _).trans h2
    cases z : checkR rl[i]
    · simp -dsimp [e0, e8, e9, e10]
      exact fin_mk ⟨by unfold allR; rw [if_neg h40, if_pos (all_stop hlt z)], h2⟩
    · rw [z] at hsu
      simp -dsimp [e0, e8, e9, e10, hwi]
      exact hold_mk ⟨rl.length - (i + 1), by omega, i + 1, by omega, rfl, h2, by simp [e0], by simp [e8, hvv], by simp [e9], by simp, hsu⟩
  · have : i = rl.length := by omega
    subst this
    rw [List.take_length] at hall
    simp -dsimp [e0, e8, e9, e10]
    refine (f51 (hs.keep hgr fun _ _ h => h) (hr.keep hgr fun _ _ h => h) hl).mono ?_
    rintro e H2 ⟨⟨t, rfl, ht⟩, h2⟩
    by_cases hn : (rl.map Rl.sid).Nodup
    · have ht0 : ¬ 0 ≤ t := by rw [ht]; exact fun h => h hn
      simp -dsimp [ht0]
      exact fin_mk ⟨by unfold allR; rw [if_neg h40, if_neg (by rw [hall]; simp), if_pos hn], hgr.trans h2⟩
    · have ht0 : 0 ≤ t := by rw [ht]; exact hn
      simp -dsimp [ht0]
      exact fin_mk ⟨by unfold allR; rw [if_neg h40, if_neg (by rw [hall]; simp), if_neg hn], hgr.trans h2⟩

set_option maxRecDepth 4000 in
set_option maxHeartbeats 1000000 in
/-- rampartref11.first, by Check. -/
theorem f59a {md mr : Md} {F G : Nat → Prop} {v : V} {rows : List (List V)} {rl : List Rl} (hs : SlV H mr 15 v rows G) (hr : RowsR H md F rows rl) (hl : rl.length ≤ 1000) : ACalls Tryz.prog W0 59 [v, .b false] H fun e H' => (∃ t : Int, e = .ret (.i .i64 t) ∧ ((0 ≤ t) = (rl.all checkR = false))) ∧ Grows H H' := by
  obtain ⟨e', a', cap', hv⟩ := hs.len
  have hlen := hr.len
  rw [hlen] at hv
  refine acalls_in k59 (by simp) ?_
  simp -dsimp
  refine awp_round (fun m env H1 => ∃ i : Nat, i ≤ rl.length ∧ m = rl.length - i ∧ Grows H H1 ∧ env.get 0 = some v ∧ env.get 1 = some (.b false) ∧ env.get 5 = some (.i .i64 i) ∧ (rl.take i).all checkR = true) rl.length
    ⟨0, by omega, by omega, Keeps.refl, by simp, by simp, by simp, by simp⟩ ?_
  rintro m env H1 ⟨i, hi, rfl, hgr, e0, e1, e5, hall⟩
  by_cases hlt : i < rl.length
  · have hlr : i < rows.length := by omega
    obtain ⟨id, o, cap, cs, hvv, hF, sa, _⟩ := rows_row (hs.keep hgr fun _ _ h => h) hlr
    rw [hlen] at hvv
    have hrow := sa.row (List.getElem?_eq_getElem hlr)
    obtain ⟨v1, v2, v3, v4, v5, hI⟩ := hr.at' i hlr hlt
    have hwi := wrap_succ (i := i) (by omega)
    have hsu := all_succ hlt
    rw [hall, Bool.true_and] at hsu
    have hcall := f29 (W0 := W0) (hI.keep hgr fun _ _ h => h)
    rw [hvv] at e0
    simp -dsimp [e0, e1, e5, hlt, hrow]
    refine hcall.next ?_
    rintro H2 h2
    have h2 := hgr.trans h2
    cases z : checkR rl[i]
    · have hz : ((0 : Int) ≤ i) = (rl.all checkR = false) := by rw [eq_iff_iff]; exact ⟨fun _ => all_stop hlt z, fun _ => by omega⟩
      simp -dsimp [e0, e1, e5]
      exact fin_mk ⟨⟨_, rfl, hz⟩, h2⟩
    · rw [z] at hsu
      by_cases i0 : 0 < i
      · have i0i : (0 : Int) < i := by omega
        simp -dsimp [e0, e1, e5]
        refine awp_round (fun m env H3 => H3 = H2 ∧ m = 0 ∧ env.get 0 = some v ∧ env.get 1 = some (.b false) ∧ env.get 5 = some (.i .i64 i) ∧ env.get 6 = some (.i .i64 0)) 0
          ⟨rfl, rfl, by simp [e0, hvv], by simp [e1], by simp [e5], by simp⟩ ?_
        clear e0 e1 e5
        rintro m env _ ⟨rfl, rfl, e0, e1, e5, e6⟩
        simp -dsimp [e0, e1, e5, e6, i0, i0i, hwi]
        exact hold_mk ⟨rl.length - (i + 1), by omega, i + 1, by omega, rfl, h2, by simp [e0], by simp [e1], by simp, hsu⟩
      · have : i = 0 := by omega
        subst this
        simp -dsimp [e0, e1, e5]
        refine awp_round (fun m env H3 => H3 = H2 ∧ m = 0 ∧ env.get 0 = some v ∧ env.get 1 = some (.b false) ∧ env.get 5 = some (.i .i64 0) ∧ env.get 6 = some (.i .i64 0)) 0
          ⟨rfl, rfl, by simp [e0, hvv], by simp [e1], by simp [e5], by simp⟩ ?_
        clear e0 e1 e5
        rintro m env _ ⟨rfl, rfl, e0, e1, e5, e6⟩
        simp -dsimp [e0, e1, e5, e6, hwi]
        exact hold_mk ⟨rl.length - (0 + 1), by omega, 0 + 1, by omega, rfl, h2, by simp [e0], by simp [e1], by simp, hsu⟩
  · have : i = rl.length := by omega
    subst this
    rw [List.take_length] at hall
    rw [hv] at e0
    simp -dsimp [e0, e1, e5]
    exact fin_mk ⟨⟨-1, rfl, by rw [eq_iff_iff]; exact ⟨fun h => absurd h (by omega), fun h => by rw [hall] at h; cases h⟩⟩, hgr⟩
end Go.Proofs.YtceamnigcimldaaGreatDoor
