/- A part of the proof: contracts of functions, over the abstract machine. -/
import Derived.Test.YtceamnigcimldaaGreatDoorZr6
set_option linter.unusedVariables false
set_option linter.unusedSimpArgs false
set_option linter.all false
/- Rules together: the other answer. -/
namespace Go.Proofs.YtceamnigcimldaaGreatDoor
open Ram Go Go.Proofs.Ports

variable {W0 : World} {H : AH}

theorem sids_mem {rl : List Rl} {i k : Nat} (hk : k < i) (hi : i < rl.length) : rl[k].sid ∈ sids rl i := by
  unfold sids
  exact List.mem_map.2 ⟨rl[k], List.mem_take_iff_getElem.2 ⟨k, by omega, rfl⟩, rfl⟩

set_option maxRecDepth 4000 in
set_option maxHeartbeats 1000000 in
/-- rampartref11.first, by number. -/
theorem f59b {md mr : Md} {F G : Nat → Prop} {v : V} {rows : List (List V)} {rl : List Rl} (hs : SlV H mr 15 v rows G) (hr : RowsR H md F rows rl) (hl : rl.length ≤ 1000) : ACalls Tryz.prog W0 59 [v, .b true] H fun e H' => (∃ t : Int, e = .ret (.i .i64 t) ∧ ((0 ≤ t) = ¬ (rl.map Rl.sid).Nodup)) ∧ Grows H H' := by
  obtain ⟨e', a', cap', hv⟩ := hs.len
  have hlen := hr.len
  rw [hlen] at hv
  have cell : ∀ (H1 : AH), Grows H H1 → ∀ k (hk : k < rl.length), ∃ id o cap cs, v = .sl 15 (some (id, o)) rl.length cap ∧ H1.get id = some (.cells mr cs) ∧ cs[o + k * 15 + 13]? = some (.i .i64 rl[k].sid) := by
    intro H1 h k hk
    have hlr : k < rows.length := by omega
    obtain ⟨id, o, cap, cs, hvv, hF, sa, _⟩ := rows_row (hs.keep h fun _ _ h => h) hlr
    rw [hlen] at hvv
    obtain ⟨v1, v2, v3, v4, v5, hI⟩ := hr.at' k hlr hk
    have c := sa.cell (j := 13) (List.getElem?_eq_getElem hlr) (by omega)
    rw [hI.row] at c
    exact ⟨id, o, cap, cs, hvv, sa.get, by simpa using c⟩
  refine acalls_in k59 (by simp) ?_
  simp -dsimp
  refine awp_round (fun m env H1 => ∃ i : Nat, i ≤ rl.length ∧ m = rl.length - i ∧ Grows H H1 ∧ env.get 0 = some v ∧ env.get 1 = some (.b true) ∧ env.get 5 = some (.i .i64 i) ∧ (sids rl i).Nodup) rl.length
    ⟨0, by omega, by omega, Keeps.refl, by simp, by simp, by simp, by simp [sids]⟩ ?_
  rintro m env H1 ⟨i, hi, rfl, hgr, e0, e1, e5, hnd⟩
  by_cases hlt : i < rl.length
  · have hwi := wrap_succ (i := i) (by omega)
    have hsu := sids_succ hlt
    have hvl := hv
    rw [hv] at e0
    simp -dsimp [e0, e1, e5, hlt]
    refine awp_round (fun m env H3 => ∃ k : Nat, k ≤ i ∧ m = i - k ∧ H3 = H1 ∧ env.get 0 = some v ∧ env.get 1 = some (.b true) ∧ env.get 5 = some (.i .i64 i) ∧ env.get 6 = some (.i .i64 k) ∧ rl[i].sid ∉ sids rl k) i
      ⟨0, by omega, by omega, rfl, by simp [e0, hv], by simp [e1], by simp [e5], by simp, by simp [sids]⟩ ?_
    clear e0 e1 e5
    rintro m env _ ⟨k, hk, rfl, rfl, e0, e1, e5, e6, hno⟩
    by_cases hki : k < i
    · have hkl : k < rl.length := by omega
      have hwk := wrap_succ (i := k) (by omega)
      have hsk := sids_succ hkl
      obtain ⟨id, o, cap, cs, hvv, hg, ck⟩ := cell _ hgr k hkl
      obtain ⟨id', o', cap', cs', hvv', hg', ci⟩ := cell _ hgr i hlt
      obtain ⟨rfl, rfl, rfl⟩ : id' = id ∧ o' = o ∧ cap' = cap := by
        rw [hvv] at hvv'
        simp only [V.sl.injEq, Option.some.injEq, Prod.mk.injEq] at hvv'
        exact ⟨hvv'.2.1.1.symm, hvv'.2.1.2.symm, hvv'.2.2.2.symm⟩
      obtain rfl : cs' = cs := by
        rw [hg] at hg'
        simp only [Option.some.injEq, AO.cells.injEq] at hg'
        exact hg'.2.symm
      rw [hvv] at e0
      by_cases he : rl[k].sid = rl[i].sid
      · have hz : ((0 : Int) ≤ i) = ¬ (rl.map Rl.sid).Nodup := by rw [eq_iff_iff]; exact ⟨fun _ => sids_dup hlt (he ▸ sids_mem hki hlt), fun _ => by omega⟩
        simp -dsimp [e0, e1, e5, e6, hki, hlt, hkl, hg, ck, ci, he]
        exact fin_mk ⟨⟨_, rfl, hz⟩, hgr⟩
      · simp -dsimp [e0, e1, e5, e6, hki, hlt, hkl, hg, ck, ci, he, hwk]
        exact hold_mk ⟨i - (k + 1), by omega, k + 1, by omega, rfl, rfl, by simp [e0, hvv], by simp [e1], by simp [e5], by simp, by
          rw [hsk, List.mem_append, List.mem_singleton]
          rintro (h | h)
          · exact hno h
          · exact he h.symm⟩
    · have : k = i := by omega
      subst this
      simp -dsimp [e0, e1, e5, e6, hwi]
      exact hold_mk ⟨rl.length - (k + 1), by omega, k + 1, by omega, rfl, hgr, by simp [e0], by simp [e1], by simp, by
        rw [hsu, List.nodup_append]
        exact ⟨hnd, by simp, by intro a ha b hb; simp at hb; subst hb; exact fun e => hno (e ▸ ha)⟩⟩
  · have : i = rl.length := by omega
    subst this
    rw [sids_all] at hnd
    rw [hv] at e0
    simp -dsimp [e0, e1, e5]
    exact fin_mk ⟨⟨-1, rfl, by rw [eq_iff_iff]; exact ⟨fun h => absurd h (by omega), fun h => absurd hnd h⟩⟩, hgr⟩

set_option maxRecDepth 4000 in
/-- rampartref11.All. -/
theorem f31 {md mr : Md} {F G : Nat → Prop} {v : V} {rows : List (List V)} {rl : List Rl} (hs : SlV H mr 15 v rows G) (hr : RowsR H md F rows rl) (hl : rl.length ≤ 1000) : ACalls Tryz.prog W0 31 [v] H fun e H' => e = .ret (.i .i64 (allR rl)) ∧ Grows H H' := by
  obtain ⟨e', a', cap', hv⟩ := hs.len
  have hlen := hr.len
  rw [hlen] at hv
  refine acalls_in k31 (by simp) ?_
  by_cases h40 : 40 < rl.length
  · have h40i : (40 : Int) < rl.length := by omega
    simp -dsimp [hv, h40, h40i]
    exact fin_mk ⟨by unfold allR; rw [if_pos h40], Keeps.refl⟩
  have h40i : ¬ (40 : Int) < rl.length := by omega
  simp -dsimp [hv, h40, h40i]
  rw [← hv]
  refine (f59a hs hr hl).mono ?_
  rintro e H2 ⟨⟨t, rfl, ht⟩, h2⟩
  by_cases hc : rl.all checkR = false
  · have ht0 : 0 ≤ t := by rw [ht]; exact hc
    simp -dsimp [ht0]
    exact fin_mk ⟨by unfold allR; rw [if_neg h40, if_pos hc], h2⟩
  have ht0 : ¬ 0 ≤ t := by rw [ht]; exact hc
  simp -dsimp [ht0]
  refine (f59b (hs.keep h2 fun _ _ h => h) (hr.keep h2 fun _ _ h => h) hl).mono ?_
  rintro e H3 ⟨⟨u, rfl, hu⟩, h3⟩
  by_cases hn : (rl.map Rl.sid).Nodup
  · have hu0 : ¬ 0 ≤ u := by rw [hu]; exact fun h => h hn
    simp -dsimp [hu0]
    exact fin_mk ⟨by unfold allR; rw [if_neg h40, if_neg hc, if_pos hn], h2.trans h3⟩
  · have hu0 : 0 ≤ u := by rw [hu]; exact hn
    simp -dsimp [hu0]
    exact fin_mk ⟨by unfold allR; rw [if_neg h40, if_neg hc, if_neg hn], h2.trans h3⟩
end Go.Proofs.YtceamnigcimldaaGreatDoor
