/- A part of the proof: contracts of functions, over the abstract machine. -/
import Derived.Test.YtceamnigcimldaaGreatDoorZr3
set_option linter.unusedVariables false
set_option linter.unusedSimpArgs false
set_option linter.all false
/- Rules: may a rule be, the other answer. -/
namespace Go.Proofs.YtceamnigcimldaaGreatDoor
open Ram Go Go.Proofs.Ports

variable {W0 : World} {H : AH}

theorem checkR_wrong1 {r : Rl} (h : (ok1 r && ok4 r) = false) : checkR r = false := by
  unfold checkR
  cases a : ok1 r <;> cases b : ok4 r <;> simp_all
theorem checkR_wrong2 {r : Rl} (h : (ok2 r && ok3 r) = false) : checkR r = false := by
  unfold checkR
  cases a : ok2 r <;> cases b : ok3 r <;> simp_all
theorem checkR_right {r : Rl} (h : (ok1 r && ok4 r) = true) (h2 : (ok2 r && ok3 r) = true) : checkR r = contsTo r.cts r.cts.length := by
  unfold checkR
  rw [Bool.and_eq_true] at h h2
  rw [h.1, h.2, h2.1, h2.2]; rfl
theorem contsTo_stop {l : List Ct} {i : Nat} (hi : i < l.length) (h : contP l[i] (plainTo l i) = false) : contsTo l l.length = false := by
  have : ∀ n, i < n → n ≤ l.length → contsTo l n = false := by
    intro n
    induction n with
    | zero => intro h; omega
    | succ n ih =>
      intro h1 h2
      rw [contsTo_succ (by omega)]
      by_cases e : n = i
      · subst e; rw [h, Bool.and_false]
      · rw [ih (by omega) (by omega), Bool.false_and]
  exact this _ hi (Nat.le_refl _)

set_option maxRecDepth 4000 in
set_option maxHeartbeats 4000000 in
/-- rampartref11.Check. -/
theorem f29 {md : Md} {F : Nat → Prop} {row : List V} {r : Rl} {v1 v2 v3 v4 v5 : V} (hr : IsR H md F row r v1 v2 v3 v4 v5) : ACalls Tryz.prog W0 29 [.agg row] H fun e H' => e = .ret (.b (checkR r)) ∧ Grows H H' := by
  obtain ⟨hrow, s1, s2, s3, s4, s5, l1, l2, l3, l4, l5⟩ := hr
  have o1 := slv_one s1
  have o2 := slv_one s2
  have o3 := slv_one s3
  have o4 := slv_one s4
  have o5 := slv_one s5
  obtain ⟨e5', a5, c5, hv5⟩ := s5.len
  rw [List.length_map] at hv5
  rw [hrow]
  refine acalls_in k29 (by simp) ?_
  obtain ⟨H1, hH1⟩ : ∃ H1, H1 = H.alloc (.cells .rw [.i .i64 r.act, .i .i64 r.proto, .b r.fn, v1, .b r.fpn, v2, .b r.tn, v3, .b r.tpn, v4, .b r.both, .i .i64 r.flow, v5, .i .i64 r.sid, .i .i64 r.rev]) := ⟨_, rfl⟩
  have hg : H1.get H.next = some (.cells .rw [.i .i64 r.act, .i .i64 r.proto, .b r.fn, v1, .b r.fpn, v2, .b r.tn, v3, .b r.tpn, v4, .b r.both, .i .i64 r.flow, v5, .i .i64 r.sid, .i .i64 r.rev]) := by rw [hH1]; simp
  have hgr : Grows H H1 := by rw [hH1]; exact Keeps.alloc' Keeps.refl
  have l1x : H.next < H1.next := by rw [hH1]; simp
  have gat : ∀ H2, Grows H1 H2 → H2.get H.next = some (.cells .rw [.i .i64 r.act, .i .i64 r.proto, .b r.fn, v1, .b r.fpn, v2, .b r.tn, v3, .b r.tpn, v4, .b r.both, .i .i64 r.flow, v5, .i .i64 r.sid, .i .i64 r.rev]) := fun H2 h => Grows.at h l1x hg
  rw [awp_assoc]
  refine awp_cut (fun env H2 => Grows H1 H2 ∧ env.get 1 = some (.p (some (H.next, 0))) ∧ (ok1 r && ok4 r) = true) ?_ ?_
  · rw [hv5] at hg
    have hg' : H1.get H.next = some (.cells .rw [.i .i64 r.act, .i .i64 r.proto, .b r.fn, v1, .b r.fpn, v2, .b r.tn, v3, .b r.tpn, v4, .b r.both, .i .i64 r.flow, v5, .i .i64 r.sid, .i .i64 r.rev]) := by rw [hv5]; exact hg
    simp -dsimp [o1, o2, o3, o4, o5]
    rw [← hH1]
    by_cases a1 : r.act < 1
    · have z := inB_false (b := 4) (.inl a1)
      simp -dsimp [hg, a1]
      exact fin_mk ⟨by rw [checkR_wrong1 (by simp [ok1, z])], hgr⟩
    by_cases a2 : 4 < r.act
    · have z := inB_false (a := 1) (.inr a2)
      simp -dsimp [hg, a1, a2]
      exact fin_mk ⟨by rw [checkR_wrong1 (by simp [ok1, z])], hgr⟩
    have za := inB_true (v := r.act) (a := 1) (b := 4) (by omega) (by omega)
    have hp : (r.proto = 0 ∨ r.proto = 1 ∨ r.proto = 6 ∨ r.proto = 17) ∨ (¬ r.proto = 0 ∧ ¬ r.proto = 1 ∧ ¬ r.proto = 6 ∧ ¬ r.proto = 17) := by omega
    rcases hp with hp | ⟨p0, p1, p6, p17⟩
    case' inr =>
      simp -dsimp [hg, a1, a2, p0, p1, p6, p17]
      exact fin_mk ⟨by rw [checkR_wrong1 (by simp [ok1, p0, p1, p6, p17])], hgr⟩
    have zo : ok1 r = true := by
      unfold ok1; rw [za]
      rcases hp with hp | hp | hp | hp <;> simp [hp]
    rcases hp with hp | hp | hp | hp
    all_goals
      by_cases b1 : r.flow < 0
      · have z := inB_false (b := 2) (.inl b1)
        simp -dsimp [hg, a1, a2, hp, b1]
        exact fin_mk ⟨by rw [checkR_wrong1 (by simp [ok4, z])], hgr⟩
      by_cases b2 : 2 < r.flow
      · have z := inB_false (a := 0) (.inr b2)
        simp -dsimp [hg, a1, a2, hp, b1, b2]
        exact fin_mk ⟨by rw [checkR_wrong1 (by simp [ok4, z])], hgr⟩
      by_cases b3 : r.sid < 1
      · have z := inB_false (b := 999999999) (.inl b3)
        simp -dsimp [hg, a1, a2, hp, b1, b2, b3]
        exact fin_mk ⟨by rw [checkR_wrong1 (by simp [ok4, z])], hgr⟩
      by_cases b4 : 999999999 < r.sid
      · have z := inB_false (a := 1) (.inr b4)
        simp -dsimp [hg, a1, a2, hp, b1, b2, b3, b4]
        exact fin_mk ⟨by rw [checkR_wrong1 (by simp [ok4, z])], hgr⟩
      by_cases b5 : r.rev < 1
      · have z := inB_false (b := 999999999) (.inl b5)
        simp -dsimp [hg, a1, a2, hp, b1, b2, b3, b4, b5]
        exact fin_mk ⟨by rw [checkR_wrong1 (by simp [ok4, z])], hgr⟩
      by_cases b6 : 999999999 < r.rev
      · have z := inB_false (a := 1) (.inr b6)
        simp -dsimp [hg, a1, a2, hp, b1, b2, b3, b4, b5, b6]
        exact fin_mk ⟨by rw [checkR_wrong1 (by simp [ok4, z])], hgr⟩
      by_cases b7 : 4 < r.cts.length
      · have b7i : (4 : Int) < r.cts.length := by omega
        have b7' : ¬ r.cts.length ≤ 4 := by omega
        simp -dsimp [hg, a1, a2, hp, b1, b2, b3, b4, b5, b6, b7, b7i]
        exact fin_mk ⟨by rw [checkR_wrong1 (by simp [ok4, b7'])], hgr⟩
      have b7i : ¬ (4 : Int) < r.cts.length := by omega
      have b7' : r.cts.length ≤ 4 := by omega
      have zq : ok4 r = true := by
        unfold ok4
        rw [inB_true (by omega) (by omega), inB_true (by omega) (by omega), inB_true (by omega) (by omega)]
        simp [b7']
      simp -dsimp [hg, a1, a2, hp, b1, b2, b3, b4, b5, b6, b7, b7i]
      exact hold_mk ⟨Keeps.refl, by simp, by rw [zo, zq]; rfl⟩
  clear hg
  rintro env H2 ⟨k2, e1, hA⟩
  refine awp_cut (fun env H2 => Grows H1 H2 ∧ env.get 1 = some (.p (some (H.next, 0))) ∧ (ok2 r && ok3 r) = true) ?_ ?_
  · have q2 := gat _ k2
    simp -dsimp [e1, q2, ldCells_of q2]
    refine (f70 (s1.keep (hgr.trans k2) fun _ _ h => h) (by omega)).next ?_
    rintro H3 k3
    have k3 := k2.trans k3
    cases z1 : okSet r.fl
    · simp -dsimp [e1]
      exact fin_mk ⟨by rw [checkR_wrong2 (by simp [ok2, z1])], hgr.trans k3⟩
    have q3 := gat _ k3
    simp -dsimp [e1, q3, ldCells_of q3]
    refine (f70 (s3.keep (hgr.trans k3) fun _ _ h => h) (by omega)).next ?_
    rintro H4 k4
    have k4 := k3.trans k4
    cases z2 : okSet r.tl
    · simp -dsimp [e1]
      exact fin_mk ⟨by rw [checkR_wrong2 (by simp [ok2, z2])], hgr.trans k4⟩
    have q4 := gat _ k4
    simp -dsimp [e1, q4, ldCells_of q4]
    refine (f71 (s2.keep (hgr.trans k4) fun _ _ h => h) (by omega)).next ?_
    rintro H5 k5
    have k5 := k4.trans k5
    cases z3 : okP r.fpl
    · simp -dsimp [e1]
      exact fin_mk ⟨by rw [checkR_wrong2 (by simp [ok2, z3])], hgr.trans k5⟩
    have q5 := gat _ k5
    simp -dsimp [e1, q5, ldCells_of q5]
    refine (f71 (s4.keep (hgr.trans k5) fun _ _ h => h) (by omega)).next ?_
    rintro H6 k6
    have k6 := k5.trans k6
    cases z4 : okP r.tpl
    · simp -dsimp [e1]
      exact fin_mk ⟨by rw [checkR_wrong2 (by simp [ok2, z4])], hgr.trans k6⟩
    have zo : ok2 r = true := by simp [ok2, z1, z2, z3, z4]
    have q6 := gat _ k6
    by_cases p1 : r.proto = 1
    · simp -dsimp [e1, q6, ldCells_of q6, p1]
      refine (f35 (s2.keep (hgr.trans k6) fun _ _ h => h) (by omega)).some ?_
      rintro v6 H7 ⟨t6, k7⟩
      have k7 := k6.trans k7
      simp -dsimp [e1]
      refine (f72 t6).next ?_
      rintro H8 k8
      have k8 := k7.trans k8
      have hbp : (decide ((cleanP r.fpl).length = 0) && !(okP r.fpl && r.fpn)) = bareP r.fpn r.fpl := rfl
      rw [hbp]
      cases y1 : bareP r.fpn r.fpl
      · simp -dsimp [e1]
        exact fin_mk ⟨by rw [checkR_wrong2 (by simp [ok3, p1, y1])], hgr.trans k8⟩
      have q8 := gat _ k8
      simp -dsimp [e1, q8, ldCells_of q8]
      refine (f35 (s4.keep (hgr.trans k8) fun _ _ h => h) (by omega)).some ?_
      rintro v7 H9 ⟨t7, k9⟩
      have k9 := k8.trans k9
      simp -dsimp [e1]
      refine (f72 t7).next ?_
      rintro H10 k10
      have k10 := k9.trans k10
      have hbp : (decide ((cleanP r.tpl).length = 0) && !(okP r.tpl && r.tpn)) = bareP r.tpn r.tpl := rfl
      rw [hbp]
      cases y2 : bareP r.tpn r.tpl
      · simp -dsimp [e1]
        exact fin_mk ⟨by rw [checkR_wrong2 (by simp [ok3, p1, y2])], hgr.trans k10⟩
      simp -dsimp [e1]
      exact hold_mk ⟨k10, by simp [e1], by rw [zo]; simp [ok3, y1, y2]⟩
    · simp -dsimp [e1, q6, ldCells_of q6, p1]
      exact hold_mk ⟨k6, by simp [e1], by rw [zo]; simp [ok3, p1]⟩
  clear e1 k2 H2 env
  rintro env H2 ⟨k2, e1, hB⟩
  rw [checkR_right hA hB]
  simp -dsimp
  refine awp_round (fun m env H3 => ∃ i : Nat, i ≤ r.cts.length ∧ m = r.cts.length - i ∧ Grows H1 H3 ∧ env.get 1 = some (.p (some (H.next, 0))) ∧ env.get 3 = some (.i .i64 i) ∧ contsTo r.cts i = true) r.cts.length
    ⟨0, by omega, by omega, k2, by simp [e1], by simp, rfl⟩ ?_
  clear e1 k2
  rintro m env K ⟨i, hi, rfl, k3, e1, e3, hco⟩
  have q3 := gat _ k3
  by_cases hlt : i < r.cts.length
  · have hwi := wrap_succ (i := i) (by omega)
    have hs1 := contsTo_succ hlt
    rw [hco, Bool.true_and] at hs1
    rw [hv5] at q3
    simp -dsimp [e1, e3, hlt, q3]
    rw [← hv5]
    refine (f73 (s5.keep (hgr.trans k3) fun _ _ h => h) hlt (by omega)).next ?_
    rintro K2 k4
    have k4 := k3.trans k4
    cases z : contP r.cts[i] (plainTo r.cts i)
    · simp -dsimp [e1, e3]
      exact fin_mk ⟨by rw [contsTo_stop hlt z], hgr.trans k4⟩
    · rw [z] at hs1
      simp -dsimp [e1, e3, hwi]
      exact hold_mk ⟨r.cts.length - (i + 1), by omega, i + 1, by omega, rfl, k4, by simp [e1], by simp, hs1⟩
  · have : i = r.cts.length := by omega
    subst this
    rw [hv5] at q3
    simp -dsimp [e1, e3, q3]
    exact fin_mk ⟨by rw [hco], hgr.trans k3⟩
end Go.Proofs.YtceamnigcimldaaGreatDoor
