/- A part of the proof: contracts of functions, over the abstract machine. -/
import Derived.Test.YtceamnigcimldaaGreatDoorZr9
import Derived.Test.YtceamnigcimldaaGreatDoorZd3
set_option linter.unusedVariables false
set_option linter.unusedSimpArgs false
set_option linter.all false
/- The law RuleChecks. -/
namespace Go.Proofs.YtceamnigcimldaaGreatDoor
open Ram Go Go.Proofs.Ports

variable {W0 : World} {H : AH}

abbrev netKs : List KC := [.i .u32, .i .i64]
abbrev spKs : List KC := [.i .i64, .i .i64]
abbrev ctKs : List KC := [.s, .b, .b, .i .i64, .i .i64, .b, .i .i64, .i .i64]
abbrev ruleKs : List KC := [.i .i64, .i .i64, .b, .sl netKs, .b, .sl spKs, .b, .sl netKs, .b, .sl spKs, .b, .i .i64, .sl ctKs, .i .i64, .i .i64]
theorem nets_of {A : AH} : ∀ {rows : List (List V)}, HasRs A netKs rows → ∃ l : List Net, rows = l.map nRow
  | [], _ => ⟨[], rfl⟩
  | r :: rows, h => by
    cases h with
    | cons _ _ _ h1 h2 =>
      obtain ⟨l, rfl⟩ := nets_of h2
      obtain ⟨a, _, rfl, _, k1⟩ := HasK.invi h1
      obtain ⟨b, _, rfl, _, k2⟩ := HasK.invi k1
      rw [HasK.inv0 k2]
      exact ⟨⟨a, b⟩ :: l, rfl⟩
theorem sps_of {A : AH} : ∀ {rows : List (List V)}, HasRs A spKs rows → ∃ l : List Sp, rows = l.map spRow
  | [], _ => ⟨[], rfl⟩
  | r :: rows, h => by
    cases h with
    | cons _ _ _ h1 h2 =>
      obtain ⟨l, rfl⟩ := sps_of h2
      obtain ⟨a, _, rfl, _, k1⟩ := HasK.invi h1
      obtain ⟨b, _, rfl, _, k2⟩ := HasK.invi k1
      rw [HasK.inv0 k2]
      exact ⟨⟨a, b⟩ :: l, rfl⟩
theorem cts_of {A : AH} : ∀ {rows : List (List V)}, HasRs A ctKs rows → ∃ l : List Ct, rows = l.map cRow
  | [], _ => ⟨[], rfl⟩
  | r :: rows, h => by
    cases h with
    | cons _ _ _ h1 h2 =>
      obtain ⟨l, rfl⟩ := cts_of h2
      obtain ⟨a1, _, rfl, _, k1⟩ := HasK.invs h1
      obtain ⟨a2, _, rfl, k2⟩ := HasK.invb k1
      obtain ⟨a3, _, rfl, k3⟩ := HasK.invb k2
      obtain ⟨a4, _, rfl, _, k4⟩ := HasK.invi k3
      obtain ⟨a5, _, rfl, _, k5⟩ := HasK.invi k4
      obtain ⟨a6, _, rfl, k6⟩ := HasK.invb k5
      obtain ⟨a7, _, rfl, _, k7⟩ := HasK.invi k6
      obtain ⟨a8, _, rfl, _, k8⟩ := HasK.invi k7
      rw [HasK.inv0 k8]
      exact ⟨⟨a1, a2, a3, a4, a5, a6, a7, a8⟩ :: l, rfl⟩
theorem rule_of {A : AH} {row : List V} (h : HasK A ruleKs row) : ∃ r v1 v2 v3 v4 v5, Is0 A .ro (fun _ => True) row r v1 v2 v3 v4 v5 := by
  obtain ⟨act, _, rfl, _, k1⟩ := HasK.invi h
  obtain ⟨proto, _, rfl, _, k2⟩ := HasK.invi k1
  obtain ⟨fn, _, rfl, k3⟩ := HasK.invb k2
  obtain ⟨v1, _, r1, rfl, s1, q1, _, k4⟩ := HasK.invsl k3
  obtain ⟨fpn, _, rfl, k5⟩ := HasK.invb k4
  obtain ⟨v2, _, r2, rfl, s2, q2, _, k6⟩ := HasK.invsl k5
  obtain ⟨tn, _, rfl, k7⟩ := HasK.invb k6
  obtain ⟨v3, _, r3, rfl, s3, q3, _, k8⟩ := HasK.invsl k7
  obtain ⟨tpn, _, rfl, k9⟩ := HasK.invb k8
  obtain ⟨v4, _, r4, rfl, s4, q4, _, k10⟩ := HasK.invsl k9
  obtain ⟨both, _, rfl, k11⟩ := HasK.invb k10
  obtain ⟨flow, _, rfl, _, k12⟩ := HasK.invi k11
  obtain ⟨v5, _, r5, rfl, s5, q5, l5, k13⟩ := HasK.invsl k12
  obtain ⟨sid, _, rfl, _, k14⟩ := HasK.invi k13
  obtain ⟨rev, _, rfl, _, k15⟩ := HasK.invi k14
  rw [HasK.inv0 k15]
  obtain ⟨fl, rfl⟩ := nets_of q1
  obtain ⟨fpl, rfl⟩ := sps_of q2
  obtain ⟨tl, rfl⟩ := nets_of q3
  obtain ⟨tpl, rfl⟩ := sps_of q4
  obtain ⟨cts, rfl⟩ := cts_of q5
  rw [List.length_map] at l5
  exact ⟨⟨act, proto, fn, fl, fpn, fpl, tn, tl, tpn, tpl, both, flow, cts, sid, rev⟩, v1, v2, v3, v4, v5, rfl, s1, s2, s3, s4, s5, l5⟩
theorem rules_of {A : AH} : ∀ {rows : List (List V)}, HasRs A ruleKs rows → ∃ rl : List Rl, Rows0 A .ro (fun _ => True) rows rl
  | [], _ => ⟨[], rfl, fun i h => by simp at h⟩
  | r :: rows, h => by
    cases h with
    | cons _ _ _ h1 h2 =>
      obtain ⟨rl, hl⟩ := rules_of h2
      obtain ⟨x, hx⟩ := rule_of h1
      refine ⟨x :: rl, by simp [hl.len], fun i k1 k2 => ?_⟩
      cases i with
      | zero => exact hx
      | succ i => exact hl.at' i (by simpa using k1) (by simpa using k2)

set_option maxRecDepth 4000 in
set_option maxHeartbeats 1000000 in
/-- The law RuleChecks. -/
theorem f9 (A : AH) (args : List V) (h : HasA A [.sl ruleKs] args) : ACalls Tryz.prog W0 9 args A fun e _ => e = .ret (.b true) := by
  obtain ⟨v, _, rfl, ⟨rows, hs, hrs, hml⟩, h2⟩ := h.inv
  rw [h2.inv0]
  obtain ⟨rl, hr0⟩ := rules_of (rows_of hrs)
  refine acalls_in k9 (by simp) ?_
  simp -dsimp
  refine (f13 hs hr0).mono ?_
  rintro e _ ⟨⟨b, rfl, hb⟩, rfl⟩
  cases b
  · simp -dsimp
    refine f25.next ?_
    rintro _ rfl
    simp -dsimp
    exact fin_mk rfl
  obtain ⟨h50, hfew⟩ := hb rfl
  have hr := hr0.few hfew
  have hlen := hr.len
  obtain ⟨e', a', cap', hv⟩ := hs.len
  rw [hlen] at hv
  simp -dsimp
  refine awp_round (fun m env K => ∃ i : Nat, i ≤ rl.length ∧ m = rl.length - i ∧ Grows A K ∧ env.get 0 = some v ∧ env.get 3 = some (.i .i64 i)) rl.length
    ⟨0, by omega, by omega, Keeps.refl, by simp, by simp⟩ ?_
  rintro m env K ⟨i, hi, rfl, hgr, e0, e3⟩
  by_cases hlt : i < rl.length
  · have hlr : i < rows.length := by omega
    have hwi := wrap_succ (i := i) (by omega)
    have rowat : ∀ K', Grows A K' → ∃ id o cap, v = .sl 15 (some (id, o)) rl.length cap ∧ ldCells K' id (o + i * 15) 15 = some rows[i] := fun K' h => by
      obtain ⟨id, o, cap, cs, hvv, hF, sa, _⟩ := rows_row (hs.keep h fun _ _ h => h) hlr
      rw [hlen] at hvv
      exact ⟨id, o, cap, hvv, sa.row (List.getElem?_eq_getElem hlr)⟩
    obtain ⟨id, o, cap, hvv, hrow⟩ := rowat K hgr
    obtain ⟨v1, v2, v3, v4, v5, hI⟩ := hr.at' i hlr hlt
    have hself : ∀ b : Bool, (b != b) = false := fun b => by cases b <;> rfl
    rw [hvv] at e0
    simp -dsimp [e0, e3, hlt, hrow]
    refine (f28 (hI.keep hgr fun _ _ h => h)).next ?_
    rintro K2 k2
    have k2 := hgr.trans k2
    obtain ⟨id', o', cap'', hvv', hrow2⟩ := rowat K2 k2
    obtain ⟨rfl, rfl, rfl⟩ : id' = id ∧ o' = o ∧ cap'' = cap := by
      rw [hvv] at hvv'
      simp only [V.sl.injEq, Option.some.injEq, Prod.mk.injEq] at hvv'
      exact ⟨hvv'.2.1.1.symm, hvv'.2.1.2.symm, hvv'.2.2.2.symm⟩
    simp -dsimp [e0, e3, hlt, hrow2]
    refine (f29 (hI.keep k2 fun _ _ h => h)).next ?_
    rintro K3 k3
    have k3 := k2.trans k3
    simp -dsimp [e0, e3, hself, hwi]
    exact hold_mk ⟨rl.length - (i + 1), by omega, i + 1, by omega, rfl, k3, by simp [e0, hvv], by simp⟩
  · have : i = rl.length := by omega
    subst this
    have e0' := e0
    rw [hv] at e0
    simp -dsimp [e0, e3]
    rw [← hv]
    refine (f18 (hs.keep hgr fun _ _ h => h) (hr.keep hgr fun _ _ h => h) h50).mono ?_
    rintro e K2 ⟨v', rfl, ⟨rows', FM, FR, t1, t2⟩, k2⟩
    simp -dsimp
    refine (f30 t1 t2 (by omega)).next ?_
    rintro K3 k3
    have k3 := (hgr.trans k2).trans k3
    simp -dsimp [e0']
    refine (f31 (hs.keep k3 fun _ _ h => h) (hr.keep k3 fun _ _ h => h) (by omega)).next ?_
    rintro K4 k4
    simp -dsimp
    refine f25.next ?_
    rintro _ rfl
    simp -dsimp
    exact fin_mk rfl
end Go.Proofs.YtceamnigcimldaaGreatDoor
