/- A part of the proof: contracts of functions, over the abstract machine. -/
import Derived.Test.YtmdmabedfleacaaTc3
set_option linter.unusedVariables false
set_option linter.unusedSimpArgs false
set_option linter.all false
namespace Go.Proofs.Ytmdmabedfleacaa
open Ram Go

variable {W0 : World} {H : AH}

theorem emod_nat {n : Int} {m : Nat} (hm : 0 < m) : ∃ k : Nat, n % (m : Int) = k ∧ k < m :=
  ⟨(n % m).toNat, by have := Int.emod_nonneg n (show (m : Int) ≠ 0 by omega); omega, by have := Int.emod_lt_of_pos n (show (0 : Int) < m by omega); have := Int.emod_nonneg n (show (m : Int) ≠ 0 by omega); omega⟩

theorem tick2_touch {k i touched now : Nat} : touchD (tick2 k i true touched) kb now = tick2 k i true now := by
  have hn : same kb ka = false := by decide
  have hy : same kb kb = true := by decide
  unfold tick2
  by_cases h : i < k
  · simp only [h, if_true]
    exact touchD_mid (X := [⟨ka, 1, 0⟩]) (Y := []) (y := ⟨kb, 2, touched⟩) hy (by simp [hn])
  · simp only [h, if_false, if_true]
    exact touchD_mid (X := []) (Y := []) (y := ⟨kb, 2, touched⟩) hy (by simp)
theorem tick2_found {k i touched : Nat} : foundD (tick2 k i true touched) kb = some ⟨kb, 2, touched⟩ := by
  have hn : same kb ka = false := by decide
  have hy : same kb kb = true := by decide
  unfold tick2 foundD
  by_cases h : i < k <;> simp [h, hn, hy]
theorem tick2_length {k i touched : Nat} {there : Bool} : (tick2 k i there touched).length = (if i < k then 1 else 0) + (if there then 1 else 0) := by
  unfold tick2; by_cases h : i < k <;> cases there <;> simp [h]

/-- The law TableTicks. -/
theorem f8 (A : AH) (args : List V) (h : HasA A [.one (.i .i64), .one (.i .i64), .one (.i .i64)] args) : ACalls Try.prog W0 8 args A fun e _ => e = .ret (.b true) := by
  obtain ⟨a0, _, rfl, _, h⟩ := h.invi
  obtain ⟨a1, _, rfl, _, h⟩ := h.invi
  obtain ⟨a2, _, rfl, _, h⟩ := h.invi
  rw [h.inv0]
  obtain ⟨q, hq, hq'⟩ := emod_nat (n := a0) (m := 20) (by omega)
  obtain ⟨u, hu, hu'⟩ := emod_nat (n := a1) (m := 20) (by omega)
  obtain ⟨m, hm, hm'⟩ := emod_nat (n := a2) (m := 60) (by omega)
  obtain ⟨k, hk⟩ : ∃ k, k = q + 1 := ⟨_, rfl⟩
  obtain ⟨w, hw⟩ : ∃ k, k = u + 1 := ⟨_, rfl⟩
  have hwk : IntKind.i64.wrap (1 + (q : Int)) = k := by rw [wrap_i64 (by omega) (by omega)]; omega
  have hww : IntKind.i64.wrap (1 + (u : Int)) = w := by rw [wrap_i64 (by omega) (by omega)]; omega
  refine acalls_in k8 (by simp) ?_
  simp -dsimp
  refine (f10 (n := a0) (m := 20) (by omega) (by omega)).next ?_
  rintro _ rfl
  rw [show a0 % 20 = q from hq]
  simp -dsimp [hwk]
  refine (f10 (n := a1) (m := 20) (by omega) (by omega)).next ?_
  rintro _ rfl
  rw [show a1 % 20 = u from hu]
  simp -dsimp [hww]
  refine (f10 (n := a2) (m := 60) (by omega) (by omega)).next ?_
  rintro _ rfl
  rw [show a2 % 60 = m from hm]
  simp -dsimp
  refine (f11 5 k).some ?_
  rintro tb H1 ⟨h1, g1⟩
  rw [show max 1 (min (5 : Int) 64) = 5 by decide, show max 1 (min (k : Int) 100000) = k by omega] at h1
  simp -dsimp
  obtain ⟨H2, hH2⟩ : ∃ H2, H2 = ((((H1.alloc (.cells .rw [.i .i64 0, .i .u32 0, .i .u32 0, .i .i64 0, .i .i64 0])).alloc (.cells .rw [.i .i64 0, .i .u32 0, .i .u32 0, .i .i64 0, .i .i64 0])).set H1.next (.cells .rw [.i .i64 6, .i .u32 1, .i .u32 0, .i .i64 0, .i .i64 0])).set (H1.next + 1) (.cells .rw [.i .i64 6, .i .u32 2, .i .u32 0, .i .i64 0, .i .i64 0])) := ⟨_, rfl⟩
  rw [← hH2]
  have g2 : Grows H1 H2 := by rw [hH2]; exact Keeps.set_new (Keeps.set_new (Keeps.alloc' (Keeps.alloc' Keeps.refl)) (Nat.le_refl _)) (Nat.le_succ _)
  have gb2 : H2.get (H1.next + 1) = some (.cells .rw kb.c) := by rw [hH2, AH.get_set, if_pos rfl]; rfl
  have lb2 : H1.next + 1 < H2.next := by rw [hH2]; simp
  have nb1 : ¬ Up NoId A H1 (H1.next + 1) := by
    rintro (h | h)
    · exact h
    · omega
  refine (f13 ka (h1.grow g2) (by omega) (by omega)).next ?_
  rintro H3 ⟨h3, k3⟩
  have e1 : foundD [] ka = none := rfl
  rw [show putD [] 5 0 0 ka = [⟨ka, 1, 0⟩] from rfl, e1] at h3
  rw [e1]
  have gb3 := k3.at lb2 nb1 gb2
  have lb3 := Nat.lt_of_lt_of_le lb2 k3.next
  have nb3 := Up.not (H' := H3) nb1 lb2
  simp -dsimp [ldCells_of gb3]
  refine (f13 kb h3 (by simp) (by omega)).next ?_
  rintro H4 ⟨h4, k4⟩
  have e2 : foundD [⟨ka, 1, 0⟩] kb = none := rfl
  rw [show putD [⟨ka, 1, 0⟩] 5 0 (none.elim ((0 : Int) + 1) fun _ => 0) kb = [⟨ka, 1, 0⟩, ⟨kb, 2, 0⟩] from rfl, e2] at h4
  rw [e2]
  have gb4 := k4.at lb3 nb3 gb3
  have lb4 := Nat.lt_of_lt_of_le lb3 k4.next
  have nb4 := Up.not (H' := H4) nb3 lb3
  simp -dsimp
  obtain ⟨l4, hl4⟩ : ∃ l : Int, l = ((none : Option Fd).elim (((none : Option Fd).elim ((0 : Int) + 1) fun _ => 0) + 1) fun _ => ((none : Option Fd).elim ((0 : Int) + 1) fun _ => 0)) := ⟨_, rfl⟩
  obtain ⟨bx, hbx⟩ : ∃ bx, bx = H1.next + 1 := ⟨_, rfl⟩
  rw [← hbx] at gb4 lb4 nb4
  refine awp_round (fun r env H => ∃ (i touched : Nat) (there : Bool) (F : Nat → Prop) (last : Int), i ≤ m ∧ r = m - i ∧ env.get 7 = some (.i .i64 k) ∧ env.get 8 = some (.i .i64 w) ∧ env.get 9 = some (.i .i64 m) ∧ env.get 10 = some (.p (some (tb, 0))) ∧ env.get 12 = some (.p (some (bx, 0))) ∧
    env.get 13 = some (.b there) ∧ env.get 14 = some (.i .i64 touched) ∧ env.get 15 = some (.i .i64 ((i : Int) + 1)) ∧ touched ≤ i ∧ TRep H tb 5 k i last (tick2 k i there touched) F ∧ H.get bx = some (.cells .rw kb.c) ∧ bx < H.next ∧ ¬ F bx) m
    ⟨0, 0, true, _, _, by omega, by omega, by simp, by simp, by simp, by simp, by simp [hbx], by simp, by simp, by simp, by omega, by
      have : tick2 k 0 true 0 = [⟨ka, 1, 0⟩, ⟨kb, 2, 0⟩] := by unfold tick2; rw [if_pos (by omega)]; rfl
      rw [this]; exact h4, gb4, lb4, nb4⟩ ?_
  rintro r env H5 ⟨i, touched, there, F, last, hi, rfl, e7, e8, e9, e10, e12, e13, e14, e15, ht, h5, gb5, lb5, nb5⟩
  by_cases hlt : i < m
  · have c1 : (i : Int) + 1 ≤ m := by omega
    simp -dsimp [e7, e8, e9, e10, e12, e13, e14, e15, c1]
    refine (f33 1 h5).some ?_
    rintro v H6 ⟨hs6, h6, k6⟩
    have hnow : IntKind.i64.wrap ((i : Int) + stepOf 1) = (i : Int) + 1 := by rw [show stepOf 1 = 1 by decide, wrap_i64 (by omega) (by omega)]
    obtain ⟨s1, s2⟩ := tick2_step (k := k) (there := there) (by omega) (by omega) ht
    rw [hnow] at hs6 h6
    rw [s1] at h6
    obtain ⟨e', a', cap', rfl⟩ := hs6.len
    have gb6 := k6.at lb5 nb5 gb5
    have lb6 := Nat.lt_of_lt_of_le lb5 k6.next
    rw [List.length_map, sortI_length, List.length_map, s2]
    have hsub : IntKind.i64.wrap ((i : Int) + 1 - touched) = (i : Int) + 1 - touched := wrap_i64 (by omega) (by omega)
    have hw2 : IntKind.i64.wrap ((i : Int) + 1 + 1) = (i : Int) + 1 + 1 := wrap_i64 (by omega) (by omega)
    have hw0 : ¬ w = 0 := by omega
    have hrem : ((i : Int) + 1).tmod w = ((i : Int) + 1) % w := Int.tmod_eq_emod_of_nonneg (by omega)
    obtain ⟨x1, hx1⟩ : ∃ x, x = decide (i + 1 = k) := ⟨_, rfl⟩
    obtain ⟨x2, hx2⟩ : ∃ x, x = decide (k + touched ≤ i + 1) := ⟨_, rfl⟩
    obtain ⟨x3, hx3⟩ : ∃ x, x = decide (((i : Int) + 1) % w = 0) := ⟨_, rfl⟩
    have D1 : decide ((i : Int) + 1 = k) = x1 := by rw [hx1, decide_eq_decide]; omega
    have D2 : decide ((k : Int) ≤ (i : Int) + 1 - touched) = x2 := by rw [hx2, decide_eq_decide]; omega
    have s3 : (if i + 1 = k then 1 else 0) = (if x1 then 1 else 0) := by rw [hx1]; by_cases h : i + 1 = k <;> simp [h]
    have s4 : decide (i + 1 < k + touched) = !x2 := by rw [hx2, Bool.eq_iff_iff]; simp
    rw [s3, ← hx2]
    rw [s4] at h6
    have hcast : ((i + 1 : Nat) : Int) = (i : Int) + 1 := by omega
    rw [← hcast] at h6
    have hti : touched ≤ i + 1 := by omega
    simp -dsimp [e7, e8, e9, e10, e12, e13, e14, e15, D1]
    cases x1 <;> cases there <;> cases x2 <;> simp -dsimp [e7, e8, e9, e10, e12, e13, e14, e15, D1, hsub, D2, hw0, hrem, ← hx3]
    all_goals cases x3
    all_goals simp -dsimp [e7, e8, e9, e10, e12, e13, e14, e15, hsub, D2, hw0, hrem, ← hx3, hw2, ldCells_of gb6]
    all_goals first
      | exact hold_mk ⟨m - (i + 1), by omega, i + 1, touched, _, F, last, by omega, rfl, by simp [e7], by simp [e8], by simp [e9], by simp [e10], by simp [e12], by simp [e13], by simp [e14], by simp, hti, h6, gb6, lb6, nb5⟩
      | skip
    all_goals refine (f31D kb h6).next ?_
    all_goals rintro H7 ⟨h7, k7⟩
    all_goals simp only [Bool.not_false, Bool.and_true, tick2_found, tick2_touch] at h7 ⊢
    all_goals simp -dsimp [e7, e8, e9, e10, e12, e13, e14, e15, hw2]
    all_goals exact hold_mk ⟨m - (i + 1), by omega, i + 1, i + 1, true, F, last, by omega, rfl, by simp [e7], by simp [e8], by simp [e9], by simp [e10], by simp [e12], by simp [e13], by simp, by simp, by omega, h7, k7.at lb6 nb5 gb6, Nat.lt_of_lt_of_le lb6 k7.next, nb5⟩
  · have c1 : ¬ (m : Int) + 1 ≤ m := by omega
    have him : i = m := by omega
    subst him
    simp -dsimp [e7, e8, e9, e10, e12, e13, e14, e15, c1]
    refine (f14 h5).some ?_
    rintro v H6 ⟨hs6, g6⟩
    obtain ⟨e', a', cap', rfl⟩ := hs6.len
    have h6 := h5.grow g6
    rw [List.length_map, tick2_length]
    simp -dsimp [e7, e8, e9, e10, e12, e13, e14, e15]
    refine (f34 there).next ?_
    rintro _ rfl
    simp -dsimp [e7, e8, e9, e10, e12, e13, e14, e15]
    refine (f34 (decide (i < k))).next ?_
    rintro _ rfl
    have fl := @f35 W0 H6 tb 5 k i last (tick2 k i there touched) F h6
    have hlen : (sortI ((tick2 k i there touched).map (·.id))).length = (if i < k then 1 else 0) + (if there then 1 else 0) := by rw [sortI_length, List.length_map, tick2_length]
    by_cases hik : i < k <;> cases there <;> simp -dsimp [e7, e8, e9, e10, e12, e13, e14, e15, hik]
    all_goals refine fl.some ?_
    all_goals rintro v H7 ⟨hs7, h7, k7⟩
    all_goals obtain ⟨e', a', cap', rfl⟩ := hs7.len
    all_goals rw [List.length_map, hlen]
    all_goals simp -dsimp [e7, e8, e9, e10, e12, e13, e14, e15, hik]
    all_goals refine (f34 _).next ?_
    all_goals rintro _ rfl
    all_goals simp -dsimp [e7, e8, e9, e10, e12, e13, e14, e15, hik]
    all_goals refine (f34 _).next ?_
    all_goals rintro _ rfl
    all_goals simp -dsimp [e7, e8, e9, e10, e12, e13, e14, e15, hik]
    all_goals refine (f14 h7).some ?_
    all_goals rintro v H8 ⟨hs8, g8⟩
    all_goals obtain ⟨e', a', cap', rfl⟩ := hs8.len
    all_goals simp -dsimp [e7, e8, e9, e10, e12, e13, e14, e15, hik]
    all_goals refine f12.mono ?_
    all_goals intro e' H' h
    all_goals rw [h]
    all_goals simp -dsimp [e7, e8, e9, e10, e12, e13, e14, e15, hik]
    all_goals exact fin_mk rfl
end Go.Proofs.Ytmdmabedfleacaa
