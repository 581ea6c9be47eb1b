/- A part of the proof: contracts of functions, over the abstract machine. -/
import Derived.Test.YtceamnigcimldaaDoorPo11
set_option linter.unusedVariables false
set_option linter.unusedSimpArgs false
set_option linter.all false
/- Ports: the law PortsSpans. -/
namespace Go.Proofs.YtceamnigcimldaaDoor
open Ram Go Go.Proofs.Ports

variable {W0 : World} {H : AH}

theorem ok_one {f t : Int} (h0 : 0 ≤ f) (h1 : f ≤ t) (h2 : t ≤ 65535) : okP [⟨f, t⟩] = true := by simp [okP, okB, h0, h1, h2]
theorem has_one {f t k : Int} {not : Bool} (h0 : 0 ≤ f) (h1 : f ≤ t) (h2 : t ≤ 65535) (k0 : 0 ≤ k) (k1 : k ≤ 65535) : hasP not [⟨f, t⟩] k = ((decide (f ≤ k) && decide (k ≤ t)) != not) := by
  unfold hasP
  rw [ok_one h0 h1 h2]
  simp [inS, k0, k1]
theorem has_out {not : Bool} {l : List Sp} {k : Int} (h : k < 0 ∨ 65535 < k) : hasP not l k = false := by
  unfold hasP
  have : (decide (0 ≤ k) && decide (k ≤ 65535)) = false := by
    rcases h with h | h
    · have : ¬ 0 ≤ k := by omega
      simp [this]
    · have : ¬ k ≤ 65535 := by omega
      simp [this]
  rw [this, Bool.and_false, Bool.false_and]
theorem ok_not {f t : Int} (h : f < 0 ∨ t < f ∨ 65535 < t) : okP [⟨f, t⟩] = false := by
  have : okB ⟨f, t⟩ = false := by
    cases hh : okB ⟨f, t⟩
    · rfl
    · obtain ⟨a, b, c⟩ := okB_iff.1 hh
      simp only at a b c
      omega
  simp [okP, this]
/-- One span in memory of its own. -/
theorem one_sp {H1 : AH} {id : Nat} {f t : Int} (h : H1.get id = some (.cells .rw [.i .i64 f, .i .i64 t])) (hl : id < H1.next) : SlV H1 .rw 2 (.sl 2 (some (id, 0)) 1 1) ([⟨f, t⟩].map spRow) (fun j => j = id) := by
  refine .inr ⟨id, 0, 1, [.i .i64 f, .i .i64 t], rfl, rfl, ?_⟩
  have := SlAt.of (H := H1) (md := .rw) (es := 2) (id := id) (o := 0) (cap := 1) (rows := [(⟨f, t⟩ : Sp)].map spRow) (A := []) (B := []) (by simpa using h) hl (fun r hr => by obtain ⟨z, _, rfl⟩ := List.mem_map.1 hr; rfl) rfl (by simp) (by simp)
  simpa using this

set_option maxRecDepth 4000 in
/-- The law PortsSpans. -/
theorem f5 (A : AH) (args : List V) (ht : Tab W0) (h : HasA A [.one (.i .i64), .one (.i .i64), .one (.i .i64), .one .b] args) : ACalls Tryd.prog W0 5 args A fun e _ => e = .ret (.b true) := by
  obtain ⟨a, _, rfl, ha, h⟩ := h.invi
  obtain ⟨n, _, rfl, hn, h⟩ := h.invi
  obtain ⟨k, _, rfl, hk, h⟩ := h.invi
  obtain ⟨not, vs, rfl, h'⟩ := h.invb
  rw [h'.inv0]
  refine acalls_in k5 (by simp) ?_
  simp -dsimp
  refine (f19 (by omega) (by omega)).next ?_
  rintro _ rfl
  have f0 := Int.emod_nonneg a (b := 65536) (by omega)
  have f1 := Int.emod_lt_of_pos a (b := 65536) (by omega)
  obtain ⟨f, hf⟩ : ∃ f, f = a % 65536 := ⟨_, rfl⟩
  rw [← hf] at f0 f1 ⊢
  simp -dsimp
  refine (f19 (by omega) (by omega)).next ?_
  rintro _ rfl
  have d0 := Int.emod_nonneg n (b := 1000) (by omega)
  have d1 := Int.emod_lt_of_pos n (b := 1000) (by omega)
  obtain ⟨d, hd⟩ : ∃ d, d = n % 1000 := ⟨_, rfl⟩
  rw [← hd] at d0 d1 ⊢
  have w1 : IntKind.i64.wrap (f + d) = f + d := wrap_i64 (by omega) (by omega)
  obtain ⟨t, htt⟩ : ∃ t, t = if 65535 < f + d then 65535 else f + d := ⟨_, rfl⟩
  have t0 : f ≤ t := by rw [htt]; split <;> omega
  have t1 : t ≤ 65535 := by rw [htt]; split <;> omega
  simp -dsimp [w1, ← htt]
  obtain ⟨H1, hH1⟩ : ∃ H1, H1 = (A.alloc (.cells .rw [.i .i64 f, .i .i64 t])).alloc (.cells .rw [.b not, .sl 2 (some (A.next, 0)) 1 1]) := ⟨_, rfl⟩
  rw [← hH1]
  have n1 : H1.next = A.next + 2 := by rw [hH1]; simp
  have g0 : H1.get A.next = some (.cells .rw [.i .i64 f, .i .i64 t]) := by rw [hH1]; simp
  have g1 : H1.get (A.next + 1) = some (.cells .rw [.b not, .sl 2 (some (A.next, 0)) 1 1]) := by rw [hH1]; simp
  have s1 := one_sp g0 (by omega)
  refine (f19 (by omega) (by omega)).next ?_
  rintro _ rfl
  have q0 := Int.emod_nonneg k (b := 65536) (by omega)
  have q1 := Int.emod_lt_of_pos k (b := 65536) (by omega)
  obtain ⟨q, hq⟩ : ∃ q, q = k % 65536 := ⟨_, rfl⟩
  rw [← hq] at q0 q1 ⊢
  have w2 : IntKind.i64.wrap (-1 - q) = -1 - q := wrap_i64 (by omega) (by omega)
  have w3 : IntKind.i64.wrap (65536 + q) = 65536 + q := wrap_i64 (by omega) (by omega)
  have w4 : IntKind.i64.wrap (t + 1) = t + 1 := wrap_i64 (by omega) (by omega)
  have r1 : ∀ H2, Grows H1 H2 → ldCells H2 (A.next + 1) 0 2 = some [.b not, .sl 2 (some (A.next, 0)) 1 1] := fun H2 h => by
    have := ldCells_of (off := 0) (n := 2) (Grows.at h (by omega) g1); simpa using this
  obtain ⟨inn, hinn⟩ : ∃ b, b = (decide (f ≤ q) && decide (q ≤ t)) := ⟨_, rfl⟩
  have hq1 := has_one (k := q) (not := not) f0 t0 t1 q0 (by omega)
  rw [← hinn] at hq1
  have hq2 := has_one (k := f) (not := not) f0 t0 t1 f0 (by omega)
  have hq3 := has_one (k := t) (not := not) f0 t0 t1 (by omega) (by omega)
  have e2 : ((decide (f ≤ f) && decide (f ≤ t)) != not) = !not := by simp [t0]
  have e3 : ((decide (f ≤ t) && decide (t ≤ t)) != not) = !not := by simp [t0]
  rw [e2] at hq2
  rw [e3] at hq3
  have hself : ∀ b : Bool, (b == b) = true := fun b => by cases b <;> rfl
  have hc : (f ≤ q ∧ q ≤ t) ∨ (f ≤ q ∧ ¬ q ≤ t) ∨ ¬ f ≤ q := by omega
  rcases hc with ⟨c1, c2⟩ | ⟨c1, c2⟩ | c1
  case' inl =>
    have hi : inn = true := by simp [hinn, c1, c2]
    simp -dsimp [c1, c2]
  case' inr.inl =>
    have hi : inn = false := by simp [hinn, c1, c2]
    simp -dsimp [c1, c2]
  case' inr.inr =>
    have hi : inn = false := by simp [hinn, c1]
    simp -dsimp [c1]
  all_goals
    rw [hi] at hq1
    simp -dsimp [r1 _ Keeps.refl]
    refine (f9 s1 (by simp)).next ?_
    rintro H2 h2
    rw [ok_one f0 t0 t1]
    simp -dsimp [r1 _ h2]
    refine (f15 (s1.keep h2 fun _ _ h => h) (by simp)).next ?_
    rintro H3 h3
    have h3 := h2.trans h3
    rw [hq1]
    simp -dsimp [r1 _ h3, hself]
    refine (f15 (s1.keep h3 fun _ _ h => h) (by simp)).next ?_
    rintro H4 h4
    have h4 := h3.trans h4
    rw [hq2]
    simp -dsimp [r1 _ h4, hself]
    refine (f15 (s1.keep h4 fun _ _ h => h) (by simp)).next ?_
    rintro H5 h5
    have h5 := h4.trans h5
    rw [hq3]
    simp -dsimp [r1 _ h5, hself, w2]
    refine (f15 (s1.keep h5 fun _ _ h => h) (by simp)).next ?_
    rintro H6 h6
    have h6 := h5.trans h6
    rw [has_out (by omega)]
    simp -dsimp [r1 _ h6, hself, w3]
    refine (f15 (s1.keep h6 fun _ _ h => h) (by simp)).next ?_
    rintro H7 h7
    have h7 := h6.trans h7
    rw [has_out (by omega)]
    simp -dsimp [w4]
    refine (f9 (one_sp (f := t + 1) (t := t) (H1 := H7.alloc (.cells .rw [.i .i64 (t + 1), .i .i64 t])) (by simp) (by simp)) (by simp)).next ?_
    rintro H8 h8
    rw [ok_not (by omega)]
    simp -dsimp [w3]
    refine (f9 (one_sp (f := f) (t := 65536 + q) (H1 := H8.alloc (.cells .rw [.i .i64 f, .i .i64 (65536 + q)])) (by simp) (by simp)) (by simp)).next ?_
    rintro H9 h9
    rw [ok_not (by omega)]
    simp -dsimp
    refine (f8 ht).next ?_
    rintro H10 h10
    simp -dsimp
    exact fin_mk rfl
end Go.Proofs.YtceamnigcimldaaDoor
