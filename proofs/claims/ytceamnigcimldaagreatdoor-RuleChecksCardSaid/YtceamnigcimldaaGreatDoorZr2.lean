/- A part of the proof: contracts of functions, over the abstract machine. -/
import Derived.Test.YtceamnigcimldaaGreatDoorZr1
set_option linter.unusedVariables false
set_option linter.unusedSimpArgs false
set_option linter.all false
/- Rules: contents, the other answer. -/
namespace Go.Proofs.YtceamnigcimldaaGreatDoor
open Ram Go Go.Proofs.Ports

variable {W0 : World} {H : AH}

/-- rampartref11.place. -/
theorem f97 {v : Int} : ACalls Tryz.prog W0 97 [.i .i64 v] H fun e H' => e = .ret (.b (inB v 0 65535)) ∧ H = H' := by
  refine acalls_in k97 (by simp) ?_
  by_cases h1 : 0 ≤ v
  · simp -dsimp [h1]
    exact fin_mk ⟨by simp [inB, h1], rfl⟩
  · simp -dsimp [h1]
    exact fin_mk ⟨by simp [inB, h1], rfl⟩
theorem inB_false {v a b : Int} (h : v < a ∨ b < v) : inB v a b = false := Bool.eq_false_iff.2 fun hh => by
  rw [inB, Bool.and_eq_true, decide_eq_true_eq, decide_eq_true_eq] at hh; omega
theorem inB_true {v a b : Int} (h1 : a ≤ v) (h2 : v ≤ b) : inB v a b = true := by simp [inB, h1, h2]
def plainTo (l : List Ct) (k : Nat) : Bool := (l.take k).any fun c => !c.no
theorem plainTo_succ {l : List Ct} {i : Nat} (h : i < l.length) : plainTo l (i + 1) = (plainTo l i || !l[i].no) := by
  unfold plainTo; rw [take_snoc h, List.any_append]; simp
/-- rampartref11.plain. -/
theorem f98 {v : V} {l : List Ct} {md : Md} {F : Nat → Prop} {k : Nat} (hs : SlV H md 8 v (l.map cRow) F) (hk : k ≤ l.length) (hl : l.length < 4611686018427387904) : ACalls Tryz.prog W0 98 [v, .i .i64 k] H fun e H' => e = .ret (.b (plainTo l k)) ∧ H = H' := by
  obtain ⟨e', a', cap', hv⟩ := hs.len
  rw [List.length_map] at hv
  refine acalls_in k98 (by simp) ?_
  simp -dsimp
  refine awp_round (fun m env H1 => ∃ i : Nat, i ≤ k ∧ m = k - i ∧ H = H1 ∧ env.get 0 = some v ∧ env.get 1 = some (.i .i64 k) ∧ env.get 5 = some (.i .i64 i) ∧ plainTo l i = false) k
    ⟨0, by omega, by omega, rfl, by simp, by simp, by simp, by simp [plainTo]⟩ ?_
  rintro m env H1 ⟨i, hi, rfl, rfl, e0, e1, e5, hp⟩
  by_cases hlt : i < k
  · obtain ⟨id, o, cap, cs, hvv, hF, sa, _⟩ := at_row hs (show i < l.length by omega)
    have c0 := sa.cell (j := 2) (row_at (show i < l.length by omega)) (by omega)
    simp at c0
    have hps := plainTo_succ (l := l) (i := i) (by omega)
    rw [hp] at hps
    have hwi := wrap_succ (i := i) (by omega)
    have hli : i < l.length := by omega
    rw [hvv] at e0
    cases hno : l[i].no
    · rw [hno] at c0 hps
      simp -dsimp [e0, e1, e5, hlt, hli, sa.get, c0]
      have : plainTo l k = true := List.any_eq_true.2 ⟨l[i], List.mem_take_iff_getElem.2 ⟨i, by omega, rfl⟩, by simp [hno]⟩
      exact fin_mk ⟨by rw [this], rfl⟩
    · rw [hno] at c0 hps
      simp -dsimp [e0, e1, e5, hlt, hli, sa.get, c0, hwi]
      exact hold_mk ⟨k - (i + 1), by omega, i + 1, by omega, rfl, rfl, by simp [e0, hvv], by simp [e1], by simp, by simpa using hps⟩
  · have : i = k := by omega
    subst this
    rw [hp]
    simp -dsimp [e0, e1, e5]
    exact fin_mk ⟨rfl, rfl⟩

set_option maxRecDepth 4000 in
set_option maxHeartbeats 1000000 in
/-- rampartref11.content. -/
theorem f73 {v : V} {l : List Ct} {md : Md} {F : Nat → Prop} {k : Nat} (hs : SlV H md 8 v (l.map cRow) F) (hk : k < l.length) (hl : l.length < 4611686018427387904) : ACalls Tryz.prog W0 73 [v, .i .i64 k] H fun e H' => e = .ret (.b (contP l[k] (plainTo l k))) ∧ Grows H H' := by
  obtain ⟨id, o, cap, cs, hvv, hF, sa, _⟩ := at_row hs hk
  have hrow := sa.row (row_at hk)
  have hpl := fun H1 (h : Grows H H1) => f98 (W0 := W0) (hs.keep h fun _ _ h => h) (show k ≤ l.length by omega) hl
  obtain ⟨c, hc⟩ : ∃ c, c = l[k] := ⟨_, rfl⟩
  rw [← hc] at hrow ⊢
  obtain ⟨ah, hah⟩ : ∃ b, b = plainTo l k := ⟨_, rfl⟩
  rw [← hah] at hpl ⊢
  obtain ⟨b, nocase, no, off, dep, rel, dist, wi⟩ := c
  simp only [cRow] at hrow
  have hk0 : ∀ X, Grows H (H.alloc X) := fun _ => Keeps.alloc' Keeps.refl
  refine acalls_in k73 (by simp) ?_
  obtain ⟨ok, hok⟩ : ∃ ok, ok = contOk ⟨b, nocase, no, off, dep, rel, dist, wi⟩ := ⟨_, rfl⟩
  obtain ⟨H1, hH1⟩ : ∃ H1, H1 = H.alloc (.cells .rw [.s b, .b nocase, .b no, .i .i64 off, .i .i64 dep, .b rel, .i .i64 dist, .i .i64 wi]) := ⟨_, rfl⟩
  have hg : H1.get H.next = some (.cells .rw [.s b, .b nocase, .b no, .i .i64 off, .i .i64 dep, .b rel, .i .i64 dist, .i .i64 wi]) := by rw [hH1]; simp
  have hgr : Grows H H1 := by rw [hH1]; exact hk0 _
  have hwrong : ok = false → contP ⟨b, nocase, no, off, dep, rel, dist, wi⟩ ah = false := fun h => by unfold contP; rw [← hok, h]; rfl
  have hb1 : inB b.length 1 16 = (decide (1 ≤ (b.length : Int)) && decide ((b.length : Int) ≤ 16)) := rfl
  have hb5 : inB dist (-65535) 65535 = (decide (-65535 ≤ dist) && decide (dist ≤ 65535)) := rfl
  unfold contOk at hok
  simp only at hok
  simp -dsimp [hvv, hk, hrow, splice]
  rw [← hH1]
  by_cases n1 : (b.length : Int) < 1
  · have z := inB_false (b := 16) (.inl n1)
    simp -dsimp [n1]
    exact fin_mk ⟨by rw [hwrong (by rw [hok, z]; rfl)], hgr⟩
  by_cases n2 : (16 : Int) < b.length
  · have z := inB_false (a := 1) (.inr n2)
    simp -dsimp [n1, n2]
    exact fin_mk ⟨by rw [hwrong (by rw [hok, z]; rfl)], hgr⟩
  rw [inB_true (by omega) (by omega), Bool.true_and] at hok
  simp -dsimp [n1, n2, hg]
  refine f97.next ?_
  rintro _ rfl
  cases z1 : inB off 0 65535
  · rw [z1] at hok
    simp -dsimp
    exact fin_mk ⟨by rw [hwrong (by rw [hok]; rfl)], hgr⟩
  rw [z1, Bool.true_and] at hok
  simp -dsimp [hg]
  refine f97.next ?_
  rintro _ rfl
  cases z2 : inB dep 0 65535
  · rw [z2] at hok
    simp -dsimp
    exact fin_mk ⟨by rw [hwrong (by rw [hok]; rfl)], hgr⟩
  rw [z2, Bool.true_and] at hok
  simp -dsimp [hg]
  refine f97.next ?_
  rintro _ rfl
  cases z3 : inB wi 0 65535
  · rw [z3] at hok
    simp -dsimp
    exact fin_mk ⟨by rw [hwrong (by rw [hok]; rfl)], hgr⟩
  rw [z3, Bool.true_and] at hok
  by_cases d1 : dist < -65535
  · have z := inB_false (b := 65535) (.inl d1)
    simp -dsimp [hg, d1]
    exact fin_mk ⟨by rw [hwrong (by rw [hok, z])], hgr⟩
  by_cases d2 : 65535 < dist
  · have z := inB_false (a := -65535) (.inr d2)
    simp -dsimp [hg, d1, d2]
    exact fin_mk ⟨by rw [hwrong (by rw [hok, z])], hgr⟩
  rw [inB_true (by omega) (by omega)] at hok
  subst hok
  have hcp : contP ⟨b, nocase, no, off, dep, rel, dist, wi⟩ ah = (if rel then !no && (ah && (decide (off = 0) && (decide (dep = 0) && (decide (wi = 0) || decide ((b.length : Int) ≤ wi))))) else decide (dist = 0) && (decide (wi = 0) && (decide (dep = 0) || decide ((b.length : Int) ≤ dep)))) := by
    have : contOk ⟨b, nocase, no, off, dep, rel, dist, wi⟩ = true := by
      unfold contOk
      simp only
      rw [inB_true (by omega) (by omega), z1, z2, z3, inB_true (by omega) (by omega)]; rfl
    unfold contP; rw [this, Bool.true_and]
  rw [hcp]
  cases rel
  · by_cases q1 : dist = 0
    · by_cases q2 : wi = 0
      · by_cases q3 : dep = 0
        · simp -dsimp [hg, d1, d2, q1, q2, q3]
          exact fin_mk ⟨by simp [q1, q2, q3], hgr⟩
        · by_cases q4 : (b.length : Int) ≤ dep
          · simp -dsimp [hg, d1, d2, q1, q2, q3, q4]
            exact fin_mk ⟨by simp [q1, q2, q3, q4], hgr⟩
          · simp -dsimp [hg, d1, d2, q1, q2, q3, q4]
            exact fin_mk ⟨by simp [q1, q2, q3, q4], hgr⟩
      · simp -dsimp [hg, d1, d2, q1, q2]
        exact fin_mk ⟨by simp [q1, q2], hgr⟩
    · simp -dsimp [hg, d1, d2, q1]
      exact fin_mk ⟨by simp [q1], hgr⟩
  · cases no
    · simp -dsimp [hg, d1, d2]
      rw [← hvv]
      refine (hpl _ hgr).next ?_
      rintro _ rfl
      cases ah
      · simp -dsimp [hg]
        exact fin_mk ⟨by simp, hgr⟩
      · by_cases q1 : off = 0
        · by_cases q2 : dep = 0
          · by_cases q3 : wi = 0
            · simp -dsimp [hg, q1, q2, q3]
              exact fin_mk ⟨by simp [q1, q2, q3], hgr⟩
            · by_cases q4 : (b.length : Int) ≤ wi
              · simp -dsimp [hg, q1, q2, q3, q4]
                exact fin_mk ⟨by simp [q1, q2, q3, q4], hgr⟩
              · simp -dsimp [hg, q1, q2, q3, q4]
                exact fin_mk ⟨by simp [q1, q2, q3, q4], hgr⟩
          · simp -dsimp [hg, q1, q2]
            exact fin_mk ⟨by simp [q1, q2], hgr⟩
        · simp -dsimp [hg, q1]
          exact fin_mk ⟨by simp [q1], hgr⟩
    · simp -dsimp [hg, d1, d2]
      exact fin_mk ⟨by simp, hgr⟩
end Go.Proofs.YtceamnigcimldaaGreatDoor
