/- A part of the proof: contracts of functions, over the abstract machine. -/
import Derived.Test.YtceamnigcimldaaGreatDoorZn1
set_option linter.unusedVariables false
set_option linter.unusedSimpArgs false
set_option linter.all false
/- Rules: contents. -/
namespace Go.Proofs.YtceamnigcimldaaGreatDoor
open Ram Go Go.Proofs.Ports

variable {W0 : World} {H : AH}

def inB (v a b : Int) : Bool := decide (a ≤ v) && decide (v ≤ b)
/-- rule.in. -/
theorem f64 {v a b : Int} : ACalls Tryz.prog W0 64 [.i .i64 v, .i .i64 a, .i .i64 b] H fun e H' => e = .ret (.b (inB v a b)) ∧ H = H' := by
  refine acalls_in k64 (by simp) ?_
  by_cases h1 : a ≤ v
  · simp -dsimp [h1]
    exact fin_mk ⟨by simp [inB, h1], rfl⟩
  · simp -dsimp [h1]
    exact fin_mk ⟨by simp [inB, h1], rfl⟩
/-- rule.bare. -/
theorem f67 {not : Bool} {v : V} {l : List Sp} {md : Md} {F : Nat → Prop} (hs : SlV H md 2 v (l.map spRow) F) : ACalls Tryz.prog W0 67 [.agg [.b not, v]] H fun e H' => e = .ret (.b (decide (l.length = 0) && !not)) ∧ Grows H H' := by
  obtain ⟨e', a', cap', hv⟩ := hs.len
  rw [List.length_map] at hv
  have hone : V.one v = true := by rw [hv]; rfl
  have hk : ∀ X, Grows H (H.alloc X) := fun _ => Keeps.alloc' Keeps.refl
  refine acalls_in k67 (by simp) ?_
  rw [hv] at hone
  by_cases h1 : l.length = 0
  · have h1' : (l.length : Int) = 0 := by omega
    simp -dsimp [hv, hone, h1, h1']
    exact fin_mk ⟨by simp [h1], hk _⟩
  · have h1' : ¬ (l.length : Int) = 0 := by omega
    simp -dsimp [hv, hone, h1, h1']
    exact fin_mk ⟨by simp [h1], hk _⟩
/-- rampartref11.bare. -/
theorem f72 {not : Bool} {v : V} {l : List Sp} {md : Md} {F : Nat → Prop} (hs : SlV H md 2 v (l.map spRow) F) : ACalls Tryz.prog W0 72 [.agg [.b not, v]] H fun e H' => e = .ret (.b (decide (l.length = 0) && !not)) ∧ Grows H H' := by
  obtain ⟨e', a', cap', hv⟩ := hs.len
  rw [List.length_map] at hv
  have hone : V.one v = true := by rw [hv]; rfl
  have hk : ∀ X, Grows H (H.alloc X) := fun _ => Keeps.alloc' Keeps.refl
  refine acalls_in k72 (by simp) ?_
  rw [hv] at hone
  by_cases h1 : l.length = 0
  · have h1' : (l.length : Int) = 0 := by omega
    simp -dsimp [hv, hone, h1, h1']
    exact fin_mk ⟨by simp [h1], hk _⟩
  · have h1' : ¬ (l.length : Int) = 0 := by omega
    simp -dsimp [hv, hone, h1, h1']
    exact fin_mk ⟨by simp [h1], hk _⟩

/-- A content; as it lies. -/
structure Ct where
  b : List UInt8
  nocase : Bool
  no : Bool
  off : Int
  dep : Int
  rel : Bool
  dist : Int
  wi : Int
@[simp] def cRow (c : Ct) : List V := [.s c.b, .b c.nocase, .b c.no, .i .i64 c.off, .i .i64 c.dep, .b c.rel, .i .i64 c.dist, .i .i64 c.wi]
def contOk (c : Ct) : Bool := inB c.b.length 1 16 && (inB c.off 0 65535 && (inB c.dep 0 65535 && (inB c.wi 0 65535 && inB c.dist (-65535) 65535)))
def contP (c : Ct) (ahead : Bool) : Bool := contOk c && (if c.rel then !c.no && (ahead && (decide (c.off = 0) && (decide (c.dep = 0) && (decide (c.wi = 0) || decide ((c.b.length : Int) ≤ c.wi))))) else decide (c.dist = 0) && (decide (c.wi = 0) && (decide (c.dep = 0) || decide ((c.b.length : Int) ≤ c.dep))))

set_option maxRecDepth 4000 in
set_option maxHeartbeats 1000000 in
/-- rule.content. -/
theorem f69 {c : Ct} {ahead : Bool} : ACalls Tryz.prog W0 69 [.agg (cRow c), .b ahead] H fun e H' => e = .ret (.b (contP c ahead)) ∧ Grows H H' := by
  obtain ⟨b, nocase, no, off, dep, rel, dist, wi⟩ := c
  have hk : ∀ X, Grows H (H.alloc X) := fun _ => Keeps.alloc' Keeps.refl
  refine acalls_in k69 (by simp) ?_
  obtain ⟨ok, hok⟩ : ∃ ok, ok = contOk ⟨b, nocase, no, off, dep, rel, dist, wi⟩ := ⟨_, rfl⟩
  obtain ⟨H1, hH1⟩ : ∃ H1, H1 = H.alloc (.cells .rw [.s b, .b nocase, .b no, .i .i64 off, .i .i64 dep, .b rel, .i .i64 dist, .i .i64 wi]) := ⟨_, rfl⟩
  have hg : H1.get H.next = some (.cells .rw [.s b, .b nocase, .b no, .i .i64 off, .i .i64 dep, .b rel, .i .i64 dist, .i .i64 wi]) := by rw [hH1]; simp
  have hgr : Grows H H1 := by rw [hH1]; exact hk _
  rw [awp_assoc, awp_assoc]
  refine awp_cut (fun env H2 => H2 = H1 ∧ env.get 1 = some (.b ahead) ∧ env.get 2 = some (.p (some (H.next, 0))) ∧ env.get 5 = some (.i .i64 b.length) ∧ env.get 6 = some (.b ok)) ?_ ?_
  · unfold contOk at hok
    simp only at hok
    simp -dsimp
    rw [← hH1]
    refine f64.next ?_
    rintro _ rfl
    cases h1 : inB b.length 1 16
    · rw [h1] at hok
      simp -dsimp
      exact hold_mk ⟨rfl, by simp, by simp, by simp, by simp [hok]⟩
    rw [h1] at hok
    simp -dsimp [hg]
    refine f64.next ?_
    rintro _ rfl
    cases h2 : inB off 0 65535
    · rw [h2] at hok
      simp -dsimp
      exact hold_mk ⟨rfl, by simp, by simp, by simp, by simp [hok]⟩
    rw [h2] at hok
    simp -dsimp [hg]
    refine f64.next ?_
    rintro _ rfl
    cases h3 : inB dep 0 65535
    · rw [h3] at hok
      simp -dsimp
      exact hold_mk ⟨rfl, by simp, by simp, by simp, by simp [hok]⟩
    rw [h3] at hok
    simp -dsimp [hg]
    refine f64.next ?_
    rintro _ rfl
    cases h4 : inB wi 0 65535
    · rw [h4] at hok
      simp -dsimp
      exact hold_mk ⟨rfl, by simp, by simp, by simp, by simp [hok]⟩
    rw [h4] at hok
    simp -dsimp [hg]
    refine f64.next ?_
    rintro _ rfl
    simp -dsimp
    exact hold_mk ⟨rfl, by simp, by simp, by simp, by simp [hok]⟩
  · rintro env _ ⟨rfl, e1, e2, e5, e6⟩
    cases ok
    · cases rel
      · simp -dsimp [e1, e2, e5, e6, hg]
        exact fin_mk ⟨by simp [contP, ← hok], hgr⟩
      · simp -dsimp [e1, e2, e5, e6, hg]
        exact fin_mk ⟨by simp [contP, ← hok], hgr⟩
    cases rel
    · by_cases q1 : dist = 0
      · by_cases q2 : wi = 0
        · by_cases q3 : dep = 0
          · simp -dsimp [e1, e2, e5, e6, hg, q1, q2, q3]
            exact fin_mk ⟨by unfold contP; rw [← hok]; simp [q1, q2, q3], hgr⟩
          · by_cases q4 : (b.length : Int) ≤ dep
            · simp -dsimp [e1, e2, e5, e6, hg, q1, q2, q3, q4]
              exact fin_mk ⟨by unfold contP; rw [← hok]; simp [q1, q2, q3, q4], hgr⟩
            · simp -dsimp [e1, e2, e5, e6, hg, q1, q2, q3, q4]
              exact fin_mk ⟨by unfold contP; rw [← hok]; simp [q1, q2, q3, q4], hgr⟩
        · simp -dsimp [e1, e2, e5, e6, hg, q1, q2]
          exact fin_mk ⟨by unfold contP; rw [← hok]; simp [q1, q2], hgr⟩
      · simp -dsimp [e1, e2, e5, e6, hg, q1]
        exact fin_mk ⟨by unfold contP; rw [← hok]; simp [q1], hgr⟩
    · cases no
      · cases ahead
        · simp -dsimp [e1, e2, e5, e6, hg]
          exact fin_mk ⟨by simp [contP, ← hok], hgr⟩
        · by_cases q1 : off = 0
          · by_cases q2 : dep = 0
            · by_cases q3 : wi = 0
              · simp -dsimp [e1, e2, e5, e6, hg, q1, q2, q3]
                exact fin_mk ⟨by unfold contP; rw [← hok]; simp [q1, q2, q3], hgr⟩
              · by_cases q4 : (b.length : Int) ≤ wi
                · simp -dsimp [e1, e2, e5, e6, hg, q1, q2, q3, q4]
                  exact fin_mk ⟨by unfold contP; rw [← hok]; simp [q1, q2, q3, q4], hgr⟩
                · simp -dsimp [e1, e2, e5, e6, hg, q1, q2, q3, q4]
                  exact fin_mk ⟨by unfold contP; rw [← hok]; simp [q1, q2, q3, q4], hgr⟩
            · simp -dsimp [e1, e2, e5, e6, hg, q1, q2]
              exact fin_mk ⟨by unfold contP; rw [← hok]; simp [q1, q2], hgr⟩
          · simp -dsimp [e1, e2, e5, e6, hg, q1]
            exact fin_mk ⟨by unfold contP; rw [← hok]; simp [q1], hgr⟩
      · simp -dsimp [e1, e2, e5, e6, hg]
        exact fin_mk ⟨by simp [contP, ← hok], hgr⟩
end Go.Proofs.YtceamnigcimldaaGreatDoor
