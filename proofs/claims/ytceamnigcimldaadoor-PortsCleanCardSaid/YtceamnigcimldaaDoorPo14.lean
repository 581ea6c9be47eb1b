/- A part of the proof: contracts of functions, over the abstract machine. -/
import Derived.Test.YtceamnigcimldaaDoorPo13
set_option linter.unusedVariables false
set_option linter.unusedSimpArgs false
set_option linter.all false
/- Ports: a clean set is clean, and has the same ports. -/
namespace Go.Proofs.YtceamnigcimldaaDoor
open Ram Go Go.Proofs.Ports

theorem ins_len : ∀ (l : List Sp) (x : Sp), (ins x l).length ≤ l.length + 1
  | [], x => by simp [ins]
  | s :: r, x => by
    unfold ins
    split
    · have := ins_len r x; simp; omega
    · split
      · simp
      · have := ins_len r ⟨min s.f x.f, max s.t x.t⟩; simp; omega
theorem fold_len : ∀ (l a : List Sp), (∀ s ∈ l, okSp s) → Canon (-1) a → (l.foldl put a).length ≤ a.length + l.length
  | [], a, _, _ => by simp
  | s :: r, a, h, ha => by
    obtain ⟨h1, h2, h3⟩ := h s (by simp)
    have e := put_ins ha h2
    have hc := (ins_spec ha h2 (by omega)).1
    have := fold_len r (put a s) (fun y hy => h y (by simp [hy])) (by rw [e]; exact hc)
    have := ins_len a s
    rw [← e] at this
    simp only [List.foldl_cons, List.length_cons]
    omega
theorem canon_clean {l : List Sp} (hok : okP l = true) : Canon (-1) (cleanP l) := by
  unfold cleanP
  rw [if_pos hok]
  split
  · trivial
  · exact (putAll_spec l [] (okP_mem hok) trivial).1
theorem clean_len {l : List Sp} (hok : okP l = true) : (cleanP l).length ≤ 4 := by
  unfold cleanP
  rw [if_pos hok]
  split
  · simp
  · have h5 := fold_len l [] (okP_mem hok) trivial
    have := okP_len hok
    unfold putAll
    rw [List.length_nil] at h5
    omega
theorem okP_clean {l : List Sp} (hok : okP l = true) : okP (cleanP l) = true := okP_of (clean_len hok) (clean_ok l).1
theorem putAll_self {l : List Sp} (ho : ∀ s ∈ l, okSp s) (hc : Canon (-1) l) : putAll l = l := putAll_eq ho hc fun _ => rfl
theorem clean_again {l : List Sp} (hok : okP l = true) : cleanP (cleanP l) = cleanP l := by
  have h1 := okP_clean hok
  have h2 := putAll_self (clean_ok l).1 (canon_clean hok)
  have h3 : ¬ cleanP l = [⟨0, 65535⟩] := by
    unfold cleanP
    rw [if_pos hok]
    split
    · simp
    · assumption
  generalize cleanP l = c at *
  unfold cleanP
  rw [if_pos h1, h2, if_neg h3]
theorem inS_mem {l : List Sp} {s : Sp} (h : s ∈ l) (hs : s.f ≤ s.t) : inS l s.f = true ∧ inS l s.t = true := by
  unfold inS
  rw [List.any_eq_true, List.any_eq_true]
  exact ⟨⟨s, h, by simp [hs]⟩, ⟨s, h, by simp [hs]⟩⟩
theorem clean_has {l : List Sp} {not : Bool} {k : Int} (hok : okP l = true) : hasP not (cleanP l) k = hasP not l k := by
  unfold hasP
  rw [okP_clean hok, hok]
  by_cases hr : 0 ≤ k ∧ k ≤ 65535
  · have e : (decide ((cleanP l).length = 0) || inS (cleanP l) k) = (decide (l.length = 0) || inS l k) := by
      obtain ⟨p1, p2⟩ := putAll_spec l [] (okP_mem hok) trivial
      have p2 : ∀ y, inS (putAll l) y = inS l y := fun y => by have := p2 y; rwa [inS_nil, Bool.false_or] at this
      by_cases hf : putAll l = [⟨0, 65535⟩]
      · have hc : cleanP l = [] := by unfold cleanP; rw [if_pos hok, if_pos hf]
        have hi : inS l k = true := by rw [← p2 k, hf, inS_cons]; exact .inl hr
        rw [hc, hi]; simp
      · have hc : cleanP l = putAll l := by unfold cleanP; rw [if_pos hok, if_neg hf]
        rw [hc, p2 k]
        have hz : (putAll l).length = 0 ↔ l.length = 0 := by
          constructor
          · intro h0
            cases l with
            | nil => rfl
            | cons s r =>
              have := List.eq_nil_of_length_eq_zero h0
              obtain ⟨a1, a2, a3⟩ := okP_mem hok s (by simp)
              have h1 := (inS_mem (l := s :: r) (s := s) (by simp) a2).1
              rw [← p2, this, inS_nil] at h1
              cases h1
          · intro h0
            rw [List.eq_nil_of_length_eq_zero h0]; rfl
        have : decide ((putAll l).length = 0) = decide (l.length = 0) := by rw [decide_eq_decide]; exact hz
        rw [this]
    rw [e]
  · have : (decide (0 ≤ k) && decide (k ≤ 65535)) = false := by
      rw [Bool.and_eq_false_iff]
      by_cases h : 0 ≤ k
      · exact .inr (by simp; omega)
      · exact .inl (by simp; omega)
    rw [this]; simp
theorem has_mem {l : List Sp} {not : Bool} {s : Sp} (hok : okP l = true) (h : s ∈ l) : hasP not l s.f = !not ∧ hasP not l s.t = !not := by
  obtain ⟨a1, a2, a3⟩ := okP_mem hok s h
  obtain ⟨h1, h2⟩ := inS_mem h a2
  unfold hasP
  rw [hok, h1, h2]
  have b1 : s.f ≤ 65535 := by omega
  have b2 : 0 ≤ s.t := by omega
  simp [a1, a3, b1, b2]
theorem canon_step : ∀ {l : List Sp} {b : Int} {i : Nat} (hc : Canon b l) (h : i + 1 < l.length), l[i].t + 1 < l[i + 1].f
  | [], _, _, _, h => by simp at h
  | s :: r, b, 0, ⟨_, _, h3⟩, h => by
    match r, h, h3 with
    | u :: q, _, ⟨k1, _, _⟩ => simpa using k1
  | s :: r, b, i + 1, ⟨_, _, h3⟩, h => by
    have := canon_step (i := i) h3 (by simp at h; omega)
    simpa using this
end Go.Proofs.YtceamnigcimldaaDoor
