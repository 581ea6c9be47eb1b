/- A part of the proof: contracts of functions, over the abstract machine. -/
import Derived.Test.YtmdmabedfleacaaTb1
set_option linter.unusedVariables false
set_option linter.unusedSimpArgs false
set_option linter.all false
namespace Go.Proofs.Ytmdmabedfleacaa
open Ram Go

variable {W0 : World} {H : AH}

theorem link_get {p n : Nat} {L : List Nat} {N : Nat → Nd} (hg : ∀ a ∈ L, H.get a = some (N a).o) (hp : p ∈ L) (hn : n ∈ L) :
    ∀ a ∈ L, ((H.set p { N p with nx := n }.o).set n (if p = n then { N p with nx := n, pv := p } else { N n with pv := p }).o).get a = some (linkN N p n a).o := by
  intro a ha
  rw [AH.get_set]
  by_cases h1 : a = n
  · rw [if_pos h1]
    by_cases h2 : p = n
    · have h3 : a = p := by rw [h1, h2]
      simp only [linkN, if_pos h2, if_pos h3, if_pos h1]
      rw [h3]
    · have h3 : ¬ a = p := fun e => h2 (by rw [← e, h1])
      simp only [linkN, if_neg h2, if_neg h3, if_pos h1]
      rw [h1]
  · rw [if_neg h1, AH.get_set]
    by_cases h2 : a = p
    · simp only [linkN, if_pos h2, if_neg h1]
      rw [h2]
    · rw [if_neg h2, hg a ha]
      simp only [linkN, if_neg h2, if_neg h1]

theorem exists_last (r : Nat) (X : List Nat) : ∃ A p, r :: X = A ++ [p] := ⟨(r :: X).dropLast, (r :: X).getLast (by simp), (List.dropLast_concat_getLast (by simp)).symm⟩
theorem exists_head (Y : List Nat) (r : Nat) : ∃ n B, Y ++ [r] = n :: B := by
  cases Y with
  | nil => exact ⟨r, [], rfl⟩
  | cons y Y => exact ⟨y, Y ++ [r], rfl⟩

/-- One taken out of a ring. -/
theorem ring_out {r f : Nat} {X Y : List Nat} {N : Nat → Nd} (h : Ring H r (X ++ f :: Y) N) : ∃ p n, (N f).pv = p ∧ (N f).nx = n ∧ p ∈ r :: (X ++ Y) ∧ n ∈ r :: (X ++ Y) ∧ f ≠ p ∧ f ≠ n ∧
    Ring ((H.set p { N p with nx := n }.o).set n (if p = n then { N p with nx := n, pv := p } else { N n with pv := p }).o) r (X ++ Y) (linkN N p n) := by
  obtain ⟨A, p, hA⟩ := exists_last r X
  obtain ⟨n, B, hB⟩ := exists_head Y r
  have hpath := h.path
  rw [show r :: (X ++ f :: Y) ++ [r] = A ++ p :: f :: n :: B by rw [← hB]; rw [← List.cons_append, hA]; simp] at hpath
  rw [path_append] at hpath
  obtain ⟨h1, h2, h3, h4, h5, h6⟩ := hpath
  have hnd := h.nd
  rw [← List.cons_append] at hnd
  have hpX : p ∈ r :: X := by rw [hA]; simp
  have hnY : n ∈ Y ++ [r] := by rw [hB]; simp
  have hA' : (A ++ [p]).Nodup := by rw [← hA]; exact (List.nodup_append.1 hnd).1
  have hfY' : (f :: Y).Nodup := (List.nodup_append.1 hnd).2.1
  have hdis : ∀ x ∈ r :: X, x ∉ f :: Y := fun x hx hy => (List.nodup_append.1 hnd).2.2 x hx x hy rfl
  have hfY : f ∉ Y := (List.nodup_cons.1 hfY').1
  have hYr : (Y ++ [r]).Nodup := by
    rw [List.nodup_append]
    refine ⟨(List.nodup_cons.1 hfY').2, by simp, fun x hx y hy e => ?_⟩
    simp only [List.mem_singleton] at hy
    subst hy; subst e
    exact hdis x (by simp) (by simp [hx])
  have hfX : f ∉ r :: X := fun hx => hdis f hx (by simp)
  have hfp : f ≠ p := fun e => hfX (e ▸ hpX)
  have hfn : f ≠ n := fun e => by
    rw [← e] at hnY
    rcases List.mem_append.1 hnY with h | h
    · exact hfY h
    · simp only [List.mem_singleton] at h; exact hfX (by simp [h])
  have hp' : p ∈ r :: (X ++ Y) := by
    rcases List.mem_cons.1 hpX with h | h
    · simp [h]
    · simp [h]
  have hn' : n ∈ r :: (X ++ Y) := by
    rcases List.mem_append.1 hnY with h | h
    · simp [h]
    · simp only [List.mem_singleton] at h; simp [h]
  refine ⟨p, n, h3, h4, hp', hn', hfp, hfn, ⟨?_, ?_, ?_, ?_⟩⟩
  · refine link_get (fun a ha => h.get a ?_) hp' hn'
    simp only [List.mem_cons, List.mem_append] at ha ⊢
    rcases ha with h | h | h
    · exact .inl h
    · exact .inr (.inl h)
    · exact .inr (.inr (.inr h))
  · intro a ha
    simp only [AH.next_set']
    refine h.lt a ?_
    simp only [List.mem_cons, List.mem_append] at ha ⊢
    rcases ha with h | h | h
    · exact .inl h
    · exact .inr (.inl h)
    · exact .inr (.inr (.inr h))
  · rw [← List.cons_append, List.nodup_append]
    exact ⟨(List.nodup_append.1 hnd).1, (List.nodup_cons.1 hfY').2, fun x hx y hy e => hdis x hx (by rw [e]; simp [hy])⟩
  · rw [show r :: (X ++ Y) ++ [r] = A ++ p :: n :: B by rw [← hB]; rw [← List.cons_append, hA]; simp]
    refine path_link h1 h6 (fun hx => (List.nodup_append.1 hA').2.2 p hx p (by simp) rfl) ?_ ?_ ?_
    · rw [← hB, List.dropLast_concat]
      exact fun hx => hdis p hpX (by simp [hx])
    · rw [← hA, List.tail_cons]
      intro hx
      rcases List.mem_append.1 hnY with h | h
      · exact hdis n (by simp [hx]) (by simp [h])
      · simp only [List.mem_singleton] at h; subst h
        exact (List.nodup_cons.1 (List.nodup_append.1 hnd).1).1 hx
    · rw [hB] at hYr; exact (List.nodup_cons.1 hYr).1

/-- (*flow).out, in a ring. -/
theorem f58 {r f : Nat} {X Y : List Nat} {N : Nat → Nd} (h : Ring H r (X ++ f :: Y) N) : ACalls Try.prog W0 58 [.p (some (f, 0))] H fun e H' => e = .ret (.tup []) ∧
    ∃ N', Ring H' r (X ++ Y) N' ∧ (∀ a, (N' a).t = (N a).t ∧ (N' a).id = (N a).id ∧ (N' a).at_ = (N a).at_) ∧ H'.get f = some (N f).o ∧ Keeps (fun i => i ∈ r :: (X ++ Y)) H H' ∧ H'.next = H.next := by
  obtain ⟨p, n, h1, h2, h3, h4, h5, h6, h7⟩ := ring_out h
  have sub : ∀ a, a ∈ r :: (X ++ Y) → a ∈ r :: (X ++ f :: Y) := by
    intro a ha
    simp only [List.mem_cons, List.mem_append] at ha ⊢
    rcases ha with h | h | h
    · exact .inl h
    · exact .inr (.inl h)
    · exact .inr (.inr (.inr h))
  have gf := h.get f (by simp)
  refine (f58_raw gf (h.get p (sub p h3)) (h.get n (sub n h4)) h1 h2 h5 h6).next ?_ |>.mono fun _ _ h => h
  rintro H' rfl
  refine ⟨rfl, _, h7, fun a => ⟨rfl, rfl, rfl⟩, ?_, ?_, rfl⟩
  · rw [AH.get_set, if_neg h6, AH.get_set, if_neg h5]; exact gf
  · exact Keeps.set_own (Keeps.set fun _ => h3) h4
end Go.Proofs.Ytmdmabedfleacaa
