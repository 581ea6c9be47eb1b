/- A part of the proof: contracts of functions, over the abstract machine. -/
import Derived.Test.YtmdmabedfleacaaTb2
set_option linter.unusedVariables false
set_option linter.unusedSimpArgs false
set_option linter.all false
namespace Go.Proofs.Ytmdmabedfleacaa
open Ram Go

variable {W0 : World} {H : AH}

/-- The table's record. -/
def tabO (most ticks now last : Int) (r mp : Nat) : AO := .cells .rw [.i .i64 most, .i .i64 ticks, .i .i64 now, .i .i64 last, .p (some (r, 0)), .m (some mp)]

/-- touch, at the ring's last one. -/
theorem f46_raw {tb f r z mp : Nat} {most ticks now last : Int} {cf : Nd} {N : Nat → Nd} {rest : List V} (gt : H.get tb = some (tabO most ticks now last r mp)) (gf : H.get f = some (.cells .rw ([.i .i64 cf.t.p, .i .u32 cf.t.s, .i .u32 cf.t.d, .i .i64 cf.t.sp, .i .i64 cf.t.dp, .i .i64 cf.id, .i .i64 cf.at_] ++ rest)))
    (gr : H.get r = some (N r).o) (gz : H.get z = some (N z).o) (hrest : ∃ a b, rest = [.p a, .p b]) (hz : (N r).pv = z) (fr : f ≠ r) (fz : f ≠ z) (tf : tb ≠ f) :
    ACalls Try.prog W0 46 [.p (some (tb, 0)), .p (some (f, 0))] H fun e H' => e = .ret (.tup []) ∧ H' = ((H.set f { cf with at_ := now, pv := z, nx := r }.o).set z { N z with nx := f }.o).set r (if z = r then { N z with nx := f, pv := f } else { N r with pv := f }).o := by
  refine acalls_by k46 (by simp) ?_
  obtain ⟨ra, rb, rfl⟩ := hrest
  simp only [Nd.o, Nd.l, hz, tabO, List.cons_append, List.nil_append] at gt gf gr gz
  have rf : ¬ r = f := fun e => fr e.symm
  have zf : ¬ z = f := fun e => fz e.symm
  by_cases hzr : z = r
  · subst hzr
    simp -dsimp [gt, gf, gr, gz, fr, fz, tf, zf, rf, Nd.o, Nd.l]
  · have hrz : ¬ r = z := fun e => hzr e.symm
    simp -dsimp [gt, gf, gr, gz, fr, fz, tf, zf, rf, hzr, hrz, Nd.o, Nd.l]

/-- The ring's node of one that is put in. -/
def putN (N : Nat → Nd) (f : Nat) (c : Nd) : Nat → Nd := fun x => if x = f then c else N x

theorem ring_touch {r f : Nat} {xs : List Nat} {N : Nat → Nd} {c : Nd} (h : Ring H r xs N) (hf : f ∉ r :: xs) (lf : f < H.next) : ∃ z, (N r).pv = z ∧ z ∈ r :: xs ∧ 
    Ring (((H.set f { c with pv := z, nx := r }.o).set z { N z with nx := f }.o).set r (if z = r then { N z with nx := f, pv := f } else { N r with pv := f }).o) r (xs ++ [f]) (linkN (linkN (putN N f { c with pv := z, nx := r }) z f) f r) := by
  obtain ⟨A, z, hA⟩ := exists_last r xs
  have hpath := h.path
  rw [hA, List.append_assoc, List.singleton_append, path_append] at hpath
  obtain ⟨h1, h2, h3, _⟩ := hpath
  have hz : z ∈ r :: xs := by rw [hA]; simp
  have hfr : f ≠ r := fun e => hf (by simp [e])
  have hfz : f ≠ z := fun e => hf (by rw [e]; exact hz)
  have hnd := h.nd
  rw [hA] at hnd
  refine ⟨z, h3, hz, ⟨?_, ?_, ?_, ?_⟩⟩
  · intro a ha
    simp only [linkN, putN]
    by_cases a1 : a = r
    · have a2 : ¬ a = f := fun e => hfr (by rw [← e, a1])
      rw [AH.get_set, if_pos a1]
      by_cases hzr : z = r
      · have a3 : a = z := by rw [a1, hzr]
        simp only [if_pos hzr, if_pos a1, if_neg a2, if_pos a3]
        rw [a3]
      · have a3 : ¬ a = z := fun e => hzr (by rw [← e, a1])
        simp only [if_neg hzr, if_pos a1, if_neg a2, if_neg a3]
        rw [a1]
    · rw [AH.get_set, if_neg a1, AH.get_set]
      by_cases a3 : a = z
      · have a2 : ¬ a = f := fun e => hfz (by rw [← e, a3])
        simp only [if_pos a3, if_neg a1, if_neg a2]
        rw [a3]
      · rw [if_neg a3, AH.get_set]
        by_cases a2 : a = f
        · simp only [if_pos a2, if_neg a1, if_neg a3]
        · simp only [if_neg a2, if_neg a1, if_neg a3]
          refine h.get a ?_
          simp only [List.mem_cons, List.mem_append, List.not_mem_nil, or_false] at ha ⊢
          rcases ha with h' | h' | h'
          · exact .inl h'
          · exact .inr h'
          · exact (a2 h').elim
  · intro a ha
    simp only [AH.next_set']
    simp only [List.mem_cons, List.mem_append, List.not_mem_nil, or_false] at ha
    rcases ha with h' | h' | h'
    · exact h.lt a (by simp [h'])
    · exact h.lt a (by simp [h'])
    · rw [h']; exact lf
  · rw [← List.cons_append, List.nodup_append]
    refine ⟨h.nd, by simp, fun x hx y hy e => ?_⟩
    simp only [List.mem_singleton] at hy
    exact hf (by rw [← hy, ← e]; exact hx)
  · have hp1 : Path (putN N f { c with pv := z, nx := r }) (A ++ [z]) := by
      refine path_congr (fun x hx => ?_) (fun x hx => ?_) h1
      · simp only [putN]; rw [if_neg]
        intro e; apply hf; rw [hA, ← e]; exact List.dropLast_subset _ hx
      · simp only [putN]; rw [if_neg]
        intro e; apply hf; rw [hA, ← e]; exact List.mem_of_mem_tail hx
    have hp2 := path_link (n := f) (B := []) hp1 trivial (fun hx => (List.nodup_append.1 hnd).2.2 z hx z (by simp) rfl) (by simp) (fun hx => hf (by rw [hA]; exact List.mem_of_mem_tail hx)) (by simp)
    have hp3 := path_link (N := linkN (putN N f { c with pv := z, nx := r }) z f) (A := A ++ [z]) (p := f) (n := r) (B := []) (by simpa using hp2) trivial (fun hx => hf (by rw [hA]; exact hx)) (by simp) ?_ (by simp)
    · rw [show r :: (xs ++ [f]) ++ [r] = A ++ [z] ++ f :: r :: [] by rw [← hA]; simp]
      exact hp3
    · rw [← hA]
      simp only [List.cons_append, List.tail_cons, List.mem_append, List.mem_singleton]
      rintro (h' | h')
      · exact (List.nodup_cons.1 h.nd).1 h'
      · exact hfr h'.symm

/-- touch, in a ring. -/
theorem f46 {tb f r mp : Nat} {most ticks now last : Int} {xs : List Nat} {N : Nat → Nd} {c : Nd} {rest : List V} (gt : H.get tb = some (tabO most ticks now last r mp)) (h : Ring H r xs N) (hf : f ∉ r :: xs) (lf : f < H.next) (tf : tb ≠ f)
    (gf : H.get f = some (.cells .rw ([.i .i64 c.t.p, .i .u32 c.t.s, .i .u32 c.t.d, .i .i64 c.t.sp, .i .i64 c.t.dp, .i .i64 c.id, .i .i64 c.at_] ++ rest))) (hrest : ∃ a b, rest = [.p a, .p b]) :
    ACalls Try.prog W0 46 [.p (some (tb, 0)), .p (some (f, 0))] H fun e H' => e = .ret (.tup []) ∧ ∃ N', Ring H' r (xs ++ [f]) N' ∧ (∀ a ∈ r :: xs, (N' a).t = (N a).t ∧ (N' a).id = (N a).id ∧ (N' a).at_ = (N a).at_) ∧
      (N' f).t = c.t ∧ (N' f).id = c.id ∧ (N' f).at_ = now ∧ Keeps (fun i => i ∈ r :: (xs ++ [f])) H H' ∧ H'.next = H.next := by
  obtain ⟨z, h1, h2, h3⟩ := ring_touch (c := { c with at_ := now }) h hf lf
  have hfr : f ≠ r := fun e => hf (by simp [e])
  have hfz : f ≠ z := fun e => hf (by rw [e]; exact h2)
  have hz' : z ∈ r :: (xs ++ [f]) := by
    simp only [List.mem_cons, List.mem_append] at h2 ⊢
    rcases h2 with h | h
    · exact .inl h
    · exact .inr (.inl h)
  refine (f46_raw (cf := c) gt gf (h.get r (by simp)) (h.get z h2) hrest h1 hfr hfz tf).next ?_ |>.mono fun _ _ h => h
  rintro H' rfl
  refine ⟨rfl, _, h3, fun a ha => ?_, by simp [linkN, putN], by simp [linkN, putN], by simp [linkN, putN], ?_, rfl⟩
  · have : a ≠ f := fun e => hf (e ▸ ha)
    simp [linkN, putN, this]
  · exact Keeps.set_own (Keeps.set_own (Keeps.set fun _ => by simp) hz') (by simp)
end Go.Proofs.Ytmdmabedfleacaa
