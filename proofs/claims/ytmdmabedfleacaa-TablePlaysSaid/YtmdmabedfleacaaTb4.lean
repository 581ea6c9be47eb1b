/- A part of the proof: contracts of functions, over the abstract machine. -/
import Derived.Test.YtmdmabedfleacaaTb3
set_option linter.unusedVariables false
set_option linter.unusedSimpArgs false
set_option linter.all false
namespace Go.Proofs.Ytmdmabedfleacaa
open Ram Go

variable {W0 : World} {H : AH}

attribute [simp] keyOk

/-- A flow: what it is. -/
structure Fd where
  t : Tup
  id : Int
  at_ : Int
abbrev Fl := Nat × Fd
def key (x : Fl) : Nat × Tup := (x.1, x.2.t)
def ent (x : Nat × Tup) : V × V := (.agg x.2.c, .p (some (x.1, 0)))
abbrev ksT : KS := .flat [(0, .i), (1, .i), (2, .i), (3, .i), (4, .i)]

theorem turn_turn (t : Tup) : t.turn.turn = t := rfl
theorem same_comm (a b : Tup) : same a b = same b a := by
  have h1 : (a = b) = (b = a) := propext ⟨Eq.symm, Eq.symm⟩
  have h2 : (a = b.turn) = (b = a.turn) := by
    apply propext; constructor <;> (intro h; rw [h]; rfl)
  simp [same, h1, h2]

/-- The table: where it lies. -/
structure TR (H : AH) (tb : Nat) (most ticks now last : Int) (r mp : Nat) (fl : List Fl) (gs : List (Nat × Tup)) (N : Nat → Nd) (F : Nat → Prop) : Prop where
  own : F tb ∧ F r ∧ F mp ∧ ∀ x ∈ fl, F x.1
  lt : ∀ i, F i → i < H.next
  apart : tb ≠ r ∧ tb ≠ mp ∧ mp ≠ r ∧ (∀ x ∈ fl, x.1 ≠ tb ∧ x.1 ≠ mp)
  tab : H.get tb = some (tabO most ticks now last r mp)
  ring : Ring H r (fl.map (·.1)) N
  node : ∀ x ∈ fl, (N x.1).t = x.2.t ∧ (N x.1).id = x.2.id ∧ (N x.1).at_ = x.2.at_
  map : H.get mp = some (.map (gs.map ent))
  perm : gs.Perm (fl.map key)
  uniq : fl.Pairwise fun x y => same x.2.t y.2.t = false

theorem pw_uniq {fl : List Fl} (h : fl.Pairwise fun x y => same x.2.t y.2.t = false) {x y : Fl} (hx : x ∈ fl) (hy : y ∈ fl) (hs : same x.2.t y.2.t = true) : x = y := by
  rw [List.pairwise_iff_getElem] at h
  obtain ⟨i, hi, rfl⟩ := List.getElem_of_mem hx
  obtain ⟨j, hj, rfl⟩ := List.getElem_of_mem hy
  rcases Nat.lt_trichotomy i j with hl | hl | hl
  · rw [h i j hi hj hl] at hs; cases hs
  · subst hl; rfl
  · rw [same_comm, h j i hj hi hl] at hs; cases hs

theorem sameKey_tup (a b : Tup) : sameKey ksT (.agg a.c) (.agg b.c) = some (decide (a = b)) := by
  have := sameAt_tup a b
  simp only [sameKey]
  rw [if_pos (by simp)]
  exact this

theorem findV_cons {gs : List (Nat × Tup)} {z : Nat × Tup} {x : Tup} : findV ksT (.agg x.c) ((z :: gs).map ent) = if x = z.2 then some (some (0, .p (some (z.1, 0)))) else match findV ksT (.agg x.c) (gs.map ent) with
    | some (some (i, v)) => some (some (i + 1, v))
    | some none => some none
    | none => none := by
  rw [List.map_cons]
  show (match sameKey ksT (.agg x.c) (.agg z.2.c) with
    | some true => some (some (0, V.p (some (z.1, 0))))
    | some false => match findV ksT (.agg x.c) (gs.map ent) with
      | some (some (i, v)) => some (some (i + 1, v))
      | some none => some none
      | none => none
    | none => none) = _
  rw [sameKey_tup]
  by_cases h : x = z.2
  · rw [if_pos h, decide_eq_true h]
  · rw [if_neg h, decide_eq_false h]

theorem findV_some {gs : List (Nat × Tup)} {y : Nat × Tup} {x : Tup} (hy : y ∈ gs) (hx : x = y.2) (hu : ∀ z ∈ gs, z.2 = y.2 → z = y) : ∃ i, findV ksT (.agg x.c) (gs.map ent) = some (some (i, .p (some (y.1, 0)))) ∧ gs[i]? = some y := by
  induction gs with
  | nil => cases hy
  | cons z gs ih =>
    rw [findV_cons]
    by_cases h : x = z.2
    · have : z = y := hu z (by simp) (by rw [← h, hx])
      subst this
      exact ⟨0, by rw [if_pos h], rfl⟩
    · have hy' : y ∈ gs := by
        rcases List.mem_cons.1 hy with e | e
        · exact (h (by rw [hx, e])).elim
        · exact e
      obtain ⟨i, g1, g2⟩ := ih hy' fun z hz => hu z (by simp [hz])
      exact ⟨i + 1, by rw [if_neg h, g1], by simpa using g2⟩

theorem findV_none {gs : List (Nat × Tup)} {x : Tup} (h : ∀ z ∈ gs, x ≠ z.2) : findV ksT (.agg x.c) (gs.map ent) = some none := by
  induction gs with
  | nil => rfl
  | cons z gs ih =>
    rw [findV_cons, if_neg (h z (by simp)), ih fun z hz => h z (by simp [hz])]

theorem TR.keep {G : Nat → Prop} {H' : AH} {tb r mp : Nat} {most ticks now last : Int} {fl : List Fl} {gs : List (Nat × Tup)} {N : Nat → Nd} {F : Nat → Prop} (h : TR H tb most ticks now last r mp fl gs N F) (hk : Keeps G H H') (hf : ∀ i, F i → ¬ G i) : TR H' tb most ticks now last r mp fl gs N F := by
  obtain ⟨⟨o1, o2, o3, o4⟩, lt, ap, tab, ring, node, map, perm, uniq⟩ := h
  refine ⟨⟨o1, o2, o3, o4⟩, fun i hi => Nat.lt_of_lt_of_le (lt i hi) hk.next, ap, hk.at (lt _ o1) (hf _ o1) tab, ring.keep hk fun a ha => ?_, node, hk.at (lt _ o3) (hf _ o3) map, perm, uniq⟩
  rcases List.mem_cons.1 ha with e | e
  · rw [e]; exact hf _ o2
  · obtain ⟨x, hx, rfl⟩ := List.mem_map.1 e
    exact hf _ (o4 x hx)

theorem TR.look {tb r mp : Nat} {most ticks now last : Int} {fl : List Fl} {gs : List (Nat × Tup)} {N : Nat → Nd} {F : Nat → Prop} (h : TR H tb most ticks now last r mp fl gs N F) {y : Fl} (hy : y ∈ fl) : ∃ i, findV ksT (.agg y.2.t.c) (gs.map ent) = some (some (i, .p (some (y.1, 0)))) ∧ gs[i]? = some (key y) :=
  findV_some (y := key y) (h.perm.mem_iff.2 (List.mem_map_of_mem hy)) rfl fun z hz e => by
    obtain ⟨z', hz', rfl⟩ := List.mem_map.1 (h.perm.mem_iff.1 hz)
    rw [pw_uniq h.uniq hz' hy (by rw [show z'.2.t = y.2.t from e]; simp [same])]
theorem TR.nolook {tb r mp : Nat} {most ticks now last : Int} {fl : List Fl} {gs : List (Nat × Tup)} {N : Nat → Nd} {F : Nat → Prop} (h : TR H tb most ticks now last r mp fl gs N F) {x : Tup} (hx : ∀ y ∈ fl, x ≠ y.2.t) : findV ksT (.agg x.c) (gs.map ent) = some none :=
  findV_none fun z hz => by
    obtain ⟨z', hz', rfl⟩ := List.mem_map.1 (h.perm.mem_iff.1 hz)
    exact hx z' hz'

/-- (*Table).get. -/
theorem f57 (x : Tup) {tb r mp : Nat} {most ticks now last : Int} {fl : List Fl} {gs : List (Nat × Tup)} {N : Nat → Nd} {F : Nat → Prop} (h : TR H tb most ticks now last r mp fl gs N F) : ACalls Try.prog W0 57 [.p (some (tb, 0)), .agg x.c] H fun e H' =>
    e = .ret (.p ((fl.find? fun y => same x y.2.t).map fun y => (y.1, 0))) ∧ Grows H H' := by
  obtain ⟨o1, o2, o3, o4⟩ := h.own
  have ltb := h.lt _ o1
  have lmp := h.lt _ o3
  have gt := h.tab
  have gm := h.map
  simp only [tabO] at gt
  have ntb : ¬ tb = H.next := by omega
  have nmp : ¬ mp = H.next := by omega
  have hk1 : ∀ o, Grows H (H.alloc o) := fun _ => Keeps.alloc' Keeps.refl
  refine acalls_by k57 (by simp) ?_
  cases hf : fl.find? (fun y => same x y.2.t) with
  | some y =>
    have hym := List.mem_of_find?_eq_some hf
    have hys := List.find?_some hf
    by_cases h1 : x = y.2.t
    · obtain ⟨i, g1, _⟩ := h.look hym
      rw [← h1] at g1
      simp only [Tup.c] at g1
      simp -dsimp [gt, gm, ntb, nmp, g1, hk1]
    · have h2 : x = y.2.t.turn := by simpa [same, h1] using hys
      have g0 := h.nolook (x := x) (fun z hz e => h1 (by
        have : z = y := pw_uniq h.uniq hz hym (by rw [← e]; exact hys)
        rw [e, this]))
      simp only [Tup.c] at g0
      simp -dsimp [gt, gm, ntb, nmp, g0]
      refine (f67 x).next ?_
      rintro H2 g2
      have gt2 := Grows.at (hk1 (.cells .rw x.c)) ltb gt
      have gt3 := Grows.at g2 (by simp <;> omega) gt2
      have gm3 := Grows.at g2 (by simp <;> omega) (Grows.at (hk1 (.cells .rw x.c)) lmp gm)
      obtain ⟨i, g1, _⟩ := h.look hym
      have h3 : x.turn = y.2.t := by rw [h2, turn_turn]
      rw [← h3] at g1
      simp only [Tup.c] at g1
      simp -dsimp [gt3, gm3, g1]
      exact (hk1 (.cells .rw x.c)).trans g2
  | none =>
    rw [List.find?_eq_none] at hf
    have h1 : ∀ y ∈ fl, x ≠ y.2.t := fun y hy e => hf y hy (by simp [same, e])
    have h2 : ∀ y ∈ fl, x.turn ≠ y.2.t := fun y hy e => hf y hy (by simp [same, ← e, turn_turn])
    have g0 := h.nolook h1
    have g1 := h.nolook h2
    simp only [Tup.c] at g0 g1
    simp -dsimp [gt, gm, ntb, nmp, g0]
    refine (f67 x).next ?_
    rintro H2 g2
    have gt3 := Grows.at g2 (by simp <;> omega) (Grows.at (hk1 (.cells .rw x.c)) ltb gt)
    have gm3 := Grows.at g2 (by simp <;> omega) (Grows.at (hk1 (.cells .rw x.c)) lmp gm)
    simp -dsimp [gt3, gm3, g1]
    exact (hk1 (.cells .rw x.c)).trans g2
end Go.Proofs.Ytmdmabedfleacaa
