/- A part of the proof: contracts of functions, over the abstract machine. -/
import Derived.Test.YtjaammiblfndaaaGreatDoorRbd
set_option linter.unusedVariables false
set_option linter.unusedSimpArgs false
set_option linter.all false
/- strings.Builder as an object: what its methods do to the abstract heap. -/
set_option linter.unusedVariables false
namespace Ram
open Go Go.Shelf Go.Proofs
open Go.RowKit (Below Hid)
variable {P : Program} {W0 : World} {ρ ρ' : Ren} {ι : Inj} {D : Nat → Prop} {H : AH} {w w' : World}

/-- An object that is dead lives again. -/
theorem rel_revive {id : Nat} {o' : AO} (hR : Rel P W0 ι D H w) (hg : H.get id = some .dead) (hd : D id) (hfree : ∀ j u, j ≠ id → H.get j = some u → u.live = true → (ι j).b ≠ (ι id).b) (hnew : W0.heap.size ≤ (ι id).b) (ho : RObj P ι D w (ι id) o') : Rel P W0 ι D (H.set id o') w := by
  refine ⟨fun i u hu => ?_, fun i u hu hl => ?_, fun i hi => hR.lt i hi, fun i u hu => ?_, fun i j u v hu hv h1 h2 hne => ?_, fun i u hu h1 => ?_, fun i hi => hR.inw i hi, hR.below⟩
  · rw [AH.get_set] at hu
    split at hu
    · next e => subst e; simp only [Option.some.injEq] at hu; subst hu; exact ho
    · exact hR.objs i u hu
  · rw [AH.get_set] at hu
    split at hu
    · next e => subst e; exact hd
    · exact hR.dom i u hu hl
  · rw [AH.get_set] at hu
    split at hu
    · next e => subst e; exact hR.lt _ hd
    · exact hR.get_lt i u hu
  · have own_live : ∀ o : AO, o.owns = true → o.live = true := fun o h => by cases o <;> first | rfl | cases h
    rw [AH.get_set] at hu hv
    split at hu
    · next e =>
      subst e
      split at hv
      · next e' => exact absurd e'.symm hne
      · next e' => exact fun h => hfree j v e' hv h2 h.symm
    · next e =>
      split at hv
      · next e' => subst e'; exact hfree i u e hu (own_live u h1)
      · exact hR.apart i j u v hu hv h1 h2 hne
  · rw [AH.get_set] at hu
    split at hu
    · next e => subst e; exact hnew
    · exact hR.new i u hu h1

/-- An object written anew, in its place. -/
theorem rel_setL {id : Nat} {o o' : AO} (hR : Rel P W0 ι D H w) (hg : H.get id = some o) (hown : o.owns = true) (hl' : o'.live = true → o'.owns = true) (hs : SameOut w w') (hkeep : ∀ b, b < w.heap.size → b ≠ (ι id).b → w'.heap[b]? = w.heap[b]?)
    (ho : RObj P ι D w' (ι id) o') : Rel P W0 ι D (H.set id o') w' := by
  have hlive : o.live = true := by cases o <;> first | rfl | cases hown
  have hb := hR.new id o hg hown
  refine ⟨fun i u hu => ?_, fun i u hu hl => ?_, fun i hi => hR.lt i hi, fun i u hu => ?_, fun i j u v hu hv h1 h2 hne => ?_, fun i u hu h1 => ?_, fun i hi => Nat.lt_of_lt_of_le (hR.inw i hi) hs.size,
    below_step hR hs fun b hb' => hkeep b (Nat.lt_of_lt_of_le hb' hR.below.size) (by omega)⟩
  · rw [AH.get_set] at hu
    split at hu
    · next e => subst e; simp only [Option.some.injEq] at hu; subst hu; exact ho
    · next e => exact RObj.mono Ext.refl (fun hl => hkeep _ (hR.inw i (hR.dom i u hu hl)) (fun h => hR.apart id i o u hg hu hown hl (fun e' => e e'.symm) h.symm)) (hR.objs i u hu)
  · rw [AH.get_set] at hu
    split at hu
    · next e => subst e; exact hR.dom _ _ hg hlive
    · exact hR.dom i u hu hl
  · rw [AH.get_set] at hu
    split at hu
    · next e => subst e; exact hR.get_lt _ _ hg
    · exact hR.get_lt i u hu
  · rw [AH.get_set] at hu hv
    split at hu
    · next e =>
      subst e
      split at hv
      · next e' => exact absurd e'.symm hne
      · exact hR.apart _ j o v hg hv hown h2 hne
    · next e =>
      split at hv
      · next e' => subst e'; exact hR.apart i _ u o hu hg h1 hlive hne
      · exact hR.apart i j u v hu hv h1 h2 hne
  · rw [AH.get_set] at hu
    split at hu
    · next e => subst e; exact hb
    · exact hR.new i u hu h1

theorem stp_setL {id : Nat} {o o' : AO} (hg : H.get id = some o) (hown : o.owns = true) (hs : SameOut w w') (hkeep : ∀ b, b < w.heap.size → b ≠ (ι id).b → w'.heap[b]? = w.heap[b]?) :
    Stp ι D H w ι D (H.set id o') w' := by
  have hl : o.live = true := by cases o <;> first | rfl | cases hown
  refine ⟨Ext.refl, fun i h => .inl h, Nat.le_refl _, fun b hb hn => hkeep b hb (fun e => hn ⟨id, o, hg, hown, e.symm⟩), fun b hb h => ?_, fun b hb h => ?_, hs.size, hs.os, hs.tape, hs.output⟩
  · obtain ⟨i, u, hu, h1, h2⟩ := h
    rw [AH.get_set] at hu
    split at hu
    · next e => subst e; exact ⟨_, o, hg, hown, h2⟩
    · exact ⟨i, u, hu, h1, h2⟩
  · obtain ⟨i, u, hu, h1, h2⟩ := h
    rw [AH.get_set] at hu
    split at hu
    · next e => subst e; exact ⟨_, o, hg, hl, h2⟩
    · exact ⟨i, u, hu, h1, h2⟩

/-- A builder's row. -/
def bkill (H : AH) : Option Nat → AH
  | none => H
  | some j => H.set j .dead
/-- The builder at i gets the row l. -/
def bset (H : AH) (i : Nat) (T e : TypeId) (r : Option Nat) (l : List UInt8) : AH :=
  (((bkill H r).set i .dead).alloc (.bbuf e l)).set i (.bld T (some H.next) l.length)
def bput (H : AH) (i : Nat) (T e : TypeId) (r : Option Nat) (l : List UInt8) : AH :=
  match l with
  | [] => H.set i (.bld T none 0)
  | c :: l => bset H i T e r (c :: l)
/-- At i there is a builder that holds l. -/
structure IsB (H : AH) (i : Nat) (T e : TypeId) (r : Option Nat) (l : List UInt8) : Prop where
  at_ : H.get i = some (.bld T r l.length)
  row : ∀ j, r = some j → H.get j = some (.bbuf e l)
  nil : r = none → l = []

def bCells (l : List UInt8) : List Value := l.map fun c => .int .u8 c.toNat
theorem bCells_length (l : List UInt8) : (bCells l).length = l.length := List.length_map _

theorem bkill_next (H : AH) (r : Option Nat) : (bkill H r).next = H.next := by cases r <;> rfl
theorem bkill_get {H : AH} {r : Option Nat} {x : Nat} : (bkill H r).get x = if r = some x then some .dead else H.get x := by
  cases r with
  | none => simp [bkill]
  | some j =>
    simp only [bkill, AH.get_set]
    by_cases h : x = j
    · subst h; simp
    · rw [if_neg h, if_neg (by simp; exact fun e => h e.symm)]

/-- What lies in the world for a builder. -/
theorem bld_at {i : Nat} {T e : TypeId} {r : Option Nat} {l : List UInt8} (hB : IsB H i T e r l) (hR : Rel P W0 ι D H w) :
    ∃ p v, w.heap[(ι i).b]? = some (.cells #[p, v] T (0, 0)) ∧ (ι i).o = 0 ∧ (p = .pointer none ∨ p = .pointer (some ⟨(ι i).b, 0, none⟩)) ∧ w.ownsRowF 0 e 1 v l.length (bCells l) ∧ v.ownBlock ≠ some (ι i).b ∧ (r = none → v = .slice none 0 0) ∧
      ∀ j, r = some j → v = .slice (some ⟨(ι j).b, 0, none⟩) l.length (ι j).n ∧ ∃ cur fz, w.heap[(ι j).b]? = some (.cells cur e fz) ∧ cur.size = (ι j).n ∧ fz.2 ≤ l.length ∧ l.length ≤ (ι j).n ∧ (ι j).n ≤ maxLen ∧ cur.toList.take l.length = bCells l := by
  obtain ⟨h0, p, v, h1, h2, h3, h4⟩ := hR.objs _ _ hB.at_
  cases r with
  | none =>
    obtain ⟨_, rfl⟩ := h3 rfl
    have hl := hB.nil rfl
    subst hl
    exact ⟨p, _, h1, h0, h2, ⟨rfl, .inl ⟨rfl, rfl⟩⟩, (by simp [Value.ownBlock]), fun _ => rfl, (fun j hj => by cases hj)⟩
  | some j =>
    obtain ⟨rfl, hd⟩ := h4 j rfl
    have hj := hB.row j rfl
    obtain ⟨_, cur, fz, g1, g2, g3, g4, g5, g6⟩ := hR.objs _ _ hj
    have hij : j ≠ i := fun e => by have := hB.at_; rw [← e, hj] at this; cases this
    refine ⟨p, _, h1, h0, h2, ⟨by simp [bCells], .inr ⟨(ι j).b, (ι j).n, cur, fz, rfl, Nat.zero_le _, g1, by omega, g4, g5, by omega, by rw [Nat.mul_one]; exact g6⟩⟩, ?_, (fun h => by cases h), fun j' hj' => ?_⟩
    · simp only [Value.ownBlock]
      intro h
      simp at h
      exact hR.apart j i _ _ hj hB.at_ rfl rfl hij h
    · obtain rfl := Option.some.inj hj'
      exact ⟨rfl, cur, fz, g1, g2, g3, g4, g5, g6⟩

theorem rel_dead {id : Nat} {o : AO} (hR : Rel P W0 ι D H w) (hg : H.get id = some o) (hown : o.owns = true) : Rel P W0 ι D (H.set id .dead) w :=
  rel_set hR hg hown (fun h => by cases h) ⟨rfl, rfl, rfl, Nat.le_refl _⟩ (fun _ _ => rfl) trivial

/-- A method has written: the abstract heap. -/
theorem bld_step {i : Nat} {T e : TypeId} {r : Option Nat} {l l' : List UInt8} {v : Value} (hB : IsB H i T e r l) (hR : Rel P W0 ι D H w) (hl' : l' ≠ []) (hv0 : r = none → v = .slice none 0 0) (hvj : ∀ j, r = some j → v = .slice (some ⟨(ι j).b, 0, none⟩) l.length (ι j).n) (hW : Wrote T e (ι i).b v l'.length (bCells l') w w') :
    ∃ ι' D', Rel P W0 ι' D' (bset H i T e r l') w' ∧ Stp ι D H w ι' D' (bset H i T e r l') w' := by
  obtain ⟨⟨p', v', hp', hb', hown', _, hne'⟩, hout, hkeep⟩ := hW
  have hl0 : l'.length ≠ 0 := by simpa using hl'
  obtain ⟨g, cap, cur, fz, rfl, hg, hfz, hnc, hcm, hcs, htake⟩ : ∃ g cap cur fz, v' = .slice (some ⟨g, 0, none⟩) l'.length cap ∧ w'.heap[g]? = some (.cells cur e fz) ∧ fz.2 ≤ l'.length * 1 ∧ l'.length ≤ cap ∧ cap ≤ maxLen ∧ cur.size = cap * 1 ∧ cur.toList.take (l'.length * 1) = bCells l' := by
    rcases hown'.2 with ⟨_, h⟩ | ⟨g, cap, cur, fz, rfl, _, h⟩
    · exact absurd h hl0
    · exact ⟨g, cap, cur, fz, rfl, h⟩
  obtain ⟨hgb, hgn⟩ := hne' g rfl
  have hi := hB.at_
  have hij : ∀ j, r = some j → j ≠ i := fun j hj e => by have := hB.row j hj; rw [e, hi] at this; cases this
  have hblt : (ι i).b < w.heap.size := hR.inw i (hR.dom i _ hi rfl)
  -- where the row lies
  have hgj : (∃ j, r = some j ∧ g = (ι j).b) ∨ w.heap.size ≤ g := by
    rcases hgn with h | h
    · cases r with
      | none => rw [hv0 rfl] at h; simp [Value.ownBlock] at h
      | some j => rw [hvj j rfl] at h; simp [Value.ownBlock] at h; exact .inl ⟨j, rfl, h.symm⟩
    · exact .inr h
  have hvo : ∀ k, v.ownBlock = some k → ∃ j, r = some j ∧ k = (ι j).b := by
    intro k hk
    cases r with
    | none => rw [hv0 rfl] at hk; simp [Value.ownBlock] at hk
    | some j => rw [hvj j rfl] at hk; simp [Value.ownBlock] at hk; exact ⟨j, rfl, hk.symm⟩
  -- the dead
  have hK : Rel P W0 ι D ((bkill H r).set i .dead) w := by
    cases r with
    | none => exact rel_dead hR hi rfl
    | some j =>
      refine rel_dead (o := .bld T (some j) l.length) (rel_dead hR (hB.row j rfl) rfl) ?_ rfl
      show (H.set j .dead).get i = _
      rw [AH.get_set, if_neg (fun e => hij j rfl e.symm)]; exact hi
  have hKget : ∀ x u, ((bkill H r).set i .dead).get x = some u → u.live = true → x ≠ i ∧ r ≠ some x ∧ H.get x = some u := by
    intro x u hu hl
    rw [AH.get_set] at hu
    split at hu
    · simp only [Option.some.injEq] at hu; subst hu; cases hl
    · next hx =>
      rw [bkill_get] at hu
      split at hu
      · simp only [Option.some.injEq] at hu; subst hu; cases hl
      · next hr => exact ⟨hx, hr, hu⟩
  have hfi : ∀ x u, ((bkill H r).set i .dead).get x = some u → u.live = true → (ι x).b ≠ (ι i).b := fun x u hu hl h => by
    obtain ⟨h1, h2, h3⟩ := hKget x u hu hl
    exact hR.apart i x _ u hi h3 rfl hl (fun e => h1 e.symm) h.symm
  have hfj : ∀ x u j, ((bkill H r).set i .dead).get x = some u → u.live = true → r = some j → (ι x).b ≠ (ι j).b := fun x u j hu hl hj h => by
    obtain ⟨h1, h2, h3⟩ := hKget x u hu hl
    exact hR.apart j x _ u (hB.row j hj) h3 rfl hl (fun e => h2 (by rw [hj, e])) h.symm
  have hnx : ((bkill H r).set i .dead).next = H.next := by rw [AH.next_set, bkill_next]
  have hW0i : W0.heap.size ≤ (ι i).b := hR.new i _ hi rfl
  have hW0g : W0.heap.size ≤ g := by
    rcases hgj with ⟨j, hj, rfl⟩ | h
    · exact hR.new j _ (hB.row j hj) rfl
    · exact Nat.le_trans hR.below.size h
  have hf := hR.fresh
  have hR2 : Rel P W0 (updI ι H.next ⟨g, 0, cap⟩) (addD D H.next) (((bkill H r).set i .dead).alloc (.bbuf e l')) w' := by
    have := rel_new (pl := ⟨g, 0, cap⟩) (o := .bbuf e l') hK hout (fun x u hu hl => ?_) (fun b hb => ?_) (fun x u hu hl => ?_) hW0g (Array.getElem?_eq_some_iff.1 hg).1 ?_
    · rwa [hnx] at this
    · obtain ⟨h1, h2, h3⟩ := hKget x u hu hl
      refine hkeep _ (hR.inw x (hR.dom x u h3 hl)) (hfi x u hu hl) fun h => ?_
      obtain ⟨j, hj, hk⟩ := hvo _ h
      exact hfj x u j hu hl hj hk
    · refine hkeep b (Nat.lt_of_lt_of_le hb hR.below.size) (by omega) fun h => ?_
      obtain ⟨j, hj, hk⟩ := hvo _ h
      have := hR.new j _ (hB.row j hj) rfl
      omega
    · obtain ⟨h1, h2, h3⟩ := hKget x u hu hl
      rcases hgj with ⟨j, hj, h⟩ | h
      · simp only [h]; exact hfj x u j hu hl hj
      · have := hR.inw x (hR.dom x u h3 hl)
        simp only; omega
    · exact ⟨rfl, cur, fz, hg, by simpa using hcs, by simpa using hfz, hnc, hcm, by rw [Nat.mul_one] at htake; exact htake⟩
  have hin : i ≠ H.next := fun e => hf (by rw [← e]; exact hR.dom i _ hi rfl)
  have hιi : updI ι H.next ⟨g, 0, cap⟩ i = ι i := by unfold updI; rw [if_neg hin]
  have hιn : updI ι H.next ⟨g, 0, cap⟩ H.next = ⟨g, 0, cap⟩ := by unfold updI; rw [if_pos rfl]
  have hget2 : ∀ x u, (((bkill H r).set i .dead).alloc (.bbuf e l')).get x = some u → u.live = true → (x = H.next ∧ u = .bbuf e l') ∨ (x ≠ H.next ∧ ((bkill H r).set i .dead).get x = some u) := by
    intro x u hu hl
    rw [AH.get_alloc, hnx] at hu
    split at hu
    · next h => simp only [Option.some.injEq] at hu; exact .inl ⟨h, hu.symm⟩
    · next h => exact .inr ⟨h, hu⟩
  refine ⟨_, _, rel_revive (id := i) (o' := .bld T (some H.next) l'.length) hR2 ?_ (.inl (hR.dom i _ hi rfl)) (fun x u hx hu hl => ?_) (by rw [hιi]; exact hW0i) ?_, ?_⟩
  · rw [AH.get_alloc, hnx, if_neg hin, AH.get_set, if_pos rfl]
  · rw [hιi]
    rcases hget2 x u hu hl with ⟨rfl, _⟩ | ⟨h1, h2⟩
    · rw [hιn]; exact hgb
    · unfold updI; rw [if_neg h1]; exact hfi x u h2 hl
  · rw [hιi]
    refine ⟨(hR.objs _ _ hi).1, p', _, hb', hp', (fun h => by cases h), fun id hid => ?_⟩
    obtain rfl := Option.some.inj hid
    rw [hιn]
    exact ⟨rfl, .inr rfl⟩
  · have hnext : (bset H i T e r l').next = H.next + 1 := by unfold bset; rw [AH.next_set, AH.next_alloc, hnx]
    have hgs : ∀ x u, (bset H i T e r l').get x = some u → u.live = true → x = i ∨ x = H.next ∨ (x ≠ H.next ∧ H.get x = some u) := by
      intro x u hu hl
      unfold bset at hu
      rw [AH.get_set] at hu
      split at hu
      · next h => exact .inl h
      · rcases hget2 x u hu hl with ⟨h, _⟩ | ⟨h1, h2⟩
        · exact .inr (.inl h)
        · exact .inr (.inr ⟨h1, (hKget x u h2 hl).2.2⟩)
    refine ⟨ext_upd hf, fun x hx => ?_, by rw [hnext]; omega, fun b hb hn => ?_, fun b hb h => ?_, fun b hb h => ?_, hout.size, hout.os, hout.tape, hout.output⟩
    · rcases hx with h | h
      · exact .inl h
      · exact .inr (by omega)
    · refine hkeep b hb (fun h => hn ⟨i, _, hi, rfl, h.symm⟩) fun h => ?_
      obtain ⟨j, hj, hk⟩ := hvo _ h
      exact hn ⟨j, _, hB.row j hj, rfl, hk.symm⟩
    · obtain ⟨x, u, hu, h1, h2⟩ := h
      have hl : u.live = true := by cases u <;> first | rfl | cases h1
      rcases hgs x u hu hl with rfl | rfl | ⟨h3, h4⟩
      · rw [hιi] at h2; exact ⟨x, _, hi, rfl, h2⟩
      · rw [hιn] at h2
        rcases hgj with ⟨j, hj, h⟩ | h
        · exact ⟨j, _, hB.row j hj, rfl, by rw [← h]; exact h2⟩
        · simp only at h2; omega
      · unfold updI at h2; rw [if_neg h3] at h2
        exact ⟨x, u, h4, h1, h2⟩
    · obtain ⟨x, u, hu, h1, h2⟩ := h
      rcases hgs x u hu h1 with rfl | rfl | ⟨h3, h4⟩
      · rw [hιi] at h2; exact ⟨x, _, hi, rfl, h2⟩
      · rw [hιn] at h2
        rcases hgj with ⟨j, hj, h⟩ | h
        · exact ⟨j, _, hB.row j hj, rfl, by rw [← h]; exact h2⟩
        · simp only at h2; omega
      · unfold updI at h2; rw [if_neg h3] at h2
        exact ⟨x, u, h4, h1, h2⟩

/-- A method has written nothing. -/
theorem bld_step0 {i : Nat} {T e : TypeId} {v : Value} (hB : IsB H i T e none []) (hR : Rel P W0 ι D H w) (hv0 : v = .slice none 0 0) (hW : Wrote T e (ι i).b v 0 [] w w') :
    Rel P W0 ι D (H.set i (.bld T none 0)) w' ∧ Stp ι D H w ι D (H.set i (.bld T none 0)) w' := by
  obtain ⟨⟨p', v', hp', hb', hown', hn0, hne'⟩, hout, hkeep⟩ := hW
  have hv' := hn0 hv0 rfl
  subst hv' hv0
  have hi := hB.at_
  have hblt : (ι i).b < w.heap.size := hR.inw i (hR.dom i _ hi rfl)
  have hk : ∀ b, b < w.heap.size → b ≠ (ι i).b → w'.heap[b]? = w.heap[b]? := fun b hb hb' => hkeep b hb hb' (by simp [Value.ownBlock])
  refine ⟨rel_setL hR hi rfl (fun _ => rfl) hout hk ?_, stp_setL hi rfl hout hk⟩
  exact ⟨(hR.objs _ _ hi).1, p', _, hb', hp', fun _ => ⟨rfl, rfl⟩, fun id h => by cases h⟩

/-- Either way. -/
theorem bld_put {i : Nat} {T e : TypeId} {r : Option Nat} {l l' : List UInt8} {v : Value} (hB : IsB H i T e r l) (hR : Rel P W0 ι D H w) (hle : l.length ≤ l'.length) (hv0 : r = none → v = .slice none 0 0) (hvj : ∀ j, r = some j → v = .slice (some ⟨(ι j).b, 0, none⟩) l.length (ι j).n) (hne : r ≠ none → l ≠ []) (hW : Wrote T e (ι i).b v l'.length (bCells l') w w') :
    ∃ ι' D', Rel P W0 ι' D' (bput H i T e r l') w' ∧ Stp ι D H w ι' D' (bput H i T e r l') w' := by
  cases l' with
  | nil =>
    have hl : l = [] := List.eq_nil_of_length_eq_zero (by simpa using hle)
    cases r with
    | some j => exact absurd hl (hne (by simp))
    | none =>
      subst hl
      exact ⟨ι, D, bld_step0 hB hR (hv0 rfl) hW⟩
  | cons c l' => exact bld_step hB hR (by simp) hv0 hvj hW

/-- The builder behind a method. -/
theorem IsB.put {i : Nat} {T e : TypeId} {r : Option Nat} {l l' : List UInt8} (hB : IsB H i T e r l) (hlt : i < H.next) : IsB (bput H i T e r l') i T e (match l' with | [] => none | _ => some H.next) l' := by
  cases l' with
  | nil => exact ⟨by simp [bput, AH.get_set], (fun j h => by cases h), fun _ => rfl⟩
  | cons c l' =>
    refine ⟨by simp [bput, bset, AH.get_set], fun j h => ?_, fun h => by cases h⟩
    obtain rfl := Option.some.inj h
    simp only [bput, bset]
    rw [AH.get_set, if_neg (by omega), AH.get_alloc, if_pos (by rw [AH.next_set, bkill_next])]

theorem strCells_b (l : List UInt8) : Lib.strCells ⟨l.toArray⟩ = bCells l := by
  rw [Lib.strCells_eq]; rfl

/-- (*strings.Builder).WriteString. -/
theorem b_WriteString (L : Lays.n166 P ρ) (X : Builder.Extra P ρ) (hb : HasBody P (ρ.f 166)) {i : Nat} {r : Option Nat} {l s : List UInt8} (hB : IsB H i (ρ.t 72) (ρ.t 5) r l) (hne : r ≠ none → l ≠ []) (hlen : l.length + s.length ≤ 140737488355328) :
    ACalls P W0 (ρ.f 166) [.p (some (i, 0)), .s s] H fun e H' => e = .ret (.tup [.i .i64 s.length, .ni]) ∧ H' = bput H i (ρ.t 72) (ρ.t 5) r (l ++ s) := by
  refine ⟨hb, fun ι D w cs hv hR => ?_⟩
  obtain ⟨p, v, h1, h2, h3, h4, h5, h6, h7⟩ := bld_at hB hR
  cases hv with
  | cons _ c _ _ r1 hv =>
    cases hv with
    | cons _ c2 _ _ r2 hv =>
      cases hv
      obtain ⟨rfl, hd⟩ := r1.ptr_inv
      obtain rfl := r2.str_inv
      rw [h2]
      refine (bw_WriteString L X (s := ⟨s.toArray⟩) h1 h3 h4 h5 (by simpa [ByteArray.size] using hlen)).mono fun e w' ⟨he, hW⟩ => ?_
      rw [strCells_b] at hW
      have hW' : Wrote (ρ.t 72) (ρ.t 5) (ι i).b v (l ++ s).length (bCells (l ++ s)) w w' := by
        have : (l ++ s).length = l.length + (⟨s.toArray⟩ : ByteArray).size := by simp [ByteArray.size]
        rw [this]
        simpa [bCells] using hW
      obtain ⟨ι', D', g1, g2⟩ := bld_put hB hR (by simp) h6 (fun j hj => (h7 j hj).1) hne hW'
      exact ⟨_, ι', D', _, ⟨rfl, rfl⟩, ⟨_, he, .tup _ [_, _] (.cons _ _ _ _ (by simpa [ByteArray.size] using RV.i .i64 _) (.cons _ _ _ _ .ni .nil))⟩, g1, g2⟩

/-- (*strings.Builder).WriteByte. -/
theorem b_WriteByte (L : Lays.n167 P ρ) (X : Builder.Extra P ρ) (hb : HasBody P (ρ.f 167)) {i : Nat} {r : Option Nat} {l : List UInt8} {c : UInt8} (hB : IsB H i (ρ.t 72) (ρ.t 5) r l) (hne : r ≠ none → l ≠ []) (hlen : l.length + 1 ≤ 140737488355328) :
    ACalls P W0 (ρ.f 167) [.p (some (i, 0)), .i .u8 c.toNat] H fun e H' => e = .ret .ni ∧ H' = bput H i (ρ.t 72) (ρ.t 5) r (l ++ [c]) := by
  refine ⟨hb, fun ι D w cs hv hR => ?_⟩
  obtain ⟨p, v, h1, h2, h3, h4, h5, h6, h7⟩ := bld_at hB hR
  cases hv with
  | cons _ q1 _ _ r1 hv =>
    cases hv with
    | cons _ q2 _ _ r2 hv =>
      cases hv
      obtain ⟨rfl, hd⟩ := r1.ptr_inv
      obtain rfl := r2.int_inv
      rw [h2]
      refine (bw_WriteByte L X h1 h3 h4 h5 hlen).mono fun e w' ⟨he, hW⟩ => ?_
      have hW' : Wrote (ρ.t 72) (ρ.t 5) (ι i).b v (l ++ [c]).length (bCells (l ++ [c])) w w' := by
        rw [List.length_append]
        simpa [bCells] using hW
      obtain ⟨ι', D', g1, g2⟩ := bld_put hB hR (by simp) h6 (fun j hj => (h7 j hj).1) hne hW'
      exact ⟨_, ι', D', _, ⟨rfl, rfl⟩, ⟨_, he, .ni⟩, g1, g2⟩

/-- (*strings.Builder).Write, of a row of bytes that is not nil. -/
theorem b_Write (L : Lays7.n35 P ρ) (L' : Lays.n240 P ρ') (X : Builder.Extra P ρ') (hf : ρ.f 52 = ρ'.f 240) (h72 : ρ.t 59 = ρ'.t 72) (h5 : ρ.t 5 = ρ'.t 5) (hb : HasBody P (ρ.f 35))
    {i j o cap : Nat} {r : Option Nat} {l s : List UInt8} {md : Md} {cs : List V} (hB : IsB H i (ρ.t 59) (ρ.t 5) r l) (hne : r ≠ none → l ≠ []) (hg : H.get j = some (.cells md cs)) (hs : (cs.drop o).take s.length = s.map fun c => .i .u8 c.toNat) (hsl : o + s.length ≤ cs.length) (hs0 : s ≠ []) (hlen : l.length + s.length ≤ 140737488355328) :
    ACalls P W0 (ρ.f 35) [.p (some (i, 0)), .sl 1 (some (j, o)) s.length cap] H fun e H' => e = .ret (.tup [.i .i64 s.length, .ni]) ∧ H' = bput H i (ρ.t 59) (ρ.t 5) r (l ++ s) := by
  refine ⟨hb, fun ι D w vs hv hR => ?_⟩
  obtain ⟨p, v, h1, h2, h3, h4, hq, h6, h7⟩ := bld_at hB hR
  have hl0 : s.length ≠ 0 := by simpa using hs0
  cases hv with
  | cons _ c _ _ r1 hv =>
    cases hv with
    | cons _ c2 _ _ r2 hv =>
      cases hv
      obtain ⟨rfl, hd⟩ := r1.ptr_inv
      cases r2 with
      | sl es _ _ q len _ ccap hD a1 a2 a3 a4 =>
        obtain ⟨rfl, hfit⟩ := a4.resolve_left (by omega)
        have hij : i ≠ j := fun e => by have := hB.at_; rw [e, hg] at this; cases this
        have hbb : (ι i).b ≠ (ι j).b := hR.apart i j _ _ hB.at_ hg rfl rfl hij
        obtain ⟨ca, et, fr, k1, k2, k3, k4, k5, k6⟩ := hR.objs _ _ hg
        rw [h2]
        refine (bw_Write L L' X hf h72 h5 h1 h3 h4 hq (ad := ⟨(ι j).b, (ι j).o + o, none⟩) (m := s.length) (news := bCells s) (by simp [bCells]) (hR.inw j (hR.dom j _ hg rfl)) (fun e => hbb e.symm) (fun x u hx => ?_) (fun u hu => ?_) hlen).mono fun e w' ⟨he, hW⟩ => ?_
        · rw [Addr_add, Lib.cell_of_heap k1]
          have hxs : x < s.length := by have := (List.getElem?_eq_some_iff.1 hx).1; simpa [bCells] using this
          have e1 : cs[o + x]? = some (.i .u8 (s[x]).toNat) := by
            have := congrArg (·[x]?) hs
            simp only [List.getElem?_take, if_pos hxs, List.getElem?_drop, List.getElem?_map, List.getElem?_eq_getElem hxs, Option.map_some] at this
            exact this
          obtain ⟨cv, g1, g2⟩ := k5.get _ _ e1
          rw [List.getElem?_take, if_pos (by omega), List.getElem?_drop, Array.getElem?_toList] at g1
          obtain rfl := g2.int_inv
          rw [bCells, List.getElem?_map, List.getElem?_eq_getElem hxs] at hx
          simp only [Option.map_some, Option.some.injEq] at hx
          subst hx
          rw [show (ι j).o + o + x = (ι j).o + (o + x) by omega]
          exact g1
        · simp only [bCells, List.mem_map] at hu
          obtain ⟨c, _, rfl⟩ := hu
          rfl
        · have hW' : Wrote (ρ.t 59) (ρ.t 5) (ι i).b v (l ++ s).length (bCells (l ++ s)) w w' := by
            rw [List.length_append]
            simpa [bCells] using hW
          obtain ⟨ι', D', g1, g2⟩ := bld_put hB hR (by simp) h6 (fun j hj => (h7 j hj).1) hne hW'
          exact ⟨_, ι', D', _, ⟨rfl, rfl⟩, ⟨_, he, .tup _ [_, _] (.cons _ _ _ _ (.i .i64 _) (.cons _ _ _ _ .ni .nil))⟩, g1, g2⟩

/-- What String leaves. -/
def bread (H : AH) (e : TypeId) (r : Option Nat) (l : List UInt8) : AH :=
  match r with
  | none => H
  | some j => H.set j (.bbuf e l)
theorem IsB.read {i : Nat} {T e : TypeId} {r : Option Nat} {l : List UInt8} (hB : IsB H i T e r l) : IsB (bread H e r l) i T e r l := by
  cases r with
  | none => exact hB
  | some j =>
    have hij : i ≠ j := fun e => by have := hB.row j rfl; rw [← e, hB.at_] at this; cases this
    refine ⟨by simp only [bread]; rw [AH.get_set, if_neg hij]; exact hB.at_, fun j' h => ?_, fun h => by cases h⟩
    obtain rfl := Option.some.inj h
    simp [bread, AH.get_set]

/-- (*strings.Builder).String. -/
theorem b_String (L : Lays.n169 P ρ) (X : Builder.Extra P ρ) (hb : HasBody P (ρ.f 169)) {i : Nat} {r : Option Nat} {l : List UInt8} (hB : IsB H i (ρ.t 72) (ρ.t 5) r l) (hne : r ≠ none → l ≠ []) :
    ACalls P W0 (ρ.f 169) [.p (some (i, 0))] H fun e H' => e = .ret (.s l) ∧ H' = bread H (ρ.t 5) r l := by
  refine ⟨hb, fun ι D w cs hv hR => ?_⟩
  obtain ⟨p, v, h1, h2, h3, h4, h5, h6, h7⟩ := bld_at hB hR
  cases hv with
  | cons _ c _ _ r1 hv =>
    cases hv
    obtain ⟨rfl, hd⟩ := r1.ptr_inv
    rw [h2]
    cases r with
    | none =>
      have hl := hB.nil rfl
      subst hl
      obtain rfl := h6 rfl
      exact (bw_String_nil L X h1).mono fun e w' ⟨he, hBl⟩ => ⟨_, ι, D, H, ⟨rfl, rfl⟩, ⟨_, he, rv_bytes []⟩, rel_more hR (below_same hBl) hBl.block, stp_more (below_same hBl) hBl.block⟩
    | some j =>
      obtain ⟨rfl, cur, fz, g1, g2, g3, g4, g5, g6⟩ := h7 j rfl
      refine (bw_String L X h1 g1 (fun e => h5 (by simp [Value.ownBlock, e])) g4 g5 g2 g6 (hne (by simp))).mono fun e w' ⟨he, ho, hk, fz', f1, f2⟩ => ?_
      have hj := hB.row j rfl
      refine ⟨_, ι, D, H.set j (.bbuf (ρ.t 5) l), ⟨rfl, rfl⟩, ⟨_, he, rv_bytes l⟩, rel_set hR hj rfl (fun _ => rfl) ho hk ?_, stp_set hj rfl ho hk⟩
      exact ⟨(hR.objs _ _ hj).1, cur, fz', f1, g2, f2 g3, g4, g5, g6⟩

/-- (*strings.Builder).Len. -/
theorem b_Len (L : Lays.n170 P ρ) (hb : HasBody P (ρ.f 170)) {i : Nat} {e : TypeId} {r : Option Nat} {l : List UInt8} (hB : IsB H i (ρ.t 72) e r l) :
    ACalls P W0 (ρ.f 170) [.p (some (i, 0))] H fun e H' => e = .ret (.i .i64 l.length) ∧ H' = H := by
  refine ⟨hb, fun ι D w cs hv hR => ?_⟩
  obtain ⟨p, v, h1, h2, h3, h4, h5, h6, h7⟩ := bld_at hB hR
  cases hv with
  | cons _ c _ _ r1 hv =>
    cases hv
    obtain ⟨rfl, hd⟩ := r1.ptr_inv
    rw [h2]
    obtain ⟨ao, cap, rfl⟩ : ∃ ao cap, v = .slice ao l.length cap := by
      cases r with
      | none => rw [h6 rfl, hB.nil rfl]; exact ⟨none, 0, rfl⟩
      | some j => exact ⟨_, _, (h7 j rfl).1⟩
    refine (bw_Len L h1).mono fun e w' ⟨he, hw⟩ => ?_
    subst hw
    exact ⟨_, ι, D, H, ⟨rfl, rfl⟩, ⟨_, he, .i .i64 _⟩, hR, Stp.refl⟩
end Ram
