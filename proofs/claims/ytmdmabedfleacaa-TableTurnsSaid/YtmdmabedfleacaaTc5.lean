/- A part of the proof: contracts of functions, over the abstract machine. -/
import Derived.Test.YtmdmabedfleacaaTc4
set_option linter.unusedVariables false
set_option linter.unusedSimpArgs false
set_option linter.all false
namespace Go.Proofs.Ytmdmabedfleacaa
open Ram Go

variable {W0 : World} {H : AH}

def uT (v : Nat) : Tup := ⟨17, v, 99, 1, 2⟩
def wT (v : Nat) : Tup := ⟨17, 99, v, 2, 1⟩
theorem uT_eq (i j : Nat) : (uT i = uT j) = (i = j) := by simp [uT]; omega
theorem uT_turn (i j : Nat) : ¬ uT i = (uT j).turn := by simp [uT, Tup.turn]
theorem wT_eq (i j : Nat) : ¬ wT i = uT j := by simp [uT, wT]
theorem wT_turn (i j : Nat) : (wT i = (uT j).turn) = (i = j) := by simp [uT, wT, Tup.turn]; omega
theorem same_uu (i j : Nat) : same (uT i) (uT j) = decide (i = j) := by simp [same, uT_eq, uT_turn]
theorem same_wu (i j : Nat) : same (wT i) (uT j) = decide (i = j) := by simp [same, wT_eq, wT_turn]
theorem dir_uu (i : Nat) : sameDir (uT i) (uT i) = 0 := by simp [sameDir]
theorem dir_wu (i : Nat) : sameDir (wT i) (uT i) = 1 := by simp [sameDir, wT_eq, wT_turn]

/-- touched: the same flows. -/
theorem touchD_same {ds : List Fd} {x : Tup} {now : Int} : (∀ d ∈ touchD ds x now, ∃ d0 ∈ ds, d.t = d0.t ∧ d.id = d0.id) ∧ (∀ d0 ∈ ds, ∃ d ∈ touchD ds x now, d.t = d0.t ∧ d.id = d0.id) ∧ (touchD ds x now).length = ds.length := by
  unfold touchD
  cases h : ds.findIdx? (fun y => same x y.t) with
  | none => exact ⟨fun d hd => ⟨d, hd, rfl, rfl⟩, fun d hd => ⟨d, hd, rfl, rfl⟩, rfl⟩
  | some i =>
    have hi := findIdx_lt h
    have hg : ds[i]? = some ds[i] := List.getElem?_eq_getElem hi
    simp only [hg, Option.map_some, Option.getD_some]
    refine ⟨fun d hd => ?_, fun d0 hd => ?_, ?_⟩
    · rcases List.mem_append.1 hd with hd | hd
      · exact ⟨d, List.mem_of_mem_eraseIdx hd, rfl, rfl⟩
      · simp only [List.mem_singleton] at hd; rw [hd]; exact ⟨ds[i], List.getElem_mem hi, rfl, rfl⟩
    · obtain ⟨j, hj, rfl⟩ := List.getElem_of_mem hd
      by_cases e : j = i
      · subst e; exact ⟨_, List.mem_append_right _ (List.mem_singleton.2 rfl), rfl, rfl⟩
      · refine ⟨ds[j], List.mem_append_left _ ?_, rfl, rfl⟩
        rw [List.eraseIdx_eq_take_drop_succ]
        rcases Nat.lt_or_gt_of_ne e with h | h
        · exact List.mem_append_left _ (List.mem_take_iff_getElem.2 ⟨j, by omega, rfl⟩)
        · exact List.mem_append_right _ (List.mem_drop_iff_getElem.2 ⟨j - (i + 1), by omega, by congr 1; omega⟩)
    · rw [List.length_append, List.length_eraseIdx, if_pos hi]; simp; omega

/-- What the law knows. -/
structure Inv (ds : List Fd) (ids : Nat → Int) (last : Int) : Prop where
  a : ∀ d ∈ ds, ∃ v, v < 20 ∧ d.t = uT v ∧ d.id = ids v ∧ 0 < ids v
  b : ∀ v, v < 20 → 0 < ids v → ∃ d ∈ ds, d.t = uT v
  c : ∀ v, v < 20 → 0 ≤ ids v ∧ ids v ≤ last
  d : ∀ v v', v < 20 → v' < 20 → 0 < ids v → ids v = ids v' → v = v'

theorem Inv.touch {ds : List Fd} {ids : Nat → Int} {last now : Int} {x : Tup} (h : Inv ds ids last) : Inv (touchD ds x now) ids last := by
  obtain ⟨h1, h2, _⟩ := touchD_same (ds := ds) (x := x) (now := now)
  refine ⟨fun d hd => ?_, fun v hv hp => ?_, h.c, h.d⟩
  · obtain ⟨d0, h0, e1, e2⟩ := h1 d hd
    rw [e1, e2]; exact h.a d0 h0
  · obtain ⟨d0, h0, e0⟩ := h.b v hv hp
    obtain ⟨d, hd, e1, _⟩ := h2 d0 h0
    exact ⟨d, hd, e1.trans e0⟩

theorem Inv.found {ds : List Fd} {ids : Nat → Int} {last : Int} (h : Inv ds ids last) {v : Nat} {x : Tup} (hx : ∀ j, same x (uT j) = decide (v = j)) (hv : v < 20) (hp : 0 < ids v) : ∃ d, foundD ds x = some d ∧ d.t = uT v ∧ d.id = ids v := by
  obtain ⟨d0, h0, e0⟩ := h.b v hv hp
  cases hf : foundD ds x with
  | none =>
    unfold foundD at hf
    rw [List.find?_eq_none] at hf
    have := hf d0 h0
    rw [e0, hx] at this
    simp at this
  | some d =>
    unfold foundD at hf
    have hm := List.mem_of_find?_eq_some hf
    have hs := List.find?_some hf
    obtain ⟨j, _, e1, e2, _⟩ := h.a d hm
    rw [e1, hx] at hs
    simp only [decide_eq_true_eq] at hs
    subst hs
    exact ⟨d, rfl, e1, e2⟩
theorem Inv.nofound {ds : List Fd} {ids : Nat → Int} {last : Int} (h : Inv ds ids last) {v : Nat} {x : Tup} (hx : ∀ j, same x (uT j) = decide (v = j)) (hv : v < 20 → ids v = 0) : foundD ds x = none := by
  unfold foundD
  rw [List.find?_eq_none]
  intro d hd
  obtain ⟨j, hj, e1, e2, hp⟩ := h.a d hd
  rw [e1, hx]
  simp only [decide_eq_true_eq]
  rintro rfl
  have := hv hj
  omega

theorem Inv.put {ds : List Fd} {ids : Nat → Int} {last now : Int} (h : Inv ds ids last) (hl : 0 ≤ last) {v : Nat} (hv : v < 20) (h0 : ids v = 0) : Inv (ds ++ [⟨uT v, last + 1, now⟩]) (fun j => if j = v then last + 1 else ids j) (last + 1) := by
  refine ⟨fun d hd => ?_, fun j hj hp => ?_, fun j hj => ?_, fun j j' hj hj' hp he => ?_⟩
  · rcases List.mem_append.1 hd with hd | hd
    · obtain ⟨j, hj, e1, e2, hp⟩ := h.a d hd
      have : j ≠ v := by rintro rfl; omega
      exact ⟨j, hj, e1, by rw [if_neg this]; exact e2, by rw [if_neg this]; exact hp⟩
    · simp only [List.mem_singleton] at hd; rw [hd]
      exact ⟨v, hv, rfl, by simp, by simp; omega⟩
  · by_cases e : j = v
    · exact ⟨_, List.mem_append_right _ (List.mem_singleton.2 rfl), by rw [e]⟩
    · rw [if_neg e] at hp
      obtain ⟨d, hd, e1⟩ := h.b j hj hp
      exact ⟨d, List.mem_append_left _ hd, e1⟩
  · have := h.c j hj
    split <;> omega
  · have a1 := h.c j hj
    have a2 := h.c j' hj'
    by_cases e : j = v
    · by_cases e' : j' = v
      · rw [e, e']
      · rw [if_pos e, if_neg e'] at he; omega
    · by_cases e' : j' = v
      · rw [if_neg e, if_pos e'] at he; omega
      · rw [if_neg e] at hp; rw [if_neg e, if_neg e'] at he; exact h.d j j' hj hj' hp he

theorem Inv.remove {ds : List Fd} {ids : Nat → Int} {last : Int} (h : Inv ds ids last) {v : Nat} (hv : v < 20) (hp : 0 < ids v) :
    Inv (ds.filter fun x => !decide (x.id = ids v)) (fun j => if j = v then 0 else ids j) last ∧ (ds.any fun x => decide (x.id = ids v)) = true ∧
      ((ds.filter fun x => !decide (x.id = ids v)).any fun x => decide (x.id = ids v)) = false ∧ (ds.filter fun x => !decide (x.id = ids v)).filter (fun x => !decide (x.id = ids v)) = ds.filter fun x => !decide (x.id = ids v) := by
  refine ⟨⟨fun d hd => ?_, fun j hj hpj => ?_, fun j hj => ?_, fun j j' hj hj' hpj he => ?_⟩, ?_, ?_, ?_⟩
  · rw [List.mem_filter] at hd
    obtain ⟨j, hj, e1, e2, hp'⟩ := h.a d hd.1
    have : j ≠ v := by
      rintro rfl
      have := hd.2
      simp [e2] at this
    exact ⟨j, hj, e1, by rw [if_neg this]; exact e2, by rw [if_neg this]; exact hp'⟩
  · have e : j ≠ v := by rintro rfl; simp at hpj
    rw [if_neg e] at hpj
    obtain ⟨d, hd, e1⟩ := h.b j hj hpj
    refine ⟨d, List.mem_filter.2 ⟨hd, ?_⟩, e1⟩
    obtain ⟨j2, hj2, e2, e3, hp2⟩ := h.a d hd
    rw [e1, uT_eq] at e2
    subst e2
    simp only [Bool.not_eq_true', decide_eq_false_iff_not]
    intro e4
    exact e (h.d j v hj hv hpj (by rw [← e3, e4]))
  · have := h.c j hj
    split <;> omega
  · have e : j ≠ v := by rintro rfl; simp at hpj
    rw [if_neg e] at hpj
    by_cases e' : j' = v
    · rw [if_neg e, if_pos e'] at he; omega
    · rw [if_neg e, if_neg e'] at he; exact h.d j j' hj hj' hpj he
  · obtain ⟨d, hd, e1⟩ := h.b v hv hp
    obtain ⟨j, _, e2, e3, _⟩ := h.a d hd
    rw [e1, uT_eq] at e2
    subst e2
    rw [List.any_eq_true]; exact ⟨d, hd, by simp [e3]⟩
  · rw [List.any_eq_false]
    intro d hd
    have := (List.mem_filter.1 hd).2
    simpa using this
  · rw [List.filter_filter]; simp

theorem f29 {i : Nat} (hi : i < 1000) : ACalls Try.prog W0 29 [.i .i64 i] H fun e H' => e = .ret (.agg (uT i).c) ∧ Grows H H' := by
  refine acalls_in k29 (by simp) ?_
  have hw : IntKind.u32.wrap (i : Int) = i := wrap_u32 (by omega) (by omega)
  simp -dsimp [hw]
  exact fin_mk ⟨rfl, Keeps.alloc' Keeps.refl⟩
theorem f30 {i : Nat} (hi : i < 1000) : ACalls Try.prog W0 30 [.i .i64 i] H fun e H' => e = .ret (.agg (wT i).c) ∧ Grows H H' := by
  refine acalls_in k30 (by simp) ?_
  have hw : IntKind.u32.wrap (i : Int) = i := wrap_u32 (by omega) (by omega)
  simp -dsimp [hw]
  exact fin_mk ⟨rfl, Keeps.alloc' Keeps.refl⟩

theorem splice_set {l : List Int} {u : Nat} {x : Int} (hu : u < l.length) : splice (l.map (V.i .i64)) u [.i .i64 x] = (l.set u x).map (V.i .i64) := by
  rw [List.map_set]
  unfold splice
  rw [List.set_eq_take_append_cons_drop, if_pos (by simpa using hu)]
  simp
end Go.Proofs.Ytmdmabedfleacaa
