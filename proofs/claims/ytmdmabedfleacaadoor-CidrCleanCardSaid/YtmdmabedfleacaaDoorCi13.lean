/- A part of the proof: contracts of functions, over the abstract machine. -/
import Derived.Test.YtmdmabedfleacaaDoorCi12
set_option linter.unusedVariables false
set_option linter.unusedSimpArgs false
set_option linter.all false
namespace Go.Proofs.YtmdmabedfleacaaDoor
open Ram Go

variable {W0 : World} {H : AH}

abbrev netKs : List KC := [.i .u32, .i .i64]
abbrev setKs : List KC := [.b, .sl netKs]
theorem nets_of {A : AH} : ∀ {rows : List (List V)}, HasRs A netKs rows → ∃ l : List Net, rows = l.map nRow ∧ ∀ n ∈ l, n.ok
  | [], _ => ⟨[], rfl, by simp⟩
  | r :: rows, h => by
    cases h with
    | cons _ _ _ h1 h2 =>
      obtain ⟨l, rfl, hl⟩ := nets_of h2
      obtain ⟨a, _, rfl, ha, h1⟩ := HasK.invi h1
      obtain ⟨b, _, rfl, hb, h1⟩ := HasK.invi h1
      rw [HasK.inv0 h1]
      refine ⟨⟨a, b⟩ :: l, rfl, ?_⟩
      intro n hn
      rcases List.mem_cons.1 hn with rfl | hn
      · exact ⟨(has_u32 ha).1, (has_u32 ha).2, (has_i64 hb).1, (has_i64 hb).2⟩
      · exact hl n hn
theorem set_arg {A : AH} {tys : List ATy} {xs : List V} (h : HasA A (.agg setKs :: tys) xs) : ∃ (not : Bool) (v : V) (l : List Net) (vs : List V), xs = .agg [.b not, v] :: vs ∧ SlV A .ro 2 v (l.map nRow) (fun _ => True) ∧ (∀ n ∈ l, n.ok) ∧ l.length ≤ maxLen ∧ HasA A tys vs := by
  obtain ⟨v, vs, rfl, ⟨r, rfl, h1⟩, h2⟩ := h.inv
  obtain ⟨b, _, rfl, k1⟩ := HasK.invb h1
  obtain ⟨v, _, rows, rfl, hs, hr, hl, k2⟩ := HasK.invsl k1
  rw [HasK.inv0 k2]
  obtain ⟨l, rfl, hok⟩ := nets_of hr
  rw [List.length_map] at hl
  exact ⟨b, v, l, vs, rfl, hs, hok, hl, h2⟩

/-- The law CidrAll. -/
theorem f7 (A : AH) (args : List V) (ht : Tab W0) (h : HasA A [.agg setKs, .one (.i .u32)] args) : ACalls Tryd.prog W0 7 args A fun e _ => e = .ret (.b true) := by
  obtain ⟨not, v, l, _, rfl, hs, hn, hml, h⟩ := set_arg h
  obtain ⟨a, _, rfl, ha, h⟩ := h.invi
  rw [h.inv0]
  obtain ⟨a0, a1⟩ := has_u32 ha
  obtain ⟨e', a', cap', hv⟩ := hs.len
  rw [List.length_map] at hv
  have hone : V.one v = true := by rw [hv]; rfl
  refine acalls_in k7 (by simp) ?_
  have hk0 : Grows A (A.alloc (.cells .rw [.b not, v])) := Keeps.alloc' Keeps.refl
  have hs0 := hs.keep hk0 fun _ _ h => h
  by_cases hbig : 20 < l.length
  · have hbi : (20 : Int) < l.length := by omega
    simp -dsimp [hone, hv, hbi]
    refine (f21 ht).next ?_
    rintro H2 h2
    simp -dsimp
    exact fin_mk rfl
  · have hml' : l.length < 4611686018427387904 := by omega
    have hb' : ¬ (20 : Int) < l.length := by omega
    have hg1 : (A.alloc (.cells .rw [.b not, v])).get A.next = some (.cells .rw [.b not, v]) := by simp
    simp -dsimp [hone]
    obtain ⟨H1, hH1⟩ : ∃ H1, H1 = A.alloc (.cells .rw [.b not, v]) := ⟨_, rfl⟩
    rw [← hH1] at hg1 hs0 hk0 ⊢
    have l1 : A.next < H1.next := by rw [hH1]; simp
    rw [hv] at hg1
    simp -dsimp [hv, hg1, ldCells_of hg1, hb', hbig]
    rw [← hv]
    refine (f22 hs0 hml').next ?_
    rintro H2 h2
    have s2 := hs0.keep h2 fun _ _ h => h
    have g2 := Grows.at h2 l1 hg1
    simp -dsimp [g2, ldCells_of g2, hv]
    rw [← hv]
    refine (f23 s2 hml').next ?_
    rintro H3 h3
    have h3 := h2.trans h3
    have s3 := hs0.keep h3 fun _ _ h => h
    have g3 := Grows.at h3 l1 hg1
    simp -dsimp [g3, ldCells_of g3, hv]
    rw [← hv]
    refine (f26 s3 (by omega)).some ?_
    rintro v4 H4 ⟨s4c, h4⟩
    have h4 := h3.trans h4
    have g4 := Grows.at h4 l1 hg1
    simp -dsimp [g4, ldCells_of g4, hv]
    refine (f25 s4c hml' hn).some ?_
    rintro v5 H5 ⟨s5c, h5⟩
    have h5 := h4.trans h5
    have s5 := hs0.keep h5 fun _ _ h => h
    have g5 := Grows.at h5 l1 hg1
    simp -dsimp [g5, ldCells_of g5, hv]
    rw [← hv]
    refine (f27 s5 hml' hn).some ?_
    rintro v6 H6 ⟨s6c, h6⟩
    have s6a := s5c.keep h6 fun _ _ h => h
    have h6 := h5.trans h6
    have s6 := hs0.keep h6 fun _ _ h => h
    have g6 := Grows.at h6 l1 hg1
    have hcl := clean_len l
    simp -dsimp
    refine (f24 s6a s6c (by omega)).next ?_
    rintro H7 h7
    have h7 := h6.trans h7
    have s7 := hs0.keep h7 fun _ _ h => h
    have g7 := Grows.at h7 l1 hg1
    simp -dsimp [g7, ldCells_of g7, hv]
    rw [← hv]
    refine (f28 s7 hml' hn a0 a1).next ?_
    rintro H8 h8
    have h8 := h7.trans h8
    have s8 := hs0.keep h8 fun _ _ h => h
    have g8 := Grows.at h8 l1 hg1
    simp -dsimp [g8, ldCells_of g8, hv]
    rw [← hv]
    refine (f29 s8 hml' hn a0 a1).next ?_
    rintro H9 h9
    have h9 := h8.trans h9
    have s9 := hs0.keep h9 fun _ _ h => h
    have g9 := Grows.at h9 l1 hg1
    simp -dsimp [g9, ldCells_of g9, hv]
    rw [← hv]
    refine (f30 ht s9 hml' hn).next ?_
    rintro H10 h10
    have h10 := h9.trans h10
    have s10 := hs0.keep h10 fun _ _ h => h
    have g10 := Grows.at h10 l1 hg1
    simp -dsimp [g10, ldCells_of g10, hv]
    rw [← hv]
    refine (f31 s10 hml' hn).next ?_
    rintro H11 h11
    simp -dsimp [binS, beq_b]
    refine (f32 ht a0 a1).next ?_
    rintro H12 h12
    simp -dsimp
    refine (f33 a0 a1).next ?_
    rintro _ rfl
    simp -dsimp [binS, beq_b]
    refine (f21 ht).next ?_
    rintro H13 h13
    simp -dsimp
    exact fin_mk rfl
end Go.Proofs.YtmdmabedfleacaaDoor
