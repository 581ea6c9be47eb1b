/- A part of the proof: contracts of functions, over the abstract machine. -/
import Derived.Test.YtceamnigcimldaaDoorPo10
set_option linter.unusedVariables false
set_option linter.unusedSimpArgs false
set_option linter.all false
/- Ports: the example, and the law PortsAll. -/
namespace Go.Proofs.YtceamnigcimldaaDoor
open Ram Go Go.Proofs.Ports

variable {W0 : World} {H : AH}

theorem text_ex : textP false [⟨1, 3⟩, ⟨4, 9⟩] = [49, 45, 57] := by decide +kernel
theorem text_no : textP false [] = [97, 110, 121] := by decide +kernel
theorem has4 : hasP false [⟨1, 3⟩, ⟨4, 9⟩] 4 = true := by decide +kernel
theorem has10 : hasP false [⟨1, 3⟩, ⟨4, 9⟩] 10 = false := by decide +kernel

/-- Two spans in memory of their own. -/
theorem two_sp {H1 : AH} {id : Nat} {a b : Sp} (h : H1.get id = some (.cells .rw [.i .i64 a.f, .i .i64 a.t, .i .i64 b.f, .i .i64 b.t])) (hl : id < H1.next) : SlV H1 .rw 2 (.sl 2 (some (id, 0)) 2 2) ([a, b].map spRow) (fun j => j = id) := by
  refine .inr ⟨id, 0, 2, [.i .i64 a.f, .i .i64 a.t, .i .i64 b.f, .i .i64 b.t], rfl, rfl, ?_⟩
  have := SlAt.of (H := H1) (md := .rw) (es := 2) (id := id) (o := 0) (cap := 2) (rows := [a, b].map spRow) (A := []) (B := []) (by simpa using h) hl (fun r hr => by obtain ⟨z, _, rfl⟩ := List.mem_map.1 hr; rfl) rfl (by simp) (by simp)
  simpa using this

set_option maxRecDepth 4000 in
/-- rampartlaw10.awake. -/
theorem f8 (ht : Tab W0) : ACalls Tryd.prog W0 8 [] H fun e H' => e = .ret (.b true) ∧ Grows H H' := by
  refine acalls_in k8 (by simp) ?_
  simp -dsimp [splice]
  obtain ⟨H1, hH1⟩ : ∃ H1, H1 = (H.alloc (.cells .rw [.i .i64 1, .i .i64 3, .i .i64 4, .i .i64 9])).alloc (.cells .rw [.b false, .sl 2 (some (H.next, 0)) 2 2]) := ⟨_, rfl⟩
  have k1 : Grows H H1 := by rw [hH1]; exact Keeps.alloc' (Keeps.alloc' Keeps.refl)
  have n1 : H1.next = H.next + 2 := by rw [hH1]; simp
  have g0 : H1.get H.next = some (.cells .rw [.i .i64 1, .i .i64 3, .i .i64 4, .i .i64 9]) := by rw [hH1]; simp
  have g1 : H1.get (H.next + 1) = some (.cells .rw [.b false, .sl 2 (some (H.next, 0)) 2 2]) := by rw [hH1]; simp
  have hs := two_sp (a := ⟨1, 3⟩) (b := ⟨4, 9⟩) g0 (by omega)
  rw [← hH1]
  refine (f17 ht hs (by simp)).next ?_
  rintro H2 h2
  have s2 := hs.keep h2 fun _ _ h => h
  have q2 := Grows.at h2 (by omega) g1
  rw [text_ex]
  simp -dsimp [q2, ldCells_of q2, binS, beq_b]
  refine (f15 s2 (by simp)).next ?_
  rintro H3 h3
  have s3 := s2.keep h3 fun _ _ h => h
  have q3 := Grows.at h3 (by have := h2.next; omega) q2
  rw [has4]
  simp -dsimp [q3, ldCells_of q3]
  refine (f15 s3 (by simp)).next ?_
  rintro H4 h4
  rw [has10]
  simp -dsimp
  refine (f17 ht (l := []) (v := .sl 0 none 0 0) (md := .rw) (F := NoId) (.inl ⟨rfl, _, rfl⟩) (by simp)).next ?_
  rintro H5 h5
  rw [text_no]
  simp -dsimp [binS, beq_b]
  exact fin_mk ⟨rfl, ((k1.trans h2).trans h3).trans (h4.trans h5)⟩

abbrev spKs : List KC := [.i .i64, .i .i64]
abbrev setKs : List KC := [.b, .sl spKs]
theorem sps_of {A : AH} : ∀ {rows : List (List V)}, HasRs A spKs rows → ∃ l : List Sp, rows = l.map spRow
  | [], _ => ⟨[], rfl⟩
  | r :: rows, h => by
    cases h with
    | cons _ _ _ h1 h2 =>
      obtain ⟨l, rfl⟩ := sps_of h2
      obtain ⟨a, _, rfl, ha, h1⟩ := HasK.invi h1
      obtain ⟨b, _, rfl, hb, h1⟩ := HasK.invi h1
      rw [HasK.inv0 h1]
      exact ⟨⟨a, b⟩ :: l, rfl⟩
theorem set_arg {A : AH} {tys : List ATy} {xs : List V} (h : HasA A (.agg setKs :: tys) xs) : ∃ (not : Bool) (v : V) (l : List Sp) (vs : List V), xs = .agg [.b not, v] :: vs ∧ SlV A .ro 2 v (l.map spRow) (fun _ => True) ∧ l.length ≤ maxLen ∧ HasA A tys vs := by
  obtain ⟨v, vs, rfl, ⟨r, rfl, h1⟩, h2⟩ := h.inv
  obtain ⟨b, _, rfl, k1⟩ := HasK.invb h1
  obtain ⟨v, _, rows, rfl, hs, hr, hl, k2⟩ := HasK.invsl k1
  rw [HasK.inv0 k2]
  obtain ⟨l, rfl⟩ := sps_of hr
  rw [List.length_map] at hl
  exact ⟨b, v, l, vs, rfl, hs, hl, h2⟩

set_option maxRecDepth 4000 in
/-- The law PortsAll. -/
theorem f3 (A : AH) (args : List V) (ht : Tab W0) (h : HasA A [.agg setKs, .one (.i .i64)] args) : ACalls Tryd.prog W0 3 args A fun e _ => e = .ret (.b true) := by
  obtain ⟨not, v, l, _, rfl, hs, hml, h⟩ := set_arg h
  obtain ⟨n, _, rfl, hn, h⟩ := h.invi
  rw [h.inv0]
  obtain ⟨e', a', cap', hv⟩ := hs.len
  rw [List.length_map] at hv
  have hone : V.one v = true := by rw [hv]; rfl
  refine acalls_in k3 (by simp) ?_
  have hk0 : Grows A (A.alloc (.cells .rw [.b not, v])) := Keeps.alloc' Keeps.refl
  have hs0 := hs.keep hk0 fun _ _ h => h
  by_cases hbig : 20 < l.length
  · have hbi : (20 : Int) < l.length := by omega
    simp -dsimp [hone, hv, hbi]
    refine (f8 ht).next ?_
    rintro H2 h2
    simp -dsimp
    exact fin_mk rfl
  · have hml' : l.length < 4611686018427387904 := by omega
    have hb' : ¬ (20 : Int) < l.length := by omega
    have hg1 : (A.alloc (.cells .rw [.b not, v])).get A.next = some (.cells .rw [.b not, v]) := by simp
    simp -dsimp [hone]
    obtain ⟨H1, hH1⟩ : ∃ H1, H1 = A.alloc (.cells .rw [.b not, v]) := ⟨_, rfl⟩
    rw [← hH1] at hg1 hs0 hk0 ⊢
    have l1 : A.next < H1.next := by rw [hH1]; simp
    rw [hv] at hg1
    simp -dsimp [hv, hg1, ldCells_of hg1, hb', hbig]
    rw [← hv]
    refine (f9 hs0 hml').next ?_
    rintro H2 h2
    have s2 := hs0.keep h2 fun _ _ h => h
    have g2 := Grows.at h2 l1 hg1
    simp -dsimp [g2, ldCells_of g2, hv]
    rw [← hv]
    refine (f10 s2 hml').next ?_
    rintro H3 h3
    have h3 := h2.trans h3
    have s3 := hs0.keep h3 fun _ _ h => h
    have g3 := Grows.at h3 l1 hg1
    simp -dsimp [g3, ldCells_of g3, hv]
    rw [← hv]
    refine (f13 s3 (by omega)).some ?_
    rintro v4 H4 ⟨s4c, h4⟩
    have h4 := h3.trans h4
    have g4 := Grows.at h4 l1 hg1
    simp -dsimp [g4, ldCells_of g4, hv]
    refine (f12 s4c hml').some ?_
    rintro v5 H5 ⟨s5c, h5⟩
    have h5 := h4.trans h5
    have s5 := hs0.keep h5 fun _ _ h => h
    have g5 := Grows.at h5 l1 hg1
    simp -dsimp [g5, ldCells_of g5, hv]
    rw [← hv]
    refine (f14 s5 hml').some ?_
    rintro v6 H6 ⟨s6c, h6⟩
    have s6a := s5c.keep h6 fun _ _ h => h
    have h6 := h5.trans h6
    have s6 := hs0.keep h6 fun _ _ h => h
    have g6 := Grows.at h6 l1 hg1
    have hcl := (clean_ok l).2
    simp -dsimp
    refine (f11 s6a s6c (by omega)).next ?_
    rintro H7 h7
    have h7 := h6.trans h7
    have s7 := hs0.keep h7 fun _ _ h => h
    have g7 := Grows.at h7 l1 hg1
    simp -dsimp [g7, ldCells_of g7, hv]
    rw [← hv]
    refine (f15 s7 hml').next ?_
    rintro H8 h8
    have h8 := h7.trans h8
    have s8 := hs0.keep h8 fun _ _ h => h
    have g8 := Grows.at h8 l1 hg1
    simp -dsimp [g8, ldCells_of g8, hv]
    rw [← hv]
    refine (f16 s8 hml').next ?_
    rintro H9 h9
    have h9 := h8.trans h9
    have s9 := hs0.keep h9 fun _ _ h => h
    have g9 := Grows.at h9 l1 hg1
    simp -dsimp [g9, ldCells_of g9, hv]
    rw [← hv]
    refine (f17 ht s9 hml').next ?_
    rintro H10 h10
    have h10 := h9.trans h10
    have s10 := hs0.keep h10 fun _ _ h => h
    have g10 := Grows.at h10 l1 hg1
    simp -dsimp [g10, ldCells_of g10, hv]
    rw [← hv]
    refine (f18 s10 hml').next ?_
    rintro H11 h11
    simp -dsimp [binS, beq_b]
    refine (f8 ht).next ?_
    rintro H13 h13
    simp -dsimp
    exact fin_mk rfl
end Go.Proofs.YtceamnigcimldaaDoor
