/- A part of the proof: contracts of functions, over the abstract machine. -/
import Derived.Test.YtceamnigcimldaaDoorPo12
set_option linter.unusedVariables false
set_option linter.unusedSimpArgs false
set_option linter.all false
/- Ports: the law PortsTexts. -/
namespace Go.Proofs.YtceamnigcimldaaDoor
open Ram Go Go.Proofs.Ports

variable {W0 : World} {H : AH}

theorem f20i {n : Int} (h0 : 0 ≤ n) (h1 : n < 9223372036854775808) : ACalls Tryd.prog W0 20 [.i .i64 n] H fun e H' => e = .ret (.s (Lib.itoa n)) ∧ H = H' := by
  obtain ⟨m, rfl⟩ := Int.eq_ofNat_of_zero_le h0
  rw [itoa_pos (by omega), Int.toNat_natCast]
  exact f20 (by omega)
theorem putAll_eq {l m : List Sp} (hl : ∀ s ∈ l, okSp s) (hm : Canon (-1) m) (h : ∀ x, inS l x = inS m x) : putAll l = m := by
  obtain ⟨h1, h2⟩ := putAll_spec l [] hl trivial
  refine canon_eq h1 hm fun x => ?_
  have := h2 x
  rw [inS_nil, Bool.false_or] at this
  exact this.trans (h x)
theorem okP_of {l : List Sp} (h : l.length ≤ 4) (ho : ∀ s ∈ l, okSp s) : okP l = true := by
  unfold okP
  rw [Bool.and_eq_true, List.all_eq_true]
  exact ⟨by simpa using h, fun s hs => okB_iff.2 (ho s hs)⟩
theorem text_p {x y g : Int} (x0 : 0 ≤ x) (x1 : x < 1000) (y0 : 0 ≤ y) (y1 : y < 1000) (g0 : 0 ≤ g) (g1 : g < 5) :
    textP false [⟨x + y + g + 2, x + y + g + 2⟩, ⟨x, x + y⟩] = 91 :: (Lib.itoa x ++ ((if y = 0 then [] else 45 :: Lib.itoa (x + y)) ++ 44 :: (Lib.itoa (x + y + g + 2) ++ [93]))) := by
  have hok : ∀ s ∈ ([⟨x + y + g + 2, x + y + g + 2⟩, ⟨x, x + y⟩] : List Sp), okSp s := by
    intro s hs
    simp only [List.mem_cons, List.not_mem_nil, or_false] at hs
    rcases hs with rfl | rfl <;> simp only [okSp] <;> omega
  have hp : putAll [⟨x + y + g + 2, x + y + g + 2⟩, ⟨x, x + y⟩] = [⟨x, x + y⟩, ⟨x + y + g + 2, x + y + g + 2⟩] :=
    putAll_eq hok (by simp only [Canon, and_true]; omega) fun z => by
      rw [Bool.eq_iff_iff]; simp only [inS_cons, inS_nil, Bool.false_eq_true, or_false]; exact or_comm
  have hcl : cleanP [⟨x + y + g + 2, x + y + g + 2⟩, ⟨x, x + y⟩] = [⟨x, x + y⟩, ⟨x + y + g + 2, x + y + g + 2⟩] := by
    unfold cleanP
    rw [okP_of (by simp) hok, hp, if_pos rfl, if_neg (by simp)]
  unfold textP
  rw [hcl]
  have e1 : (x + y = x) = (y = 0) := by rw [eq_iff_iff]; omega
  simp [preT, bodyT, spT, Lib.join, List.intercalate, e1]
theorem clean_q {x y : Int} (x0 : 0 ≤ x) (x1 : x < 1000) (y0 : 0 ≤ y) (y1 : y < 1000) : cleanP [⟨x + y + 1, 65535⟩, ⟨0, x⟩, ⟨x, x + y⟩] = [] := by
  have hok : ∀ s ∈ ([⟨x + y + 1, 65535⟩, ⟨0, x⟩, ⟨x, x + y⟩] : List Sp), okSp s := by
    intro s hs
    simp only [List.mem_cons, List.not_mem_nil, or_false] at hs
    rcases hs with rfl | rfl | rfl <;> simp only [okSp] <;> omega
  have hp : putAll [⟨x + y + 1, 65535⟩, ⟨0, x⟩, ⟨x, x + y⟩] = [⟨0, 65535⟩] :=
    putAll_eq hok (by simp only [Canon, and_true]; omega) fun z => by
      rw [Bool.eq_iff_iff]; simp only [inS_cons, inS_nil, Bool.false_eq_true, or_false]
      constructor
      · intro h; omega
      · intro h; omega
  unfold cleanP
  rw [okP_of (by simp) hok, hp, if_pos rfl, if_pos rfl]
theorem text_q {x y : Int} (x0 : 0 ≤ x) (x1 : x < 1000) (y0 : 0 ≤ y) (y1 : y < 1000) : textP false [⟨x + y + 1, 65535⟩, ⟨0, x⟩, ⟨x, x + y⟩] = [97, 110, 121] := by
  unfold textP
  rw [clean_q x0 x1 y0 y1]
  simp [preT, bodyT, anyT]
theorem three_sp {H1 : AH} {id : Nat} {a b c : Sp} (h : H1.get id = some (.cells .rw [.i .i64 a.f, .i .i64 a.t, .i .i64 b.f, .i .i64 b.t, .i .i64 c.f, .i .i64 c.t])) (hl : id < H1.next) : SlV H1 .rw 2 (.sl 2 (some (id, 0)) 3 3) ([a, b, c].map spRow) (fun j => j = id) := by
  refine .inr ⟨id, 0, 3, [.i .i64 a.f, .i .i64 a.t, .i .i64 b.f, .i .i64 b.t, .i .i64 c.f, .i .i64 c.t], rfl, rfl, ?_⟩
  have := SlAt.of (H := H1) (md := .rw) (es := 2) (id := id) (o := 0) (cap := 3) (rows := [a, b, c].map spRow) (A := []) (B := []) (by simpa using h) hl (fun r hr => by obtain ⟨z, _, rfl⟩ := List.mem_map.1 hr; rfl) rfl (by simp) (by simp)
  simpa using this

set_option maxRecDepth 4000 in
/-- The law PortsTexts. -/
theorem f6 (A : AH) (args : List V) (ht : Tab W0) (h : HasA A [.one (.i .i64), .one (.i .i64), .one (.i .i64)] args) : ACalls Tryd.prog W0 6 args A fun e _ => e = .ret (.b true) := by
  obtain ⟨a, _, rfl, ha, h⟩ := h.invi
  obtain ⟨b, _, rfl, hb, h⟩ := h.invi
  obtain ⟨c, _, rfl, hc, h⟩ := h.invi
  rw [h.inv0]
  refine acalls_in k6 (by simp) ?_
  simp -dsimp
  refine (f19 (by omega) (by omega)).next ?_
  rintro _ rfl
  have x0 := Int.emod_nonneg a (b := 1000) (by omega)
  have x1 := Int.emod_lt_of_pos a (b := 1000) (by omega)
  obtain ⟨x, hx⟩ : ∃ f, f = a % 1000 := ⟨_, rfl⟩
  rw [← hx] at x0 x1 ⊢
  simp -dsimp
  refine (f19 (by omega) (by omega)).next ?_
  rintro _ rfl
  have y0 := Int.emod_nonneg b (b := 1000) (by omega)
  have y1 := Int.emod_lt_of_pos b (b := 1000) (by omega)
  obtain ⟨y, hy⟩ : ∃ f, f = b % 1000 := ⟨_, rfl⟩
  rw [← hy] at y0 y1 ⊢
  simp -dsimp
  refine (f19 (by omega) (by omega)).next ?_
  rintro _ rfl
  have g0 := Int.emod_nonneg c (b := 5) (by omega)
  have g1 := Int.emod_lt_of_pos c (b := 5) (by omega)
  obtain ⟨g, hg⟩ : ∃ f, f = c % 5 := ⟨_, rfl⟩
  rw [← hg] at g0 g1 ⊢
  have w1 : IntKind.i64.wrap (x + y) = x + y := wrap_i64 (by omega) (by omega)
  have w2 : IntKind.i64.wrap (x + y + g) = x + y + g := wrap_i64 (by omega) (by omega)
  have w3 : IntKind.i64.wrap (x + y + g + 2) = x + y + g + 2 := wrap_i64 (by omega) (by omega)
  have w4 : IntKind.i64.wrap (x + y + 2) = x + y + 2 := wrap_i64 (by omega) (by omega)
  have w5 : IntKind.i64.wrap (x + 2) = x + 2 := wrap_i64 (by omega) (by omega)
  have w6 : IntKind.i64.wrap (x + g + 2) = x + g + 2 := wrap_i64 (by omega) (by omega)
  have w7 : IntKind.i64.wrap (x + y + 1) = x + y + 1 := wrap_i64 (by omega) (by omega)
  have w8 : IntKind.i64.wrap (x + g) = x + g := wrap_i64 (by omega) (by omega)
  have htx := text_p x0 x1 y0 y1 g0 g1
  have hqx := text_q x0 x1 y0 y1
  have hqc := clean_q x0 x1 y0 y1
  have hll : ∀ n : Int, 0 ≤ n → n < 10000 → (Lib.itoa n).length ≤ 21 := fun n h0 h1 => Lib.itoa_length_le n (by omega) (by omega)
  have l1 := hll x (by omega) (by omega)
  have l2 := hll (x + y) (by omega) (by omega)
  have l3 := hll (x + y + g + 2) (by omega) (by omega)
  have l4 := hll (x + y + 2) (by omega) (by omega)
  have l5 := hll (x + 2) (by omega) (by omega)
  have l6 := hll (x + g + 2) (by omega) (by omega)
  by_cases hg0 : g = 0
  · subst hg0
    simp only [Int.add_zero] at htx l3 w2 w3
    by_cases hy0 : y = 0
    · subst hy0
      simp only [Int.add_zero, if_true, List.nil_append] at htx l2 l4 w1 w4 w7 hqx hqc
      simp -dsimp [w1, w2, w3, w4, w5, w6, w7, w8]
      refine (f20i (by omega) (by omega)).next ?_
      rintro _ rfl
      simp -dsimp [w1, w2, w3, w4, w5, w6, w7, w8]
      rw [add_s (by first | omega | (simp; omega))]
      simp -dsimp [w1, w2, w3, w4, w5, w6, w7, w8]
      rw [add_s (by first | omega | (simp; omega))]
      simp -dsimp [w1, w2, w3, w4, w5, w6, w7, w8]
      refine (f20i (by omega) (by omega)).next ?_
      rintro _ rfl
      simp -dsimp [w1, w2, w3, w4, w5, w6, w7, w8]
      rw [add_s (by first | omega | (simp; omega))]
      simp -dsimp [w1, w2, w3, w4, w5, w6, w7, w8]
      rw [add_s (by first | omega | (simp; omega))]
      simp -dsimp [w1, w2, w3, w4, w5, w6, w7, w8]
      refine (f20i (by omega) (by omega)).next ?_
      rintro _ rfl
      simp -dsimp [w1, w2, w3, w4, w5, w6, w7, w8]
      rw [add_s (by first | omega | (simp; omega))]
      simp -dsimp [w1, w2, w3, w4, w5, w6, w7, w8]
      rw [add_s (by first | omega | (simp; omega))]
      simp -dsimp [w1, w2, w3, w4, w5, w6, w7, w8]
      refine (f20i (by omega) (by omega)).next ?_
      rintro _ rfl
      simp -dsimp [w1, w2, w3, w4, w5, w6, w7, w8]
      rw [add_s (by first | omega | (simp; omega))]
      simp -dsimp [w1, w2, w3, w4, w5, w6, w7, w8]
      rw [add_s (by first | omega | (simp; omega))]
      simp -dsimp [w1, w2, w3, w4, w5, w6, w7, w8]
      refine (f20i (by omega) (by omega)).next ?_
      rintro _ rfl
      simp -dsimp [w1, w2, w3, w4, w5, w6, w7, w8]
      rw [add_s (by first | omega | (simp; omega))]
      simp -dsimp [w1, w2, w3, w4, w5, w6, w7, w8]
      rw [add_s (by first | omega | (simp; omega))]
      simp -dsimp [w1, w2, w3, w4, w5, w6, w7, w8]
      obtain ⟨H1, hH1⟩ : ∃ H1, H1 = (((A.alloc (.cells .rw [.i .i64 (x + 2), .i .i64 (x + 2), .i .i64 x, .i .i64 (x)])).alloc (.cells .rw [.b false, .sl 2 (some (A.next, 0)) 2 2])).alloc (.cells .rw [.i .i64 (x + 1), .i .i64 65535, .i .i64 0, .i .i64 x, .i .i64 x, .i .i64 (x)])).alloc (.cells .rw [.b false, .sl 2 (some (A.next + 1 + 1, 0)) 3 3]) := ⟨_, rfl⟩
      rw [← hH1]
      have n1 : H1.next = A.next + 4 := by rw [hH1]; simp
      have sP := two_sp (H1 := H1) (id := A.next) (a := ⟨x + 2, x + 2⟩) (b := ⟨x, x⟩) (by rw [hH1]; simp; rw [if_neg (by omega), if_neg (by omega)]) (by omega)
      have sQ := three_sp (H1 := H1) (id := A.next + 1 + 1) (a := ⟨x + 1, 65535⟩) (b := ⟨0, x⟩) (c := ⟨x, x⟩) (by rw [hH1]; simp) (by omega)
      have gq : H1.get (A.next + 1 + 1 + 1) = some (.cells .rw [.b false, .sl 2 (some (A.next + 1 + 1, 0)) 3 3]) := by rw [hH1]; simp
      have rQ : ∀ H2, Grows H1 H2 → ldCells H2 (A.next + 1 + 1 + 1) 0 2 = some [.b false, .sl 2 (some (A.next + 1 + 1, 0)) 3 3] := fun H2 h => by
        have := ldCells_of (off := 0) (n := 2) (Grows.at h (by omega) gq); simpa using this
      refine (f17 ht sP (by simp)).next ?_
      rintro H2 h2
      rw [htx]
      simp -dsimp [binS, beq_b, rQ _ h2]
      refine (f17 ht (sQ.keep h2 fun _ _ h => h) (by simp)).next ?_
      rintro H3 h3
      have h3 := h2.trans h3
      rw [hqx]
      simp -dsimp [binS, beq_b, rQ _ h3]
      refine (f12 (sQ.keep h3 fun _ _ h => h) (by simp)).some ?_
      rintro v7 H4 ⟨s7, h4⟩
      rw [hqc] at s7
      obtain ⟨e7, a7, c7, hv7⟩ := s7.len
      simp at hv7
      simp -dsimp [hv7]
      refine (f8 ht).next ?_
      rintro H5 h5
      simp -dsimp
      exact fin_mk rfl
    · rw [if_neg hy0] at htx
      simp -dsimp [w1, w2, w3, w4, w5, w6, w7, w8, hy0]
      refine (f20i (by omega) (by omega)).next ?_
      rintro _ rfl
      simp -dsimp [w1, w2, w3, w4, w5, w6, w7, w8, hy0]
      rw [add_s (by first | omega | (simp; omega))]
      simp -dsimp [w1, w2, w3, w4, w5, w6, w7, w8, hy0]
      rw [add_s (by first | omega | (simp; omega))]
      simp -dsimp [w1, w2, w3, w4, w5, w6, w7, w8, hy0]
      refine (f20i (by omega) (by omega)).next ?_
      rintro _ rfl
      simp -dsimp [w1, w2, w3, w4, w5, w6, w7, w8, hy0]
      rw [add_s (by first | omega | (simp; omega))]
      simp -dsimp [w1, w2, w3, w4, w5, w6, w7, w8, hy0]
      rw [add_s (by first | omega | (simp; omega))]
      simp -dsimp [w1, w2, w3, w4, w5, w6, w7, w8, hy0]
      refine (f20i (by omega) (by omega)).next ?_
      rintro _ rfl
      simp -dsimp [w1, w2, w3, w4, w5, w6, w7, w8, hy0]
      rw [add_s (by first | omega | (simp; omega))]
      simp -dsimp [w1, w2, w3, w4, w5, w6, w7, w8, hy0]
      rw [add_s (by first | omega | (simp; omega))]
      simp -dsimp [w1, w2, w3, w4, w5, w6, w7, w8, hy0]
      obtain ⟨H1, hH1⟩ : ∃ H1, H1 = (((A.alloc (.cells .rw [.i .i64 (x + y + 2), .i .i64 (x + y + 2), .i .i64 x, .i .i64 (x + y)])).alloc (.cells .rw [.b false, .sl 2 (some (A.next, 0)) 2 2])).alloc (.cells .rw [.i .i64 (x + y + 1), .i .i64 65535, .i .i64 0, .i .i64 x, .i .i64 x, .i .i64 (x + y)])).alloc (.cells .rw [.b false, .sl 2 (some (A.next + 1 + 1, 0)) 3 3]) := ⟨_, rfl⟩
      rw [← hH1]
      have n1 : H1.next = A.next + 4 := by rw [hH1]; simp
      have sP := two_sp (H1 := H1) (id := A.next) (a := ⟨x + y + 2, x + y + 2⟩) (b := ⟨x, x + y⟩) (by rw [hH1]; simp; rw [if_neg (by omega), if_neg (by omega)]) (by omega)
      have sQ := three_sp (H1 := H1) (id := A.next + 1 + 1) (a := ⟨x + y + 1, 65535⟩) (b := ⟨0, x⟩) (c := ⟨x, x + y⟩) (by rw [hH1]; simp) (by omega)
      have gq : H1.get (A.next + 1 + 1 + 1) = some (.cells .rw [.b false, .sl 2 (some (A.next + 1 + 1, 0)) 3 3]) := by rw [hH1]; simp
      have rQ : ∀ H2, Grows H1 H2 → ldCells H2 (A.next + 1 + 1 + 1) 0 2 = some [.b false, .sl 2 (some (A.next + 1 + 1, 0)) 3 3] := fun H2 h => by
        have := ldCells_of (off := 0) (n := 2) (Grows.at h (by omega) gq); simpa using this
      refine (f17 ht sP (by simp)).next ?_
      rintro H2 h2
      rw [htx]
      simp -dsimp [binS, beq_b, rQ _ h2]
      refine (f17 ht (sQ.keep h2 fun _ _ h => h) (by simp)).next ?_
      rintro H3 h3
      have h3 := h2.trans h3
      rw [hqx]
      simp -dsimp [binS, beq_b, rQ _ h3]
      refine (f12 (sQ.keep h3 fun _ _ h => h) (by simp)).some ?_
      rintro v7 H4 ⟨s7, h4⟩
      rw [hqc] at s7
      obtain ⟨e7, a7, c7, hv7⟩ := s7.len
      simp at hv7
      simp -dsimp [hv7]
      refine (f8 ht).next ?_
      rintro H5 h5
      simp -dsimp
      exact fin_mk rfl
  · by_cases hy0 : y = 0
    · subst hy0
      simp only [Int.add_zero, if_true, List.nil_append] at htx l2 l4 l3 w1 w2 w3 w4 w7 hqx hqc
      simp -dsimp [w1, w2, w3, w4, w5, w6, w7, w8, hg0]
      refine (f20i (by omega) (by omega)).next ?_
      rintro _ rfl
      simp -dsimp [w1, w2, w3, w4, w5, w6, w7, w8, hg0]
      rw [add_s (by first | omega | (simp; omega))]
      simp -dsimp [w1, w2, w3, w4, w5, w6, w7, w8, hg0]
      rw [add_s (by first | omega | (simp; omega))]
      simp -dsimp [w1, w2, w3, w4, w5, w6, w7, w8, hg0]
      refine (f20i (by omega) (by omega)).next ?_
      rintro _ rfl
      simp -dsimp [w1, w2, w3, w4, w5, w6, w7, w8, hg0]
      rw [add_s (by first | omega | (simp; omega))]
      simp -dsimp [w1, w2, w3, w4, w5, w6, w7, w8, hg0]
      rw [add_s (by first | omega | (simp; omega))]
      simp -dsimp [w1, w2, w3, w4, w5, w6, w7, w8, hg0]
      refine (f20i (by omega) (by omega)).next ?_
      rintro _ rfl
      simp -dsimp [w1, w2, w3, w4, w5, w6, w7, w8, hg0]
      rw [add_s (by first | omega | (simp; omega))]
      simp -dsimp [w1, w2, w3, w4, w5, w6, w7, w8, hg0]
      rw [add_s (by first | omega | (simp; omega))]
      simp -dsimp [w1, w2, w3, w4, w5, w6, w7, w8, hg0]
      refine (f20i (by omega) (by omega)).next ?_
      rintro _ rfl
      simp -dsimp [w1, w2, w3, w4, w5, w6, w7, w8, hg0]
      rw [add_s (by first | omega | (simp; omega))]
      simp -dsimp [w1, w2, w3, w4, w5, w6, w7, w8, hg0]
      rw [add_s (by first | omega | (simp; omega))]
      simp -dsimp [w1, w2, w3, w4, w5, w6, w7, w8, hg0]
      refine (f20i (by omega) (by omega)).next ?_
      rintro _ rfl
      simp -dsimp [w1, w2, w3, w4, w5, w6, w7, w8, hg0]
      rw [add_s (by first | omega | (simp; omega))]
      simp -dsimp [w1, w2, w3, w4, w5, w6, w7, w8, hg0]
      rw [add_s (by first | omega | (simp; omega))]
      simp -dsimp [w1, w2, w3, w4, w5, w6, w7, w8, hg0]
      obtain ⟨H1, hH1⟩ : ∃ H1, H1 = (((A.alloc (.cells .rw [.i .i64 (x + g + 2), .i .i64 (x + g + 2), .i .i64 x, .i .i64 (x)])).alloc (.cells .rw [.b false, .sl 2 (some (A.next, 0)) 2 2])).alloc (.cells .rw [.i .i64 (x + 1), .i .i64 65535, .i .i64 0, .i .i64 x, .i .i64 x, .i .i64 (x)])).alloc (.cells .rw [.b false, .sl 2 (some (A.next + 1 + 1, 0)) 3 3]) := ⟨_, rfl⟩
      rw [← hH1]
      have n1 : H1.next = A.next + 4 := by rw [hH1]; simp
      have sP := two_sp (H1 := H1) (id := A.next) (a := ⟨x + g + 2, x + g + 2⟩) (b := ⟨x, x⟩) (by rw [hH1]; simp; rw [if_neg (by omega), if_neg (by omega)]) (by omega)
      have sQ := three_sp (H1 := H1) (id := A.next + 1 + 1) (a := ⟨x + 1, 65535⟩) (b := ⟨0, x⟩) (c := ⟨x, x⟩) (by rw [hH1]; simp) (by omega)
      have gq : H1.get (A.next + 1 + 1 + 1) = some (.cells .rw [.b false, .sl 2 (some (A.next + 1 + 1, 0)) 3 3]) := by rw [hH1]; simp
      have rQ : ∀ H2, Grows H1 H2 → ldCells H2 (A.next + 1 + 1 + 1) 0 2 = some [.b false, .sl 2 (some (A.next + 1 + 1, 0)) 3 3] := fun H2 h => by
        have := ldCells_of (off := 0) (n := 2) (Grows.at h (by omega) gq); simpa using this
      refine (f17 ht sP (by simp)).next ?_
      rintro H2 h2
      rw [htx]
      simp -dsimp [binS, beq_b, rQ _ h2]
      refine (f17 ht (sQ.keep h2 fun _ _ h => h) (by simp)).next ?_
      rintro H3 h3
      have h3 := h2.trans h3
      rw [hqx]
      simp -dsimp [binS, beq_b, rQ _ h3]
      refine (f12 (sQ.keep h3 fun _ _ h => h) (by simp)).some ?_
      rintro v7 H4 ⟨s7, h4⟩
      rw [hqc] at s7
      obtain ⟨e7, a7, c7, hv7⟩ := s7.len
      simp at hv7
      simp -dsimp [hv7]
      refine (f8 ht).next ?_
      rintro H5 h5
      simp -dsimp
      exact fin_mk rfl
    · rw [if_neg hy0] at htx
      simp -dsimp [w1, w2, w3, w4, w5, w6, w7, w8, hg0, hy0]
      refine (f20i (by omega) (by omega)).next ?_
      rintro _ rfl
      simp -dsimp [w1, w2, w3, w4, w5, w6, w7, w8, hg0, hy0]
      rw [add_s (by first | omega | (simp; omega))]
      simp -dsimp [w1, w2, w3, w4, w5, w6, w7, w8, hg0, hy0]
      rw [add_s (by first | omega | (simp; omega))]
      simp -dsimp [w1, w2, w3, w4, w5, w6, w7, w8, hg0, hy0]
      refine (f20i (by omega) (by omega)).next ?_
      rintro _ rfl
      simp -dsimp [w1, w2, w3, w4, w5, w6, w7, w8, hg0, hy0]
      rw [add_s (by first | omega | (simp; omega))]
      simp -dsimp [w1, w2, w3, w4, w5, w6, w7, w8, hg0, hy0]
      rw [add_s (by first | omega | (simp; omega))]
      simp -dsimp [w1, w2, w3, w4, w5, w6, w7, w8, hg0, hy0]
      refine (f20i (by omega) (by omega)).next ?_
      rintro _ rfl
      simp -dsimp [w1, w2, w3, w4, w5, w6, w7, w8, hg0, hy0]
      rw [add_s (by first | omega | (simp; omega))]
      simp -dsimp [w1, w2, w3, w4, w5, w6, w7, w8, hg0, hy0]
      rw [add_s (by first | omega | (simp; omega))]
      simp -dsimp [w1, w2, w3, w4, w5, w6, w7, w8, hg0, hy0]
      obtain ⟨H1, hH1⟩ : ∃ H1, H1 = (((A.alloc (.cells .rw [.i .i64 (x + y + g + 2), .i .i64 (x + y + g + 2), .i .i64 x, .i .i64 (x + y)])).alloc (.cells .rw [.b false, .sl 2 (some (A.next, 0)) 2 2])).alloc (.cells .rw [.i .i64 (x + y + 1), .i .i64 65535, .i .i64 0, .i .i64 x, .i .i64 x, .i .i64 (x + y)])).alloc (.cells .rw [.b false, .sl 2 (some (A.next + 1 + 1, 0)) 3 3]) := ⟨_, rfl⟩
      rw [← hH1]
      have n1 : H1.next = A.next + 4 := by rw [hH1]; simp
      have sP := two_sp (H1 := H1) (id := A.next) (a := ⟨x + y + g + 2, x + y + g + 2⟩) (b := ⟨x, x + y⟩) (by rw [hH1]; simp; rw [if_neg (by omega), if_neg (by omega)]) (by omega)
      have sQ := three_sp (H1 := H1) (id := A.next + 1 + 1) (a := ⟨x + y + 1, 65535⟩) (b := ⟨0, x⟩) (c := ⟨x, x + y⟩) (by rw [hH1]; simp) (by omega)
      have gq : H1.get (A.next + 1 + 1 + 1) = some (.cells .rw [.b false, .sl 2 (some (A.next + 1 + 1, 0)) 3 3]) := by rw [hH1]; simp
      have rQ : ∀ H2, Grows H1 H2 → ldCells H2 (A.next + 1 + 1 + 1) 0 2 = some [.b false, .sl 2 (some (A.next + 1 + 1, 0)) 3 3] := fun H2 h => by
        have := ldCells_of (off := 0) (n := 2) (Grows.at h (by omega) gq); simpa using this
      refine (f17 ht sP (by simp)).next ?_
      rintro H2 h2
      rw [htx]
      simp -dsimp [binS, beq_b, rQ _ h2]
      refine (f17 ht (sQ.keep h2 fun _ _ h => h) (by simp)).next ?_
      rintro H3 h3
      have h3 := h2.trans h3
      rw [hqx]
      simp -dsimp [binS, beq_b, rQ _ h3]
      refine (f12 (sQ.keep h3 fun _ _ h => h) (by simp)).some ?_
      rintro v7 H4 ⟨s7, h4⟩
      rw [hqc] at s7
      obtain ⟨e7, a7, c7, hv7⟩ := s7.len
      simp at hv7
      simp -dsimp [hv7]
      refine (f8 ht).next ?_
      rintro H5 h5
      simp -dsimp
      exact fin_mk rfl
end Go.Proofs.YtceamnigcimldaaDoor
