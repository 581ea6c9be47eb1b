/- A part of the proof: contracts of functions, over the abstract machine. -/
import Derived.Test.YtmdmabedfleacaaDoorDo9
set_option linter.unusedVariables false
set_option linter.unusedSimpArgs false
set_option linter.all false
namespace Go.Proofs.YtmdmabedfleacaaDoor
open Ram Go

variable {W0 : World} {H : AH}

theorem wrap_u32' {a : Int} (h0 : 0 ≤ a) (h1 : a < 4294967296) : IntKind.u32.wrap a = a := wrap_u32 h0 h1

set_option maxRecDepth 8000 in
/-- The law TupleTexts. -/
theorem f3 (A : AH) (args : List V) (ht : Tab W0) (h : HasA A [.one (.i .i64), .one (.i .i64), .one (.i .i64), .one (.i .i64)] args) : ACalls Tryd.prog W0 3 args A fun e _ => e = .ret (.b true) := by
  obtain ⟨a, _, rfl, _, h⟩ := h.invi
  obtain ⟨b, _, rfl, _, h⟩ := h.invi
  obtain ⟨c, _, rfl, _, h⟩ := h.invi
  obtain ⟨d, _, rfl, _, h⟩ := h.invi
  rw [h.inv0]
  refine acalls_in k3 (by simp) ?_
  rw [awp_assoc]
  refine awp_cut (fun env H2 => ∃ (x : Tup) (X : Nat), x.nice ∧ env.get 9 = some (.p (some (X, 0))) ∧ H2.get X = some (.cells .rw x.c) ∧ X < H2.next) ?_ ?_
  · have hq0 := Int.emod_nonneg a (show (4 : Int) ≠ 0 by omega)
    have hq4 := Int.emod_lt_of_pos a (show (0 : Int) < 4 by omega)
    have hb0 := Int.emod_nonneg b (show (4294967296 : Int) ≠ 0 by omega)
    have hb4 := Int.emod_lt_of_pos b (show (0 : Int) < 4294967296 by omega)
    have hc0 := Int.emod_nonneg c (show (4294967296 : Int) ≠ 0 by omega)
    have hc4 := Int.emod_lt_of_pos c (show (0 : Int) < 4294967296 by omega)
    have hd0 := Int.emod_nonneg d (show (65536 : Int) ≠ 0 by omega)
    have hd4 := Int.emod_lt_of_pos d (show (0 : Int) < 65536 by omega)
    have he0 := Int.emod_nonneg a (show (65536 : Int) ≠ 0 by omega)
    have he4 := Int.emod_lt_of_pos a (show (0 : Int) < 65536 by omega)
    obtain ⟨q, hq⟩ : ∃ q, q = a % 4 := ⟨_, rfl⟩
    obtain ⟨bb, hbb⟩ : ∃ q, q = b % 4294967296 := ⟨_, rfl⟩
    obtain ⟨cc, hcc⟩ : ∃ q, q = c % 4294967296 := ⟨_, rfl⟩
    obtain ⟨dd, hdd⟩ : ∃ q, q = d % 65536 := ⟨_, rfl⟩
    obtain ⟨ee, hee⟩ : ∃ q, q = a % 65536 := ⟨_, rfl⟩
    rw [← hq] at hq0 hq4
    rw [← hbb] at hb0 hb4
    rw [← hcc] at hc0 hc4
    rw [← hdd] at hd0 hd4
    rw [← hee] at he0 he4
    have wb := wrap_u32 hb0 hb4
    have wc := wrap_u32 hc0 hc4
    have hcase : q = 0 ∨ q = 1 ∨ q = 2 ∨ q = 3 := by omega
    simp -dsimp
    refine (f12 (n := a) (m := 4) (by omega) (by omega)).next ?_
    rintro _ rfl
    rw [← hq]
    rcases hcase with hcase | hcase | hcase | hcase
    · rw [hcase]
      simp -dsimp
      refine (f12 (n := b) (m := 4294967296) (by omega) (by omega)).next ?_
      rintro _ rfl
      rw [← hbb]
      simp -dsimp [wb]
      refine (f12 (n := c) (m := 4294967296) (by omega) (by omega)).next ?_
      rintro _ rfl
      rw [← hcc]
      simp -dsimp [wc]
      refine (f12 (n := d) (m := 65536) (by omega) (by omega)).next ?_
      rintro _ rfl
      rw [← hdd]
      simp -dsimp
      refine (f12 (n := a) (m := 65536) (by omega) (by omega)).next ?_
      rintro _ rfl
      rw [← hee]
      simp -dsimp [splice]
      refine hold_mk ⟨⟨1, bb, cc, dd, ee⟩, _, ⟨by simp, hb0, hb4, hc0, hc4, hd0, hd4, he0, he4⟩, by simp; rfl, by simp, by simp <;> omega⟩
    · rw [hcase]
      simp -dsimp
      refine (f12 (n := b) (m := 4294967296) (by omega) (by omega)).next ?_
      rintro _ rfl
      rw [← hbb]
      simp -dsimp [wb]
      refine (f12 (n := c) (m := 4294967296) (by omega) (by omega)).next ?_
      rintro _ rfl
      rw [← hcc]
      simp -dsimp [wc]
      refine (f12 (n := d) (m := 65536) (by omega) (by omega)).next ?_
      rintro _ rfl
      rw [← hdd]
      simp -dsimp
      refine (f12 (n := a) (m := 65536) (by omega) (by omega)).next ?_
      rintro _ rfl
      rw [← hee]
      simp -dsimp [splice]
      refine hold_mk ⟨⟨6, bb, cc, dd, ee⟩, _, ⟨by simp, hb0, hb4, hc0, hc4, hd0, hd4, he0, he4⟩, by simp; rfl, by simp, by simp <;> omega⟩
    · rw [hcase]
      simp -dsimp
      refine (f12 (n := b) (m := 4294967296) (by omega) (by omega)).next ?_
      rintro _ rfl
      rw [← hbb]
      simp -dsimp [wb]
      refine (f12 (n := c) (m := 4294967296) (by omega) (by omega)).next ?_
      rintro _ rfl
      rw [← hcc]
      simp -dsimp [wc]
      refine (f12 (n := d) (m := 65536) (by omega) (by omega)).next ?_
      rintro _ rfl
      rw [← hdd]
      simp -dsimp
      refine (f12 (n := a) (m := 65536) (by omega) (by omega)).next ?_
      rintro _ rfl
      rw [← hee]
      simp -dsimp [splice]
      refine hold_mk ⟨⟨17, bb, cc, dd, ee⟩, _, ⟨by simp, hb0, hb4, hc0, hc4, hd0, hd4, he0, he4⟩, by simp; rfl, by simp, by simp <;> omega⟩
    · rw [hcase]
      simp -dsimp
      refine (f12 (n := b) (m := 4294967296) (by omega) (by omega)).next ?_
      rintro _ rfl
      rw [← hbb]
      simp -dsimp [wb]
      refine (f12 (n := c) (m := 4294967296) (by omega) (by omega)).next ?_
      rintro _ rfl
      rw [← hcc]
      simp -dsimp [wc]
      refine (f12 (n := d) (m := 65536) (by omega) (by omega)).next ?_
      rintro _ rfl
      rw [← hdd]
      simp -dsimp
      refine (f12 (n := a) (m := 65536) (by omega) (by omega)).next ?_
      rintro _ rfl
      rw [← hee]
      simp -dsimp [splice]
      refine hold_mk ⟨⟨50, bb, cc, dd, ee⟩, _, ⟨by simp, hb0, hb4, hc0, hc4, hd0, hd4, he0, he4⟩, by simp; rfl, by simp, by simp <;> omega⟩
  · rintro env H2 ⟨x, X, hx, e9, gx, lx⟩
    have ox := hx.ok
    have ny := hx.turn
    have hw1 : IntKind.i64.wrap (x.sp + 1) = x.sp + 1 := by have := hx.a0; have := hx.a1; exact wrap_i64 (by omega) (by omega)
    have hsp : (x.sp + 1).tmod 65536 = (x.sp + 1) % 65536 := Int.tmod_eq_emod_of_nonneg (by have := hx.a0; omega)
    obtain ⟨sp', hsp'⟩ : ∃ z, z = (x.sp + 1) % 65536 := ⟨_, rfl⟩
    rw [← hsp'] at hsp
    have sp0 : 0 ≤ sp' := by omega
    have sp1 : sp' < 65536 := by omega
    have spn : x.sp ≠ sp' := by have := hx.a0; have := hx.a1; omega
    have nz : (⟨x.p, x.s, x.d, sp', x.dp⟩ : Tup).nice := ⟨hx.p, hx.s0, hx.s1, hx.d0, hx.d1, sp0, sp1, hx.b0, hx.b1⟩
    rw [awp_assoc, awp_assoc, awp_assoc]
    refine awp_cut (fun env H4 => ∃ Y Z : Nat, env.get 9 = some (.p (some (X, 0))) ∧ env.get 10 = some (.p (some (Y, 0))) ∧ env.get 11 = some (.p (some (Z, 0))) ∧ env.get 12 = some (.b (decide (x.s = x.d ∧ x.sp = x.dp))) ∧
      H4.get X = some (.cells .rw x.c) ∧ H4.get Y = some (.cells .rw x.turn.c) ∧ H4.get Z = some (.cells .rw (⟨x.p, x.s, x.d, sp', x.dp⟩ : Tup).c) ∧ X < H4.next ∧ Y < H4.next ∧ Z < H4.next) ?_ ?_
    · simp -dsimp [e9, ldCells_of gx]
      refine (f13 x).next ?_
      rintro H3 h3
      have n3 := h3.next
      have gx3 := Grows.at h3 lx gx
      simp only [Tup.c] at gx3
      have x1 : X ≠ H3.next := by omega
      have x2 : X ≠ H3.next + 1 := by omega
      simp -dsimp [e9, gx3, ldCells_of gx3, x1, x2, hw1, hsp]
      by_cases e1 : x.s = x.d
      · have e1' := eq_true e1
        by_cases e2 : x.sp = x.dp
        · have e2' := eq_true e2
          simp -dsimp [gx3, x1, x2, e1', e2', splice, e9]
          exact hold_mk ⟨H3.next, H3.next + 1, by simp [e9], by simp, by simp, by simp [e1', e2'], by simp [gx3, x1, x2], by simp, by simp, by simp <;> omega, by simp <;> omega, by simp <;> omega⟩
        · simp -dsimp [gx3, x1, x2, e1', e2, splice, e9]
          exact hold_mk ⟨H3.next, H3.next + 1, by simp [e9], by simp, by simp, by simp [e1', e2], by simp [gx3, x1, x2], by simp, by simp, by simp <;> omega, by simp <;> omega, by simp <;> omega⟩
      · simp -dsimp [gx3, x1, x2, e1, splice, e9]
        exact hold_mk ⟨H3.next, H3.next + 1, by simp [e9], by simp, by simp, by simp [e1], by simp [gx3, x1, x2], by simp, by simp, by simp <;> omega, by simp <;> omega, by simp <;> omega⟩
    · rintro env H4 ⟨Y, Z, e9, e10, e11, e12, gx, gy, gz, lx, ly, lz⟩
      obtain ⟨z, hz⟩ : ∃ z : Tup, z = ⟨x.p, x.s, x.d, sp', x.dp⟩ := ⟨_, rfl⟩
      rw [← hz] at gz nz
      have ty : (ttext x == ttext x.turn) = decide (x.s = x.d ∧ x.sp = x.dp) := by
        rw [Bool.eq_iff_iff]
        simp only [beq_iff_eq, decide_eq_true_eq]
        rw [ttext_eq hx ny rfl]
        simp only [Tup.turn]
        constructor
        · rintro ⟨h1, h2, _⟩; exact ⟨h1, h2⟩
        · rintro ⟨h1, h2⟩; exact ⟨h1, h2, h1.symm, h2.symm⟩
      have tz : ttext x ≠ ttext z := by
        intro e
        have := (ttext_eq hx nz (by rw [hz])).1 e
        rw [hz] at this
        exact spn this.2.1
      have tl := ttext_ge hx
      obtain ⟨t1, ht1⟩ : ∃ l, l = ttext x := ⟨_, rfl⟩
      obtain ⟨t2, ht2⟩ : ∃ l, l = ttext x.turn := ⟨_, rfl⟩
      obtain ⟨t3, ht3⟩ : ∃ l, l = ttext z := ⟨_, rfl⟩
      rw [← ht1, ← ht2] at ty
      rw [← ht1, ← ht3] at tz
      rw [← ht1] at tl
      have tz' : (t1 == t3) = false := by simpa using tz
      have tl' : (15 : Int) < t1.length := by omega
      have gets : ∀ H', Grows H4 H' → H'.get X = some (.cells .rw x.c) ∧ H'.get Y = some (.cells .rw x.turn.c) ∧ H'.get Z = some (.cells .rw z.c) := fun H' g => ⟨Grows.at g lx gx, Grows.at g ly gy, Grows.at g lz gz⟩
      simp -dsimp [e9, e10, e11, e12, ldCells_of gx, ldCells_of gy]
      refine (f14 ht x ox).next ?_
      rw [← ht1]
      rintro H5 h5
      obtain ⟨gx5, gy5, gz5⟩ := gets H5 h5
      simp -dsimp [e9, e10, e11, e12, ldCells_of gx5, ldCells_of gy5, ldCells_of gz5]
      refine (f14 ht x.turn ny.ok).next ?_
      rw [← ht2]
      rintro H6 h6
      obtain ⟨gx6, gy6, gz6⟩ := gets H6 (h5.trans h6)
      simp -dsimp [e9, e10, e11, e12, ldCells_of gx6, ldCells_of gy6, ldCells_of gz6, binS, ty]
      refine (f14 ht x ox).next ?_
      rw [← ht1]
      rintro H7 h7
      obtain ⟨gx7, gy7, gz7⟩ := gets H7 ((h5.trans h6).trans h7)
      simp -dsimp [e9, e10, e11, e12, ldCells_of gx7, ldCells_of gy7, ldCells_of gz7]
      refine (f14 ht z nz.ok).next ?_
      rw [← ht3]
      rintro H8 h8
      obtain ⟨gx8, gy8, gz8⟩ := gets H8 (((h5.trans h6).trans h7).trans h8)
      simp -dsimp [e9, e10, e11, e12, ldCells_of gx8, ldCells_of gy8, ldCells_of gz8, binS, tz']
      refine (f13 x.turn).next ?_
      rw [turn_turn]
      rintro H9 h9
      obtain ⟨gx9, gy9, gz9⟩ := gets H9 ((((h5.trans h6).trans h7).trans h8).trans h9)
      simp -dsimp [e9, e10, e11, e12, ldCells_of gx9, ldCells_of gy9, ldCells_of gz9]
      refine (f14 ht x ox).next ?_
      rw [← ht1]
      rintro Ha ha
      obtain ⟨gxa, gya, gza⟩ := gets Ha (((((h5.trans h6).trans h7).trans h8).trans h9).trans ha)
      simp -dsimp [e9, e10, e11, e12, ldCells_of gxa, ldCells_of gya, ldCells_of gza]
      refine (f14 ht x ox).next ?_
      rw [← ht1]
      rintro Hb hb
      obtain ⟨gxb, gyb, gzb⟩ := gets Hb ((((((h5.trans h6).trans h7).trans h8).trans h9).trans ha).trans hb)
      simp -dsimp [e9, e10, e11, e12, ldCells_of gxb, ldCells_of gyb, ldCells_of gzb, binS]
      refine (f14 ht x ox).next ?_
      rw [← ht1]
      rintro Hc hc
      simp -dsimp [e9, e10, e11, e12, tl']
      refine (f15 ht).next ?_
      rintro Hd hd
      simp -dsimp
      exact fin_mk rfl
end Go.Proofs.YtmdmabedfleacaaDoor
