/- A part of the proof: contracts of functions, over the abstract machine. -/
import Derived.Test.YtmdmabedfleacaaBk13
import Derived.Test.YtmdmabedfleacaaRaD
set_option linter.unusedVariables false
set_option linter.unusedSimpArgs false
set_option linter.all false
namespace Go.Proofs.Ytmdmabedfleacaa
open Ram Go

variable {W0 : World} {H : AH}

abbrev opKs : List KC := [.i .i64, .i .i64, .i .i64, .i .u32, .i .u32, .i .i64, .i .i64]
def opRow (kind n : Int) (t : Tup) : List V := [.i .i64 kind, .i .i64 n, .i .i64 t.p, .i .u32 t.s, .i .u32 t.d, .i .i64 t.sp, .i .i64 t.dp]
theorem op_row {r : List V} (h : HasK opKs r) : ∃ kind n t, r = opRow kind n t := by
  obtain ⟨a, _, rfl, _, h⟩ := HasK.invi h
  obtain ⟨b, _, rfl, _, h⟩ := HasK.invi h
  obtain ⟨c, _, rfl, _, h⟩ := HasK.invi h
  obtain ⟨d, _, rfl, _, h⟩ := HasK.invi h
  obtain ⟨e, _, rfl, _, h⟩ := HasK.invi h
  obtain ⟨f, _, rfl, _, h⟩ := HasK.invi h
  obtain ⟨g, _, rfl, _, h⟩ := HasK.invi h
  rw [HasK.inv0 h]
  exact ⟨a, b, ⟨c, d, e, f, g⟩, rfl⟩

theorem up_ge {F : Nat → Prop} {H H' : AH} {n : Nat} (h : ∀ j, F j → n ≤ j) (hn : n ≤ H.next) : ∀ j, Up F H H' j → n ≤ j := by
  rintro j (h' | h')
  · exact h j h'
  · omega
theorem disj {F G : Nat → Prop} {H3 H4 H5 H6 : AH} (h : ∀ j, F j → ¬ G j) (hF : ∀ j, F j → j < H3.next) (hG : ∀ j, G j → j < H3.next) (h34 : H3.next ≤ H4.next) (h45 : H4.next ≤ H5.next) : ∀ j, Up F H4 H5 j → ¬ Up G H5 H6 j := by
  rintro j (h1 | h1) (h2 | h2)
  · exact h j h1 h2
  · have := hF j h1; omega
  · have := hG j h2; omega
  · omega

/-- The law BlocksPlays. -/
theorem f5 (A : AH) (args : List V) (h : HasA A [.one (.i .i64), .sl opKs] args) : ACalls Try.prog W0 5 args A fun e _ => e = .ret (.b true) := by
  obtain ⟨t, _, rfl, _, h⟩ := h.invi
  obtain ⟨v, _, rfl, ⟨rows, hs, hrow, hmax⟩, h⟩ := h.inv
  rw [h.inv0]
  have hs : SlV A .ro 7 v rows (fun _ => True) := hs
  obtain ⟨e', a', cap', hv⟩ := hs.len
  refine acalls_by k5 (by simp) ?_
  simp -dsimp
  refine (f15 t).some ?_
  rintro b H1 ⟨hb1, g1, hbn⟩
  simp -dsimp
  refine (f22 t).some ?_
  rintro w H2 ⟨hr2, g2, hwn⟩
  have hb2 := hb1.grow g2
  simp -dsimp
  refine awp_round (fun m env H => ∃ (i : Nat) (now : Int) (l : List Blk) (F G : Nat → Prop), i ≤ rows.length ∧ m = rows.length - i ∧ env.get 1 = some v ∧ env.get 5 = some (.p (some (b, 0))) ∧ env.get 6 = some (.p (some (w, 0))) ∧ env.get 7 = some (.i .i64 i) ∧
    BRep H b now (mostOf t) l F ∧ RRep H w (mostOf t) now l G ∧ (∀ j, F j → ¬ G j) ∧ (∀ j, F j → A.next ≤ j) ∧ (∀ j, G j → A.next ≤ j) ∧ Grows A H) rows.length
    ⟨0, 0, [], Up NoId A H1, Up NoId H1 H2, by omega, by omega, by simp [hv], by simp, by simp, by simp, hb2, hr2, ?_, ?_, ?_, g1.trans g2⟩ ?_
  · rintro j (h | h) (h' | h')
    · exact h
    · exact h
    · exact h'
    · omega
  · rintro j (h | h)
    · exact h.elim
    · exact h.1
  · have := g1.next
    rintro j (h | h)
    · exact h.elim
    · omega
  clear hb1 hb2 hr2 g2 g1
  rintro m env H3 ⟨i, now, l, F, G, hi, rfl, e1, e5, e6, e7, hb, hr, hFG, hFn, hGn, g3⟩
  have hl : l.length ≤ 64 := by obtain ⟨c4, c3, v, n4, n3, Fb, F4, F3, hF, hl, _⟩ := hb; exact hl
  by_cases hlt : i < rows.length
  · obtain ⟨kind, n, tp, hrw⟩ := op_row (hrow rows[i] (List.getElem_mem hlt))
    rcases hs with ⟨hnil, _⟩ | ⟨id, o, cap, cs, rfl, _, hs⟩
    · subst hnil; simp at hlt
    have hrowi := (hs.keep g3 fun h => h).row (i := i) (r := rows[i]) (List.getElem?_eq_getElem hlt)
    rw [hrw] at hrowi
    simp only [opRow] at hrowi
    have hlt' : (i : Int) < rows.length := by omega
    by_cases h100 : (i : Int) < 100
    · have hk0 := Int.emod_nonneg kind (show (6 : Int) ≠ 0 by omega)
      have hk6 := Int.emod_lt_of_pos kind (show (0 : Int) < 6 by omega)
      obtain ⟨q, hq⟩ : ∃ q, q = kind % 6 := ⟨_, rfl⟩
      have hwi : IntKind.i64.wrap ((i : Int) + 1) = (i : Int) + 1 := wrap_i64 (by omega) (by omega)
      simp -dsimp [e1, e5, e6, e7, hlt, h100, hrowi]
      refine (f10 (n := kind) (m := 6) (by omega) (by omega)).next ?_
      rintro _ rfl
      rw [← hq] at hk0 hk6 ⊢
      obtain ⟨H4, hH4⟩ : ∃ H4, H4 = H3.alloc (.cells .rw (opRow kind n tp)) := ⟨_, rfl⟩
      rw [show AO.cells .rw [V.i .i64 kind, .i .i64 n, .i .i64 tp.p, .i .u32 tp.s, .i .u32 tp.d, .i .i64 tp.sp, .i .i64 tp.dp] = .cells .rw (opRow kind n tp) from rfl, ← hH4]
      have g4 : Grows H3 H4 := by rw [hH4]; exact Keeps.alloc' Keeps.refl
      have gx : H4.get H3.next = some (.cells .rw (opRow kind n tp)) := by rw [hH4]; simp
      have lx : H3.next < H4.next := by rw [hH4]; simp
      have n34 := g3.next
      have hb4 := hb.grow g4
      have hr4 := hr.grow g4
      have hFlt : ∀ j, F j → j < H3.next := fun j h => hb.own h
      have hGlt : ∀ j, G j → j < H3.next := fun j h => by obtain ⟨_, _, hG, _⟩ := hr; exact hG _ h
      have nF : ¬ F H3.next := fun h => by have := hFlt _ h; omega
      have nG : ¬ G H3.next := fun h => by have := hGlt _ h; omega
      have hg34 := g3.trans g4
      have n4 := g4.next
      simp only [opRow] at gx
      clear hH4
      by_cases q3 : q = 3
      · simp -dsimp [e1, e5, e6, e7, q3, ldCells_of gx]
        refine (f20 tp hb4).next ?_
        rintro H5 g5
        have gx5 := Grows.at g5 lx gx
        simp -dsimp [e1, e5, e6, e7, q3, ldCells_of gx5]
        refine (f23 tp (hr4.grow g5) (by omega)).next ?_
        rintro H5' g5'
        have gg := g5.trans g5'
        have hbx := hb4.grow gg
        have hrx := hr4.grow gg
        simp -dsimp [e1, e5, e6, e7, q3]
        refine (f19 hbx).some ?_
        rintro va H6 ⟨hsa, g6⟩
        simp -dsimp [e1, e5, e6, e7]
        refine (f28 (hrx.grow g6) (by omega)).some ?_
        rintro vb H7 ⟨hsb, g7⟩
        simp -dsimp [e1, e5, e6, e7]
        refine (f27 (hsa.keep g7 fun _ _ h => h) hsb (by omega)).next ?_
        rintro H8 g8
        have g68 := (g6.trans g7).trans g8
        simp -dsimp [e1, e5, e6, e7, hwi]
        exact hold_mk ⟨rows.length - (i + 1), by omega, i + 1, now, l, F, G, by omega, rfl, by simp [e1], by simp [e5], by simp [e6], by simp, hbx.grow g68, hrx.grow g68, hFG, hFn, hGn, (hg34.trans gg).trans g68⟩
      · by_cases q4 : q = 4
        · simp -dsimp [e1, e5, e6, e7, q3, q4, gx]
          refine (f18 n hb4).next ?_
          rintro H5 ⟨hb5, k5⟩
          have gx5 := k5.at lx nF gx
          have hr5 := hr4.keep k5 fun j h h' => hFG j h' h
          simp -dsimp [e1, e5, e6, e7, q3, q4, gx5]
          refine (f24 n hr5 hl).next ?_
          rintro H5' ⟨hr6, k6⟩
          have hb6 := hb5.keep k6 fun j h h' => by
            rcases h with h | h
            · exact hFG j h h'
            · have := hGlt j h'; omega
          simp -dsimp [e1, e5, e6, e7, q3, q4]
          have n5 := k5.next
          have n6 := k6.next
          have hlf := List.length_filter_le (fun x => !overB (IntKind.i64.wrap (now + stepOf n)) (mostOf t) x) l
          refine (f19 hb6).some ?_
          rintro va H6 ⟨hsa, g6⟩
          simp -dsimp [e1, e5, e6, e7]
          refine (f28 (hr6.grow g6) (by omega)).some ?_
          rintro vb H7 ⟨hsb, g7⟩
          simp -dsimp [e1, e5, e6, e7]
          refine (f27 (hsa.keep g7 fun _ _ h => h) hsb (by omega)).next ?_
          rintro H8 g8
          have g68 := (g6.trans g7).trans g8
          simp -dsimp [e1, e5, e6, e7, hwi]
          exact hold_mk ⟨rows.length - (i + 1), by omega, i + 1, _, _, _, _, by omega, rfl, by simp [e1], by simp [e5], by simp [e6], by simp, hb6.grow g68, hr6.grow g68, (disj hFG hFlt hGlt n4 n5), (up_ge hFn (by omega)), (up_ge hGn (by omega)), ((hg34.then k5 fun j hj h => by have := hFn j h; omega).then k6 fun j hj h => by have := hGn j h; omega).trans g68⟩
        · by_cases q5 : q = 5
          · obtain ⟨v5, Gw, hG4, gw4, hs4⟩ := hr4
            obtain ⟨e9, a9, c9, rfl⟩ := hs4.len
            rw [List.length_map] at gw4
            simp -dsimp [e1, e5, e6, e7, q3, q4, q5, gw4]
            refine (f25 hb4).next ?_
            rintro H5 ⟨hb5, k5⟩
            have gw5 := k5.at (hG4 _ Gw) (fun h => hFG _ h Gw) gw4
            simp -dsimp [e1, e5, e6, e7, q3, q4, q5, gw5]
            have n5 := k5.next
            have hr6 : RRep (H5.set w (.cells .rw [.i .i64 (mostOf t), .i .i64 now, .sl 0 none 0 0])) w (mostOf t) now [] G := ⟨_, Gw, fun j h => by have := hG4 j h; have := k5.next; simp <;> omega, by rw [AH.get_set, if_pos rfl], .inl ⟨rfl, _, rfl⟩⟩
            have hb6 : BRep (H5.set w (.cells .rw [.i .i64 (mostOf t), .i .i64 now, .sl 0 none 0 0])) b now (mostOf t) [] (Up F H4 H5) := hb5.keep (G := fun j => j = w) (Keeps.set fun _ => rfl) fun j h h' => by
              subst h'
              rcases h with h | h
              · exact hFG _ h Gw
              · have := hGlt _ Gw; omega
            have hgg : Grows A (H5.set w (.cells .rw [.i .i64 (mostOf t), .i .i64 now, .sl 0 none 0 0])) := Keeps.set_new (hg34.then k5 fun j hj h => by have := hFn j h; omega) (hGn _ Gw)
            refine (f19 hb6).some ?_
            rintro va H6 ⟨hsa, g6⟩
            simp -dsimp [e1, e5, e6, e7]
            refine (f28 (hr6.grow g6) (by simp)).some ?_
            rintro vb H7 ⟨hsb, g7⟩
            simp -dsimp [e1, e5, e6, e7]
            refine (f27 (hsa.keep g7 fun _ _ h => h) hsb (by simp)).next ?_
            rintro H8 g8
            have g68 := (g6.trans g7).trans g8
            simp -dsimp [e1, e5, e6, e7, hwi]
            exact hold_mk ⟨rows.length - (i + 1), by omega, i + 1, now, [], _, _, by omega, rfl, by simp [e1], by simp [e5], by simp [e6], by simp, hb6.grow g68, hr6.grow g68, (fun j h h' => by rcases h with h | h; exact hFG j h h'; have := hGlt j h'; omega), (up_ge hFn (by omega)), hGn, hgg.trans g68⟩
          · simp -dsimp [e1, e5, e6, e7, q3, q4, q5, ldCells_of gx]
            refine (f17 tp hb4).next ?_
            rintro H5 ⟨hb5, k5⟩
            have gx5 := k5.at lx nF gx
            have hr5 := hr4.keep k5 fun j h h' => hFG j h' h
            simp -dsimp [e1, e5, e6, e7, q3, q4, q5, ldCells_of gx5]
            refine (f26 tp hr5 hl).next ?_
            rintro H5' ⟨hr6, k6⟩
            have hb6 := hb5.keep k6 fun j h h' => by
              rcases h with h | h
              · exact hFG j h h'
              · have := hGlt j h'; omega
            have n5 := k5.next
            have n6 := k6.next
            have hl6 : (addB l now tp).length ≤ 64 := by obtain ⟨c4, c3, v, n4, n3, Fb, F4, F3, hF, hl, _⟩ := hb5; exact hl
            simp -dsimp [e1, e5, e6, e7, q3, q4, q5]
            refine (f19 hb6).some ?_
            rintro va H6 ⟨hsa, g6⟩
            simp -dsimp [e1, e5, e6, e7]
            refine (f28 (hr6.grow g6) (by omega)).some ?_
            rintro vb H7 ⟨hsb, g7⟩
            simp -dsimp [e1, e5, e6, e7]
            refine (f27 (hsa.keep g7 fun _ _ h => h) hsb (by omega)).next ?_
            rintro H8 g8
            have g68 := (g6.trans g7).trans g8
            simp -dsimp [e1, e5, e6, e7, hwi]
            exact hold_mk ⟨rows.length - (i + 1), by omega, i + 1, _, _, _, _, by omega, rfl, by simp [e1], by simp [e5], by simp [e6], by simp, hb6.grow g68, hr6.grow g68, (disj hFG hFlt hGlt n4 n5), (up_ge hFn (by omega)), (up_ge hGn (by omega)), ((hg34.then k5 fun j hj h => by have := hFn j h; omega).then k6 fun j hj h => by have := hGn j h; omega).trans g68⟩
    · simp -dsimp [e1, e5, e6, e7, hlt, h100]
      refine f21.mono ?_
      intro e' H' h
      rw [h]
      simp -dsimp
  · simp -dsimp [e1, e5, e6, e7, hlt, hv]
    refine f21.mono ?_
    intro e' H' h
    rw [h]
    simp -dsimp
end Go.Proofs.Ytmdmabedfleacaa
