/- A part of the proof: contracts of functions, over the abstract machine. -/
import Derived.Test.YtmdmabedfleacaaTp6
set_option linter.unusedVariables false
set_option linter.unusedSimpArgs false
set_option linter.all false
namespace Go.Proofs.Ytmdmabedfleacaa
open Ram Go

variable {W0 : World} {H : AH}

theorem f27D {l : List Fd} {va vb : V} {F G : Nat → Prop} (ha : SlV H .rw 5 va (l.map tRow) F) (hb : SlV H .rw 5 vb (l.map tRow) G) (hl : l.length < 1000) : ACalls Try.prog W0 27 [va, vb] H fun e H' => e = .ret (.b true) ∧ Grows H H' := by
  have e : l.map tRow = (l.map fun x => Blk.mk x.t 0).map tupRow := by rw [List.map_map]; rfl
  rw [e] at ha hb
  exact f27 ha hb (by simpa using hl)

/-- The numbers are distinct, none is above the last one given. -/
def Good (ds : List Fd) (last : Int) : Prop := (ds.map (·.id)).Nodup ∧ ∀ z ∈ ds.map (·.id), z ≤ last

theorem Good.perm {ds ds' : List Fd} {last : Int} (h : Good ds last) (hp : (ds'.map (·.id)).Perm (ds.map (·.id))) : Good ds' last :=
  ⟨hp.nodup_iff.2 h.1, fun z hz => h.2 z (hp.subset hz)⟩
theorem Good.sub {ds ds' : List Fd} {last : Int} (h : Good ds last) (hs : List.Sublist ds' ds) : Good ds' last :=
  ⟨h.1.sublist (hs.map _), fun z hz => h.2 z ((hs.map _).subset hz)⟩
theorem Good.touch {ds : List Fd} {last : Int} (h : Good ds last) (x : Tup) (now : Int) : Good (touchD ds x now) last := by
  unfold touchD
  split
  · next i hi =>
    rw [List.findIdx?_eq_some_iff_getElem] at hi
    obtain ⟨hlt, _, _⟩ := hi
    refine h.perm ?_
    rw [List.map_append, map_eraseIdx]
    simp only [List.getElem?_eq_getElem hlt, Option.map_some, Option.getD_some, List.map_cons, List.map_nil]
    have h1 : (ds.map (·.id)).Perm ((ds.map (·.id)).take i ++ (ds[i].id :: (ds.map (·.id)).drop (i + 1))) := by
      have : ds[i].id = (ds.map (·.id))[i]'(by simpa using hlt) := by simp
      rw [this, List.getElem_cons_drop, List.take_append_drop]
    refine List.Perm.trans ?_ h1.symm
    rw [List.eraseIdx_eq_take_drop_succ]
    refine (List.perm_append_comm (l₂ := [ds[i].id])).trans ?_
    rw [List.singleton_append]
    exact List.perm_middle.symm
  · exact h
theorem Good.room {ds : List Fd} {last : Int} (h : Good ds last) (most : Int) : Good (roomD ds most) last := by
  unfold roomD
  split
  · exact h.sub (List.drop_sublist _ _)
  · exact h
theorem Good.put {ds : List Fd} {last : Int} (h : Good ds last) (most now : Int) (x : Tup) : Good (putD ds most now last x) ((foundD ds x).elim (last + 1) fun _ => last) := by
  unfold putD
  cases foundD ds x with
  | some _ => exact h.touch x now
  | none =>
    have h1 := h.room most
    refine ⟨?_, fun z hz => ?_⟩
    · rw [List.map_append, List.nodup_append]
      refine ⟨h1.1, by simp, fun a ha b hb => ?_⟩
      simp at hb
      have := h1.2 a ha
      omega
    · rw [List.map_append, List.mem_append] at hz
      rcases hz with hz | hz
      · have := h1.2 z hz; simp; omega
      · simp at hz; simp; omega
theorem Good.rm {ds : List Fd} {last : Int} (h : Good ds last) (n : Int) : rmD ds n = ds.filter fun x => !decide (x.id = n) := by
  unfold rmD
  have h1 := h.1
  clear h
  induction ds with
  | nil => rfl
  | cons y l ih =>
    rw [List.map_cons, List.nodup_cons] at h1
    have ih := ih h1.2
    by_cases e : y.id = n
    · rw [List.findIdx?_cons]
      simp only [e, decide_true, cond_true, if_true, List.eraseIdx_cons_zero]
      rw [List.filter_cons_of_neg (by simp [e])]
      symm
      rw [List.filter_eq_self]
      intro z hz
      simp only [Bool.not_eq_true', decide_eq_false_iff_not]
      intro hzn
      exact h1.1 (by rw [e, ← hzn]; exact List.mem_map_of_mem hz)
    · rw [List.findIdx?_cons, List.filter_cons_of_pos (by simp [e])]
      rw [← ih]
      simp only [e, decide_false, Bool.false_eq_true, if_false]
      cases l.findIdx? fun x => decide (x.id = n) with
      | none => rfl
      | some i => rfl

theorem put_last {ds : List Fd} {x : Tup} {last : Int} (h : 0 ≤ last) {i : Nat} (hi : last ≤ i) : 0 ≤ (foundD ds x).elim (last + 1) (fun _ => last) ∧ (foundD ds x).elim (last + 1) (fun _ => last) ≤ ((i + 1 : Nat) : Int) := by
  cases foundD ds x <;> simp <;> omega

set_option maxRecDepth 4000 in
/-- The law TablePlays. -/
theorem f9 (A : AH) (args : List V) (h : HasA A [.one (.i .i64), .one (.i .i64), .sl opKs] args) : ACalls Try.prog W0 9 args A fun e _ => e = .ret (.b true) := by
  obtain ⟨mo, _, rfl, _, h⟩ := h.invi
  obtain ⟨ti, _, rfl, _, h⟩ := h.invi
  obtain ⟨v, _, rfl, ⟨rows, hs, hrow, hmax⟩, h⟩ := h.inv
  rw [h.inv0]
  have hs : SlV A .ro 7 v rows (fun _ => True) := hs
  obtain ⟨e', a', cap', hv⟩ := hs.len
  obtain ⟨most, hmost⟩ : ∃ x, x = max 1 (min mo 64) := ⟨_, rfl⟩
  obtain ⟨ticks, hticks⟩ : ∃ x, x = max 1 (min ti 100000) := ⟨_, rfl⟩
  have hm1 : 1 ≤ most := by omega
  have hm64 : most ≤ 64 := by omega
  refine acalls_in k9 (by simp) ?_
  simp -dsimp
  refine (f11 mo ti).some ?_
  rintro b H1 ⟨hb1, g1⟩
  rw [← hmost, ← hticks] at hb1
  simp -dsimp
  refine (f36 mo ti).some ?_
  rintro w H2 ⟨hr2, g2, hwn⟩
  rw [← hmost, ← hticks] at hr2
  have hb2 := hb1.grow g2
  simp -dsimp
  refine awp_round (fun m env H => ∃ (i : Nat) (now last : Int) (l : List Fd) (F G : Nat → Prop), i ≤ rows.length ∧ m = rows.length - i ∧ env.get 2 = some v ∧ env.get 7 = some (.p (some (b, 0))) ∧ env.get 8 = some (.p (some (w, 0))) ∧ env.get 9 = some (.i .i64 i) ∧
    TRep H b most ticks now last l F ∧ RT H w most ticks now last l G ∧ (∀ j, F j → ¬ G j) ∧ (∀ j, F j → A.next ≤ j) ∧ (∀ j, G j → A.next ≤ j) ∧ Grows A H ∧ Good l last ∧ 0 ≤ last ∧ last ≤ i) rows.length
    ⟨0, 0, 0, [], Up NoId A H1, Up NoId H1 H2, by omega, by omega, by simp [hv], by simp, by simp, by simp, hb2, hr2, ?_, ?_, ?_, g1.trans g2, ⟨by simp, by simp⟩, by omega, by omega⟩ ?_
  · rintro j (h | h) (h' | h')
    · exact h
    · exact h
    · exact h'
    · omega
  · rintro j (h | h)
    · exact h.elim
    · exact h.1
  · have := g1.next
    rintro j (h | h)
    · exact h.elim
    · omega
  clear hb1 hb2 hr2 g2 g1
  rintro m env H3 ⟨i, now, last, l, F, G, hi, rfl, e2, e7, e8, e9, hb, hr, hFG, hFn, hGn, g3, hgood, hla0, hla1⟩
  have hl : l.length ≤ 64 := by
    obtain ⟨r, mp, fl, gs, N, _, _, hl1, hl2⟩ := hb
    omega
  by_cases hlt : i < rows.length
  · obtain ⟨kind, n, tp, hrw⟩ := op_row (hrow rows[i] (List.getElem_mem hlt))
    rcases hs with ⟨hnil, _⟩ | ⟨id, o, cap, cs, rfl, _, hs⟩
    · subst hnil; simp at hlt
    have hrowi := (hs.keep g3 fun h => h).row (i := i) (r := rows[i]) (List.getElem?_eq_getElem hlt)
    rw [hrw] at hrowi
    simp only [opRow] at hrowi
    have hlt' : (i : Int) < rows.length := by omega
    by_cases h100 : (i : Int) < 60
    · have hk0 := Int.emod_nonneg kind (show (8 : Int) ≠ 0 by omega)
      have hk6 := Int.emod_lt_of_pos kind (show (0 : Int) < 8 by omega)
      obtain ⟨q, hq⟩ : ∃ q, q = kind % 8 := ⟨_, rfl⟩
      have hwi : IntKind.i64.wrap ((i : Int) + 1) = (i : Int) + 1 := wrap_i64 (by omega) (by omega)
      simp -dsimp [e2, e7, e8, e9, hlt, h100, hrowi]
      refine (f10 (n := kind) (m := 8) (by omega) (by omega)).next ?_
      rintro _ rfl
      rw [← hq] at hk0 hk6 ⊢
      obtain ⟨H4, hH4⟩ : ∃ H4, H4 = H3.alloc (.cells .rw (opRow kind n tp)) := ⟨_, rfl⟩
      rw [show AO.cells .rw [V.i .i64 kind, .i .i64 n, .i .i64 tp.p, .i .u32 tp.s, .i .u32 tp.d, .i .i64 tp.sp, .i .i64 tp.dp] = .cells .rw (opRow kind n tp) from rfl, ← hH4]
      have g4 : Grows H3 H4 := by rw [hH4]; exact Keeps.alloc' Keeps.refl
      have gx : H4.get H3.next = some (.cells .rw (opRow kind n tp)) := by rw [hH4]; simp
      have lx : H3.next < H4.next := by rw [hH4]; simp
      have n34 := g3.next
      have hb4 := hb.grow g4
      have hr4 := hr.grow g4
      have hFlt : ∀ j, F j → j < H3.next := fun j h => hb.own j h
      have hGlt : ∀ j, G j → j < H3.next := fun j h => by obtain ⟨_, _, hG, _⟩ := hr; exact hG _ h
      have nF : ¬ F H3.next := fun h => by have := hFlt _ h; omega
      have nG : ¬ G H3.next := fun h => by have := hGlt _ h; omega
      have hg34 := g3.trans g4
      have n4 := g4.next
      simp only [opRow] at gx
      clear hH4
      by_cases q0 : q = 0
      · simp -dsimp [e2, e7, e8, e9, q0, ldCells_of gx]
        refine (f31D tp hb4).next ?_
        rintro H5 ⟨hb5, k5⟩
        have gx5 := k5.at lx nF gx
        have hr5 := hr4.keep k5 fun j h h' => hFG j h' h
        simp -dsimp [e2, e7, e8, e9, q0, ldCells_of gx5]
        refine (f37 tp hr5 (by omega)).next ?_
        rintro H5' ⟨hr6, k6⟩
        have hb6 := hb5.keep k6 fun j h h' => hFG j h h'
        have n5 := k5.next
        have n6 := k6.next
        have hl6 : (touchD l tp now).length ≤ 64 := by
          obtain ⟨r, mp, fl, gs, N, _, _, hl1, hl2⟩ := hb5
          omega
        have hFG6 : ∀ j, F j → ¬ Up G H5 H5' j := fun j h h' => by
          rcases h' with h' | h'
          · exact hFG j h h'
          · have := hFlt j h; omega
        simp -dsimp [e2, e7, e8, e9, q0]
        
        refine (f14 hb6).some ?_
        rintro va H6 ⟨hsa, g6⟩
        simp -dsimp [e2, e7, e8, e9]
        refine (f43 (hr6.grow g6) (by omega)).some ?_
        rintro vb H7 ⟨hsb, g7⟩
        simp -dsimp [e2, e7, e8, e9]
        refine (f27D (hsa.keep g7 fun _ _ h => h) hsb (by omega)).next ?_
        rintro H8 g8
        have g68 := (g6.trans g7).trans g8
        simp -dsimp [e2, e7, e8, e9, hwi]
        exact hold_mk ⟨rows.length - (i + 1), by omega, i + 1, _, _, _, _, _, by omega, rfl, by simp [e2], by simp [e7], by simp [e8], by simp, hb6.grow g68, hr6.grow g68, hFG6, hFn, (up_ge hGn (by omega)), ((hg34.then k5 fun j hj h => by have := hFn j h; omega).then k6 fun j hj h => by have := hGn j h; omega).trans g68, hgood.touch _ _, hla0, by omega⟩
      by_cases q1 : q = 1
      · simp -dsimp [e2, e7, e8, e9, q0, q1, ldCells_of gx]
        refine (f31D tp hb4).next ?_
        rintro H5 ⟨hb5, k5⟩
        have gx5 := k5.at lx nF gx
        have hr5 := hr4.keep k5 fun j h h' => hFG j h' h
        simp -dsimp [e2, e7, e8, e9, q0, q1, ldCells_of gx5]
        refine (f37 tp hr5 (by omega)).next ?_
        rintro H5' ⟨hr6, k6⟩
        have hb6 := hb5.keep k6 fun j h h' => hFG j h h'
        have n5 := k5.next
        have n6 := k6.next
        have hl6 : (touchD l tp now).length ≤ 64 := by
          obtain ⟨r, mp, fl, gs, N, _, _, hl1, hl2⟩ := hb5
          omega
        have hFG6 : ∀ j, F j → ¬ Up G H5 H5' j := fun j h h' => by
          rcases h' with h' | h'
          · exact hFG j h h'
          · have := hFlt j h; omega
        simp -dsimp [e2, e7, e8, e9, q0, q1]
        
        refine (f14 hb6).some ?_
        rintro va H6 ⟨hsa, g6⟩
        simp -dsimp [e2, e7, e8, e9]
        refine (f43 (hr6.grow g6) (by omega)).some ?_
        rintro vb H7 ⟨hsb, g7⟩
        simp -dsimp [e2, e7, e8, e9]
        refine (f27D (hsa.keep g7 fun _ _ h => h) hsb (by omega)).next ?_
        rintro H8 g8
        have g68 := (g6.trans g7).trans g8
        simp -dsimp [e2, e7, e8, e9, hwi]
        exact hold_mk ⟨rows.length - (i + 1), by omega, i + 1, _, _, _, _, _, by omega, rfl, by simp [e2], by simp [e7], by simp [e8], by simp, hb6.grow g68, hr6.grow g68, hFG6, hFn, (up_ge hGn (by omega)), ((hg34.then k5 fun j hj h => by have := hFn j h; omega).then k6 fun j hj h => by have := hGn j h; omega).trans g68, hgood.touch _ _, hla0, by omega⟩
      by_cases q5 : q = 5
      · simp -dsimp [e2, e7, e8, e9, q0, q1, q5, gx]
        refine (f32 n hb4).next ?_
        rintro H5 ⟨hb5, k5⟩
        have gx5 := k5.at lx nF gx
        have hr5 := hr4.keep k5 fun j h h' => hFG j h' h
        simp -dsimp [e2, e7, e8, e9, q0, q1, q5, gx5]
        refine (f38 n hr5 (by omega)).next ?_
        rintro H5' ⟨hr6, k6⟩
        rw [hgood.rm n] at hr6
        have hb6 := hb5.keep k6 fun j h h' => hFG j h h'
        have n5 := k5.next
        have n6 := k6.next
        have hlf := List.length_filter_le (fun x => !decide (x.id = n)) l
        have hFG6 : ∀ j, F j → ¬ Up G H5 H5' j := fun j h h' => by
          rcases h' with h' | h'
          · exact hFG j h h'
          · have := hFlt j h; omega
        simp -dsimp [e2, e7, e8, e9, q0, q1, q5]
        refine (f14 hb6).some ?_
        rintro va H6 ⟨hsa, g6⟩
        simp -dsimp [e2, e7, e8, e9]
        refine (f43 (hr6.grow g6) (by omega)).some ?_
        rintro vb H7 ⟨hsb, g7⟩
        simp -dsimp [e2, e7, e8, e9]
        refine (f27D (hsa.keep g7 fun _ _ h => h) hsb (by omega)).next ?_
        rintro H8 g8
        have g68 := (g6.trans g7).trans g8
        simp -dsimp [e2, e7, e8, e9, hwi]
        exact hold_mk ⟨rows.length - (i + 1), by omega, i + 1, _, _, _, _, _, by omega, rfl, by simp [e2], by simp [e7], by simp [e8], by simp, hb6.grow g68, hr6.grow g68, hFG6, hFn, (up_ge hGn (by omega)), ((hg34.then k5 fun j hj h => by have := hFn j h; omega).then k6 fun j hj h => by have := hGn j h; omega).trans g68, hgood.sub List.filter_sublist, hla0, by omega⟩
      by_cases q6 : q = 6
      · simp -dsimp [e2, e7, e8, e9, q0, q1, q5, q6, gx]
        refine (f33 n hb4).some ?_
        rintro vt H5 ⟨hst, hb5, k5⟩
        have gx5 := k5.at lx nF gx
        have hr5 := hr4.keep k5 fun j h h' => hFG j h' h
        have n5 := k5.next
        simp -dsimp [e2, e7, e8, e9, q0, q1, q5, q6, gx5]
        refine (f40 n hr5 (by omega)).some ?_
        rintro vu H5' ⟨hsu, hr6, k6⟩
        have hst' := hst.keep k6 fun j h h' => by
          rcases h with h | h
          · exact h
          · have := hGlt j h'; omega
        have hb6 := hb5.keep k6 fun j h h' => hFG j h h'
        have n6 := k6.next
        have hlf := List.length_filter_le (overT (IntKind.i64.wrap (now + stepOf n)) ticks) l
        have hlf2 := List.length_filter_le (fun x => !overT (IntKind.i64.wrap (now + stepOf n)) ticks x) l
        have hFG6 : ∀ j, F j → ¬ Up G H5 H5' j := fun j h h' => by
          rcases h' with h' | h'
          · exact hFG j h h'
          · have := hFlt j h; omega
        simp -dsimp [e2, e7, e8, e9, q0, q1, q5, q6]
        refine (f39 hst' hsu (by rw [sortI_length, List.length_map]; omega)).next ?_
        rintro H9 g9
        have hb9 := hb6.grow g9
        have hr9 := hr6.grow g9
        simp -dsimp [e2, e7, e8, e9, q0, q1, q5, q6]
        have n9 := g9.next
        refine (f14 hb9).some ?_
        rintro va H6 ⟨hsa, g6⟩
        simp -dsimp [e2, e7, e8, e9]
        refine (f43 (hr9.grow g6) (by omega)).some ?_
        rintro vb H7 ⟨hsb, g7⟩
        simp -dsimp [e2, e7, e8, e9]
        refine (f27D (hsa.keep g7 fun _ _ h => h) hsb (by omega)).next ?_
        rintro H8 g8
        have g68 := (g6.trans g7).trans g8
        simp -dsimp [e2, e7, e8, e9, hwi]
        exact hold_mk ⟨rows.length - (i + 1), by omega, i + 1, _, _, _, _, _, by omega, rfl, by simp [e2], by simp [e7], by simp [e8], by simp, hb9.grow g68, hr9.grow g68, hFG6, hFn, (up_ge hGn (by omega)), (((hg34.then k5 fun j hj h => by have := hFn j h; omega).then k6 fun j hj h => by have := hGn j h; omega).trans g9).trans g68, hgood.sub List.filter_sublist, hla0, by omega⟩
      by_cases q7 : q = 7
      · simp -dsimp [e2, e7, e8, e9, q0, q1, q5, q6, q7, gx]
        refine (f35 hb4).some ?_
        rintro vt H5 ⟨hst, hb5, k5⟩
        have hr5 := hr4.keep k5 fun j h h' => hFG j h' h
        have n5 := k5.next
        simp -dsimp [e2, e7, e8, e9, q0, q1, q5, q6, q7]
        refine (f41 hr5 (by omega)).some ?_
        rintro vu H5' ⟨hsu, hr6, k6⟩
        have hst' := hst.keep k6 fun j h h' => by
          rcases h with h | h
          · exact h
          · have := hGlt j h'; omega
        have hb6 := hb5.keep k6 fun j h h' => hFG j h h'
        have n6 := k6.next
        simp -dsimp [e2, e7, e8, e9, q0, q1, q5, q6, q7]
        refine (f39 hst' hsu (by rw [sortI_length, List.length_map]; omega)).next ?_
        rintro H9 g9
        have hb9 := hb6.grow g9
        have hr9 := hr6.grow g9
        simp -dsimp [e2, e7, e8, e9, q0, q1, q5, q6, q7]
        have n9 := g9.next
        refine (f14 hb9).some ?_
        rintro va H6 ⟨hsa, g6⟩
        simp -dsimp [e2, e7, e8, e9]
        refine (f43 (hr9.grow g6) (by simp)).some ?_
        rintro vb H7 ⟨hsb, g7⟩
        simp -dsimp [e2, e7, e8, e9]
        refine (f27D (hsa.keep g7 fun _ _ h => h) hsb (by simp)).next ?_
        rintro H8 g8
        have g68 := (g6.trans g7).trans g8
        simp -dsimp [e2, e7, e8, e9, hwi]
        exact hold_mk ⟨rows.length - (i + 1), by omega, i + 1, _, _, _, _, _, by omega, rfl, by simp [e2], by simp [e7], by simp [e8], by simp, hb9.grow g68, hr9.grow g68, hFG, hFn, hGn, (((hg34.then k5 fun j hj h => by have := hFn j h; omega).then k6 fun j hj h => by have := hGn j h; omega).trans g9).trans g68, ⟨by simp, by simp⟩, hla0, by omega⟩
      simp -dsimp [e2, e7, e8, e9, q0, q1, q5, q6, q7, ldCells_of gx]
      refine (f13 tp hb4 (by omega) hm1).next ?_
      rintro H5 ⟨hb5, k5⟩
      have gx5 := k5.at lx nF gx
      have hr5 := hr4.keep k5 fun j h h' => hFG j h' h
      simp -dsimp [e2, e7, e8, e9, q0, q1, q5, q6, q7, ldCells_of gx5]
      refine (f42 tp hr5 (by omega) (by omega) hm1).next ?_
      rintro H5' ⟨hr6, k6⟩
      have n5 := k5.next
      have n6 := k6.next
      have hb6 := hb5.keep k6 fun j h h' => by
        rcases h with h | h
        · exact hFG j h h'
        · have := hGlt j h'; omega
      have hl6 : (putD l most now last tp).length ≤ 64 := by
        obtain ⟨r, mp, fl, gs, N, _, _, hl1, hl2⟩ := hb5
        omega
      obtain ⟨pl0, pl1⟩ := put_last (ds := l) (x := tp) hla0 hla1
      simp -dsimp [e2, e7, e8, e9, q0, q1, q5, q6, q7]
      refine (f14 hb6).some ?_
      rintro va H6 ⟨hsa, g6⟩
      simp -dsimp [e2, e7, e8, e9]
      refine (f43 (hr6.grow g6) (by omega)).some ?_
      rintro vb H7 ⟨hsb, g7⟩
      simp -dsimp [e2, e7, e8, e9]
      refine (f27D (hsa.keep g7 fun _ _ h => h) hsb (by omega)).next ?_
      rintro H8 g8
      have g68 := (g6.trans g7).trans g8
      simp -dsimp [e2, e7, e8, e9, hwi]
      exact hold_mk ⟨rows.length - (i + 1), by omega, i + 1, _, _, _, _, _, by omega, rfl, by simp [e2], by simp [e7], by simp [e8], by simp, hb6.grow g68, hr6.grow g68, (disj hFG hFlt hGlt n4 n5), (up_ge hFn (by omega)), (up_ge hGn (by omega)), ((hg34.then k5 fun j hj h => by have := hFn j h; omega).then k6 fun j hj h => by have := hGn j h; omega).trans g68, hgood.put _ _ _, pl0, pl1⟩
    · simp -dsimp [e2, e7, e8, e9, hlt, h100]
      refine f12.mono ?_
      intro e' H' h
      rw [h]
      simp -dsimp
      exact fin_mk rfl
  · simp -dsimp [e2, e7, e8, e9, hlt, hv]
    refine f12.mono ?_
    intro e' H' h
    rw [h]
    simp -dsimp
    exact fin_mk rfl
end Go.Proofs.Ytmdmabedfleacaa
