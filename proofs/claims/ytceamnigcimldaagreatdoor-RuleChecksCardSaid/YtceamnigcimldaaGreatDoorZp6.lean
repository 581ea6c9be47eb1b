/- A part of the proof: contracts of functions, over the abstract machine. -/
import Derived.Test.YtceamnigcimldaaGreatDoorZp5
set_option linter.unusedVariables false
set_option linter.unusedSimpArgs false
set_option linter.all false
/- Ports: the other clean set. -/
namespace Go.Proofs.YtceamnigcimldaaGreatDoor
open Ram Go Go.Proofs.Ports

variable {W0 : World} {H : AH}

def putTo (l : List Sp) (i : Nat) : List Sp := (l.take i).foldl put []
theorem putTo_succ {l : List Sp} {i : Nat} (h : i < l.length) : putTo l (i + 1) = put (putTo l i) l[i] := by
  unfold putTo; rw [take_snoc h, List.foldl_append]; rfl
theorem putTo_all (l : List Sp) : putTo l l.length = putAll l := by unfold putTo putAll; rw [List.take_length]
theorem put_len {l : List Sp} {x : Sp} (hl : ∀ s ∈ l, okSp s) (hx : okSp x) : (put l x).length ≤ 2 * l.length + 1 := by
  obtain ⟨_, _, h⟩ := put1_ok hl hx
  unfold put
  have := List.length_filter_le (fun s : Sp => decide (s.f > (put1 l x).2.t + 1)) l
  simp only [List.length_append, List.length_singleton]
  omega
theorem putTo_ok {l : List Sp} (ho : ∀ s ∈ l, okSp s) : ∀ i, i ≤ l.length → (∀ s ∈ putTo l i, okSp s) ∧ (putTo l i).length + 1 ≤ 2 ^ i
  | 0, _ => ⟨fun s h => by simp [putTo] at h, by simp [putTo]⟩
  | i + 1, hi => by
    obtain ⟨h1, h2⟩ := putTo_ok ho i (by omega)
    have hx := ho l[i] (List.getElem_mem (by omega))
    rw [putTo_succ (by omega)]
    refine ⟨put_ok h1 hx, ?_⟩
    have := put_len h1 hx
    have := Nat.pow_succ 2 i
    omega
theorem putAll_ok {l : List Sp} (hok : okP l = true) : (∀ s ∈ putAll l, okSp s) ∧ (putAll l).length ≤ 15 := by
  obtain ⟨h1, h2⟩ := putTo_ok (okP_mem hok) l.length (Nat.le_refl _)
  have := okP_len hok
  have : 2 ^ l.length ≤ 2 ^ 4 := Nat.pow_le_pow_right (by omega) this
  rw [putTo_all] at h1 h2
  exact ⟨h1, by omega⟩

set_option maxRecDepth 4000 in
/-- rampartref10.Clean. -/
theorem f35 {not : Bool} {v : V} {l : List Sp} {md : Md} {F : Nat → Prop} (hs : SlV H md 2 v (l.map spRow) F) (hl : l.length < 4611686018427387904) : ACalls Tryz.prog W0 35 [.agg [.b not, v]] H fun e H' =>
    ∃ v', e = .ret (.agg [.b (okP l && not), v']) ∧ SlV H' .rw 2 v' ((cleanP l).map spRow) (Up NoId H H') ∧ Grows H H' := by
  obtain ⟨e', a', cap', hv⟩ := hs.len
  rw [List.length_map] at hv
  have hone : V.one v = true := by rw [hv]; rfl
  refine acalls_in k35 (by simp) ?_
  have hk0 : ∀ X Y, Grows H ((H.alloc X).alloc Y) := fun _ _ => Keeps.alloc' (Keeps.alloc' Keeps.refl)
  simp -dsimp [hone]
  refine (f71 (hs.keep (hk0 _ _) fun _ _ h => h) hl).next ?_
  rintro H2 h2
  have g2 := (hk0 _ _).trans h2
  have n2 := h2.next
  simp at n2
  have gx := Grows.at h2 (i := H.next) (o := .cells .rw [.b not, v]) (by simp <;> omega) (by simp)
  have gr := Grows.at h2 (i := H.next + 1) (o := .cells .rw [.b false, .sl 0 none 0 0]) (by simp <;> omega) (by simp)
  cases hok : okP l
  · simp -dsimp [gr, splice]
    refine fin_mk ⟨_, rfl, .inl ⟨by simp [cleanP, hok], _, rfl⟩, Keeps.set_new g2 (by omega)⟩
  · have hl4 := okP_len hok
    have ne1 : ¬ H.next = H2.next := by omega
    have ne2 : ¬ H.next + 1 = H2.next := by omega
    simp -dsimp [gx, splice, ne1]
    obtain ⟨H3, hH3⟩ : ∃ H3, H3 = H2.alloc (.cells .rw [.b not, .sl 0 none 0 0]) := ⟨_, rfl⟩
    rw [← hH3]
    have k2 : Grows H2 H3 := by rw [hH3]; exact Keeps.alloc' Keeps.refl
    have n3 : H3.next = H2.next + 1 := by rw [hH3]; simp
    have gx3 := Grows.at k2 (by omega) gx
    have gr3 := Grows.at k2 (by omega) gr
    have gc3 : H3.get H2.next = some (.cells .rw [.b not, .sl 0 none 0 0]) := by rw [hH3]; simp
    have g3 := g2.trans k2
    have hcl : cleanP l = if putAll l = [⟨0, 65535⟩] then [] else putAll l := by unfold cleanP; rw [if_pos hok]
    obtain ⟨hpo, hpl⟩ := putAll_ok hok
    refine awp_round (fun m env H1 => ∃ (i : Nat) (v3 : V) (FG : Nat → Prop), i ≤ l.length ∧ m = l.length - i ∧ Grows H H1 ∧ H3.next ≤ H1.next ∧ env.get 1 = some (.p (some (H.next, 0))) ∧ env.get 2 = some (.p (some (H.next + 1, 0))) ∧ env.get 3 = some (.p (some (H2.next, 0))) ∧ env.get 4 = some (.i .i64 i) ∧
      H1.get H.next = some (.cells .rw [.b not, v]) ∧ H1.get (H.next + 1) = some (.cells .rw [.b false, .sl 0 none 0 0]) ∧ H1.get H2.next = some (.cells .rw [.b not, v3]) ∧ SlV H1 .rw 2 v3 ((putTo l i).map spRow) FG ∧ (∀ j, FG j → H3.next ≤ j ∧ j < H1.next)) l.length
      ⟨0, .sl 0 none 0 0, NoId, by omega, by omega, g3, Nat.le_refl _, by simp, by simp, by simp, by simp, gx3, gr3, gc3, .inl ⟨by simp [putTo], _, rfl⟩, fun j h => h.elim⟩ ?_
    rintro m env H1 ⟨i, v3, FG, hi, rfl, hgr, n31, e1, e2, e3, e4, gx1, gr1, gc1, hs3, hFG⟩
    by_cases hlt : i < l.length
    · obtain ⟨id, o, cap, cs, hvv, hF, sa, _⟩ := at_row (hs.keep hgr fun _ _ h => h) hlt
      have hrow := sa.row (row_at hlt)
      have hoi := okP_mem hok l[i] (List.getElem_mem hlt)
      obtain ⟨t1, t2⟩ := putTo_ok (okP_mem hok) i hi
      have t3 : 2 ^ i ≤ 2 ^ 4 := Nat.pow_le_pow_right (by omega) (by omega)
      have hsucc := putTo_succ hlt
      obtain ⟨s, hsi⟩ : ∃ s, s = l[i] := ⟨_, rfl⟩
      rw [← hsi] at hrow hoi hsucc
      have hwi := wrap_succ (i := i) (by omega)
      rw [hvv] at gx1
      simp -dsimp [e1, e2, e3, e4, gx1, gc1, hlt, hrow]
      refine (f78 hs3 (by omega) t1 hoi).some ?_
      rintro v7 H7 ⟨hs7, k7⟩
      have n7 := k7.next
      have gx7 := k7.at (by omega) gx1
      have gr7 := k7.at (by omega) gr1
      have gc7 := k7.at (by omega) gc1
      have nl : ∀ j, Up NoId H1 H7 j → H3.next ≤ j ∧ j < H7.next := fun j hj => by
        rcases hj with h | h
        · exact h.elim
        · omega
      obtain ⟨e9, a9, c9, hv9⟩ := hs7.len
      obtain ⟨n9, hn9⟩ : ∃ n, n = ((put (putTo l i) s).map spRow).length := ⟨_, rfl⟩
      rw [← hn9] at hv9
      subst hv9
      simp -dsimp [e1, e2, e3, e4, gc7, splice, hwi]
      exact hold_mk ⟨l.length - (i + 1), by omega, i + 1, _, _, by omega, rfl, Keeps.set_new (hgr.trans k7) (by omega), by simp; omega, by simp [e1], by simp [e2], by simp [e3], by simp, by rw [AH.get_set, if_neg (by omega), gx7, hvv], by rw [AH.get_set, if_neg (by omega)]; exact gr7, by rw [AH.get_set, if_pos rfl], by rw [hsucc]; exact hs7.keep (G := fun j => j = H2.next) (Keeps.set fun _ => rfl) fun j hj e => by have := nl j hj; omega, fun j hj => by have := nl j hj; simpa using this⟩
    · have : i = l.length := by omega
      subst this
      rw [putTo_all] at hs3
      obtain ⟨e9, a9, c9, hv9⟩ := hs3.len
      rw [List.length_map] at hv9
      by_cases h1 : (putAll l).length = 1
      · obtain ⟨q, hq⟩ : ∃ q, putAll l = [q] := List.length_eq_one_iff.1 h1
        rw [hq] at hs3 hcl
        rw [h1] at hv9
        obtain ⟨id, o, cap, cs, hvv, hF, sa, _⟩ := at_row hs3 (i := 0) (by simp)
        have c0 := sa.cell (j := 0) (row_at (r := spRow) (i := 0) (by simp)) (by omega)
        have c1 := sa.cell (j := 1) (row_at (r := spRow) (i := 0) (by simp)) (by omega)
        simp [spRow] at c0 c1
        rw [hvv] at gc1 hv9
        obtain ⟨v1, v2⟩ : 2 = e9 ∧ True := by simp at hv9; exact ⟨hv9.1, trivial⟩
        by_cases hq0 : q.f = 0
        · by_cases hq1 : q.t = 65535
          · rw [if_pos (by obtain ⟨a, b⟩ := q; simp at hq0 hq1; subst hq0 hq1; rfl)] at hcl
            have hne : ¬ H.next + 1 = H2.next := by omega
            simp -dsimp [e1, e2, e3, e4, hv, gx1, gc1, sa.get, c0, c1, hq0, hq1, gr1, ldCells_of gc1, splice, hne]
            refine fin_mk ⟨_, rfl, .inl ⟨by rw [hcl]; rfl, _, rfl⟩, Keeps.set_new (Keeps.set_new hgr (by omega)) (by omega)⟩
          · rw [if_neg (by obtain ⟨a, b⟩ := q; simp; intro _; exact hq1)] at hcl
            rw [← hcl, hvv] at hs3
            simp -dsimp [e1, e2, e3, e4, hv, gx1, gc1, sa.get, c0, c1, hq0, hq1, gr1, ldCells_of gc1, splice]
            refine fin_mk ⟨_, rfl, ?_, Keeps.set_new hgr (by omega)⟩
            exact (hs3.keep (G := fun j => j = H.next + 1) (Keeps.set fun _ => rfl) fun j hj e => by have := hFG j hj; omega).mono fun j hj => by have := hFG j hj; exact .inr ⟨by omega, by simp; omega⟩
        · rw [if_neg (by obtain ⟨a, b⟩ := q; simp; intro h; exact absurd h hq0)] at hcl
          rw [← hcl, hvv] at hs3
          simp -dsimp [e1, e2, e3, e4, hv, gx1, gc1, sa.get, c0, c1, hq0, gr1, ldCells_of gc1, splice]
          refine fin_mk ⟨_, rfl, ?_, Keeps.set_new hgr (by omega)⟩
          exact (hs3.keep (G := fun j => j = H.next + 1) (Keeps.set fun _ => rfl) fun j hj e => by have := hFG j hj; omega).mono fun j hj => by have := hFG j hj; exact .inr ⟨by omega, by simp; omega⟩
      · have hne : ¬ putAll l = [⟨0, 65535⟩] := fun h => h1 (by rw [h]; rfl)
        rw [if_neg hne] at hcl
        rw [← hcl] at hs3
        subst hv9
        have h1' : ¬ ((putAll l).length : Int) = 1 := by omega
        simp -dsimp [e1, e2, e3, e4, hv, gx1, gc1, h1', gr1, ldCells_of gc1, splice]
        refine fin_mk ⟨_, rfl, ?_, Keeps.set_new hgr (by omega)⟩
        exact (hs3.keep (G := fun j => j = H.next + 1) (Keeps.set fun _ => rfl) fun j hj e => by have := hFG j hj; omega).mono fun j hj => by have := hFG j hj; exact .inr ⟨by omega, by simp; omega⟩
end Go.Proofs.YtceamnigcimldaaGreatDoor
