/- A part of the proof: contracts of functions, over the abstract machine. -/
import Derived.Test.YtmdmabedfleacaaBkFn
import Derived.Test.YtmdmabedfleacaaRaD
set_option linter.unusedVariables false
set_option linter.unusedSimpArgs false
set_option linter.all false
namespace Go.Proofs.Ytmdmabedfleacaa
open Ram Go

variable {W0 : World} {H : AH} {α : Type}

/-- 'over'. -/
theorem f48 {p0 : Int} {p1 p2 : Int} {p3 p4 now at_ most : Int} {c4 c3 b : Nat} {f l : V} (h4 : H.get c4 = some (.cells .rw [.p (some (b, 0))])) (h3 : H.get c3 = some (.cells .rw [.i .i64 most])) (hb : H.get b = some (.cells .rw [.i .i64 now, f, l]))
    (l4 : c4 < H.next) (l3 : c3 < H.next) (lb : b < H.next) :
    ACalls Try.prog W0 48 [.agg [.i .i64 p0, .i .u32 p1, .i .u32 p2, .i .i64 p3, .i .i64 p4, .i .i64 at_], .p (some (c4, 0)), .p (some (c3, 0))] H
      fun e H' => e = .ret (.b (decide (most ≤ IntKind.i64.wrap (now - at_)))) ∧ Grows H H' := by
  refine acalls_by k48 (by simp) ?_
  simp -dsimp [h4, h3, hb, Nat.ne_of_lt l4, Nat.ne_of_lt l3, Nat.ne_of_lt lb]
  exact Keeps.alloc

/-- A test of rows, as a function value: in every heap that is as this one but for G. -/
def Tests (W0 : World) (H : AH) (g : V) (c : α → List V) (p : α → Bool) (l : List α) (G : Nat → Prop) : Prop :=
  ∃ f us bs, g = .f (.func f) us bs ∧ ∀ x ∈ l, ∀ H', Keeps G H H' → ACalls Try.prog W0 f (us ++ .agg (c x) :: bs) H' fun e H'' => e = .ret (.b (p x)) ∧ Grows H' H''

/-- slices.IndexFunc. -/
theorem f49 {v g : V} {c : α → List V} {l : List α} {p : α → Bool} {F G : Nat → Prop} {md : Md} (hs : SlV H md 6 v (l.map c) F) (hg : Tests W0 H g c p l G) (hmax : l.length < 2 ^ 62) :
    ACalls Try.prog W0 49 [v, g] H fun e H' => Grows H H' ∧ ((∃ i, l.findIdx? p = some i ∧ e = .ret (.i .i64 i)) ∨ (l.findIdx? p = none ∧ e = .ret (.i .i64 (-1)))) := by
  obtain ⟨f, us, bs, rfl, hg⟩ := hg
  refine acalls_by k49 (by simp) ?_
  obtain ⟨e, a, cap, hv⟩ := hs.len
  simp only [List.length_map] at hv
  simp -dsimp [hv]
  refine awp_loop (fun m env H1 => ∃ i : Nat, i ≤ l.length ∧ m = l.length - i ∧ Grows H H1 ∧ env.get 0 = some v ∧ env.get 1 = some (.f (.func f) us bs) ∧ env.get 7 = some (.i .i64 l.length) ∧ env.get 8 = some (.i .i64 i) ∧ ∀ j r, j < i → l[j]? = some r → p r = false)
    l.length ⟨0, by simp, by simp, Keeps.refl, by simp -dsimp [hv], by simp, by simp, by simp, by simp⟩ ?_
  rintro m env H1 ⟨i, hi, rfl, hgr, e0, e1, e7, e8, hno⟩
  by_cases hlt : i < l.length
  · obtain ⟨r, hr⟩ : ∃ r, l[i]? = some r := ⟨_, List.getElem?_eq_getElem hlt⟩
    rcases hs with ⟨hnil, _⟩ | ⟨id, o, cap', cs, rfl, hF, hs⟩
    · simp only [List.map_eq_nil_iff] at hnil; subst hnil; simp at hlt
    · have hs1 := hs.keep hgr fun h => h
      simp -dsimp [e0, e1, e7, e8, hlt, hs1.row (i := i) (r := c r) (by simp -dsimp [hr])]
      refine (hg r (List.mem_of_getElem? hr) H1 hgr.keeps).mono ?_
      rintro _ H2 ⟨rfl, hg2⟩
      have hg3 := hgr.trans hg2
      cases hp : p r
      · simp -dsimp [e0, e1, e7, e8]
        rw [wrap_i64 (by omega) (by omega)]
        refine ⟨l.length - (i + 1), by omega, i + 1, by omega, rfl, hg3, rfl, fun j r' hj hr' => ?_⟩
        by_cases e : j = i
        · subst e; rw [hr] at hr'; simp only [Option.some.injEq] at hr'; subst hr'; exact hp
        · exact hno j r' (by omega) hr'
      · simp -dsimp
        exact ⟨hg3, i, findIdx_at hr hp hno, rfl⟩
  · simp -dsimp [e0, e1, e7, e8, hlt]
    refine ⟨hgr, fun x hx => ?_⟩
    obtain ⟨j, hj, rfl⟩ := List.getElem_of_mem hx
    exact hno j _ (by omega) (List.getElem?_eq_getElem hj)

/-- slices.ContainsFunc. -/
theorem f53 {v g : V} {c : α → List V} {l : List α} {p : α → Bool} {F G : Nat → Prop} {md : Md} (hs : SlV H md 6 v (l.map c) F) (hg : Tests W0 H g c p l G) (hmax : l.length < 2 ^ 62) :
    ACalls Try.prog W0 53 [v, g] H fun e H' => e = .ret (.b (l.any p)) ∧ Grows H H' := by
  refine acalls_by k53 (by simp) ?_
  simp -dsimp
  refine (f49 hs hg hmax).mono ?_
  rintro _ H2 ⟨hgr, ⟨i, h, rfl⟩ | ⟨h, rfl⟩⟩
  · simp -dsimp
    refine ⟨?_, hgr⟩
    rw [List.findIdx?_eq_some_iff_getElem] at h
    obtain ⟨hi, h, _⟩ := h
    exact ⟨_, List.getElem_mem hi, h⟩
  · simp -dsimp
    exact ⟨by simpa using h, hgr⟩

/-- slices.Delete of one. -/
theorem f51 {v : V} {c : α → List V} {l : List α} {F : Nat → Prop} {i : Nat} (hs : SlV H .rw 6 v (l.map c) F) (hi : i < l.length) (hmax : l.length < 2 ^ 20) :
    ACalls Try.prog W0 51 [v, .i .i64 i, .i .i64 (i + 1 : Nat)] H fun e H' => ∃ v', e = .ret v' ∧ SlV H' .rw 6 v' ((l.eraseIdx i).map c) F ∧ Keeps F H H' ∧ H'.next = H.next := by
  refine acalls_by k51 (by simp) ?_
  rcases hs with ⟨hnil, _⟩ | ⟨id, o, cap, cs, rfl, hF, hs⟩
  · simp only [List.map_eq_nil_iff] at hnil; subst hnil; simp at hi
  · have hle := hs.le
    simp only [List.length_map] at hle
    have e1 : ((i + 1 : Nat) : Int) = (i : Int) + 1 := by omega
    have ht : ((i : Int) + 1).toNat = i + 1 := by omega
    have f0 : (i : Int) ≤ (i : Int) + 1 := by omega
    have f1 : ¬ ((i : Int) = (i : Int) + 1) := by omega
    have f2 : 0 ≤ (i : Int) + 1 := by omega
    have f3 : (i : Int) + 1 ≤ (l.length : Int) := by omega
    have f4 : i ≤ cap := by omega
    have f5 : (i + (l.length - (i + 1))) * 40 ≤ 140737488355328 := by omega
    have f6 : i + (l.length - (i + 1)) ≤ 9223372036854775807 := by omega
    have f7 : i + (l.length - (i + 1)) ≤ cap := by omega
    obtain ⟨A, B, hcs, hA, hB⟩ := hs.parts
    have hl : l = l.take i ++ l[i] :: l.drop (i + 1) := by rw [List.getElem_cons_drop, List.take_append_drop]
    obtain ⟨R1, hR1⟩ : ∃ R, R = ((l.take i).map c).flatten := ⟨_, rfl⟩
    obtain ⟨R2, hR2⟩ : ∃ R, R = ((l.drop (i + 1)).map c).flatten := ⟨_, rfl⟩
    have each : ∀ x ∈ l, (c x).length = 6 := fun x hx => hs.each _ (List.mem_map_of_mem hx)
    have l1 : R1.length = i * 6 := by
      rw [hR1, flatten_length (es := 6) (by simp only [List.mem_map]; rintro _ ⟨x, hx, rfl⟩; exact each x (List.mem_of_mem_take hx))]
      simp; omega
    have l2 : R2.length = (l.length - (i + 1)) * 6 := by
      rw [hR2, flatten_length (es := 6) (by simp only [List.mem_map]; rintro _ ⟨x, hx, rfl⟩; exact each x (List.mem_of_mem_drop hx))]
      simp -dsimp
    have l3 : (c l[i]).length = 6 := each _ (List.getElem_mem hi)
    have hrows : (l.map c).flatten = R1 ++ (c l[i] ++ R2) := by
      conv => lhs; rw [hl]
      rw [List.map_append, List.map_cons, List.flatten_append, List.flatten_cons, ← hR1, ← hR2]
    have herase : ((l.eraseIdx i).map c).flatten = R1 ++ R2 := by
      rw [List.eraseIdx_eq_take_drop_succ, List.map_append, List.flatten_append, ← hR1, ← hR2]
    rw [hrows] at hcs
    have hld : ldCells H id (o + (i + 1) * 6) ((l.length - (i + 1)) * 6) = some R2 := by
      unfold ldCells
      rw [hs.get]
      simp only
      rw [if_pos (by rw [hcs]; simp -dsimp [hA, hB, l1, l2, l3]; omega), hcs]
      congr 1
      rw [show A ++ (R1 ++ (c l[i] ++ R2)) ++ B = (A ++ R1 ++ c l[i]) ++ (R2 ++ B) by simp]
      rw [List.drop_append, List.drop_eq_nil_of_le (by simp -dsimp [hA, l1, l3]; omega), List.nil_append]
      rw [show o + (i + 1) * 6 - (A ++ R1 ++ c l[i]).length = 0 by simp -dsimp [hA, l1, l3]; omega, List.drop_zero, List.take_append_of_le_length (by omega), List.take_of_length_le (by omega)]
    -- what lies there behind the move
    have key : AppP 6 40 (.sl 6 (some (id, o)) i cap) (.sl 6 (some (id, o + (i + 1) * 6)) (l.length - (i + 1)) (cap - (i + 1))) H fun v H1 => v = .sl 6 (some (id, o)) (l.length - 1) cap ∧
        ∃ T cs', T.length = 6 ∧ cs' = A ++ (R1 ++ R2) ++ (T ++ B) ∧ H1.get id = some (.cells .rw cs') ∧ Keeps F H H1 ∧ H1.next = H.next := by
      simp only [AppP, appendV, aact, X.ev, Tr.get_set, newCells, hld, hs.get]
      simp only [Nat.zero_ne_one, if_false, if_true, f5, f6, f7, and_self, reduceCtorEq, ne_eq, not_true_eq_false, hld, hs.get]
      by_cases hz : l.length - (i + 1) = 0
      · rw [if_pos hz]
        have : R2 = [] := List.eq_nil_of_length_eq_zero (by omega)
        subst this
        exact ⟨by congr 1; omega, c l[i], cs, l3, by rw [hcs]; simp, hs.get, Keeps.refl, rfl⟩
      · rw [if_neg hz, if_pos (by rw [hcs]; simp -dsimp [hA, hB, l1, l2, l3]; omega)]
        refine ⟨by congr 1; omega, (c l[i] ++ R2).drop R2.length, _, by simp -dsimp [l3], ?_, by rw [AH.get_set, if_pos rfl], Keeps.set fun _ => hF, rfl⟩
        rw [hcs, show A ++ (R1 ++ (c l[i] ++ R2)) ++ B = (A ++ R1) ++ (c l[i] ++ R2 ++ B) by simp, splice_parts (by simp -dsimp [hA, l1])]
        rw [List.drop_append_of_le_length (by simp -dsimp [l3])]
        simp -dsimp
    have f8 : l.length - 1 ≤ l.length := by omega
    have f9 : l.length - (l.length - 1) = 1 := by omega
    have f10 : ((l.length - 1 : Nat) : Int) ≤ (l.length : Int) := by omega
    simp -dsimp [e1, ht, hi, hle, f0, f1, f2, f3, f4]
    refine key.mono ?_
    rintro _ H1 ⟨rfl, T, cs', hT, hcs', hg1, hk1, hn1⟩
    simp only [List.length_map] at hB
    have f11 : o + (l.length - 1) * 6 + 6 ≤ cs'.length := by rw [hcs']; simp -dsimp [hA, hT, l1, l2]; omega
    simp -dsimp [e1, ht, hi, hle, f8, f9, f10, f11, hg1]
    refine ⟨.inr ⟨id, o, cap, A ++ ((l.eraseIdx i).map c).flatten ++ ([V.i IntKind.i64 0, V.i IntKind.u32 0, V.i IntKind.u32 0, V.i IntKind.i64 0, V.i IntKind.i64 0, V.i IntKind.i64 0] ++ B), by simp -dsimp [List.length_eraseIdx, hi], hF, ?_⟩, hk1.set_own hF, hn1⟩
    have hsp : splice cs' (o + (l.length - 1) * 6) [V.i IntKind.i64 0, V.i IntKind.u32 0, V.i IntKind.u32 0, V.i IntKind.i64 0, V.i IntKind.i64 0, V.i IntKind.i64 0] = A ++ ((l.eraseIdx i).map c).flatten ++ ([V.i IntKind.i64 0, V.i IntKind.u32 0, V.i IntKind.u32 0, V.i IntKind.i64 0, V.i IntKind.i64 0, V.i IntKind.i64 0] ++ B) := by
      rw [hcs', herase, splice_parts (by simp -dsimp [hA, l1, l2]; omega), show [V.i IntKind.i64 0, V.i IntKind.u32 0, V.i IntKind.u32 0, V.i IntKind.i64 0, V.i IntKind.i64 0, V.i IntKind.i64 0].length = T.length by rw [hT]; rfl, List.drop_left]
      simp -dsimp
    have hel : (l.eraseIdx i).length = l.length - 1 := by simp -dsimp [List.length_eraseIdx, hi]
    refine SlAt.of (A := A) (B := [V.i IntKind.i64 0, V.i IntKind.u32 0, V.i IntKind.u32 0, V.i IntKind.i64 0, V.i IntKind.i64 0, V.i IntKind.i64 0] ++ B) (by rw [AH.get_set, if_pos rfl, hsp]) (by simp -dsimp [hn1]; exact hs.lt) ?_ hA (by simp -dsimp [hel, hB]; omega) (by simp -dsimp [hel]; omega)
    simp only [List.mem_map]
    rintro _ ⟨x, hx, rfl⟩
    exact each x (List.mem_of_mem_eraseIdx hx)

theorem filter_take {α : Type} {p : α → Bool} {l : List α} {i : Nat} {r : α} (hr : l[i]? = some r) : (l.take (i + 1)).filter p = (l.take i).filter p ++ (if p r then [r] else []) := by
  rw [List.take_add_one, hr, List.filter_append]
  cases h : p r <;> simp -dsimp [h]

/-- slices.DeleteFunc. -/
theorem f52 {v g : V} {c : α → List V} {l : List α} {p : α → Bool} {F : Nat → Prop} (hs : SlV H .rw 6 v (l.map c) F) (hg : Tests W0 H g c p l F) (hone : ∀ x, (c x).all V.one = true) (hmax : l.length < 2 ^ 20) :
    ACalls Try.prog W0 52 [v, g] H fun e H' => ∃ v', e = .ret v' ∧ SlV H' .rw 6 v' ((l.filter fun x => !p x).map c) F ∧ Keeps F H H' := by
  refine acalls_by k52 (by simp) ?_
  simp -dsimp
  refine (f49 hs hg (by omega)).mono ?_
  rintro _ H1 ⟨hgr, ⟨i, h, rfl⟩ | ⟨h, rfl⟩⟩
  · rw [List.findIdx?_eq_some_iff_getElem] at h
    obtain ⟨hi, hpi, hno⟩ := h
    have f1 : ¬ ((i : Int) = -1) := by omega
    obtain ⟨f, us, bs, rfl, hg⟩ := hg
    rcases hs with ⟨hnil, _⟩ | ⟨id, o, cap, cs, rfl, hF, hs⟩
    · simp only [List.map_eq_nil_iff] at hnil; subst hnil; simp at hi
    have hle := hs.le
    obtain ⟨A, B, hcs, hA, hB⟩ := hs.parts
    simp only [List.length_map] at hle hB
    have each : ∀ x ∈ l, (c x).length = 6 := fun x hx => hs.each _ (List.mem_map_of_mem hx)
    have len6 : ∀ l' : List α, (∀ x ∈ l', x ∈ l) → ((l'.map c).flatten).length = l'.length * 6 := fun l' h' => by
      rw [flatten_length (es := 6) (by simp only [List.mem_map]; rintro _ ⟨x, hx, rfl⟩; exact each x (h' x hx))]; simp
    simp -dsimp [f1]
    rw [wrap_i64 (by omega) (by omega)]
    refine awp_loop (fun m env H2 => ∃ j : Nat, j ≤ l.length ∧ m = l.length - j ∧ Keeps F H H2 ∧ ((l.take j).filter fun x => !p x).length < j ∧
        env.get 0 = some (.sl 6 (some (id, o)) l.length cap) ∧ env.get 1 = some (.f (.func f) us bs) ∧ env.get 5 = some (.i .i64 ((l.take j).filter fun x => !p x).length) ∧ env.get 6 = some (.i .i64 j) ∧
        ∃ G, G.length = (j - ((l.take j).filter fun x => !p x).length) * 6 ∧ H2.get id = some (.cells .rw (A ++ (((l.take j).filter fun x => !p x).map c).flatten ++ (G ++ ((l.drop j).map c).flatten ++ B))))
      (l.length - (i + 1)) ⟨i + 1, by omega, rfl, hgr.keeps, ?_⟩ ?_
    · have hr : l[i]? = some l[i] := List.getElem?_eq_getElem hi
      have hk : (l.take i).filter (fun x => !p x) = l.take i := by
        rw [List.filter_eq_self]
        intro x hx
        obtain ⟨j, hj, rfl⟩ := List.getElem_of_mem hx
        simp only [List.length_take] at hj
        rw [List.getElem_take]
        simpa using hno j (by omega)
      have hk' : (l.take (i + 1)).filter (fun x => !p x) = l.take i := by rw [filter_take hr, hk]; simp -dsimp [hpi]
      rw [hk']
      refine ⟨by simp; omega, by simp, by simp, by simp; omega, by simp, c l[i], by simp -dsimp [each _ (List.getElem_mem hi)]; omega, ?_⟩
      rw [hgr.at hs.lt hs.get, hcs]
      have hl : l = l.take i ++ l[i] :: l.drop (i + 1) := by rw [List.getElem_cons_drop, List.take_append_drop]
      have hrows : (l.map c).flatten = ((l.take i).map c).flatten ++ (c l[i] ++ ((l.drop (i + 1)).map c).flatten) := by
        conv => lhs; rw [hl]
        rw [List.map_append, List.map_cons, List.flatten_append, List.flatten_cons]
      rw [hrows]
      simp only [List.append_assoc]
    · rintro m env H2 ⟨j, hj, rfl, hk, hkl, e0, e1, e5, e6, G, hG, hget⟩
      by_cases hlt : j < l.length
      · have hr : l[j]? = some l[j] := List.getElem?_eq_getElem hlt
        have lj := each _ (List.getElem_mem hlt)
        have lK := len6 ((l.take j).filter fun x => !p x) fun x hx => List.mem_of_mem_take (List.mem_filter.1 hx).1
        have lD := len6 (l.drop (j + 1)) fun x hx => List.mem_of_mem_drop hx
        have hdr : ((l.drop j).map c).flatten = c l[j] ++ ((l.drop (j + 1)).map c).flatten := by rw [List.drop_eq_getElem_cons hlt, List.map_cons, List.flatten_cons]
        obtain ⟨K, hK⟩ : ∃ K, K = (l.take j).filter fun x => !p x := ⟨_, rfl⟩
        rw [← hK] at hkl e5 hG hget lK
        rw [hdr] at hget
        have hid : id < H2.next := Nat.lt_of_lt_of_le hs.lt hk.next
        have hld : ldCells H2 id (o + j * 6) 6 = some (c l[j]) := by
          unfold ldCells
          rw [hget]
          simp only
          rw [if_pos (by simp -dsimp [hA, lK, hG, lj]; omega)]
          congr 1
          rw [show A ++ (K.map c).flatten ++ (G ++ (c l[j] ++ ((l.drop (j + 1)).map c).flatten) ++ B) = (A ++ (K.map c).flatten ++ G) ++ (c l[j] ++ (((l.drop (j + 1)).map c).flatten ++ B)) by simp]
          rw [List.drop_append, List.drop_eq_nil_of_le (by simp only [List.length_append, hA, lK, hG]; omega), List.nil_append]
          rw [show o + j * 6 - (A ++ (K.map c).flatten ++ G).length = 0 by simp only [List.length_append, hA, lK, hG]; omega, List.drop_zero, List.take_append_of_le_length (by omega), List.take_of_length_le (by omega)]
        have hone' := hone l[j]
        have hsp0 : splice [V.i IntKind.i64 0, V.i IntKind.u32 0, V.i IntKind.u32 0, V.i IntKind.i64 0, V.i IntKind.i64 0, V.i IntKind.i64 0] 0 (c l[j]) = c l[j] := by simp -dsimp [splice, lj]
        have htk : (c l[j]).take 6 = c l[j] := List.take_of_length_le (by omega)
        simp -dsimp [-List.all_eq_true, e0, e1, e5, e6, hlt, hld, lj, hone', hsp0, htk]
        refine (hg _ (List.getElem_mem hlt) _ (Keeps.alloc' hk)).mono ?_
        rintro _ H3 ⟨rfl, hg3⟩
        have hget3 : H3.get H2.next = some (.cells .rw (c l[j])) := hg3.at (by simp) (by simp)
        have hld3 : ldCells H3 H2.next 0 6 = some (c l[j]) := by simp -dsimp [ldCells, hget3, lj, htk]
        have hget3' := hg3.at (i := id) (by simp; omega) (by rw [AH.get_alloc, if_neg (by omega)]; exact hget)
        have hk3 : Keeps F H H3 := (Keeps.alloc' hk).trans (Keeps.mono hg3 fun _ _ h => h.elim)
        have hft := filter_take (p := fun x => !p x) hr
        rw [← hK] at hft
        obtain ⟨cs2, hcs2⟩ : ∃ cs2, cs2 = A ++ (K.map c).flatten ++ (G ++ (c l[j] ++ ((l.drop (j + 1)).map c).flatten) ++ B) := ⟨_, rfl⟩
        rw [← hcs2] at hget3'
        cases hp : p l[j]
        · have f2 : K.length < l.length := by omega
          have f3 : o + K.length * 6 + 6 ≤ cs2.length := by rw [hcs2]; simp only [List.length_append, hA, lK, hG, lj]; omega
          simp -dsimp [-List.all_eq_true, hp, e0, e1, e5, e6, hld3, f2, f3, hget3', lj, hone']
          rw [wrap_i64 (by omega) (by omega), wrap_i64 (by omega) (by omega)]
          rw [hp] at hft
          simp only [Bool.not_false, if_true] at hft
          refine ⟨l.length - (j + 1), by omega, j + 1, by omega, rfl, hk3.set_own hF, by rw [hft]; simp; omega, by rw [hft]; simp, rfl, (G ++ c l[j]).drop 6, by rw [hft]; simp -dsimp [hG, lj], ?_⟩
          rw [hft, hcs2, show A ++ (K.map c).flatten ++ (G ++ (c l[j] ++ ((l.drop (j + 1)).map c).flatten) ++ B) = (A ++ (K.map c).flatten) ++ (G ++ c l[j] ++ (((l.drop (j + 1)).map c).flatten ++ B)) by simp, splice_parts (by simp only [List.length_append, hA, lK]), lj,
            List.drop_append_of_le_length (l₁ := G ++ c l[j]) (by simp -dsimp [lj])]
          simp -dsimp
        · rw [hp] at hft
          simp only [Bool.not_true, Bool.false_eq_true, if_false, List.append_nil] at hft
          simp -dsimp [hp, e0, e1, e5, e6]
          rw [wrap_i64 (by omega) (by omega)]
          refine ⟨l.length - (j + 1), by omega, j + 1, by omega, rfl, hk3, by rw [hft]; omega, by rw [hft], by omega, G ++ c l[j], by rw [hft]; simp -dsimp [hG, lj]; omega, ?_⟩
          rw [hget3', hft, hcs2]
          simp -dsimp
      · have hjl : j = l.length := by omega
        subst hjl
        rw [List.take_length] at e5 hG hget hkl
        obtain ⟨K, hK⟩ : ∃ K, K = l.filter fun x => !p x := ⟨_, rfl⟩
        have lK := len6 (l.filter fun x => !p x) fun x hx => (List.mem_filter.1 hx).1
        rw [← hK] at hkl e5 hG hget lK
        rw [List.drop_length] at hget
        simp only [List.map_nil, List.flatten_nil, List.append_nil] at hget
        obtain ⟨m, hm⟩ : ∃ m, l.length - K.length = m + 1 := ⟨l.length - K.length - 1, by omega⟩
        have f2 : K.length ≤ l.length := by omega
        have f3 : K.length ≤ cap := by omega
        have f4 : o + K.length * 6 + (m + 1) * 6 ≤ (A ++ (K.map c).flatten ++ (G ++ B)).length := by simp only [List.length_append, hA, lK, hG]; omega
        obtain ⟨zs, hzs⟩ : ∃ zs, zs = (List.replicate (m + 1) [V.i IntKind.i64 0, V.i IntKind.u32 0, V.i IntKind.u32 0, V.i IntKind.i64 0, V.i IntKind.i64 0, V.i IntKind.i64 0]).flatten := ⟨_, rfl⟩
        have lz : zs.length = (m + 1) * 6 := by rw [hzs]; simp
        obtain ⟨cs2, hcs2⟩ : ∃ cs2, cs2 = A ++ (K.map c).flatten ++ (G ++ B) := ⟨_, rfl⟩
        rw [← hcs2] at hget f4
        simp -dsimp [e0, e1, e5, e6, hm, f2, f3, f4, hget, ← hzs]
        rw [← hK]
        have hsp : splice cs2 (o + K.length * 6) zs = A ++ (K.map c).flatten ++ (zs ++ B) := by
          rw [hcs2, splice_parts (by simp only [List.length_append, hA, lK]), show zs.length = G.length by rw [lz, hG, hm], List.drop_left]
          simp -dsimp
        refine ⟨.inr ⟨id, o, cap, A ++ (K.map c).flatten ++ (zs ++ B), by simp, hF, ?_⟩, hk.set_own hF⟩
        refine SlAt.of (A := A) (B := zs ++ B) (by rw [AH.get_set, if_pos rfl, hsp]) (Nat.lt_of_lt_of_le hs.lt hk.next) ?_ hA (by simp -dsimp [lz, hB]; omega) (by simp; omega)
        simp only [List.mem_map]
        rintro _ ⟨x, hx, rfl⟩
        rw [hK] at hx
        exact each x (List.mem_filter.1 hx).1
  · simp -dsimp
    rw [List.findIdx?_eq_none_iff] at h
    have : l.filter (fun x => !p x) = l := by
      rw [List.filter_eq_self]; intro x hx; simp -dsimp [h x hx]
    rw [this]
    exact ⟨hs.keep hgr fun _ _ h => h, hgr.keeps⟩
end Go.Proofs.Ytmdmabedfleacaa
