/- A part of the proof: contracts of functions, over the abstract machine. -/
import Derived.Test.YtmdmabedfleacaaTp1
set_option linter.unusedVariables false
set_option linter.unusedSimpArgs false
set_option linter.all false
namespace Ram
open Go
theorem AppP.and {es bytes : Nat} {x y : V} {H : AH} {K K' : V → AH → Prop} (h : AppP es bytes x y H K) (h' : AppP es bytes x y H K') : AppP es bytes x y H fun v H' => K v H' ∧ K' v H' := by
  unfold AppP at h h' ⊢
  split at h
  · next e => rw [e] at h'; exact ⟨h, h'⟩
  · exact h.elim

theorem app_full {H : AH} {es bytes : Nat} {v y : V} {rows ys : List (List V)} {F : Nat → Prop} (hs : SlV H .rw es v rows F) (hful : Full v) (hy : newCells H es y = some (ys.length, ys.flatten))
    (hb : (rows.length + ys.length) * bytes ≤ 140737488355328) (hb' : rows.length + ys.length ≤ 9223372036854775807) : AppP es bytes v y H fun v' _ => Full v' := by
  have e0 : (X.t 0).ev ((Tr.leaf.set 0 v).set 1 y) = some v := by simp
  have e1 : (X.t 1).ev ((Tr.leaf.set 0 v).set 1 y) = some y := by simp
  unfold AppP appendV
  rcases hs with ⟨rfl, e, rfl⟩ | ⟨id, o, cap, cs, rfl, hF, hs⟩
  · simp only [aact, e0, e1, hy, Nat.zero_add]
    simp only [List.length_nil, Nat.zero_add] at hb hb'
    rw [if_pos ⟨hb, hb'⟩]
    by_cases hz : ys.length = 0
    · simp only [hz, if_true]; intro e a n cap he; cases he; rfl
    · simp only [hz, if_false]; intro e a n cap he; cases he; rfl
  · have hcap : rows.length = cap := hful _ _ _ _ rfl
    simp only [aact, e0, e1, hy]
    rw [if_pos ⟨hb, hb'⟩]
    by_cases hz : ys.length = 0
    · simp only [ne_eq, not_true_eq_false, if_false, hz, if_true]; intro e a n cap he; cases he; exact hcap
    · simp only [ne_eq, not_true_eq_false, if_false, hz, hs.get]
      rw [if_neg (by decide), if_neg (by omega), if_pos (by rw [hcap]; exact hs.fit)]
      intro e a n cap he; cases he; rfl
end Ram
namespace Go.Proofs.Ytmdmabedfleacaa
open Ram Go

variable {W0 : World} {H : AH}

theorem iRow_len {ms : List Int} {r : List V} (h : r ∈ ms.map iRow) : r.length = 1 := by
  obtain ⟨z, _, rfl⟩ := List.mem_map.1 h; rfl

/-- rampartref22.sorted. -/
theorem f65 {l : List Int} {v : V} {G : Nat → Prop} (hv : SlV H .rw 1 v (l.map iRow) G) (hl : l.length < 1000) : ACalls Try.prog W0 65 [v] H fun e H' => ∃ v', e = .ret v' ∧ SlV H' .rw 1 v' ((sortI l).map iRow) (Up NoId H H') ∧ Grows H H' := by
  refine acalls_in k65 (by simp) ?_
  obtain ⟨e', a', cap', hve⟩ := hv.len
  rw [List.length_map] at hve
  simp -dsimp
  refine awp_round (fun m env H1 => ∃ (i : Nat) (ms : List Int) (vm : V), i ≤ l.length ∧ m = l.length - i ∧ env.get 0 = some v ∧ env.get 4 = some (.i .i64 i) ∧ env.get 3 = some vm ∧ SlV H1 .rw 1 vm (ms.map iRow) (Up NoId H H1) ∧ ms.Perm (l.take i) ∧ ms.Pairwise (· ≤ ·) ∧ Grows H H1) l.length
    ⟨0, [], _, by omega, by omega, by simp, by simp, by simp; rfl, .inl ⟨rfl, _, rfl⟩, by simp, .nil, Keeps.refl⟩ ?_
  rintro m env H1 ⟨i, ms, vm, hi, rfl, e0, e4, e3, hsm, hperm, hsort, g1⟩
  have hml : ms.length = i := by rw [hperm.length_eq, List.length_take]; omega
  by_cases hlt : i < l.length
  · have hv1 := hv.keep g1 fun _ _ h => h
    rcases hv1 with ⟨hnil, _⟩ | ⟨id, o, cap, cs, hvv, _, hv1⟩
    · simp only [List.map_eq_nil_iff] at hnil; subst hnil; simp at hlt
    rw [List.length_map] at hvv
    have hc := hv1.cell (i := i) (j := 0) (r := iRow l[i]) (by rw [List.getElem?_map, List.getElem?_eq_getElem hlt]; rfl) (by omega)
    simp [iRow] at hc
    obtain ⟨em, am, cm, hvm⟩ := hsm.len
    rw [List.length_map] at hvm
    simp -dsimp [e0, e4, hve, hlt]
    refine awp_round (fun m env H2 => ∃ k : Nat, k ≤ ms.length ∧ m = ms.length - k ∧ H1 = H2 ∧ env.get 0 = some v ∧ env.get 4 = some (.i .i64 i) ∧ env.get 3 = some vm ∧ env.get 5 = some (.i .i64 k) ∧ ∀ j (hj : j < ms.length), j < k → ms[j] < l[i]) ms.length
      ⟨0, by omega, by omega, rfl, by simp [e0], by simp [e4], by simp [e3], by simp, by intros; omega⟩ ?_
    clear e0 e4 e3
    rintro m env _ ⟨k, hk, rfl, rfl, e0, e4, e3, e5, hlow⟩
    have hwk : IntKind.i64.wrap ((k : Int) + 1) = (k : Int) + 1 := wrap_i64 (by omega) (by omega)
    have hwi : IntKind.i64.wrap ((i : Int) + 1) = (i : Int) + 1 := wrap_i64 (by omega) (by omega)
    by_cases hcont : ∃ hkl : k < ms.length, ms[k] < l[i]
    · obtain ⟨hkl, hlt2⟩ := hcont
      rcases hsm with ⟨hnil, _⟩ | ⟨idm, om, capm, csm, hvm', _, hsm⟩
      · simp only [List.map_eq_nil_iff] at hnil; subst hnil; simp at hkl
      rw [List.length_map] at hvm'
      have hcm := hsm.cell (i := k) (j := 0) (r := iRow ms[k]) (by rw [List.getElem?_map, List.getElem?_eq_getElem hkl]; rfl) (by omega)
      simp [iRow] at hcm
      simp -dsimp [e0, e3, e4, e5, hvm', hkl, hvv, hlt, hsm.get, hcm, hv1.get, hc, hlt2, hwk]
      refine hold_mk ⟨ms.length - (k + 1), by omega, k + 1, by omega, rfl, rfl, by simp [e0, hvv], by simp [e4], by simp [e3, hvm'], by simp, fun j hj hjk => ?_⟩
      by_cases e : j = k
      · subst e; exact hlt2
      · exact hlow j hj (by omega)
    · have hhigh : ∀ hkl : k < ms.length, l[i] ≤ ms[k] := fun hkl => by
        have : ¬ ms[k] < l[i] := fun h => hcont ⟨hkl, h⟩
        omega
      rcases hsm with ⟨hnil, em2, hvm'⟩ | ⟨idm, om, capm, csm, hvm', hGm, hsm⟩
      · simp only [List.map_eq_nil_iff] at hnil
        have hk0 : k = 0 := by rw [hnil] at hk; simpa using hk
        subst hk0
        simp -dsimp [e0, e3, e4, e5, hvm']
        refine ((app_nil (es := 1) (ys := (ms.map iRow).take 0) (by rfl) (fun r hr => iRow_len (List.mem_of_mem_take hr)) (by simp <;> omega) (by simp <;> omega))).mono ?_
        rintro v1 H2 ⟨hs1, g2, hful⟩
        have n1 := g1.next
        have n2 := g2.next
        have hv2 := hv1.keep (F := NoId) g2 fun h => h
        simp -dsimp [e0, e3, e4, e5, hvv, hlt, hv2.get, hc, hvm']
        have hk2 : Grows H2 ((H2.bump 12).set (H2.next + 5) (.cells .rw (iRow l[i]))) := ⟨by simp, fun j hj _ => by rw [AH.get_set, if_neg (by omega), bump_get]⟩
        have hs1' := hs1.keep hk2 fun _ _ h => h
        refine ((app_row hs1' (r := iRow l[i]) (by simp [iRow]) (by simp [iRow]) (by simp <;> omega) (by simp <;> omega)).and (app_full hs1' hful (ys := [iRow l[i]]) (by simp [iRow]) (by simp <;> omega) (by simp <;> omega))).mono ?_
        rintro v2 H3 ⟨⟨hs2, k3⟩, hful2⟩
        have n3 := k3.next
        simp at n3
        have g3 : Grows H1 H3 := (Keeps.trans g2 hk2).then k3 fun j hj h => by
          rcases h with h | h
          · exact h
          · omega
        simp -dsimp [e0, e3, e4, e5, hvm', hvm']
        refine (app_rows hs2 (ys := (ms.map iRow).drop 0) (by rw [hnil]; rfl) (fun r hr => iRow_len (List.mem_of_mem_drop hr)) (by simp <;> omega) (by simp <;> omega) (fun e a n cap he => by
          right
          obtain ⟨e9, a9, c9, h9⟩ := hs2.len
          have h10 := hful2 _ _ _ _ h9
          rw [h9] at he; cases he; exact h10)).mono ?_
        rintro v3 H4 ⟨hs3, k4⟩
        have n4 := k4.next
        simp -dsimp [e0, e3, e4, e5, hwi]
        have hms : (ms.map iRow).take 0 ++ [iRow l[i]] ++ (ms.map iRow).drop 0 = (ms.take 0 ++ [l[i]] ++ ms.drop 0).map iRow := by simp
        rw [hms] at hs3
        refine hold_mk ⟨l.length - (i + 1), by omega, i + 1, ms.take 0 ++ [l[i]] ++ ms.drop 0, v3, by omega, rfl, by simp [e0, hvv], by simp, by simp, hs3.mono fun j hj => ?_, ?_, ins_sorted hsort hlow hhigh, (g1.trans g3).then k4 fun j hj h => ?_⟩
        · rcases hj with (h | h) | h
          · rcases h with h | h
            · exact h.elim
            · exact .inr ⟨by omega, by omega⟩
          · simp at h; exact .inr ⟨by omega, by omega⟩
          · exact .inr ⟨by omega, h.2⟩
        · have h1 : (ms.take 0 ++ [l[i]] ++ ms.drop 0).Perm (l[i] :: ms) := by
            rw [List.append_assoc, List.singleton_append]
            refine List.perm_middle.trans ?_
            rw [List.take_append_drop]
          refine h1.trans ?_
          rw [List.take_add_one, List.getElem?_eq_getElem hlt]
          exact (List.Perm.cons _ hperm).trans (List.perm_append_comm (l₁ := [l[i]]))
        · rcases h with h | h
          · rcases h with h | h
            · exact h
            · omega
          · simp at h; omega
      · rw [List.length_map] at hvm'
        have hcapm : ms.length ≤ capm := by have := hsm.le; simpa using this
        have hk1 : (k : Int) ≤ capm := by omega
        have hk2' : (k : Int) ≤ ms.length := by omega
        have sA : SlV H1 .rw 1 (.sl 1 (some (idm, om)) k capm) ((ms.map iRow).take k) (fun _ => True) := .inr ⟨idm, om, capm, csm, by simp; omega, trivial, hsm.take k⟩
        have sB : ∀ H', Grows H1 H' → SlV H' .rw 1 (.sl 1 (some (idm, om + k)) (ms.length - k) (capm - k)) ((ms.map iRow).drop k) (fun _ => True) := fun H' g => .inr ⟨idm, om + k * 1, capm - k, csm, by simp, trivial, (hsm.keep (F := NoId) g fun h => h).drop (by simp; omega)⟩
        by_cases hkl : k < ms.length
        · have hcm := hsm.cell (i := k) (j := 0) (r := iRow ms[k]) (by rw [List.getElem?_map, List.getElem?_eq_getElem hkl]; rfl) (by omega)
          simp [iRow] at hcm
          have hng : ¬ ms[k] < l[i] := fun h => hcont ⟨hkl, h⟩
          simp -dsimp [e0, e3, e4, e5, hvm', hkl, hvv, hlt, hsm.get, hcm, hv1.get, hc, hng, hk1, hk2']
          refine ((app_nil (es := 1) (ys := (ms.map iRow).take k) (newCells_of sA) (fun r hr => iRow_len (List.mem_of_mem_take hr)) (by simp <;> omega) (by simp <;> omega))).mono ?_
          rintro v1 H2 ⟨hs1, g2, hful⟩
          have n1 := g1.next
          have n2 := g2.next
          have hv2 := hv1.keep (F := NoId) g2 fun h => h
          simp -dsimp [e0, e3, e4, e5, hvv, hlt, hv2.get, hc, hvm', hk1, hk2']
          have hk2 : Grows H2 ((H2.bump 12).set (H2.next + 5) (.cells .rw (iRow l[i]))) := ⟨by simp, fun j hj _ => by rw [AH.get_set, if_neg (by omega), bump_get]⟩
          have hs1' := hs1.keep hk2 fun _ _ h => h
          refine ((app_row hs1' (r := iRow l[i]) (by simp [iRow]) (by simp [iRow]) (by simp <;> omega) (by simp <;> omega)).and (app_full hs1' hful (ys := [iRow l[i]]) (by simp [iRow]) (by simp <;> omega) (by simp <;> omega))).mono ?_
          rintro v2 H3 ⟨⟨hs2, k3⟩, hful2⟩
          have n3 := k3.next
          simp at n3
          have g3 : Grows H1 H3 := (Keeps.trans g2 hk2).then k3 fun j hj h => by
            rcases h with h | h
            · exact h
            · omega
          simp -dsimp [e0, e3, e4, e5, hvm', hvm', hk1, hk2']
          refine (app_rows hs2 (ys := (ms.map iRow).drop k) (newCells_of (sB H3 g3)) (fun r hr => iRow_len (List.mem_of_mem_drop hr)) (by simp <;> omega) (by simp <;> omega) (fun e a n cap he => by
            right
            obtain ⟨e9, a9, c9, h9⟩ := hs2.len
            have h10 := hful2 _ _ _ _ h9
            rw [h9] at he; cases he; exact h10)).mono ?_
          rintro v3 H4 ⟨hs3, k4⟩
          have n4 := k4.next
          simp -dsimp [e0, e3, e4, e5, hwi]
          have hms : (ms.map iRow).take k ++ [iRow l[i]] ++ (ms.map iRow).drop k = (ms.take k ++ [l[i]] ++ ms.drop k).map iRow := by simp
          rw [hms] at hs3
          refine hold_mk ⟨l.length - (i + 1), by omega, i + 1, ms.take k ++ [l[i]] ++ ms.drop k, v3, by omega, rfl, by simp [e0, hvv], by simp, by simp, hs3.mono fun j hj => ?_, ?_, ins_sorted hsort hlow hhigh, (g1.trans g3).then k4 fun j hj h => ?_⟩
          · rcases hj with (h | h) | h
            · rcases h with h | h
              · exact h.elim
              · exact .inr ⟨by omega, by omega⟩
            · simp at h; exact .inr ⟨by omega, by omega⟩
            · exact .inr ⟨by omega, h.2⟩
          · have h1 : (ms.take k ++ [l[i]] ++ ms.drop k).Perm (l[i] :: ms) := by
              rw [List.append_assoc, List.singleton_append]
              refine List.perm_middle.trans ?_
              rw [List.take_append_drop]
            refine h1.trans ?_
            rw [List.take_add_one, List.getElem?_eq_getElem hlt]
            exact (List.Perm.cons _ hperm).trans (List.perm_append_comm (l₁ := [l[i]]))
          · rcases h with h | h
            · rcases h with h | h
              · exact h
              · omega
            · simp at h; omega
        · simp -dsimp [e0, e3, e4, e5, hvm', hkl, hvv, hlt, hk1, hk2']
          refine ((app_nil (es := 1) (ys := (ms.map iRow).take k) (newCells_of sA) (fun r hr => iRow_len (List.mem_of_mem_take hr)) (by simp <;> omega) (by simp <;> omega))).mono ?_
          rintro v1 H2 ⟨hs1, g2, hful⟩
          have n1 := g1.next
          have n2 := g2.next
          have hv2 := hv1.keep (F := NoId) g2 fun h => h
          simp -dsimp [e0, e3, e4, e5, hvv, hlt, hv2.get, hc, hvm', hk1, hk2']
          have hk2 : Grows H2 ((H2.bump 12).set (H2.next + 5) (.cells .rw (iRow l[i]))) := ⟨by simp, fun j hj _ => by rw [AH.get_set, if_neg (by omega), bump_get]⟩
          have hs1' := hs1.keep hk2 fun _ _ h => h
          refine ((app_row hs1' (r := iRow l[i]) (by simp [iRow]) (by simp [iRow]) (by simp <;> omega) (by simp <;> omega)).and (app_full hs1' hful (ys := [iRow l[i]]) (by simp [iRow]) (by simp <;> omega) (by simp <;> omega))).mono ?_
          rintro v2 H3 ⟨⟨hs2, k3⟩, hful2⟩
          have n3 := k3.next
          simp at n3
          have g3 : Grows H1 H3 := (Keeps.trans g2 hk2).then k3 fun j hj h => by
            rcases h with h | h
            · exact h
            · omega
          simp -dsimp [e0, e3, e4, e5, hvm', hvm', hk1, hk2']
          refine (app_rows hs2 (ys := (ms.map iRow).drop k) (newCells_of (sB H3 g3)) (fun r hr => iRow_len (List.mem_of_mem_drop hr)) (by simp <;> omega) (by simp <;> omega) (fun e a n cap he => by
            right
            obtain ⟨e9, a9, c9, h9⟩ := hs2.len
            have h10 := hful2 _ _ _ _ h9
            rw [h9] at he; cases he; exact h10)).mono ?_
          rintro v3 H4 ⟨hs3, k4⟩
          have n4 := k4.next
          simp -dsimp [e0, e3, e4, e5, hwi]
          have hms : (ms.map iRow).take k ++ [iRow l[i]] ++ (ms.map iRow).drop k = (ms.take k ++ [l[i]] ++ ms.drop k).map iRow := by simp
          rw [hms] at hs3
          refine hold_mk ⟨l.length - (i + 1), by omega, i + 1, ms.take k ++ [l[i]] ++ ms.drop k, v3, by omega, rfl, by simp [e0, hvv], by simp, by simp, hs3.mono fun j hj => ?_, ?_, ins_sorted hsort hlow hhigh, (g1.trans g3).then k4 fun j hj h => ?_⟩
          · rcases hj with (h | h) | h
            · rcases h with h | h
              · exact h.elim
              · exact .inr ⟨by omega, by omega⟩
            · simp at h; exact .inr ⟨by omega, by omega⟩
            · exact .inr ⟨by omega, h.2⟩
          · have h1 : (ms.take k ++ [l[i]] ++ ms.drop k).Perm (l[i] :: ms) := by
              rw [List.append_assoc, List.singleton_append]
              refine List.perm_middle.trans ?_
              rw [List.take_append_drop]
            refine h1.trans ?_
            rw [List.take_add_one, List.getElem?_eq_getElem hlt]
            exact (List.Perm.cons _ hperm).trans (List.perm_append_comm (l₁ := [l[i]]))
          · rcases h with h | h
            · rcases h with h | h
              · exact h
              · omega
            · simp at h; omega
  · have : i = l.length := by omega
    subst this
    rw [List.take_length] at hperm
    simp -dsimp [e0, e3, e4, hve, hlt]
    rw [sortI_unique hperm hsort] at hsm
    exact fin_mk ⟨_, rfl, hsm, g1⟩
end Go.Proofs.Ytmdmabedfleacaa
