/- A part of the proof: contracts of functions, over the abstract machine. -/
import Derived.Test.YtmdmabedfleacaaDoorCi10
set_option linter.unusedVariables false
set_option linter.unusedSimpArgs false
set_option linter.all false
namespace Go.Proofs.YtmdmabedfleacaaDoor
open Ram Go

variable {W0 : World} {H : AH}

theorem goR_eq (x n : Net) (i k : Nat) : (decide (k ≠ i) && (covers n x && (!(covers x n && covers n x) || decide (k < i)))) = goK x n i k := by
  unfold goK covers inNet
  by_cases h1 : n.bits < x.bits
  · have h2 : n.bits ≤ x.bits := by omega
    have h3 : ¬ x.bits ≤ n.bits := by omega
    simp [h1, h2, h3]
  · by_cases h2 : n.bits = x.bits
    · rw [h2]
      simp only [Int.le_refl, decide_true, Bool.true_and, Int.lt_irrefl, decide_false, Bool.false_or]
      by_cases h3 : top x.bits.toNat x.addr = top x.bits.toNat n.addr
      · simp [h3]
      · simp [h3]
    · have h3 : ¬ n.bits ≤ x.bits := by omega
      simp [h1, h2, h3]

/-- Up to a place: says nothing. -/
def goesTo (l : List Net) (x : Net) (i k : Nat) : Bool := ((l.take k).zipIdx).any fun p => goK x p.1 i p.2
theorem goesTo_step {l : List Net} {x : Net} {i k : Nat} (h : k < l.length) : goesTo l x i (k + 1) = (goesTo l x i k || goK x l[k] i k) := by
  unfold goesTo
  rw [List.take_add_one, List.getElem?_eq_getElem h, Option.toList_some, List.zipIdx_append, List.any_append]
  have hl : (l.take k).length = k := by rw [List.length_take]; omega
  rw [hl, List.zipIdx_singleton, Nat.zero_add]
  simp
theorem goesTo_all (l : List Net) (x : Net) (i : Nat) : goesTo l x i l.length = goesB l x i := by unfold goesTo goesB; rw [List.take_length]

set_option maxRecDepth 4000 in
/-- rampartref09.Clean. -/
theorem f27 {not : Bool} {v : V} {l : List Net} {md : Md} {F : Nat → Prop} (hs : SlV H md 2 v (l.map nRow) F) (hl : l.length < 4611686018427387904) (hn : ∀ n ∈ l, n.ok) : ACalls Tryd.prog W0 27 [.agg [.b not, v]] H fun e H' =>
    ∃ v', e = .ret (.agg [.b (okSet l && not), v']) ∧ SlV H' .rw 2 v' ((cleanL l).map nRow) (Up NoId H H') ∧ Grows H H' := by
  obtain ⟨e', a', cap', hv⟩ := hs.len
  rw [List.length_map] at hv
  have hone : V.one v = true := by rw [hv]; rfl
  refine acalls_in k27 (by simp) ?_
  have hk0 : ∀ X Y, Grows H ((H.alloc X).alloc Y) := fun _ _ => Keeps.alloc' (Keeps.alloc' Keeps.refl)
  simp -dsimp [hone]
  refine (f23 (hs.keep (hk0 _ _) fun _ _ h => h) hl).next ?_
  rintro H2 h2
  have g2 := (hk0 _ _).trans h2
  have n2 := h2.next
  simp at n2
  have gx := Grows.at h2 (i := H.next) (o := .cells .rw [.b not, v]) (by simp <;> omega) (by simp)
  have gr := Grows.at h2 (i := H.next + 1) (o := .cells .rw [.b false, .sl 0 none 0 0]) (by simp <;> omega) (by simp)
  cases hok : okSet l
  · simp -dsimp [gr, splice]
    refine fin_mk ⟨_, rfl, .inl ⟨by simp [cleanL, hok], _, rfl⟩, Keeps.set_new g2 (by omega)⟩
  · have hl4 := okSet_len hok
    have ne1 : ¬ H.next = H2.next := by omega
    have ne2 : ¬ H.next + 1 = H2.next := by omega
    simp -dsimp [gx, splice, ne1]
    have k2 : Grows H2 (H2.alloc (.cells .rw [.b not, .sl 0 none 0 0])) := Keeps.alloc' Keeps.refl
    refine awp_round (fun m env H1 => ∃ (i : Nat) (v3 : V) (FG : Nat → Prop), i ≤ l.length ∧ m = l.length - i ∧ Grows H H1 ∧ env.get 1 = some (.p (some (H.next, 0))) ∧ env.get 2 = some (.p (some (H.next + 1, 0))) ∧ env.get 3 = some (.p (some (H2.next, 0))) ∧ env.get 4 = some (.i .i64 i) ∧
      H1.get H.next = some (.cells .rw [.b not, v]) ∧ H1.get (H.next + 1) = some (.cells .rw [.b false, .sl 0 none 0 0]) ∧ H1.get H2.next = some (.cells .rw [.b not, v3]) ∧ H2.next < H1.next ∧ SlV H1 .rw 2 v3 ((cleanTo l i).map nRow) FG ∧ ∀ j, FG j → H2.next < j ∧ j < H1.next) l.length
      ⟨0, _, NoId, by omega, by omega, g2.trans k2, by simp, by simp, by simp, by simp, by rw [AH.get_alloc, if_neg ne1]; exact gx, by rw [AH.get_alloc, if_neg ne2]; exact gr, by simp; rfl, by simp, .inl ⟨by simp [cleanTo], _, rfl⟩, fun j h => h.elim⟩ ?_
    rintro m env H1 ⟨i, v3, FG, hi, rfl, hgr, e1, e2, e3, e4, gx1, gr1, gc1, nc1, hs3, hFG⟩
    have n1 := hgr.next
    by_cases hlt : i < l.length
    · obtain ⟨id, o, cap, cs, hvv, hF, hs, idl⟩ := at_row hs hlt
      have hs1 := hs.keep hgr fun h => h
      have hri : (l.map nRow)[i]? = some (nRow l[i]) := by rw [List.getElem?_map, List.getElem?_eq_getElem hlt]; rfl
      have hrowi := hs1.row hri
      simp only [nRow] at hrowi
      have hwi := wrap_succ (i := i) (by omega)
      obtain ⟨bi0, bi1⟩ := okSet_at hok hlt
      have ni := hn _ (List.getElem_mem hlt)
      obtain ⟨k, hk⟩ := Int.eq_ofNat_of_zero_le bi0
      have hk33 : k < 33 := by omega
      have hand := and_mk ni.a0 ni.a1 (k := k) (by omega)
      have hst := cleanTo_step hlt
      rw [hvv] at gx1
      simp -dsimp [e1, e2, e3, e4, gx1, hlt]
      refine awp_round (fun m env H3 => ∃ k : Nat, k ≤ l.length ∧ m = l.length - k ∧ Grows H1 H3 ∧ env.get 1 = some (.p (some (H.next, 0))) ∧ env.get 2 = some (.p (some (H.next + 1, 0))) ∧ env.get 3 = some (.p (some (H2.next, 0))) ∧ env.get 4 = some (.i .i64 i) ∧ env.get 6 = some (.i .i64 k) ∧ env.get 5 = some (.b (goesTo l l[i] i k))) l.length
        ⟨0, by omega, by omega, Keeps.refl, by simp [e1], by simp [e2], by simp [e3], by simp [e4], by simp, by simp [goesTo]⟩ ?_
      clear e1 e2 e3 e4
      rintro m env H3 ⟨k', hkl, rfl, hg3, e1, e2, e3, e4, e6, e5⟩
      have n3 := hg3.next
      have gx3 := Grows.at hg3 (by omega) gx1
      by_cases hlk : k' < l.length
      · obtain ⟨bk0, bk1⟩ := okSet_at hok hlk
        have nk := hn _ (List.getElem_mem hlk)
        have hwk := wrap_succ (i := k') (by omega)
        have hgs := goesTo_step (x := l[i]) (i := i) hlk
        rw [← goR_eq] at hgs
        have hrk : (l.map nRow)[k']? = some (nRow l[k']) := by rw [List.getElem?_map, List.getElem?_eq_getElem hlk]; rfl
        obtain ⟨acc, hacc⟩ : ∃ acc, acc = goesTo l l[i] i k' := ⟨_, rfl⟩
        rw [← hacc] at e5 hgs
        refine awp_cut (fun env' H' => H' = H3 ∧ env'.get 1 = some (.p (some (H.next, 0))) ∧ env'.get 2 = some (.p (some (H.next + 1, 0))) ∧ env'.get 3 = some (.p (some (H2.next, 0))) ∧ env'.get 4 = some (.i .i64 i) ∧ env'.get 6 = some (.i .i64 k') ∧ env'.get 5 = some (.b acc)) ?_ ?_
        · simp -dsimp [e1, e6, gx3, hlk]
          exact hold_mk ⟨rfl, by simp [e1], by simp [e2], by simp [e3], by simp [e4], by simp [e6], by simp [e5]⟩
        · clear e1 e2 e3 e4 e5 e6
          rintro env H' ⟨rfl, e1, e2, e3, e4, e6, e5⟩
          rw [awp_seq, awp_block]
          refine awp_cut (fun env' H' => Grows H1 H' ∧ env'.get 1 = some (.p (some (H.next, 0))) ∧ env'.get 2 = some (.p (some (H.next + 1, 0))) ∧ env'.get 3 = some (.p (some (H2.next, 0))) ∧ env'.get 4 = some (.i .i64 i) ∧ env'.get 6 = some (.i .i64 k') ∧ env'.get 5 = some (.b acc) ∧ env'.get 7 = some (.b (covers l[i] l[k'] && covers l[k'] l[i]))) ?_ ?_
          · have hs3' := hs1.keep hg3 fun h => h
            have hrow3 := hs3'.row hri
            have hrowk := hs3'.row hrk
            simp only [nRow] at hrow3 hrowk
            simp -dsimp [e1, e4, e6, gx3, hlk, hlt, hrow3, hrowk]
            refine (f39 ni bi0 bi1 nk).next ?_
            rintro H4 h4
            have g4 := hg3.trans h4
            have gx4 := Grows.at h4 (by omega) gx3
            have hs4 := hs1.keep g4 fun h => h
            have hrow4 := hs4.row hri
            have hrowk4 := hs4.row hrk
            simp only [nRow] at hrow4 hrowk4
            cases c1 : covers l[i] l[k']
            · simp -dsimp
              exact hold_mk ⟨g4, by simp [e1], by simp [e2], by simp [e3], by simp [e4], by simp [e6], by simp [e5], by simp⟩
            · simp -dsimp [e1, e4, e6, gx4, hlk, hlt, hrow4, hrowk4]
              refine (f39 nk bk0 bk1 ni).next ?_
              rintro H5 h5
              simp -dsimp
              exact hold_mk ⟨g4.trans h5, by simp [e1], by simp [e2], by simp [e3], by simp [e4], by simp [e6], by simp [e5], by simp⟩
          · clear e1 e2 e3 e4 e5 e6
            rintro env H4 ⟨g4, e1, e2, e3, e4, e6, e5, e7⟩
            have gx4 := Grows.at g4 (by omega) gx1
            have hs4 := hs1.keep g4 fun h => h
            have hrow4 := hs4.row hri
            have hrowk4 := hs4.row hrk
            simp only [nRow] at hrow4 hrowk4
            cases acc
            · by_cases hki : k' = i
              · subst hki
                simp -dsimp [e1, e2, e3, e4, e5, e6, hwk]
                exact hold_mk ⟨l.length - (k' + 1), by omega, k' + 1, by omega, rfl, g4, by simp [e1], by simp [e2], by simp [e3], by simp [e4], by simp, by rw [hgs]; simp⟩
              · have hki' : ¬ (k' : Int) = i := by omega
                simp -dsimp [e1, e2, e3, e4, e5, e6, hki', gx4, hlk, hlt, hrow4, hrowk4]
                refine (f39 nk bk0 bk1 ni).next ?_
                rintro H5 h5
                have g5 := g4.trans h5
                cases c2 : covers l[k'] l[i]
                · rw [c2] at e7 hgs
                  simp -dsimp [e1, e2, e3, e4, e5, e6, hwk]
                  exact hold_mk ⟨l.length - (k' + 1), by omega, k' + 1, by omega, rfl, g5, by simp [e1], by simp [e2], by simp [e3], by simp [e4], by simp, by rw [hgs]; simp⟩
                · rw [c2] at e7 hgs
                  cases c1 : covers l[i] l[k']
                  · rw [c1] at e7 hgs
                    simp -dsimp [e1, e2, e3, e4, e5, e6, e7, hwk]
                    exact hold_mk ⟨l.length - (k' + 1), by omega, k' + 1, by omega, rfl, g5, by simp [e1], by simp [e2], by simp [e3], by simp [e4], by simp, by rw [hgs]; simp [hki]⟩
                  · rw [c1] at e7 hgs
                    have hcmp : ((k' : Int) < i) = (k' < i) := by rw [eq_iff_iff]; omega
                    simp -dsimp [e1, e2, e3, e4, e5, e6, e7, hwk, hcmp]
                    exact hold_mk ⟨l.length - (k' + 1), by omega, k' + 1, by omega, rfl, g5, by simp [e1], by simp [e2], by simp [e3], by simp [e4], by simp, by rw [hgs]; simp [hki]⟩
            · simp -dsimp [e1, e2, e3, e4, e5, e6, hwk]
              exact hold_mk ⟨l.length - (k' + 1), by omega, k' + 1, by omega, rfl, g4, by simp [e1], by simp [e2], by simp [e3], by simp [e4], by simp, by rw [hgs]; simp⟩
      · have : k' = l.length := by omega
        subst this
        rw [goesTo_all] at e5
        have up : ∀ {j : Nat} {x : AO}, j < H1.next → H1.get j = some x → H3.get j = some x := fun {j x} hj hx => Grows.at hg3 hj hx
        have gr3 := up (by omega) gr1
        have gc3 := up nc1 gc1
        have hs3' := hs1.keep hg3 fun h => h
        have a0 := hs3'.cell (j := 0) hri (by omega)
        have a1 := hs3'.cell (j := 1) hri (by omega)
        simp at a0 a1
        rw [hk] at a1
        cases hg : goesB l l[i] i
        · rw [hg] at hst e5
          simp only [Bool.false_eq_true, if_false] at hst
          simp -dsimp [e1, e2, e3, e4, e6, e5, gx3, hlt, hs3'.get, a0, a1, gc3]
          have kb : Grows H3 (H3.bump 27) := ⟨by simp, fun j hj _ => by rw [bump_get]⟩
          refine (f40 (by omega)).next ?_
          rintro _ rfl
          simp -dsimp [e1, e2, e3, e4, e6, e5, gx3, hlt, hs3'.get, a0, a1, gc3, hand]
          have hcut : cut1 l[i] = ⟨top k l[i].addr * 2 ^ (32 - k), k⟩ := by unfold cut1; rw [hk]; rfl
          have hlc := cleanTo_len l i
          obtain ⟨H5, hH5⟩ : ∃ H5, H5 = (H3.bump 27).set (H3.next + 23) (.cells .rw (nRow (cut1 l[i]))) := ⟨_, rfl⟩
          have hsh : (H3.bump 27).set (H3.next + 23) (.cells .rw [.i .u32 (top k l[i].addr * 2 ^ (32 - k)), .i .i64 k]) = H5 := by rw [hH5, hcut]; rfl
          rw [hsh]
          have n5 : H5.next = H3.next + 27 := by rw [hH5]; simp
          have g35 : Grows H3 H5 := by rw [hH5]; exact Keeps.set_new kb (by omega)
          have g15 : Grows H1 H5 := hg3.trans g35
          have gx5 := Grows.at g35 (by omega) gx3
          have gr5 := Grows.at g35 (by omega) gr3
          have gc5 := Grows.at g35 (by omega) gc3
          have hy : newCells H5 2 (.sl 2 (some (H3.next + 23, 0)) 1 1) = some (1, nRow (cut1 l[i])) := by rw [hH5]; simp
          refine (app_row (hs3.keep g15 fun _ _ h => h) (r := nRow (cut1 l[i])) hy (by simp) (by rw [List.length_map]; omega) (by rw [List.length_map]; omega)).mono ?_
          rintro v6 H6 ⟨hs6, k6⟩
          have n6 := k6.next
          have gx6 := k6.at (i := H.next) (by omega) (fun h => by have := hFG _ h; omega) gx5
          have gr6 := k6.at (i := H.next + 1) (by omega) (fun h => by have := hFG _ h; omega) gr5
          have gc6 := k6.at (i := H2.next) (by omega) (fun h => by have := hFG _ h; omega) gc5
          have hrows : (cleanTo l i).map nRow ++ [nRow (cut1 l[i])] = (cleanTo l (i + 1)).map nRow := by rw [hst, List.map_append]; rfl
          rw [hrows] at hs6
          obtain ⟨e9, a9, c9, hv9⟩ := hs6.len
          obtain ⟨n9, hn9⟩ : ∃ n, n = ((cleanTo l (i + 1)).map nRow).length := ⟨_, rfl⟩
          rw [← hn9] at hv9
          subst hv9
          have hk6 : Grows H H6 := (hgr.trans g15).then k6 fun j hj h => by have := hFG j h; omega
          simp -dsimp [e1, e2, e3, e4, gc6, splice, hwi]
          refine hold_mk ⟨l.length - (i + 1), by omega, i + 1, _, Up FG H5 H6, by omega, rfl, Keeps.set_new hk6 (by omega), by simp [e1], by simp [e2], by simp [e3], by simp, by rw [AH.get_set, if_neg (by omega), hvv]; exact gx6, by rw [AH.get_set, if_neg (by omega)]; exact gr6, by rw [AH.get_set, if_pos rfl], by simp; omega, ?_, ?_⟩
          · exact hs6.keep (G := fun j => j = H2.next) (Keeps.set fun _ => rfl) fun j hj e => by
              subst e
              rcases hj with h | h
              · have := hFG _ h; omega
              · omega
          · rintro j (h | h)
            · have := hFG j h; simp; omega
            · simp; omega
        · rw [hg] at hst e5
          simp only [if_true, List.append_nil] at hst
          simp -dsimp [e1, e2, e3, e4, e6, e5, gx3, hwi]
          exact hold_mk ⟨l.length - (i + 1), by omega, i + 1, v3, FG, by omega, rfl, hgr.trans hg3, by simp [e1], by simp [e2], by simp [e3], by simp, by rw [hvv]; exact gx3, gr3, gc3, by omega, by rw [hst]; exact hs3.keep hg3 fun _ _ h => h, fun j hj => by have := hFG j hj; omega⟩
    · have : i = l.length := by omega
      subst this
      obtain ⟨e9, a9, c9, hv9⟩ := hs3.len
      obtain ⟨n9, hn9⟩ : ∃ n, n = ((cleanTo l l.length).map nRow).length := ⟨_, rfl⟩
      rw [← hn9] at hv9
      subst hv9
      rw [hv] at gx1
      simp -dsimp [e1, e2, e3, e4, gx1, ldCells_of gc1, gr1, splice]
      refine fin_mk ⟨_, rfl, ?_, Keeps.set_new hgr (by omega)⟩
      unfold cleanL
      rw [hok]
      simp only [if_true]
      exact (hs3.keep (G := fun j => j = H.next + 1) (Keeps.set fun _ => rfl) fun j hj e => by have := hFG j hj; omega).mono fun j hj => by have := hFG j hj; exact .inr ⟨by omega, by simp; omega⟩
end Go.Proofs.YtmdmabedfleacaaDoor
