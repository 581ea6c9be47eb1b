/- A part of the proof: contracts of functions, over the abstract machine. -/
import Derived.Test.YtceamnigcimldaaGreatDoorZp3
set_option linter.unusedVariables false
set_option linter.unusedSimpArgs false
set_option linter.all false
/- Ports: a clean set. -/
namespace Go.Proofs.YtceamnigcimldaaGreatDoor
open Ram Go Go.Proofs.Ports

variable {W0 : World} {H : AH}

/-- A clean set. -/
def cleanP (l : List Sp) : List Sp := if okP l then (if putAll l = [⟨0, 65535⟩] then [] else putAll l) else []

theorem rise_of {ks : List Int} : ∀ {b : Int}, ks.Pairwise (· < ·) → (∀ k ∈ ks, b < k) → Rise b ks := by
  induction ks with
  | nil => intro _ _ _; trivial
  | cons k r ih =>
    intro b hp hb
    obtain ⟨h1, h2⟩ := List.pairwise_cons.1 hp
    exact ⟨hb k (by simp), ih h2 h1⟩
theorem sort_lt {zs : List Int} (h : zs.Nodup) : (zs.mergeSort fun x y => decide (x ≤ y)).Pairwise (· < ·) := by
  have tr : ∀ a b c : Int, decide (a ≤ b) = true → decide (b ≤ c) = true → decide (a ≤ c) = true := fun a b c h1 h2 => by simp at *; omega
  have to : ∀ a b : Int, (decide (a ≤ b) || decide (b ≤ a)) = true := fun a b => by simp; omega
  have s1 := List.pairwise_mergeSort (le := fun x y : Int => decide (x ≤ y)) tr to zs
  have hn : (zs.mergeSort fun x y => decide (x ≤ y)).Nodup := (List.mergeSort_perm zs _).nodup_iff.2 h
  exact (s1.and hn).imp fun ⟨h1, h2⟩ => by simp at h1; omega
theorem sweep_len (d : Int → Int) : ∀ (r : List Int) (fr deep : Int), (sweep d r fr deep).length ≤ r.length
  | [], _, _ => by simp [sweep]
  | k :: r, fr, deep => by
    unfold sweep
    split
    · have := sweep_len d r k (deep + d k); simp; omega
    · split
      · have := sweep_len d r fr (deep + d k); simp; omega
      · have := sweep_len d r fr (deep + d k); simp; omega

theorem sameAt_sp (a b : Sp) : sameAt [(0, .i), (1, .i)] [.i .i64 a.f, .i .i64 a.t] [.i .i64 b.f, .i .i64 b.t] = some (decide (a = b)) := by
  obtain ⟨af, at'⟩ := a
  obtain ⟨bf, bt⟩ := b
  by_cases h1 : af = bf <;> by_cases h2 : at' = bt <;> simp -dsimp [sameAt, sameCell, h1, h2]

set_option maxRecDepth 4000 in
/-- ports.Clean. -/
theorem f68 {not : Bool} {v : V} {l : List Sp} {md : Md} {F : Nat → Prop} (hs : SlV H md 2 v (l.map spRow) F) (hl : l.length < 4611686018427387904) : ACalls Tryz.prog W0 68 [.agg [.b not, v]] H fun e H' =>
    ∃ v', e = .ret (.agg [.b (okP l && not), v']) ∧ SlV H' .rw 2 v' ((cleanP l).map spRow) (Up NoId H H') ∧ Grows H H' := by
  obtain ⟨e', a', cap', hv⟩ := hs.len
  rw [List.length_map] at hv
  have hone : V.one v = true := by rw [hv]; rfl
  refine acalls_in k68 (by simp) ?_
  have hk0 : ∀ X Y, Grows H ((H.alloc X).alloc Y) := fun _ _ => Keeps.alloc' (Keeps.alloc' Keeps.refl)
  simp -dsimp [hone]
  refine (f66 (hs.keep (hk0 _ _) fun _ _ h => h) hl).next ?_
  rintro H2 h2
  have g2 := (hk0 _ _).trans h2
  have n2 := h2.next
  simp at n2
  have gx := Grows.at h2 (i := H.next) (o := .cells .rw [.b not, v]) (by simp <;> omega) (by simp)
  have gr := Grows.at h2 (i := H.next + 1) (o := .cells .rw [.b false, .sl 0 none 0 0]) (by simp <;> omega) (by simp)
  cases hok : okP l
  · simp -dsimp [gr, splice]
    refine fin_mk ⟨_, rfl, .inl ⟨by simp [cleanP, hok], _, rfl⟩, Keeps.set_new g2 (by omega)⟩
  · have hl4 := okP_len hok
    have ne1 : ¬ H.next = H2.next := by omega
    have ne2 : ¬ H.next + 1 = H2.next := by omega
    simp -dsimp [gx, splice, ne1]
    obtain ⟨H3, hH3⟩ : ∃ H3, H3 = H2.alloc (.cells .rw [.b not, .sl 0 none 0 0]) := ⟨_, rfl⟩
    rw [← hH3]
    have k2 : Grows H2 H3 := by rw [hH3]; exact Keeps.alloc' Keeps.refl
    have n3 : H3.next = H2.next + 1 := by rw [hH3]; simp
    have gx3 := Grows.at k2 (by omega) gx
    have gr3 := Grows.at k2 (by omega) gr
    have gc3 : H3.get H2.next = some (.cells .rw [.b not, .sl 0 none 0 0]) := by rw [hH3]; simp
    have g3 := g2.trans k2
    refine (f94 (hs.keep g3 fun _ _ h => h) hok).some ?_
    rintro mid H4 ⟨⟨zs, gm, hM, hzl, hzr⟩, h4, lm⟩
    have n4 := h4.next
    have gx4 := Grows.at h4 (by omega) gx3
    have gr4 := Grows.at h4 (by omega) gr3
    have gc4 := Grows.at h4 (by omega) gc3
    simp -dsimp
    refine f96.next ?_
    rintro H5 rfl
    simp -dsimp
    have nmb : ¬ mid = H4.next := by omega
    refine (f95 (bid := H4.next) (id := mid) (es := zs.map (ent (pmark l))) (zs := zs) (by simp) (by simp [nmb, gm]) (by rw [List.map_map]; rfl) hM.nodup (fun z hz => by have := hzr z hz; omega) (by omega)).mono ?_
    -- what comes out, whether or not there are keys
    obtain ⟨ks, hks⟩ : ∃ ks, ks = zs.mergeSort fun x y => decide (x ≤ y) := ⟨_, rfl⟩
    have hkl : ks.length = zs.length := by rw [hks]; exact List.length_mergeSort _
    have hperm : ks.Perm zs := by rw [hks]; exact List.mergeSort_perm _ _
    have hkr : ∀ z ∈ ks, 0 ≤ z ∧ z ≤ 65536 := fun z hz => hzr z (hperm.mem_iff.1 hz)
    have hrise : Rise (-1) ks := rise_of (by rw [hks]; exact sort_lt hM.nodup) fun k hk => by have := hkr k hk; omega
    have hsw : sweep (pmark l) ks 0 0 = putAll l := sweep_putAll (okP_mem hok) hrise fun x hx => hM.zero x fun h => hx (hperm.mem_iff.2 h)
    have hswl := sweep_len (pmark l) ks 0 0
    rintro e5 H6 hcase
    have main : ∃ sv, e5 = .ret sv ∧ SlV H6 .rw 1 sv (ks.map iRow) (fun j => H4.next < j ∧ j < H6.next) ∧ Grows (H4.alloc (.mbox (some mid))) H6 ∧ (∃ a c n, sv = .sl 1 a n c ∧ n = ks.length) := by
      rcases hcase with ⟨hz, rfl, rfl⟩ | ⟨hz, rfl, rfl⟩
      · have hk0 : ks = [] := by rw [hks, hz]; simp
        rw [hk0]
        exact ⟨_, rfl, .inl ⟨rfl, _, rfl⟩, Keeps.refl, _, _, _, rfl, rfl⟩
      · refine ⟨_, rfl, .inr ⟨H4.next + 1, 0, zs.length, ks.map (V.i .i64), by simp [hkl], by simp, ?_⟩, Keeps.alloc' Keeps.refl, _, _, _, rfl, hkl.symm⟩
        rw [← hks]
        have := SlAt.of (H := (H4.alloc (.mbox (some mid))).alloc (.cells .rw (ks.map (V.i .i64)))) (md := .rw) (es := 1) (id := H4.next + 1) (o := 0) (cap := zs.length) (rows := ks.map iRow) (A := []) (B := []) (by rw [AH.get_alloc, if_pos (by simp), flat_iRow]; simp) (by simp) (fun r hr => by obtain ⟨z, _, rfl⟩ := List.mem_map.1 hr; rfl) rfl (by simp [hkl]) (by simp [hkl])
        rw [flat_iRow] at this
        simpa using this
    obtain ⟨sv, rfl, hsk, h6, asv, csv, nsv, hsv, hnsv⟩ := main
    have n6 := h6.next
    have nem : ¬ mid = H2.next := fun e => by rw [e, gc4] at gm; cases gm
    simp at n6
    have k5 : Grows H4 (H4.alloc (.mbox (some mid))) := Keeps.alloc' Keeps.refl
    have h46 := k5.trans h6
    have gm6 := Grows.at h46 lm gm
    have gx6 := Grows.at h46 (by omega) gx4
    have gr6 := Grows.at h46 (by omega) gr4
    have gc6 := Grows.at h46 (by omega) gc4
    have g6 := (g3.trans h4).trans h46
    simp -dsimp [hsv]
    rw [hnsv] at hsv ⊢
    refine awp_round (fun m env H1 => ∃ (i : Nat) (fr deep : Int) (out : List Sp) (v3 : V) (FG : Nat → Prop), i ≤ ks.length ∧ m = ks.length - i ∧ Grows H H1 ∧ H6.next ≤ H1.next ∧ env.get 1 = some (.p (some (H.next, 0))) ∧ env.get 2 = some (.p (some (H.next + 1, 0))) ∧ env.get 3 = some (.p (some (H2.next, 0))) ∧ env.get 4 = some (.m (some mid)) ∧ env.get 22 = some sv ∧ env.get 23 = some (.i .i64 ks.length) ∧ env.get 24 = some (.i .i64 i) ∧ env.get 5 = some (.i .i64 fr) ∧ env.get 6 = some (.i .i64 deep) ∧
      H1.get (H.next + 1) = some (.cells .rw [.b false, .sl 0 none 0 0]) ∧ H1.get H2.next = some (.cells .rw [.b not, v3]) ∧ H1.get mid = some (.map (zs.map (ent (pmark l)))) ∧ SlV H1 .rw 1 sv (ks.map iRow) (fun j => H4.next < j ∧ j < H6.next) ∧
      SlV H1 .rw 2 v3 (out.map spRow) FG ∧ (∀ j, FG j → H6.next ≤ j ∧ j < H1.next) ∧ out ++ sweep (pmark l) (ks.drop i) fr deep = putAll l ∧ -(4 * (i : Int)) ≤ deep ∧ deep ≤ 4 * i) ks.length
      ⟨0, 0, 0, [], _, NoId, by omega, by omega, g6, Nat.le_refl _, by simp, by simp, by simp, by simp, by simp [hsv], by simp, by simp, by simp, by simp, gr6, by rw [gc6], gm6, hsk, .inl ⟨rfl, _, rfl⟩, fun j h => h.elim, by simpa using hsw, by omega, by omega⟩ ?_
    rintro m env H1 ⟨i, fr, deep, out, v3, FG, hi, rfl, hgr, n61, e1, e2, e3, e4, e22, e23, e24, e5, e6, gr1, gc1, gm1, hsk1, hs3, hFG, heq, hd0, hd1⟩
    have n1 := hgr.next
    by_cases hlt : i < ks.length
    · obtain ⟨id, o, cap, cs, hvv, hF, sa, _⟩ := at_row hsk1 hlt
      have c0 := sa.cell (j := 0) (row_at hlt) (by omega)
      simp [iRow] at c0
      obtain ⟨k, hkd⟩ : ∃ k, k = ks[i] := ⟨_, rfl⟩
      rw [← hkd] at c0
      have hkm : k ∈ zs := hperm.mem_iff.1 (by rw [hkd]; exact List.getElem_mem hlt)
      have hkb := hzr k hkm
      have hwi := wrap_succ (i := i) (by omega)
      have hdb := pmark_le l k
      have hf := find_ints (pmark l) k zs
      rw [if_pos hkm] at hf
      have hdrop : ks.drop i = k :: ks.drop (i + 1) := by rw [List.drop_eq_getElem_cons hlt, hkd]
      rw [hdrop] at heq
      unfold sweep at heq
      obtain ⟨dk, hdk⟩ : ∃ dk, dk = pmark l k := ⟨_, rfl⟩
      rw [← hdk] at hf hdb heq
      have wd : IntKind.i64.wrap (deep + dk) = deep + dk := wrap_i64 (by omega) (by omega)
      have wk : IntKind.i64.wrap (k - 1) = k - 1 := wrap_i64 (by omega) (by omega)
      rw [hvv] at e22
      have hol : out.length ≤ 1000 := by
        have := congrArg List.length heq
        rw [← hsw] at this
        rw [List.length_append] at this
        omega
      by_cases z0 : deep = 0
      · by_cases zp : 0 < deep + dk
        · rw [if_pos ⟨z0, zp⟩] at heq
          simp -dsimp [e1, e2, e3, e4, e22, e23, e24, e5, e6, hlt, sa.get, c0, gm1, keyOk, hf, wd, hwi, z0]
          have zp' : 0 < dk := by omega
          have wd' : IntKind.i64.wrap dk = dk := wrap_i64 (by omega) (by omega)
          simp -dsimp [e1, e2, e3, e4, e22, e23, e24, e5, e6, hwi, zp', wd']
          exact hold_mk ⟨ks.length - (i + 1), by omega, i + 1, k, deep + dk, out, v3, FG, by omega, rfl, hgr, n61, by simp [e1], by simp [e2], by simp [e3], by simp [e4], by simp [e22, hvv], by simp [e23], by simp, by simp, by simp [z0], gr1, gc1, gm1, hsk1, hs3, hFG, heq, by omega, by omega⟩
        · rw [if_neg (by omega), if_neg (by omega)] at heq
          have zp' : ¬ 0 < dk := by omega
          have wd' : IntKind.i64.wrap dk = dk := wrap_i64 (by omega) (by omega)
          simp -dsimp [e1, e2, e3, e4, e22, e23, e24, e5, e6, hlt, sa.get, c0, gm1, keyOk, hf, wd, hwi, z0, zp', wd']
          exact hold_mk ⟨ks.length - (i + 1), by omega, i + 1, fr, deep + dk, out, v3, FG, by omega, rfl, hgr, n61, by simp [e1], by simp [e2], by simp [e3], by simp [e4], by simp [e22, hvv], by simp [e23], by simp, by simp [e5], by simp [z0], gr1, gc1, gm1, hsk1, hs3, hFG, heq, by omega, by omega⟩
      · rw [if_neg (by omega)] at heq
        by_cases zg : 0 < deep
        · by_cases ze : deep + dk = 0
          · rw [if_pos ⟨zg, ze⟩] at heq
            simp -dsimp [e1, e2, e3, e4, e22, e23, e24, e5, e6, hlt, sa.get, c0, gm1, keyOk, hf, wd, hwi, z0, zg, ze, gc1, wk]
            have hnc : ¬ H2.next = H1.next := by omega
            have kA : Grows H1 (H1.alloc (.cells .rw (spRow ⟨fr, k - 1⟩))) := Keeps.alloc' Keeps.refl
            have hy : newCells (H1.alloc (.cells .rw (spRow ⟨fr, k - 1⟩))) 2 (.sl 2 (some (H1.next, 0)) 1 1) = some (1, spRow ⟨fr, k - 1⟩) := by simp
            refine (app_row (hs3.keep kA fun _ _ h => h) (r := spRow ⟨fr, k - 1⟩) hy (by simp) (by rw [List.length_map]; omega) (by rw [List.length_map]; omega)).mono ?_
            rintro v6 H7 ⟨hs7, k7⟩
            have n7 := k7.next
            simp at n7
            have up : ∀ {j : Nat} {x : AO}, j < H1.next → ¬ FG j → H1.get j = some x → H7.get j = some x := fun {j x} hj hf hx => k7.at (by simp <;> omega) hf (by rw [AH.get_alloc, if_neg (by omega)]; exact hx)
            have gr7 := up (by omega) (fun h => by have := hFG _ h; omega) gr1
            have gc7 := up (by omega) (fun h => by have := hFG _ h; omega) gc1
            have gm7 := up (by omega) (fun h => by have := hFG _ h; omega) gm1
            have hrows : out.map spRow ++ [spRow ⟨fr, k - 1⟩] = (out ++ [(⟨fr, k - 1⟩ : Sp)]).map spRow := by rw [List.map_append]; rfl
            rw [hrows] at hs7
            have hsk7 : SlV H7 .rw 1 sv (ks.map iRow) (fun j => H4.next < j ∧ j < H6.next) := (hsk1.keep kA fun _ _ h => h).keep k7 fun j hj h => by have := hFG j h; omega
            obtain ⟨e9, a9, c9, hv9⟩ := hs7.len
            obtain ⟨n9, hn9⟩ : ∃ n, n = ((out ++ [(⟨fr, k - 1⟩ : Sp)]).map spRow).length := ⟨_, rfl⟩
            rw [← hn9] at hv9
            subst hv9
            have hk7 : Grows H H7 := (hgr.trans kA).then k7 fun j hj h => by have := hFG j h; omega
            simp -dsimp [e1, e2, e3, e4, e22, e23, e24, e5, e6, gc7, splice, hwi]
            refine hold_mk ⟨ks.length - (i + 1), by omega, i + 1, fr, deep + dk, out ++ [⟨fr, k - 1⟩], _, Up FG (H1.alloc (.cells .rw (spRow ⟨fr, k - 1⟩))) H7, by omega, rfl, Keeps.set_new hk7 (by omega), by simp; omega, by simp [e1], by simp [e2], by simp [e3], by simp [e4], by simp [e22, hvv], by simp [e23], by simp, by simp [e5], by simp [ze], by rw [AH.get_set, if_neg (by omega)]; exact gr7, by rw [AH.get_set, if_pos rfl], by rw [AH.get_set, if_neg nem]; exact gm7,
              hsk7.keep (G := fun j => j = H2.next) (Keeps.set fun _ => rfl) fun j hj e => by omega, ?_, ?_, by rw [List.append_assoc]; exact heq, by omega, by omega⟩
            · exact hs7.keep (G := fun j => j = H2.next) (Keeps.set fun _ => rfl) fun j hj e => by
                subst e
                rcases hj with h | h
                · have := hFG _ h; omega
                · simp at h; omega
            · rintro j (h | h)
              · have := hFG j h; simp; omega
              · simp at h ⊢; omega
          · rw [if_neg (by omega)] at heq
            simp -dsimp [e1, e2, e3, e4, e22, e23, e24, e5, e6, hlt, sa.get, c0, gm1, keyOk, hf, wd, hwi, z0, zg, ze]
            exact hold_mk ⟨ks.length - (i + 1), by omega, i + 1, fr, deep + dk, out, v3, FG, by omega, rfl, hgr, n61, by simp [e1], by simp [e2], by simp [e3], by simp [e4], by simp [e22, hvv], by simp [e23], by simp, by simp [e5], by simp, gr1, gc1, gm1, hsk1, hs3, hFG, heq, by omega, by omega⟩
        · rw [if_neg (by omega)] at heq
          simp -dsimp [e1, e2, e3, e4, e22, e23, e24, e5, e6, hlt, sa.get, c0, gm1, keyOk, hf, wd, hwi, z0, zg]
          exact hold_mk ⟨ks.length - (i + 1), by omega, i + 1, fr, deep + dk, out, v3, FG, by omega, rfl, hgr, n61, by simp [e1], by simp [e2], by simp [e3], by simp [e4], by simp [e22, hvv], by simp [e23], by simp, by simp [e5], by simp, gr1, gc1, gm1, hsk1, hs3, hFG, heq, by omega, by omega⟩
    · have : i = ks.length := by omega
      subst this
      rw [List.drop_length, sweep, List.append_nil] at heq
      subst heq
      obtain ⟨e9, a9, c9, hv9⟩ := hs3.len
      rw [List.length_map] at hv9
      have hol : (putAll l).length ≤ 1000 := by rw [← hsw]; omega
      have hcl : cleanP l = if putAll l = [⟨0, 65535⟩] then [] else putAll l := by unfold cleanP; rw [if_pos hok]
      by_cases h1 : (putAll l).length = 1
      · obtain ⟨q, hq⟩ : ∃ q, putAll l = [q] := List.length_eq_one_iff.1 h1
        rw [hq] at hs3 hcl
        rw [h1] at hv9
        obtain ⟨id, o, cap, cs, hvv, hF, sa, _⟩ := at_row hs3 (i := 0) (by simp)
        have c0 := sa.row (row_at (r := spRow) (i := 0) (by simp))
        simp [spRow] at c0
        rw [hvv] at gc1
        have hsm := sameAt_sp q ⟨0, 65535⟩
        by_cases hq0 : q = ⟨0, 65535⟩
        · rw [decide_eq_true hq0] at hsm
          rw [if_pos (by rw [hq0])] at hcl
          have hne : ¬ H.next + 1 = H2.next := by omega
          simp -dsimp [e1, e2, e3, e4, e22, e23, e24, e5, e6, gc1, c0, hsm, gr1, ldCells_of gc1, splice, hne]
          refine fin_mk ⟨_, rfl, .inl ⟨by rw [hcl]; rfl, _, rfl⟩, Keeps.set_new (Keeps.set_new hgr (by omega)) (by omega)⟩
        · rw [decide_eq_false hq0] at hsm
          rw [if_neg (by simp; exact hq0)] at hcl
          rw [← hcl] at hs3
          rw [hvv] at hs3
          simp -dsimp [e1, e2, e3, e4, e22, e23, e24, e5, e6, gc1, c0, hsm, gr1, ldCells_of gc1, splice]
          refine fin_mk ⟨_, rfl, ?_, Keeps.set_new hgr (by omega)⟩
          exact (hs3.keep (G := fun j => j = H.next + 1) (Keeps.set fun _ => rfl) fun j hj e => by have := hFG j hj; omega).mono fun j hj => by have := hFG j hj; exact .inr ⟨by omega, by simp; omega⟩
      · have hne : ¬ putAll l = [⟨0, 65535⟩] := fun h => h1 (by rw [h]; rfl)
        rw [if_neg hne] at hcl
        rw [← hcl] at hs3
        subst hv9
        have h1' : ¬ ((putAll l).length : Int) = 1 := by omega
        simp -dsimp [e1, e2, e3, e4, e22, e23, e24, e5, e6, gc1, h1', gr1, ldCells_of gc1, splice]
        refine fin_mk ⟨_, rfl, ?_, Keeps.set_new hgr (by omega)⟩
        exact (hs3.keep (G := fun j => j = H.next + 1) (Keeps.set fun _ => rfl) fun j hj e => by have := hFG j hj; omega).mono fun j hj => by have := hFG j hj; exact .inr ⟨by omega, by simp; omega⟩
end Go.Proofs.YtceamnigcimldaaGreatDoor
