/- A part of the proof: contracts of functions, over the abstract machine. -/
import Derived.Test.YtceamnigcimldaaDoorPo14
set_option linter.unusedVariables false
set_option linter.unusedSimpArgs false
set_option linter.all false
/- Ports: the law PortsClean. -/
namespace Go.Proofs.YtceamnigcimldaaDoor
open Ram Go Go.Proofs.Ports

variable {W0 : World} {H : AH}

theorem ints_of {A : AH} : ∀ {rows : List (List V)}, HasRs A [.i .i64] rows → ∃ l : List Int, rows = l.map iRow
  | [], _ => ⟨[], rfl⟩
  | r :: rows, h => by
    cases h with
    | cons _ _ _ h1 h2 =>
      obtain ⟨l, rfl⟩ := ints_of h2
      obtain ⟨a, _, rfl, ha, k1⟩ := HasK.invi h1
      rw [HasK.inv0 k1]
      exact ⟨a :: l, rfl⟩
theorem ints_arg {A : AH} {tys : List ATy} {xs : List V} (h : HasA A (.sl [.i .i64] :: tys) xs) : ∃ (v : V) (l : List Int) (vs : List V), xs = v :: vs ∧ SlV A .ro 1 v (l.map iRow) (fun _ => True) ∧ l.length ≤ maxLen ∧ HasA A tys vs := by
  obtain ⟨v, vs, rfl, ⟨rows, hu, hur, hul⟩, h2⟩ := h.inv
  obtain ⟨l, rfl⟩ := ints_of (rows_of hur)
  rw [List.length_map] at hul
  exact ⟨v, l, vs, rfl, hu, hul, h2⟩

/-- A span put behind the others, its memory laid anywhere. -/
theorem pushA {H1 H4 : AH} {n4 : Nat} {v3 : V} {out : List Sp} {FG : Nat → Prop} {f t : Int} {Q : V → AH → Prop} (k : Grows H1 H4) (hg : H4.get n4 = some (.cells .rw [.i .i64 f, .i .i64 t])) (hs3 : SlV H1 .rw 2 v3 (out.map spRow) FG) (hlen : out.length ≤ 1000) (hF : ∀ j, FG j → j < H1.next)
    (hq : ∀ v' H' F', SlV H' .rw 2 v' ((out ++ [(⟨f, t⟩ : Sp)]).map spRow) F' → (∀ j, F' j → (FG j ∨ H1.next ≤ j) ∧ j < H'.next) → Keeps FG H1 H' → Q v' H') :
    AppP 2 16 v3 (.sl 2 (some (n4, 0)) 1 1) H4 Q := by
  have nk := k.next
  have hy : newCells H4 2 (.sl 2 (some (n4, 0)) 1 1) = some (1, spRow ⟨f, t⟩) := by simp [ldCells_of hg]
  refine (app_row (hs3.keep k fun _ _ h => h) (r := spRow ⟨f, t⟩) hy (by simp) (by rw [List.length_map]; omega) (by rw [List.length_map]; omega)).mono ?_
  rintro v6 H7 ⟨hs7, k7⟩
  have n7 := k7.next
  have hrows : out.map spRow ++ [spRow ⟨f, t⟩] = (out ++ [(⟨f, t⟩ : Sp)]).map spRow := by rw [List.map_append]; rfl
  rw [hrows] at hs7
  refine hq _ _ _ hs7 (fun j hj => ?_) (k.keeps.trans k7)
  rcases hj with h | h
  · have := hF j h; exact ⟨.inl h, by omega⟩
  · exact ⟨.inr (by omega), by omega⟩

set_option maxRecDepth 4000 in
set_option maxHeartbeats 4000000 in
/-- The law PortsClean. -/
theorem f4 (A : AH) (args : List V) (ht : Tab W0) (h : HasA A [.sl [.i .i64], .one .b, .sl [.i .i64]] args) : ACalls Tryd.prog W0 4 args A fun e _ => e = .ret (.b true) := by
  obtain ⟨v, zs, _, rfl, hs, hzl, h⟩ := ints_arg h
  obtain ⟨not, _, rfl, h1⟩ := h.invb
  obtain ⟨u, us, _, rfl, hu, hul, h2⟩ := ints_arg h1
  rw [h2.inv0]
  obtain ⟨e', a', cap', hv⟩ := hs.len
  obtain ⟨eu, au, cpu, huv⟩ := hu.len
  rw [List.length_map] at hv huv
  have hml : maxLen ≤ 9223372036854775807 := by unfold maxLen; omega
  refine acalls_in k4 (by simp) ?_
  have hk0 : ∀ X, Grows A (A.alloc X) := fun _ => Keeps.alloc' Keeps.refl
  simp -dsimp [splice]
  refine awp_round (fun m env H1 => ∃ (i : Nat) (out : List Sp) (v3 : V) (FG : Nat → Prop), i ≤ zs.length ∧ m = zs.length - i ∧ Grows A H1 ∧ A.next < H1.next ∧ env.get 0 = some v ∧ env.get 1 = some (.b not) ∧ env.get 2 = some u ∧ env.get 7 = some (.p (some (A.next, 0))) ∧ env.get 8 = some (.i .i64 i) ∧
    H1.get A.next = some (.cells .rw [.b not, v3]) ∧ SlV H1 .rw 2 v3 (out.map spRow) FG ∧ (∀ j, FG j → A.next < j ∧ j < H1.next) ∧ (∀ s ∈ out, okSp s) ∧ out.length ≤ 4 ∧ i = 2 * out.length) zs.length
    ⟨0, [], .sl 0 none 0 0, NoId, by omega, by omega, hk0 _, by simp, by simp, by simp, by simp, by simp, by simp, by simp, .inl ⟨rfl, _, rfl⟩, fun j h => h.elim, by simp, by simp, by simp⟩ ?_
  rintro m env H1 ⟨i, out, v3, FG, hi, rfl, hgr, hlt1, e0, e1, e2, e7, e8, gp, hs3, hFG, hok, hol, hi2⟩
  obtain ⟨e3', a3, c3, hv3⟩ := hs3.len
  rw [List.length_map] at hv3
  have hwi := wrap_succ (i := i) (by omega)
  by_cases hgo : i + 1 < zs.length ∧ out.length < 4
  · obtain ⟨hlt, h4⟩ := hgo
    have hlt0 : i < zs.length := by omega
    have hlti : (i : Int) + 1 < zs.length := by omega
    have h4i : (out.length : Int) < 4 := by omega
    obtain ⟨id, o, cap, cs, hvv, hF, sa, _⟩ := at_row (hs.keep hgr fun _ _ h => h) hlt0
    have c0 := sa.cell (j := 0) (row_at hlt0) (by omega)
    have c1 := sa.cell (j := 0) (row_at hlt) (by omega)
    simp [iRow] at c0 c1
    have hwi2 : IntKind.i64.wrap ((i : Int) + 2) = (i : Int) + 2 := wrap_i64 (by omega) (by omega)
    obtain ⟨n3, hn3⟩ : ∃ n, n = out.length := ⟨_, rfl⟩
    rw [← hn3] at hv3 h4i
    rw [hvv] at e0
    rw [hv3] at gp
    simp -dsimp [e0, e1, e2, e7, e8, gp, hlt, hlti, hlt0, hwi, h4i, h4, sa.get, c0, c1]
    refine (f19 (by omega) (by omega)).next ?_
    rintro _ rfl
    have x0 := Int.emod_nonneg zs[i] (b := 65536) (by omega)
    have x1 := Int.emod_lt_of_pos zs[i] (b := 65536) (by omega)
    obtain ⟨x, hx⟩ : ∃ f, f = zs[i] % 65536 := ⟨_, rfl⟩
    rw [← hx] at x0 x1 ⊢
    have hnn : (0 : Int) ≤ (i : Int) + 1 := by omega
    have hnt : ((i : Int) + 1).toNat = i + 1 := by omega
    simp -dsimp [e0, e1, e2, e7, e8, gp, hlt, hlti, hlt0, hwi, sa.get, c0, c1, hnn, hnt]
    refine (f19 (by omega) (by omega)).next ?_
    rintro _ rfl
    have y0 := Int.emod_nonneg zs[i + 1] (b := 30) (by omega)
    have y1 := Int.emod_lt_of_pos zs[i + 1] (b := 30) (by omega)
    obtain ⟨y, hy⟩ : ∃ f, f = zs[i + 1] % 30 := ⟨_, rfl⟩
    rw [← hy] at y0 y1 ⊢
    have w1 : IntKind.i64.wrap (x + y) = x + y := wrap_i64 (by omega) (by omega)
    obtain ⟨t, htt⟩ : ∃ t, t = if 65535 < x + y then 65535 else x + y := ⟨_, rfl⟩
    have t0 : x ≤ t := by rw [htt]; split <;> omega
    have t1 : t ≤ 65535 := by rw [htt]; split <;> omega
    simp -dsimp [e0, e1, e2, e7, e8, gp, w1, ← htt]
    rw [← hv3]
    have kA : Grows H1 ((H1.bump 17).set (H1.next + 13) (.cells .rw [.i .i64 x, .i .i64 t])) := Keeps.set_new ⟨by simp, fun j hj _ => by rw [bump_get]⟩ (by omega)
    refine pushA (f := x) (t := t) kA (by simp) hs3 (by omega) (fun j hj => (hFG j hj).2) ?_
    rintro v6 H7 F7 hs7 hF7 k7
    have n7 := k7.next
    have gp7 := k7.at (i := A.next) (by omega) (fun h => by have := hFG _ h; omega) gp
    have hgr7 : Grows A H7 := hgr.then k7 fun j hj h => by have := hFG j h; omega
    obtain ⟨e9, a9, c9, hv9⟩ := hs7.len
    obtain ⟨n9, hn9⟩ : ∃ n, n = ((out ++ [(⟨x, t⟩ : Sp)]).map spRow).length := ⟨_, rfl⟩
    rw [← hn9] at hv9
    subst hv9
    have nl : ∀ j, F7 j → A.next < j ∧ j < H7.next := fun j hj => by
      obtain ⟨h1, h2⟩ := hF7 j hj
      rcases h1 with h | h
      · have := hFG j h; omega
      · omega
    simp -dsimp [e0, e1, e2, e7, e8, gp7, splice, hwi2]
    exact hold_mk ⟨zs.length - (i + 2), by omega, i + 2, out ++ [⟨x, t⟩], _, _, by omega, rfl, Keeps.set_new hgr7 (by omega), by simp; omega, by simp [e0, hvv], by simp [e1], by simp [e2], by simp [e7], by simp, by rw [AH.get_set, if_pos rfl], hs7.keep (G := fun j => j = A.next) (Keeps.set fun _ => rfl) (fun j hj e => by have := nl j hj; omega), fun j hj => by have := nl j hj; simpa using this, fun s hs => by
      rcases List.mem_append.1 hs with h | h
      · exact hok s h
      · rw [List.mem_singleton.1 h]; exact ⟨x0, t0, t1⟩, by simp; omega, by simp; omega⟩
  · -- the loop is over
    have hokP := okP_of hol hok
    obtain ⟨n3, hn3⟩ : ∃ n, n = out.length := ⟨_, rfl⟩
    rw [← hn3] at hv3
    have hx : ¬ (i + 1 < zs.length) ∨ (i + 1 < zs.length ∧ ¬ n3 < 4) := by omega
    rcases hx with hx | ⟨hx, hy⟩
    case' inl =>
      have hxi : ¬ (i : Int) + 1 < zs.length := by omega
      simp -dsimp [e0, e1, e2, e7, e8, gp, hv, hwi, hx, hxi, ldCells_of gp]
    case' inr =>
      have hxi : (i : Int) + 1 < zs.length := by omega
      have hyi : ¬ (n3 : Int) < 4 := by omega
      rw [hv3] at gp
      simp -dsimp [e0, e1, e2, e7, e8, gp, hv, hwi, hx, hxi, hy, hyi, ldCells_of gp]
      rw [← hv3] at gp ⊢
    all_goals
      refine (f13 hs3 (by omega)).some ?_
      rintro v4 H4 ⟨s4c, h4⟩
      simp -dsimp
      refine (f12 s4c (by omega)).some ?_
      rintro v5 H5 ⟨s5c, h5⟩
      have h5 := h4.trans h5
      have hcan := canon_clean hokP
      have hcl := clean_len hokP
      have hcok := okP_clean hokP
      have hagain := clean_again hokP
      have hhas := fun (k : Int) => clean_has (not := not) (k := k) hokP
      obtain ⟨c, hc⟩ : ∃ c, c = cleanP out := ⟨_, rfl⟩
      rw [← hc] at hcan hcl hcok hagain hhas s5c
      obtain ⟨e5, a5, c5, hv5⟩ := s5c.len
      rw [List.length_map] at hv5
      have hone5 : V.one v5 = true := by rw [hv5]; rfl
      have hn5 : (okP out && not) = not := by rw [hokP, Bool.true_and]
      rw [hn5]
      simp -dsimp [splice, hone5]
      obtain ⟨H6, hH6⟩ : ∃ H6, H6 = H5.alloc (.cells .rw [.b not, v5]) := ⟨_, rfl⟩
      rw [← hH6]
      have k56 : Grows H5 H6 := by rw [hH6]; exact Keeps.alloc' Keeps.refl
      have gc6 : H6.get H5.next = some (.cells .rw [.b not, v5]) := by rw [hH6]; simp
      have lc6 : H5.next < H6.next := by rw [hH6]; simp
      have s6c := s5c.keep k56 fun _ _ h => h
      have h6 := h5.trans k56
      refine (f13 s6c (by omega)).some ?_
      rintro v7 H7 ⟨s7c, h7⟩
      have gc7 := Grows.at h7 lc6 gc6
      simp -dsimp [ldCells_of gc7]
      refine (f12 s7c (by omega)).some ?_
      rintro v8 H8 ⟨s8c, h8⟩
      have h68 := h7.trans h8
      have gc8 := Grows.at h68 lc6 gc6
      have hn8 : (okP c && not) = not := by rw [hcok, Bool.true_and]
      rw [hn8]
      simp -dsimp [ldCells_of gc8]
      refine (f11 s8c (s6c.keep h68 fun _ _ h => h) (by rw [hagain]; omega)).next ?_
      rintro G hG
      have h6G := h68.trans hG
      rw [hagain]
      have gc := Grows.at h6G lc6 gc6
      have lcG : H5.next < G.next := by have := h6G.next; omega
      have hHG := h6.trans h6G
      have hAG := hgr.trans hHG
      have gpG := Grows.at hHG (by omega) gp
      have lpG : A.next < G.next := by have := hHG.next; omega
      have sP := hs3.keep hHG fun _ _ h => h
      have sC := s6c.keep h6G fun _ _ h => h
      have sU := hu.keep hAG fun _ _ h => h
      have hp : ∀ K, Grows G K → ldCells K A.next 0 2 = some [.b not, v3] := fun K h => by
        have := ldCells_of (off := 0) (n := 2) (Grows.at h lpG gpG); simpa using this
      have hcc : ∀ K, Grows G K → ldCells K H5.next 0 2 = some [.b not, v5] := fun K h => by
        have := ldCells_of (off := 0) (n := 2) (Grows.at h lcG gc); simpa using this
      have hnn : (not != not) = false := by cases not <;> rfl
      have hself : ∀ b : Bool, (b != b) = false := fun b => by cases b <;> rfl
      simp -dsimp [gc, hnn, e1]
      rw [hv5] at gc
      -- rising
      refine awp_round (fun m env H1' => ∃ i : Nat, 1 ≤ i ∧ m = c.length + 1 - i ∧ Grows G H1' ∧ env.get 1 = some (.b not) ∧ env.get 2 = some u ∧ env.get 7 = some (.p (some (A.next, 0))) ∧ env.get 10 = some (.p (some (H5.next, 0))) ∧ env.get 11 = some (.i .i64 i)) c.length
        ⟨1, by omega, by omega, Keeps.refl, by simp [e1], by simp [e2], by simp [e7], by simp, by simp⟩ ?_
      clear e0 e1 e2 e7 e8
      rintro m env K ⟨i, hi, rfl, hgr, e1, e2, e7, e10, e11⟩
      have gcK := Grows.at hgr lcG gc
      by_cases hlt : i < c.length
      · have hlti : (i : Int) < c.length := by omega
        have hwi := wrap_succ (i := i) (by omega)
        have hwm : IntKind.i64.wrap ((i : Int) - 1) = (i : Int) - 1 := wrap_i64 (by omega) (by omega)
        have hnm : (1 : Int) ≤ (i : Int) := by omega
        have hnt : ((i : Int) - 1).toNat = i - 1 := by omega
        have hlm : (i : Int) - 1 < c.length := by omega
        obtain ⟨id, o, cap, cs, hvv, hF, sa, _⟩ := at_row (sC.keep hgr fun _ _ h => h) hlt
        rw [hv5] at hvv
        rw [hvv] at gcK
        have a0 := sa.cell (j := 0) (row_at hlt) (by omega)
        have a1 := sa.cell (j := 1) (row_at (i := i - 1) (by omega)) (by omega)
        simp [spRow] at a0 a1
        have hst := canon_step (i := i - 1) hcan (by omega)
        have hst' : c[i - 1].t + 1 < c[i].f := by
          have e : i - 1 + 1 = i := by omega
          simpa [e] using hst
        obtain ⟨b1, b2, b3⟩ := okP_mem hcok _ (List.getElem_mem (show i - 1 < c.length by omega))
        have hwt : IntKind.i64.wrap (c[i - 1].t + 1) = c[i - 1].t + 1 := wrap_i64 (by omega) (by omega)
        have hle : ¬ c[i].f ≤ c[i - 1].t + 1 := by omega
        have hlm' : i - 1 < c.length := by omega
        simp -dsimp [e1, e2, e7, e10, e11, gcK, hlt, hlti, hwm, hnm, hnt, hlm, hlm', sa.get, a0, a1, hwt, hle, hwi]
        exact hold_mk ⟨c.length + 1 - (i + 1), by omega, i + 1, by omega, rfl, hgr, by simp [e1], by simp [e2], by simp [e7], by simp [e10], by simp⟩
      · have hlti : ¬ (i : Int) < c.length := by omega
        simp -dsimp [e1, e2, e7, e10, e11, gcK, hlt, hlti]
        -- the numbers
        refine awp_round (fun m env H1' => ∃ i n : Nat, i ≤ 65538 ∧ n ≤ 300 ∧ m = 65538 - i ∧ Grows G H1' ∧ env.get 1 = some (.b not) ∧ env.get 2 = some u ∧ env.get 7 = some (.p (some (A.next, 0))) ∧ env.get 10 = some (.p (some (H5.next, 0))) ∧ env.get 13 = some (.i .i64 i) ∧ env.get 12 = some (.i .i64 n)) 65538
          ⟨0, 0, by omega, by omega, by omega, hgr, by simp [e1], by simp [e2], by simp [e7], by simp [e10], by simp, by simp⟩ ?_
        clear e1 e2 e7 e10 e11 gcK hgr
        rintro m env K ⟨i, n, hi, hn300, rfl, hgr, e1, e2, e7, e10, e13, e12⟩
        have hwi := wrap_succ (i := i) (by omega)
        have hwn := wrap_succ (i := n) (by omega)
        have hrem : ((n : Int) + 1).tmod 3 = (((n + 1) % 3 : Nat) : Int) := by rw [Int.tmod_eq_emod_of_nonneg (by omega)]; omega
        obtain ⟨r, hr⟩ : ∃ r, r = (n + 1) % 3 := ⟨_, rfl⟩
        have hr3 : r < 3 := by rw [hr]; exact Nat.mod_lt _ (by omega)
        rw [← hr] at hrem
        have hwr : IntKind.i64.wrap ((i : Int) + 1 + r) = (i : Int) + 1 + r := wrap_i64 (by omega) (by omega)
        have body : i < 65536 → ∀ K2 K3, Grows K K2 → Grows K2 K3 → Grows G K3 := fun _ _ _ h h' => (hgr.trans h).trans h'
        by_cases hgo : i < 65536 ∧ ¬ 300 < n + 1
        · obtain ⟨hlt, hng⟩ := hgo
          have hlti : (i : Int) < 65536 := by omega
          have hngi : ¬ (300 : Int) < (n : Int) + 1 := by omega
          simp -dsimp [e1, e2, e7, e10, e13, e12, hlt, hlti, hp _ hgr, hcc _ hgr]
          refine (f15 (sP.keep hgr fun _ _ h => h) (by omega)).next ?_
          rintro K2 hK2
          have hg2 := hgr.trans hK2
          simp -dsimp [e1, e2, e7, e10, e13, e12, hcc _ hg2]
          refine (f15 (sC.keep hg2 fun _ _ h => h) (by omega)).next ?_
          rintro K3 hK3
          have hg3 := hg2.trans hK3
          rw [hhas]
          simp -dsimp [e1, e2, e7, e10, e13, e12, hself, hwi, hwn, hng, hngi, hrem, hwr]
          exact hold_mk ⟨65538 - (i + 1 + r), by omega, i + 1 + r, n + 1, by omega, by omega, rfl, hg3, by simp [e1], by simp [e2], by simp [e7], by simp [e10], by simp, by simp⟩
        · have hx : ¬ i < 65536 ∨ (i < 65536 ∧ 300 < n + 1) := by omega
          rcases hx with hlt | ⟨hlt, hng⟩
          case' inl =>
            have hlti : ¬ (i : Int) < 65536 := by omega
            have hKx : ∃ K', Grows G K' ∧ K' = K := ⟨K, hgr, rfl⟩
            simp -dsimp [e1, e2, e7, e10, e13, e12, hlt, hlti]
          case' inr =>
            have hlti : (i : Int) < 65536 := by omega
            have hngi : (300 : Int) < (n : Int) + 1 := by omega
            simp -dsimp [e1, e2, e7, e10, e13, e12, hlt, hlti, hp _ hgr, hcc _ hgr]
            refine (f15 (sP.keep hgr fun _ _ h => h) (by omega)).next ?_
            rintro K2 hK2
            have hg2 := hgr.trans hK2
            simp -dsimp [e1, e2, e7, e10, e13, e12, hcc _ hg2]
            refine (f15 (sC.keep hg2 fun _ _ h => h) (by omega)).next ?_
            rintro K3 hK3
            have hg3 := hg2.trans hK3
            rw [hhas]
            simp -dsimp [e1, e2, e7, e10, e13, e12, hself, hwi, hwn, hng, hngi, hrem, hwr]
            clear hgr
            have hgr := hg3
          all_goals
            refine awp_round (fun m env H1' => ∃ i : Nat, i ≤ us.length ∧ m = us.length - i ∧ Grows G H1' ∧ env.get 1 = some (.b not) ∧ env.get 2 = some u ∧ env.get 7 = some (.p (some (A.next, 0))) ∧ env.get 10 = some (.p (some (H5.next, 0))) ∧ env.get 14 = some (.i .i64 i)) us.length
              ⟨0, by omega, by omega, hgr, by simp [e1], by simp [e2], by simp [e7], by simp [e10], by simp⟩ ?_
            clear e1 e2 e7 e10 e13 e12 hgr
            rintro m env K ⟨i, hi, rfl, hgr, e1, e2, e7, e10, e14⟩
            by_cases hgo : i < us.length ∧ i < 30
            · obtain ⟨hlt, h30⟩ := hgo
              have hlti : (i : Int) < us.length := by omega
              have h30i : (i : Int) < 30 := by omega
              have hwi := wrap_succ (i := i) (by omega)
              obtain ⟨id, o, cap, cs, hvv, hF, sa, _⟩ := at_row (sU.keep hgr fun _ _ h => h) hlt
              rw [hvv] at e2
              have a0 := sa.cell (j := 0) (row_at hlt) (by omega)
              simp [iRow] at a0
              simp -dsimp [e1, e2, e7, e10, e14, hlt, hlti, h30, h30i, sa.get, a0]
              refine (f19 (by omega) (by omega)).next ?_
              rintro _ rfl
              obtain ⟨x, hx⟩ : ∃ f, f = us[i] % 65536 := ⟨_, rfl⟩
              rw [← hx]
              simp -dsimp [e1, e2, e7, e10, e14, hp _ hgr, hcc _ hgr]
              refine (f15 (sP.keep hgr fun _ _ h => h) (by omega)).next ?_
              rintro K2 hK2
              have hg2 := hgr.trans hK2
              simp -dsimp [e1, e2, e7, e10, e14, hcc _ hg2]
              refine (f15 (sC.keep hg2 fun _ _ h => h) (by omega)).next ?_
              rintro K3 hK3
              have hg3 := hg2.trans hK3
              rw [hhas]
              simp -dsimp [e1, e2, e7, e10, e14, hself, hwi]
              exact hold_mk ⟨us.length - (i + 1), by omega, i + 1, by omega, rfl, hg3, by simp [e1], by simp [e2, hvv], by simp [e7], by simp [e10], by simp⟩
            · rw [huv] at e2
              have hx : ¬ i < us.length ∨ (i < us.length ∧ ¬ i < 30) := by omega
              rcases hx with hx | ⟨hx, hy⟩
              case' inl =>
                have hxi : ¬ (i : Int) < us.length := by omega
                simp -dsimp [e1, e2, e7, e10, e14, hx, hxi]
              case' inr =>
                have hxi : (i : Int) < us.length := by omega
                have hyi : ¬ (i : Int) < 30 := by omega
                simp -dsimp [e1, e2, e7, e10, e14, hx, hxi, hy, hyi]
              all_goals
                refine awp_round (fun m env H1' => ∃ i : Nat, i ≤ out.length ∧ m = out.length - i ∧ Grows G H1' ∧ env.get 1 = some (.b not) ∧ env.get 7 = some (.p (some (A.next, 0))) ∧ env.get 10 = some (.p (some (H5.next, 0))) ∧ env.get 16 = some (.i .i64 i)) out.length
                  ⟨0, by omega, by omega, hgr, by simp [e1], by simp [e7], by simp [e10], by simp⟩ ?_
                clear e1 e2 e7 e10 e14 hgr
                rintro m env K ⟨i, hi, rfl, hgr, e1, e7, e10, e16⟩
                have gpK := Grows.at hgr lpG gpG
                by_cases hlt : i < out.length
                · have hlti : (i : Int) < out.length := by omega
                  have hwi := wrap_succ (i := i) (by omega)
                  obtain ⟨id, o, cap, cs, hvv, hF, sa, _⟩ := at_row (sP.keep hgr fun _ _ h => h) hlt
                  have a0 := sa.cell (j := 0) (row_at hlt) (by omega)
                  simp [spRow] at a0
                  obtain ⟨m1, m2⟩ := has_mem (not := not) hokP (List.getElem_mem hlt)
                  have hne : ((!not) == not) = false := by cases not <;> rfl
                  rw [hvv] at gpK
                  simp -dsimp [e1, e7, e10, e16, hlt, hlti, gpK, sa.get, a0, hcc _ hgr]
                  refine (f15 (sC.keep hgr fun _ _ h => h) (by omega)).next ?_
                  rintro K2 hK2
                  have hg2 := hgr.trans hK2
                  obtain ⟨id2, o2, cap2, cs2, hvv2, hF2, sa2, _⟩ := at_row (sP.keep hg2 fun _ _ h => h) hlt
                  have a2 := sa2.cell (j := 1) (row_at hlt) (by omega)
                  simp [spRow] at a2
                  have gpK2 := Grows.at hg2 lpG gpG
                  rw [hvv2] at gpK2
                  rw [hhas, m1]
                  simp -dsimp [e1, e7, e10, e16, hlt, hlti, gpK2, sa2.get, a2, hne, hcc _ hg2]
                  refine (f15 (sC.keep hg2 fun _ _ h => h) (by omega)).next ?_
                  rintro K3 hK3
                  have hg3 := hg2.trans hK3
                  rw [hhas, m2]
                  simp -dsimp [e1, e7, e10, e16, hne, hwi]
                  exact hold_mk ⟨out.length - (i + 1), by omega, i + 1, by omega, rfl, hg3, by simp [e1], by simp [e7], by simp [e10], by simp⟩
                · have hlti : ¬ (i : Int) < out.length := by omega
                  rw [hv3, hn3] at gpK
                  simp -dsimp [e1, e7, e10, e16, hlt, hlti, gpK]
                  refine (f8 ht).next ?_
                  rintro K2 hK2
                  simp -dsimp
                  exact fin_mk rfl
end Go.Proofs.YtceamnigcimldaaDoor
