/- A part of the proof: contracts of functions, over the abstract machine. -/
import Derived.Test.YtmdmabedfleacaaDoorCi17
set_option linter.unusedVariables false
set_option linter.unusedSimpArgs false
set_option linter.all false
namespace Go.Proofs.YtmdmabedfleacaaDoor
open Ram Go

variable {W0 : World} {H : AH}

theorem has_one {n : Net} (h : okBits n = true) (a : Int) : hasS false [n] a = inNet n a := by
  have hok : okSet [n] = true := by simp [okSet, h]
  simp [hasS, hok]
theorem has_not {l : List Net} (h : okSet l = true) (not : Bool) (a : Int) : hasS (!not) l a = !hasS not l a := by
  unfold hasS
  rw [h]
  cases (decide (l.length = 0) || l.any fun n => inNet n a) <;> cases not <;> rfl
@[simp] def uRow (x : Int) : List V := [.i .u32 x]
theorem us_of {A : AH} : ∀ {rows : List (List V)}, HasRs A [.i .u32] rows → ∃ l : List Int, rows = l.map uRow ∧ ∀ x ∈ l, 0 ≤ x ∧ x < 4294967296
  | [], _ => ⟨[], rfl, by simp⟩
  | r :: rows, h => by
    cases h with
    | cons _ _ _ h1 h2 =>
      obtain ⟨l, rfl, hl⟩ := us_of h2
      obtain ⟨a, _, rfl, ha, k1⟩ := HasK.invi h1
      rw [HasK.inv0 k1]
      refine ⟨a :: l, rfl, ?_⟩
      intro n hn
      rcases List.mem_cons.1 hn with rfl | hn
      · exact has_u32 ha
      · exact hl n hn
theorem rows_of {A : AH} {ks : List KC} : ∀ {rows : List (List V)}, (∀ r ∈ rows, HasK A ks r) → HasRs A ks rows
  | [], _ => .nil _
  | r :: rows, h => .cons _ _ _ (h r (by simp)) (rows_of fun x hx => h x (by simp [hx]))

set_option maxRecDepth 4000 in
/-- The law CidrClean. -/
theorem f8 (A : AH) (args : List V) (ht : Tab W0) (h : HasA A [.agg setKs, .sl [.i .u32]] args) : ACalls Tryd.prog W0 8 args A fun e _ => e = .ret (.b true) := by
  obtain ⟨not, v, l, _, rfl, hs, hn, hml, h⟩ := set_arg h
  obtain ⟨u, _, rfl, ⟨urows, hu, hur, hul⟩, h2⟩ := h.inv
  obtain ⟨us, rfl, hus⟩ := us_of (rows_of hur)
  rw [List.length_map] at hul
  rw [h2.inv0]
  obtain ⟨e', a', cap', hv⟩ := hs.len
  obtain ⟨eu, au, cpu, huv⟩ := hu.len
  rw [List.length_map] at hv huv
  have hone : V.one v = true := by rw [hv]; rfl
  refine acalls_in k8 (by simp) ?_
  have hk0 : Grows A (A.alloc (.cells .rw [.b not, v])) := Keeps.alloc' Keeps.refl
  have hs0 := hs.keep hk0 fun _ _ h => h
  by_cases hbig : 20 < l.length
  · have hbi : (20 : Int) < l.length := by omega
    simp -dsimp [hone, hv, hbi]
    refine (f21 ht).next ?_
    rintro H2 h2
    simp -dsimp
    exact fin_mk rfl
  · have hml' : l.length < 4611686018427387904 := by omega
    have hb' : ¬ (20 : Int) < l.length := by omega
    have hg1 : (A.alloc (.cells .rw [.b not, v])).get A.next = some (.cells .rw [.b not, v]) := by simp
    simp -dsimp [hone]
    obtain ⟨H1, hH1⟩ : ∃ H1, H1 = A.alloc (.cells .rw [.b not, v]) := ⟨_, rfl⟩
    rw [← hH1] at hg1 hs0 hk0 ⊢
    have l1 : A.next < H1.next := by rw [hH1]; simp
    rw [hv] at hg1
    simp -dsimp [hv, hg1, ldCells_of hg1, hb', hbig]
    rw [← hv]
    refine (f22 hs0 hml').next ?_
    rintro H2 h2
    have s2 := hs0.keep h2 fun _ _ h => h
    have g2 := Grows.at h2 l1 hg1
    cases hok : okSet l
    · simp -dsimp [g2, ldCells_of g2, hb', hbig]
      rw [← hv]
      refine (f28 (a := 0) s2 hml' hn (by omega) (by omega)).next ?_
      rintro H3 h3
      have : hasS not l 0 = false := by simp [hasS, hok]
      rw [this]
      simp -dsimp
      refine (f21 ht).next ?_
      rintro H4 h4
      simp -dsimp
      exact fin_mk rfl
    · have hl4 := okSet_len hok
      have hokc := okSet_clean hok
      have hcl := clean_len l
      have hcok := clean_ok hn
      have hapart := clean_apart hok
      have hagain := clean_again hok
      have hnone := clean_none hok
      have hhas := fun (a : Int) => clean_has (not := not) (a := a) hok hokc
      have hle : (cleanL l).length ≤ l.length := by
        have := cleanTo_len l l.length
        unfold cleanL; rw [hok]; simpa using this
      obtain ⟨c, hc⟩ : ∃ c, c = cleanL l := ⟨_, rfl⟩
      have hin := clean_in hok
      simp -dsimp [g2, ldCells_of g2, hb', hbig]
      rw [← hv]
      refine (f26 s2 (by omega)).some ?_
      rintro v4 H4 ⟨s4c, h4⟩
      have h4 := h2.trans h4
      simp -dsimp
      refine (f25 s4c hml' hn).some ?_
      rintro v5 H5 ⟨s5c, h5⟩
      have h5 := h4.trans h5
      rw [← hc] at hcl hcok hapart hagain hnone hhas hle hokc hin s5c
      obtain ⟨e5, a5, c5, hv5⟩ := s5c.len
      rw [List.length_map] at hv5
      have hone5 : V.one v5 = true := by rw [hv5]; rfl
      have hn5 : (okSet l && not) = not := by rw [hok, Bool.true_and]
      rw [hn5]
      simp -dsimp [splice, hone5]
      obtain ⟨H6, hH6⟩ : ∃ H6, H6 = H5.alloc (.cells .rw [.b not, v5]) := ⟨_, rfl⟩
      rw [← hH6]
      have k56 : Grows H5 H6 := by rw [hH6]; exact Keeps.alloc' Keeps.refl
      have gc6 : H6.get H5.next = some (.cells .rw [.b not, v5]) := by rw [hH6]; simp
      have lc6 : H5.next < H6.next := by rw [hH6]; simp
      have s6c := s5c.keep k56 fun _ _ h => h
      have h6 := h5.trans k56
      refine (f26 s6c (by omega)).some ?_
      rintro v7 H7 ⟨s7c, h7⟩
      simp -dsimp
      refine (f25 s7c (by omega) fun n h => (hcok n h).1).some ?_
      rintro v8 H8 ⟨s8c, h8⟩
      have h68 := h7.trans h8
      obtain ⟨e8, a8, c8, hv8⟩ := s8c.len
      rw [List.length_map] at hv8
      have hone8 : V.one v8 = true := by rw [hv8]; rfl
      have hn8 : (okSet c && not) = not := by rw [hokc, Bool.true_and]
      rw [hn8]
      have gc8 := Grows.at h68 lc6 gc6
      have ne58 : ¬ H5.next = H8.next := by have := h68.next; omega
      simp -dsimp [splice, hone8, ne58, ldCells_of gc8]
      obtain ⟨H9, hH9⟩ : ∃ H9, H9 = H8.alloc (.cells .rw [.b not, v8]) := ⟨_, rfl⟩
      rw [← hH9]
      have k89 : Grows H8 H9 := by rw [hH9]; exact Keeps.alloc' Keeps.refl
      have gd9 : H9.get H8.next = some (.cells .rw [.b not, v8]) := by rw [hH9]; simp
      have s9c := s8c.keep k89 fun _ _ h => h
      have h69 := h68.trans k89
      have gc9 := Grows.at h69 lc6 gc6
      have sc9 := s6c.keep h69 fun _ _ h => h
      refine (f24 sc9 s9c (by omega)).next ?_
      rintro G hG
      rw [hagain]
      have h6G := h69.trans hG
      have gc := Grows.at h6G lc6 gc6
      have lcG : H5.next < G.next := by have := h6G.next; omega
      have hAG := h6.trans h6G
      have gs := Grows.at hAG l1 hg1
      have lsG : A.next < G.next := by have := hAG.next; omega
      have sS := hs0.keep hAG fun _ _ h => h
      have sC := s6c.keep h6G fun _ _ h => h
      have sU := hu.keep (hk0.trans hAG) fun _ _ h => h
      rw [← hv] at gs
      clear g2 gd9 gc9 sc9 s9c s8c s7c gc6 s6c s5c s4c s2 hg1
      have hcz : ((c.length : Int) = 0) = (l.length = 0) := by
        rw [eq_iff_iff]; constructor
        · intro h; exact hnone.1 (by omega)
        · intro h; have := hnone.2 h; omega
      have hlz : ((l.length : Int) = 0) = (l.length = 0) := by rw [eq_iff_iff]; omega
      have hgt : ¬ (l.length : Int) < c.length := by omega
      have hgt' : ¬ l.length < c.length := by omega
      have hdd : (decide (l.length = 0) == decide (l.length = 0)) = true := by simp
      have hce : (c = []) = (l = []) := by
        rw [eq_iff_iff, ← List.length_eq_zero_iff, ← List.length_eq_zero_iff]; exact hnone
      have hdd2 : (decide (l = []) == decide (l = [])) = true := by simp
      simp -dsimp [gc, gs, hv, hv5, hgt, hgt', hcz, hlz, hdd, hce, hdd2]
      -- the first loop
      refine awp_round (fun m env H1' => ∃ i : Nat, i ≤ c.length ∧ m = c.length - i ∧ Grows G H1' ∧ env.get 1 = some u ∧ env.get 2 = some (.p (some (A.next, 0))) ∧ env.get 5 = some (.p (some (H5.next, 0))) ∧ env.get 7 = some (.i .i64 i)) c.length
        ⟨0, by omega, by omega, Keeps.refl, by simp, by simp, by simp, by simp⟩ ?_
      rintro m env K ⟨i, hi, rfl, hgr, e1, e2, e5, e7⟩
      have gcK := Grows.at hgr lcG gc
      by_cases hlt : i < c.length
      · obtain ⟨ic, oc, cpc, csc, vc', _, sc, ilc⟩ := at_row sC hlt
        rw [vc'] at gcK
        have hri : (c.map nRow)[i]? = some (nRow c[i]) := by rw [List.getElem?_map, List.getElem?_eq_getElem hlt]; rfl
        have hwi := wrap_succ (i := i) (by omega)
        simp -dsimp [e1, e2, e5, e7, gcK, hlt]
        refine awp_round (fun m env H1' => ∃ k : Nat, k ≤ c.length ∧ m = c.length - k ∧ Grows G H1' ∧ env.get 1 = some u ∧ env.get 2 = some (.p (some (A.next, 0))) ∧ env.get 5 = some (.p (some (H5.next, 0))) ∧ env.get 7 = some (.i .i64 i) ∧ env.get 8 = some (.i .i64 k)) c.length
          ⟨0, by omega, by omega, hgr, by simp [e1], by simp [e2], by simp [e5], by simp [e7], by simp⟩ ?_
        clear e1 e2 e5 e7 gcK hgr
        rintro m env K ⟨k, hk, rfl, hgr, e1, e2, e5, e7, e8⟩
        have gcK := Grows.at hgr lcG gc
        rw [vc'] at gcK
        by_cases hlk : k < c.length
        · have hwk := wrap_succ (i := k) (by omega)
          have sck := sc.keep hgr fun h => h
          have hrk : (c.map nRow)[k]? = some (nRow c[k]) := by rw [List.getElem?_map, List.getElem?_eq_getElem hlk]; rfl
          have i0 := sck.cell (j := 0) hri (by omega)
          have i1 := sck.cell (j := 1) hri (by omega)
          have k1 := sck.cell (j := 1) hrk (by omega)
          simp at i0 i1 k1
          by_cases hki : k = i
          · subst hki
            simp -dsimp [e1, e2, e5, e7, e8, gcK, hlk, hwk]
            exact hold_mk ⟨c.length - (k + 1), by omega, k + 1, by omega, rfl, hgr, by simp [e1], by simp [e2], by simp [e5], by simp [e7], by simp⟩
          · have hki' : ¬ (k : Int) = i := by omega
            by_cases hbt : c[k].bits ≤ c[i].bits
            · have hcap := sck.le
              rw [List.length_map] at hcap
              have hc1 : (k : Int) + 1 ≤ cpc := by omega
              have hc2 : (0 : Int) ≤ (k : Int) + 1 := by omega
              have hc3 : ((k : Int) + 1).toNat = k + 1 := by omega
              have hsub : SlV K .rw 2 (.sl 2 (some (ic, oc + k * 2)) 1 (cpc - k)) ([c[k]].map nRow) (fun _ => True) := by
                have h1 := (sck.drop (k := k) (by rw [List.length_map]; omega)).take 1
                have e : ((c.map nRow).drop k).take 1 = [c[k]].map nRow := by
                  rw [List.drop_eq_getElem_cons (by rw [List.length_map]; exact hlk)]; simp
                rw [e] at h1
                exact .inr ⟨ic, oc + k * 2, cpc - k, csc, by simp, trivial, h1⟩
              obtain ⟨nk, bk0, bk1⟩ := hcok _ (List.getElem_mem hlk)
              obtain ⟨ni, _, _⟩ := hcok _ (List.getElem_mem hlt)
              have hokk : okBits c[k] = true := by simp [okBits, bk0, bk1]
              have hno : inNet c[k] c[i].addr = false := by
                have h1 := List.pairwise_iff_getElem.1 hapart
                have h2 : ¬ cov c[k] c[i] := by
                  rcases Nat.lt_or_gt_of_ne hki with h | h
                  · exact (h1 k i hlk hlt h).1
                  · exact (h1 i k hlt hlk h).2
                cases hh : inNet c[k] c[i].addr
                · rfl
                · exact (h2 ⟨hbt, hh⟩).elim
              have hle1 : (k : Int) ≤ (k : Int) + 1 := by omega
              have hsb : k + 1 - k = 1 := by omega
              simp -dsimp [e1, e2, e5, e7, e8, gcK, hlk, hlt, hki', sck.get, i0, i1, k1, hbt, hc1, hc2, hc3, hle1, hsb, hwk]
              refine (f28 hsub (by simp) (fun n hn => by simp only [List.mem_singleton] at hn; rw [hn]; exact nk) ni.a0 ni.a1).next ?_
              rintro K2 hK2
              rw [has_one hokk, hno]
              simp -dsimp [e1, e2, e5, e7, e8, hwk]
              exact hold_mk ⟨c.length - (k + 1), by omega, k + 1, by omega, rfl, hgr.trans hK2, by simp [e1], by simp [e2], by simp [e5], by simp [e7], by simp⟩
            · simp -dsimp [e1, e2, e5, e7, e8, gcK, hlk, hlt, hki', sck.get, i0, i1, k1, hbt, hwk]
              exact hold_mk ⟨c.length - (k + 1), by omega, k + 1, by omega, rfl, hgr, by simp [e1], by simp [e2], by simp [e5], by simp [e7], by simp⟩
        · simp -dsimp [e1, e2, e5, e7, e8, gcK, hlk, hwi]
          exact hold_mk ⟨c.length - (i + 1), by omega, i + 1, by omega, rfl, hgr, by simp [e1], by simp [e2], by simp [e5], by simp⟩
      · rw [hv5] at gcK
        simp -dsimp [e1, e2, e5, e7, gcK, hlt]
        -- the second loop: addresses
        refine awp_round (fun m env H1' => ∃ i : Nat, i ≤ us.length ∧ m = us.length - i ∧ Grows G H1' ∧ env.get 1 = some u ∧ env.get 2 = some (.p (some (A.next, 0))) ∧ env.get 5 = some (.p (some (H5.next, 0))) ∧ env.get 9 = some (.i .i64 i)) us.length
          ⟨0, by omega, by omega, hgr, by simp [e1], by simp [e2], by simp [e5], by simp⟩ ?_
        clear e1 e2 e5 e7 gcK hgr
        rintro m env K ⟨i, hi, rfl, hgr, e1, e2, e5, e9⟩
        by_cases hlt2 : i < us.length ∧ i < 20
        · obtain ⟨hlu, h20⟩ := hlt2
          obtain ⟨iu, ou, cpu', csu, vu', _, su, ilu⟩ := at_row (es := 1) (r := uRow) sU hlu
          have hru : (us.map uRow)[i]? = some (uRow us[i]) := by rw [List.getElem?_map, List.getElem?_eq_getElem hlu]; rfl
          have hwi := wrap_succ (i := i) (by omega)
          obtain ⟨x0, x1⟩ := hus _ (List.getElem_mem hlu)
          have cellu : ∀ K', Grows G K' → ∃ cs, K'.get iu = some (.cells .ro cs) ∧ cs[ou + i]? = some (.i .u32 us[i]) := fun K' h => by
            have s := su.keep h fun h => h
            have := s.cell (j := 0) hru (by omega)
            simp at this
            exact ⟨_, s.get, this⟩
          have h20' : (i : Int) < 20 := by omega
          rw [vu'] at e1
          have at2 : ∀ K', Grows G K' → ldCells K' A.next 0 2 = some [.b not, v] := fun K' h => by
            have := ldCells_of (off := 0) (n := 2) (Grows.at h lsG gs); simpa using this
          have at5 : ∀ K', Grows G K' → ldCells K' H5.next 0 2 = some [.b not, v5] := fun K' h => by
            have := ldCells_of (off := 0) (n := 2) (Grows.at h lcG gc); simpa using this
          obtain ⟨q1, u1, u1'⟩ := cellu K hgr
          simp -dsimp [e1, e2, e5, e9, hlu, h20, h20', at2 K hgr, at5 K hgr, u1, u1']
          refine (f28 (sS.keep hgr fun _ _ h => h) hml' hn x0 x1).next ?_
          rintro K2 hK2
          have hg2 := hgr.trans hK2
          obtain ⟨q2, u2, u2'⟩ := cellu K2 hg2
          simp -dsimp [e1, e2, e5, e9, hlu, h20, h20', at2 K2 hg2, at5 K2 hg2, u2, u2']
          refine (f28 (sC.keep hg2 fun _ _ h => h) (by omega) (fun n h => (hcok n h).1) x0 x1).next ?_
          rintro K3 hK3
          have hg3 := hg2.trans hK3
          rw [hhas]
          have heq : (hasS not l us[i] == hasS not l us[i]) = true := by simp
          obtain ⟨q3, u3, u3'⟩ := cellu K3 hg3
          have gs3 := Grows.at hg3 lsG gs
          have hvc : v.cells = [v] := by rw [hv]; rfl
          simp -dsimp [e1, e2, e5, e9, hlu, h20, h20', at2 K3 hg3, gs3, u3, u3', heq, hvc, splice]
          refine (f28 (sS.keep hg3 fun _ _ h => h) hml' hn x0 x1).next ?_
          rintro K4 hK4
          have hg4 := hg3.trans hK4
          obtain ⟨q4, u4, u4'⟩ := cellu K4 hg4
          rw [has_not hok]
          simp -dsimp [e1, e2, e5, e9, hlu, h20, h20', at2 K4 hg4, u4, u4']
          refine (f28 (sS.keep hg4 fun _ _ h => h) hml' hn x0 x1).next ?_
          rintro K5 hK5
          have hg5 := hg4.trans hK5
          have hne : ((!hasS not l us[i]) == hasS not l us[i]) = false := by cases hasS not l us[i] <;> rfl
          simp -dsimp [e1, e2, e5, e9, hne, hwi]
          exact hold_mk ⟨us.length - (i + 1), by omega, i + 1, by omega, rfl, hg5, by simp [e1, vu'], by simp [e2], by simp [e5], by simp⟩
        · have gsK := Grows.at hgr lsG gs
          have gcK := Grows.at hgr lcG gc
          rw [hv] at gsK
          rw [huv] at e1
          have hx : ¬ (i < us.length) ∨ (i < us.length ∧ ¬ i < 20) := by omega
          rcases hx with hx | ⟨hx, hy⟩
          case' inl => simp -dsimp [e1, e2, e5, e9, hx]
          case' inr =>
            have hy' : ¬ (i : Int) < 20 := by omega
            simp -dsimp [e1, e2, e5, e9, hx, hy, hy']
          all_goals
            refine awp_round (fun m env H1' => ∃ i : Nat, i ≤ l.length ∧ m = l.length - i ∧ Grows G H1' ∧ env.get 2 = some (.p (some (A.next, 0))) ∧ env.get 5 = some (.p (some (H5.next, 0))) ∧ env.get 10 = some (.i .i64 i)) l.length
              ⟨0, by omega, by omega, hgr, by simp [e2], by simp [e5], by simp⟩ ?_
            clear e1 e2 e5 e9 gcK gsK hgr
            rintro m env K ⟨j, hj, rfl, hgr, e2, e5, e10⟩
            have gs1 := Grows.at hgr lsG gs
            by_cases hlj : j < l.length
            · obtain ⟨ic, oc, cpc, csc, vc', _, sc, ilc⟩ := at_row sS hlj
              rw [vc'] at gs1
              have hrj : (l.map nRow)[j]? = some (nRow l[j]) := by rw [List.getElem?_map, List.getElem?_eq_getElem hlj]; rfl
              have hwj := wrap_succ (i := j) (by omega)
              have sck := sc.keep hgr fun h => h
              have i0 := sck.cell (j := 0) hrj (by omega)
              simp at i0
              have nj := hn _ (List.getElem_mem hlj)
              have at5 : ldCells K H5.next 0 2 = some [.b not, v5] := by
                have := ldCells_of (off := 0) (n := 2) (Grows.at hgr lcG gc); simpa using this
              simp -dsimp [e2, e5, e10, gs1, hlj, sck.get, i0, at5]
              refine (f28 (sC.keep hgr fun _ _ h => h) (by omega) (fun n h => (hcok n h).1) nj.a0 nj.a1).next ?_
              rintro K2 hK2
              have hg2 := hgr.trans hK2
              have gs2 := Grows.at hg2 lsG gs
              have hself : l.any (fun n => inNet n l[j].addr) = true := by
                rw [List.any_eq_true]
                exact ⟨l[j], List.getElem_mem hlj, by simp [inNet]⟩
              have hh : hasS not l l[j].addr = !not := by
                unfold hasS
                rw [hok, hself]
                simp
              rw [hhas, hh]
              have hne : ((!not) == not) = false := by cases not <;> rfl
              simp -dsimp [e2, e5, e10, gs2, hne, hwj]
              exact hold_mk ⟨l.length - (j + 1), by omega, j + 1, by omega, rfl, hg2, by simp [e2], by simp [e5], by simp⟩
            · rw [hv] at gs1
              simp -dsimp [e2, e5, e10, gs1, hlj]
              refine (f21 ht).next ?_
              rintro K2 hK2
              simp -dsimp
              exact fin_mk rfl
end Go.Proofs.YtmdmabedfleacaaDoor
