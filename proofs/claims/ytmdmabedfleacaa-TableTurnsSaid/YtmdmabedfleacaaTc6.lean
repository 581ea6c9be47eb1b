/- A part of the proof: contracts of functions, over the abstract machine. -/
import Derived.Test.YtmdmabedfleacaaTc5
set_option linter.unusedVariables false
set_option linter.unusedSimpArgs false
set_option linter.all false
namespace Go.Proofs.Ytmdmabedfleacaa
open Ram Go

variable {W0 : World} {H : AH}

theorem rep0 (j : Nat) (hj : j < 20) : (List.replicate 20 (0 : Int))[j]! = 0 := by
  rw [getElem!_pos _ j (by simpa using hj)]; exact List.getElem_replicate ..

set_option maxHeartbeats 1000000 in
set_option maxRecDepth 10000 in
/-- The law TableTurns. -/
theorem f7 (A : AH) (args : List V) (h : HasA A [.sl [.i .i64], .sl [.i .i64]] args) : ACalls Try.prog W0 7 args A fun e _ => e = .ret (.b true) := by
  obtain ⟨v, _, rfl, ⟨rows, hs, hrow, hmax⟩, h⟩ := h.inv
  obtain ⟨v2, _, rfl, ⟨rows2, hs2, hrow2, hmax2⟩, h⟩ := h.inv
  rw [h.inv0]
  have hs : SlV A .ro 1 v rows (fun _ => True) := hs
  have hs2 : SlV A .ro 1 v2 rows2 (fun _ => True) := hs2
  obtain ⟨e', a', cap', hv⟩ := hs.len
  obtain ⟨e2', a2', cap2', hv2⟩ := hs2.len
  refine acalls_in k7 (by simp) ?_
  simp -dsimp
  refine (f11 64 50).some ?_
  rintro tb H1 ⟨h1, g1⟩
  rw [show max 1 (min (64 : Int) 64) = 64 by decide, show max 1 (min (50 : Int) 100000) = 50 by decide] at h1
  by_cases h60 : (60 : Int) < rows.length
  · simp -dsimp [hv, h60]
    refine f12.mono ?_
    intro e' H' h
    rw [h]
    simp -dsimp
    exact fin_mk rfl
  simp -dsimp [hv, h60]
  have nar : ¬ Up NoId A H1 H1.next := by
    rintro (h | h)
    · exact h
    · omega
  have g2 : ∀ o, Grows H1 (H1.alloc o) := fun _ => Keeps.alloc' Keeps.refl
  obtain ⟨ar, har⟩ : ∃ ar, ar = H1.next := ⟨_, rfl⟩
  rw [← har] at nar
  have hne1 := g1.next
  refine awp_round (fun m env H => ∃ (i : Nat) (ds : List Fd) (ids : List Int) (last : Int) (F : Nat → Prop), i ≤ rows.length ∧ m = rows.length - i ∧ env.get 0 = some v ∧ env.get 1 = some v2 ∧ env.get 5 = some (.p (some (tb, 0))) ∧ env.get 6 = some (.p (some (ar, 0))) ∧ env.get 7 = some (.i .i64 last) ∧
    env.get 8 = some (.f (.func 29) [] []) ∧ env.get 9 = some (.f (.func 30) [] []) ∧ env.get 10 = some (.i .i64 i) ∧ H.get ar = some (.cells .rw (ids.map (V.i .i64))) ∧ ids.length = 20 ∧ ar < H.next ∧ ¬ F ar ∧ TRep H tb 64 50 0 last ds F ∧ (∀ j, F j → A.next ≤ j) ∧
    Inv ds (fun j => ids[j]!) last ∧ 0 ≤ last ∧ last ≤ i ∧ ds.length ≤ i ∧ Keeps (fun j => A.next ≤ j) A H) rows.length
    ⟨0, [], List.replicate 20 0, 0, _, by omega, by omega, by simp [hv], by simp [hv2], by simp, by simp [har], by simp, by simp, by simp, by simp, by rw [har]; simp, by simp, by rw [har]; simp, nar, h1.grow (g2 _), ?_, ?_, by omega, by omega, by simp, ?_⟩ ?_
  · rintro j (h | h)
    · exact h.elim
    · exact h.1
  · refine ⟨by simp, fun j hj hp => ?_, fun j hj => ?_, fun j j' hj hj' hp => ?_⟩
    · have := rep0 j hj
      rw [this] at hp; omega
    · have := rep0 j hj
      rw [this]; omega
    · have := rep0 j hj
      rw [this] at hp; omega
  · exact Keeps.trans (Grows.keeps g1) (Grows.keeps (g2 _))
  rintro m env H3 ⟨i, ds, ids, last, F, hi, rfl, e0, e1, e5, e6, e7, e8, e9, e10, gar, hidl, lar, nF, ht, hFn, hinv, hl0, hl1, hdl, k3⟩
  by_cases hlt : i < rows.length
  · obtain ⟨n, _, hr1, _, hr2⟩ := (hrow rows[i] (List.getElem_mem hlt)).invi
    rw [hr2.inv0] at hr1
    rcases hs with ⟨hnil, _⟩ | ⟨id, o, cap, cs, rfl, _, hs⟩
    · subst hnil; simp at hlt
    have hs3 := hs.keep k3 (by have := hs.lt; omega)
    have hc := hs3.cell (i := i) (j := 0) (r := [.i .i64 n]) (by rw [List.getElem?_eq_getElem hlt, hr1]) (by omega)
    simp at hc
    obtain ⟨u, hu, hu20⟩ := emod_nat (n := n) (m := 20) (by omega)
    simp -dsimp [e0, e1, e5, e6, e7, e8, e9, e10, hlt, hs3.get, hc]
    refine (f10 (n := n) (m := 20) (by omega) (by omega)).next ?_
    rintro _ rfl
    rw [show n % 20 = u from hu]
    simp -dsimp [e5, e6, e7, e8, e9, e10]
    refine (f29 (i := u) (by omega)).next ?_
    rintro H4 g4
    simp -dsimp [e5, e6, e7, e8, e9, e10]
    refine (f13 (uT u) (ht.grow g4) (by omega) (by omega)).next ?_
    rintro H5 ⟨t5, k5⟩
    -- what a Put does here
    obtain ⟨x, hx⟩ : ∃ x, x = ids[u]! := ⟨_, rfl⟩
    have hx0 := hinv.c u hu20
    rw [← hx] at hx0
    have key : ∃ ds5 ids5 last5 aa, putD ds 64 0 last (uT u) = ds5 ∧ ((foundD ds (uT u)).elim (last + 1) fun _ => last) = last5 ∧ (foundD ds (uT u)).elim (last + 1) (·.id) = aa ∧
        (foundD ds (uT u)).elim (if 64 ≤ (ds.length : Int) then (ds.head?.elim 0 (·.id)) else 0) (fun _ => 0) = 0 ∧ ids5 = ids.set u aa ∧ Inv ds5 (fun j => ids5[j]!) last5 ∧ 0 < aa ∧ ids5[u]! = aa ∧ (x = 0 → aa = last + 1) ∧ (x ≠ 0 → aa = x) ∧ last ≤ last5 ∧ last5 ≤ last + 1 ∧ aa ≤ last5 ∧ (aa = last5 ∨ last = last5) ∧ ds5.length ≤ ds.length + 1 := by
      by_cases hz : x = 0
      · have hf := hinv.nofound (v := u) (x := uT u) (same_uu u) (fun _ => by rw [← hx]; exact hz)
        have hset : ∀ j, (ids.set u (last + 1))[j]! = if j = u then last + 1 else ids[j]! := by
          intro j
          by_cases hj : j < 20
          · rw [getElem!_pos _ j (by simpa [hidl] using hj), List.getElem_set]
            by_cases e : u = j
            · rw [if_pos e, if_pos e.symm]
            · rw [if_neg e, if_neg (fun h => e h.symm), getElem!_pos _ j (by omega)]
          · have hju : j ≠ u := by omega
            rw [if_neg hju, getElem!_neg _ j (by simp; omega), getElem!_neg _ j (by omega)]
        refine ⟨_, _, _, last + 1, rfl, rfl, by rw [hf]; rfl, by rw [hf]; simp; omega, rfl, ?_, by omega, by rw [hset, if_pos rfl], fun _ => rfl, fun h => (h hz).elim, by rw [hf]; simp <;> omega, by rw [hf]; simp <;> omega, by rw [hf]; simp <;> omega, by rw [hf]; simp, ?_⟩
        · rw [hf]
          unfold putD roomD
          rw [hf, if_neg (by omega)]
          have := hinv.put (now := 0) hl0 hu20 (by rw [← hx]; exact hz)
          simp only [hset]
          exact this
        · unfold putD roomD
          rw [hf, if_neg (by omega)]
          simp
      · obtain ⟨d, hd, hdt, hdi⟩ := hinv.found (v := u) (x := uT u) (same_uu u) hu20 (by omega)
        have hself : ids.set u x = ids := by
          apply List.ext_getElem?
          intro j
          rw [List.getElem?_set]
          by_cases e : u = j
          · subst e; rw [if_pos rfl, if_pos (by omega), hx, getElem!_pos _ u (by omega), List.getElem?_eq_getElem (by omega)]
          · rw [if_neg e]
        refine ⟨_, _, _, x, rfl, rfl, by rw [hd]; simp [hdi, hx], by rw [hd]; rfl, rfl, ?_, by omega, by rw [hself, hx], fun h => (hz h).elim, fun _ => rfl, by rw [hd]; simp, by rw [hd]; simp <;> omega, by rw [hd]; simp <;> omega, by rw [hd]; simp, ?_⟩
        · rw [hself, hd]
          unfold putD
          rw [hd]
          exact hinv.touch
        · unfold putD
          rw [hd]
          have := (touchD_same (ds := ds) (x := uT u) (now := 0)).2.2
          simp only; omega
    obtain ⟨ds5, ids5, last5, aa, q1, q2, q3, q4, q5, inv5, haa, hid5, hz1, hz2, hla, hlb, haal, hor, hdl5⟩ := key
    rw [q1, q2] at t5
    rw [q3, q4]
    simp -dsimp [e5, e6, e7, e8, e9, e10]
    refine (f30 (i := u) (by omega)).next ?_
    rintro H6 g6
    simp -dsimp [e5, e6, e7, e8, e9, e10]
    refine (f31D (wT u) (t5.grow g6)).next ?_
    rintro H7 ⟨t7, k7⟩
    obtain ⟨d7, hd7, hd7t, hd7i⟩ := inv5.found (v := u) (x := wT u) (same_wu u) hu20 (by rw [hid5]; exact haa)
    rw [hd7]
    simp -dsimp [e5, e6, e7, e8, e9, e10, hd7t, hd7i, hid5, dir_wu]
    refine (f29 (i := u) (by omega)).next ?_
    rintro H8 g8
    simp -dsimp [e5, e6, e7, e8, e9, e10]
    refine (f31D (uT u) (t7.grow g8)).next ?_
    rintro H9 ⟨t9, k9⟩
    have inv7 := inv5.touch (now := 0) (x := wT u)
    obtain ⟨d9, hd9, hd9t, hd9i⟩ := inv7.found (v := u) (x := uT u) (same_uu u) hu20 (by rw [hid5]; exact haa)
    rw [hd9]
    have n4 := g4.next
    have n5 := k5.next
    have n6 := g6.next
    have n7 := k7.next
    have n8 := g8.next
    have n9 := k9.next
    have nF5 : ¬ Up F H4 H5 ar := Up.not nF (by omega)
    have gar9 := k9.at (by omega) nF5 (Grows.at g8 (by omega) (k7.at (by omega) nF5 (Grows.at g6 (by omega) (k5.at (by omega) nF (Grows.at g4 lar gar)))))
    have lar9 : ar < H9.next := by omega
    have hul : u < ids.length := by omega
    have hu20' : (u : Int) < 20 := by omega
    have h19 : u ≤ 19 := by omega
    have hru : ids[u]'hul = x := by rw [hx, getElem!_pos _ u hul]
    have hw1 : IntKind.i64.wrap (last + 1) = last + 1 := wrap_i64 (by omega) (by omega)
    have inv9 := inv7.touch (now := 0) (x := uT u)
    have hwi : IntKind.i64.wrap ((i : Int) + 1) = (i : Int) + 1 := wrap_i64 (by omega) (by omega)
    have hmx : (if last < aa then aa else last) = last5 := by split <;> omega
    have hmx' : (if aa < last then last else aa) = last5 := by split <;> omega
    have hsp := splice_set (x := aa) hul
    have hset9 : H9.set ar (.cells .rw ((ids.map (V.i .i64)).set u (.i .i64 aa))) = H9.set ar (.cells .rw (ids5.map (V.i .i64))) := by rw [q5, List.map_set]
    have hid5l : ids5.length = 20 := by rw [q5, List.length_set]; exact hidl
    have h0 : (x = 0 ∧ aa = last + 1) ∨ (¬ x = 0 ∧ aa = x) := by
      by_cases hxz : x = 0
      · exact .inl ⟨hxz, hz1 hxz⟩
      · exact .inr ⟨hxz, hz2 hxz⟩
    have hk9 : Keeps (fun j => A.next ≤ j) A H9 := by
      have a1 := k3.then (Keeps.trans (Grows.keeps g4) k5) fun j _ h => hFn j h
      have hU : ∀ j, j < A.next → Up F H4 H5 j → A.next ≤ j := fun j hj h => by
        rcases h with h | h
        · exact hFn j h
        · have := k3.next; omega
      exact ((a1.then (Keeps.trans (Grows.keeps g6) k7) hU).then (Keeps.trans (Grows.keeps g8) k9) hU)
    obtain ⟨H10, hH10⟩ : ∃ H10, H10 = H9.set ar (.cells .rw (ids5.map (V.i .i64))) := ⟨_, rfl⟩
    have n3 := k3.next
    have har3 : A.next ≤ ar := by omega
    have k10 : Keeps (fun j => A.next ≤ j) A H10 := by rw [hH10]; exact Keeps.set_own hk9 har3
    have gar10 : H10.get ar = some (.cells .rw (ids5.map (V.i .i64))) := by rw [hH10, AH.get_set, if_pos rfl]
    have t10 : TRep H10 tb 64 50 0 last5 (touchD (touchD ds5 (wT u) 0) (uT u) 0) (Up F H4 H5) := by
      rw [hH10]; exact t9.keep (G := fun j => j = ar) (Keeps.set fun _ => rfl) fun j h e => nF5 (e ▸ h)
    have lar10 : ar < H10.next := by rw [hH10]; simpa using lar9
    have hUF : ∀ j, Up F H4 H5 j → A.next ≤ j := fun j h => by
      rcases h with h | h
      · exact hFn j h
      · omega
    have hdl9 : (touchD (touchD ds5 (wT u) 0) (uT u) 0).length ≤ i + 1 := by
      rw [touchD_same.2.2, touchD_same.2.2]; omega
    have hl5 : 0 ≤ last5 ∧ last5 ≤ ((i + 1 : Nat) : Int) := by omega
    obtain ⟨ds9, hds9⟩ : ∃ ds9, ds9 = touchD (touchD ds5 (wT u) 0) (uT u) 0 := ⟨_, rfl⟩
    rw [← hds9] at t10 hdl9 inv9
    rcases h0 with ⟨hxz, haz⟩ | ⟨hxz, haz⟩
    · have z1 := eq_true hxz
      have z2 := eq_true haz
      simp -dsimp [e0, e1, e5, e6, e7, e8, e9, e10, hd9t, hd9i, hid5, dir_uu, gar9, hru, hu20, hu20', h19, z1, z2, hw1, hsp, hmx, hmx', hidl, hv2, hset9, ← hH10]
      by_cases hr2l : i < rows2.length
      · obtain ⟨n2, _, hq1, _, hq2⟩ := (hrow2 rows2[i] (List.getElem_mem hr2l)).invi
        rw [hq2.inv0] at hq1
        rcases hs2 with ⟨hnil, _⟩ | ⟨id2, o2, cap2, cs2, hv2', _, hs2⟩
        · subst hnil; simp at hr2l
        have hs23 := hs2.keep k10 (by have := hs2.lt; omega)
        have hc2 := hs23.cell (i := i) (j := 0) (r := [.i .i64 n2]) (by rw [List.getElem?_eq_getElem hr2l, hq1]) (by omega)
        simp at hc2
        rw [hv2] at hv2'
        simp only [V.sl.injEq] at hv2'
        obtain ⟨w1, w2, w3, w4⟩ := hv2'
        subst w1
        subst w2
        simp -dsimp [e0, e1, e5, e6, e7, e8, e9, e10, hr2l, hv2, hs23.get, hc2]
        refine (f10 (n := n2) (m := 3) (by omega) (by omega)).next ?_
        rintro _ rfl
        obtain ⟨y3, hy3, hy3'⟩ := emod_nat (n := n2) (m := 3) (by omega)
        rw [show n2 % 3 = y3 from hy3]
        by_cases h3z : y3 = 0
        · have hwu : IntKind.i64.wrap ((u : Int) + 100) = ((u + 100 : Nat) : Int) := by rw [wrap_i64 (by omega) (by omega)]; omega
          simp -dsimp [e0, e1, e5, e6, e7, e8, e9, e10, h3z, hwu, hr2l]
          refine (f29 (i := u + 100) (by omega)).next ?_
          rintro H11 g11
          simp -dsimp [e0, e1, e5, e6, e7, e8, e9, e10]
          refine (f31D (uT (u + 100)) (t10.grow g11)).next ?_
          rintro H12 ⟨t12, k12⟩
          have hnf := inv9.nofound (v := u + 100) (x := uT (u + 100)) (same_uu _) (fun h => by omega)
          rw [hnf]
          have inv12 := inv9.touch (now := 0) (x := uT (u + 100))
          obtain ⟨r1, r2, r3, r4⟩ := inv12.remove hu20 (by rw [hid5]; exact haa)
          rw [hid5] at r1 r2 r3 r4
          simp -dsimp [e0, e1, e5, e6, e7, e8, e9, e10]
          refine (f32 aa t12).next ?_
          rintro H13 ⟨t13, k13⟩
          rw [r2]
          simp -dsimp [e0, e1, e5, e6, e7, e8, e9, e10]
          refine (f32 aa t13).next ?_
          rintro H14 ⟨t14, k14⟩
          rw [r3]
          rw [r4] at t14
          have n11 := g11.next
          have n12 := k12.next
          have n13 := k13.next
          have n14 := k14.next
          have gar14 := k14.at (by omega) nF5 (k13.at (by omega) nF5 (k12.at (by omega) nF5 (Grows.at g11 lar10 gar10)))
          have hsp0 := splice_set (l := ids5) (u := u) (x := 0) (by omega)
          have hwi' : IntKind.i64.wrap ((i : Int) + 1) = (i : Int) + 1 := hwi
          simp -dsimp [e0, e1, e5, e6, e7, e8, e9, e10, gar14, hu20, hu20', h19, hsp0, hid5l, hwi']
          refine hold_mk ⟨rows.length - (i + 1), by omega, i + 1, _, ids5.set u 0, last5, Up F H4 H5, by omega, rfl, by simp [e0], by simp [e1, hv2], by simp [e5], by simp [e6], by simp, by simp [e8], by simp [e9], by simp, by rw [AH.get_set, if_pos rfl, List.map_set], by rw [List.length_set]; exact hid5l, by simp; omega, nF5, t14.keep (G := fun j => j = ar) (Keeps.set fun _ => rfl) (fun j h e => nF5 (e ▸ h)), hUF, ?_, hl5.1, hl5.2, ?_, ?_⟩
          · have hset : ∀ j, (ids5.set u 0)[j]! = if j = u then 0 else ids5[j]! := by
              intro j
              by_cases hj : j < 20
              · rw [getElem!_pos _ j (by simpa [hid5l] using hj), List.getElem_set]
                by_cases e : u = j
                · rw [if_pos e, if_pos e.symm]
                · rw [if_neg e, if_neg (fun h => e h.symm), getElem!_pos _ j (by omega)]
              · have hju : j ≠ u := by omega
                rw [if_neg hju, getElem!_neg _ j (by simp; omega), getElem!_neg _ j (by omega)]
            simp only [hset]
            exact r1
          · have := List.length_filter_le (fun x : Fd => !decide (x.id = aa)) (touchD ds9 (uT (u + 100)) 0)
            rw [touchD_same.2.2] at this
            omega
          · refine Keeps.set_own ((((k10.trans (Grows.keeps g11)).then k12 fun j _ h => hUF j h).then k13 fun j _ h => hUF j h).then k14 fun j _ h => hUF j h) har3
        · simp -dsimp [e0, e1, e5, e6, e7, e8, e9, e10, h3z, hwi, hr2l]
          exact hold_mk ⟨rows.length - (i + 1), by omega, i + 1, ds9, ids5, last5, Up F H4 H5, by omega, rfl, by simp [e0], by simp [e1, hv2], by simp [e5], by simp [e6], by simp, by simp [e8], by simp [e9], by simp, gar10, hid5l, lar10, nF5, t10, hUF, inv9, hl5.1, hl5.2, hdl9, k10⟩
      · simp -dsimp [e0, e1, e5, e6, e7, e8, e9, e10, hr2l, hwi]
        exact hold_mk ⟨rows.length - (i + 1), by omega, i + 1, ds9, ids5, last5, Up F H4 H5, by omega, rfl, by simp [e0], by simp [e1, hv2], by simp [e5], by simp [e6], by simp, by simp [e8], by simp [e9], by simp, gar10, hid5l, lar10, nF5, t10, hUF, inv9, hl5.1, hl5.2, hdl9, k10⟩
    · have z1 := eq_false hxz
      have z2 := eq_true haz
      simp -dsimp [e0, e1, e5, e6, e7, e8, e9, e10, hd9t, hd9i, hid5, dir_uu, gar9, hru, hu20, hu20', h19, z1, z2, hw1, hsp, hmx, hmx', hidl, hv2, hset9, ← hH10]
      by_cases hr2l : i < rows2.length
      · obtain ⟨n2, _, hq1, _, hq2⟩ := (hrow2 rows2[i] (List.getElem_mem hr2l)).invi
        rw [hq2.inv0] at hq1
        rcases hs2 with ⟨hnil, _⟩ | ⟨id2, o2, cap2, cs2, hv2', _, hs2⟩
        · subst hnil; simp at hr2l
        have hs23 := hs2.keep k10 (by have := hs2.lt; omega)
        have hc2 := hs23.cell (i := i) (j := 0) (r := [.i .i64 n2]) (by rw [List.getElem?_eq_getElem hr2l, hq1]) (by omega)
        simp at hc2
        rw [hv2] at hv2'
        simp only [V.sl.injEq] at hv2'
        obtain ⟨w1, w2, w3, w4⟩ := hv2'
        subst w1
        subst w2
        simp -dsimp [e0, e1, e5, e6, e7, e8, e9, e10, hr2l, hv2, hs23.get, hc2]
        refine (f10 (n := n2) (m := 3) (by omega) (by omega)).next ?_
        rintro _ rfl
        obtain ⟨y3, hy3, hy3'⟩ := emod_nat (n := n2) (m := 3) (by omega)
        rw [show n2 % 3 = y3 from hy3]
        by_cases h3z : y3 = 0
        · have hwu : IntKind.i64.wrap ((u : Int) + 100) = ((u + 100 : Nat) : Int) := by rw [wrap_i64 (by omega) (by omega)]; omega
          simp -dsimp [e0, e1, e5, e6, e7, e8, e9, e10, h3z, hwu, hr2l]
          refine (f29 (i := u + 100) (by omega)).next ?_
          rintro H11 g11
          simp -dsimp [e0, e1, e5, e6, e7, e8, e9, e10]
          refine (f31D (uT (u + 100)) (t10.grow g11)).next ?_
          rintro H12 ⟨t12, k12⟩
          have hnf := inv9.nofound (v := u + 100) (x := uT (u + 100)) (same_uu _) (fun h => by omega)
          rw [hnf]
          have inv12 := inv9.touch (now := 0) (x := uT (u + 100))
          obtain ⟨r1, r2, r3, r4⟩ := inv12.remove hu20 (by rw [hid5]; exact haa)
          rw [hid5] at r1 r2 r3 r4
          simp -dsimp [e0, e1, e5, e6, e7, e8, e9, e10]
          refine (f32 aa t12).next ?_
          rintro H13 ⟨t13, k13⟩
          rw [r2]
          simp -dsimp [e0, e1, e5, e6, e7, e8, e9, e10]
          refine (f32 aa t13).next ?_
          rintro H14 ⟨t14, k14⟩
          rw [r3]
          rw [r4] at t14
          have n11 := g11.next
          have n12 := k12.next
          have n13 := k13.next
          have n14 := k14.next
          have gar14 := k14.at (by omega) nF5 (k13.at (by omega) nF5 (k12.at (by omega) nF5 (Grows.at g11 lar10 gar10)))
          have hsp0 := splice_set (l := ids5) (u := u) (x := 0) (by omega)
          have hwi' : IntKind.i64.wrap ((i : Int) + 1) = (i : Int) + 1 := hwi
          simp -dsimp [e0, e1, e5, e6, e7, e8, e9, e10, gar14, hu20, hu20', h19, hsp0, hid5l, hwi']
          refine hold_mk ⟨rows.length - (i + 1), by omega, i + 1, _, ids5.set u 0, last5, Up F H4 H5, by omega, rfl, by simp [e0], by simp [e1, hv2], by simp [e5], by simp [e6], by simp, by simp [e8], by simp [e9], by simp, by rw [AH.get_set, if_pos rfl, List.map_set], by rw [List.length_set]; exact hid5l, by simp; omega, nF5, t14.keep (G := fun j => j = ar) (Keeps.set fun _ => rfl) (fun j h e => nF5 (e ▸ h)), hUF, ?_, hl5.1, hl5.2, ?_, ?_⟩
          · have hset : ∀ j, (ids5.set u 0)[j]! = if j = u then 0 else ids5[j]! := by
              intro j
              by_cases hj : j < 20
              · rw [getElem!_pos _ j (by simpa [hid5l] using hj), List.getElem_set]
                by_cases e : u = j
                · rw [if_pos e, if_pos e.symm]
                · rw [if_neg e, if_neg (fun h => e h.symm), getElem!_pos _ j (by omega)]
              · have hju : j ≠ u := by omega
                rw [if_neg hju, getElem!_neg _ j (by simp; omega), getElem!_neg _ j (by omega)]
            simp only [hset]
            exact r1
          · have := List.length_filter_le (fun x : Fd => !decide (x.id = aa)) (touchD ds9 (uT (u + 100)) 0)
            rw [touchD_same.2.2] at this
            omega
          · refine Keeps.set_own ((((k10.trans (Grows.keeps g11)).then k12 fun j _ h => hUF j h).then k13 fun j _ h => hUF j h).then k14 fun j _ h => hUF j h) har3
        · simp -dsimp [e0, e1, e5, e6, e7, e8, e9, e10, h3z, hwi, hr2l]
          exact hold_mk ⟨rows.length - (i + 1), by omega, i + 1, ds9, ids5, last5, Up F H4 H5, by omega, rfl, by simp [e0], by simp [e1, hv2], by simp [e5], by simp [e6], by simp, by simp [e8], by simp [e9], by simp, gar10, hid5l, lar10, nF5, t10, hUF, inv9, hl5.1, hl5.2, hdl9, k10⟩
      · simp -dsimp [e0, e1, e5, e6, e7, e8, e9, e10, hr2l, hwi]
        exact hold_mk ⟨rows.length - (i + 1), by omega, i + 1, ds9, ids5, last5, Up F H4 H5, by omega, rfl, by simp [e0], by simp [e1, hv2], by simp [e5], by simp [e6], by simp, by simp [e8], by simp [e9], by simp, gar10, hid5l, lar10, nF5, t10, hUF, inv9, hl5.1, hl5.2, hdl9, k10⟩
  · simp -dsimp [e0, e10, hv, hlt]
    refine f12.mono ?_
    intro e' H' h
    rw [h]
    simp -dsimp
    exact fin_mk rfl
end Go.Proofs.Ytmdmabedfleacaa
