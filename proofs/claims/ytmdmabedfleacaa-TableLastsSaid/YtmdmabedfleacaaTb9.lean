/- A part of the proof: contracts of functions, over the abstract machine. -/
import Derived.Test.YtmdmabedfleacaaTb8
set_option linter.unusedVariables false
set_option linter.unusedSimpArgs false
set_option linter.all false
namespace Go.Proofs.Ytmdmabedfleacaa
open Ram Go

variable {W0 : World} {H : AH}

def nRow (j : Nat) : List V := [.i .i64 j]

theorem SlV.dropV {md : Md} {es e cap n : Nat} {a : Option (Nat × Nat)} {rows : List (List V)} {F : Nat → Prop} (h : SlV H md es (.sl e a n cap) rows F) (hne : rows ≠ []) {d : Nat} (hd : d ≤ rows.length) :
    ∃ id o, e = es ∧ a = some (id, o) ∧ n = rows.length ∧ rows.length ≤ cap ∧ SlV H md es (.sl es (some (id, o + d * es)) (rows.length - d) (cap - d)) (rows.drop d) F := by
  rcases h with ⟨hnil, _⟩ | ⟨id, o, cap', cs, hv, hF, hs⟩
  · exact (hne hnil).elim
  · cases hv
    exact ⟨id, o, rfl, rfl, rfl, hs.le, .inr ⟨id, _, _, cs, by simp, hF, hs.drop hd⟩⟩

theorem f3 (A : AH) (args : List V) (h : HasA A [.one (.i .i64), .sl [.i .i64]] args) : ACalls Try.prog W0 3 args A fun e _ => e = .ret (.b true) := by
  obtain ⟨a0, _, rfl, _, h⟩ := h.invi
  obtain ⟨v, _, rfl, ⟨rows, hs, hrow, hmax⟩, h⟩ := h.inv
  rw [h.inv0]
  have hs : SlV A .ro 1 v rows (fun _ => True) := hs
  obtain ⟨e', a', cap', hv⟩ := hs.len
  obtain ⟨k, hk⟩ : ∃ k : Nat, (k : Int) = 1 + a0 % 10 := ⟨(1 + a0 % 10).toNat, by have := Int.emod_nonneg a0 (show (10 : Int) ≠ 0 by omega); omega⟩
  have hk1 := Int.emod_lt_of_pos a0 (show (0 : Int) < 10 by omega)
  have hk0 := Int.emod_nonneg a0 (show (10 : Int) ≠ 0 by omega)
  refine acalls_in k3 (by simp) ?_
  simp -dsimp
  refine (f10 (n := a0) (m := 10) (by omega) (by omega)).next ?_
  rintro _ rfl
  have hw1 : IntKind.i64.wrap (1 + a0 % 10) = k := by rw [wrap_i64 (by omega) (by omega)]; omega
  simp -dsimp [hw1]
  refine (f11 k 100000).some ?_
  rintro tb H1 ⟨h1, g1⟩
  rw [show max 1 (min (k : Int) 64) = k by omega, show max 1 (min (100000 : Int) 100000) = 100000 by decide] at h1
  have hUp : ∀ i, Up NoId A H1 i → A.next ≤ i := by
    rintro i (h | h)
    · exact h.elim
    · exact h.1
  by_cases h80 : (80 : Int) < rows.length
  · simp -dsimp [hv, h80]
    refine f12.mono ?_
    intro e' H' h
    rw [h]
    simp -dsimp
    exact fin_mk rfl
  simp -dsimp [hv, h80]
  refine awp_round (fun m env H => ∃ (i : Nat) (os : List Nat) (ds : List Fd) (last : Int) (vo : V) (F G : Nat → Prop), i ≤ rows.length ∧ m = rows.length - i ∧ env.get 1 = some v ∧ env.get 5 = some (.i .i64 k) ∧ env.get 6 = some (.p (some (tb, 0))) ∧ env.get 7 = some vo ∧ env.get 8 = some (.i .i64 i) ∧
    TRep H tb k 100000 0 last ds F ∧ ds.map (·.t) = os.map lT ∧ os.Nodup ∧ os.length ≤ k ∧ (∀ x ∈ os, x < 20) ∧ SlV H .rw 1 vo (os.map nRow) G ∧ (∀ j, F j → ¬ G j) ∧ (∀ j, F j → A.next ≤ j) ∧ (∀ j, G j → A.next ≤ j) ∧ (∀ j, G j → j < H.next) ∧ 0 ≤ last ∧ last ≤ i ∧ Grows A H) rows.length
    ⟨0, [], [], 0, .sl 0 none 0 0, _, NoId, by omega, by omega, by simp [hv], by simp, by simp, by simp, by simp, h1, rfl, by simp, by simp, by simp, .inl ⟨rfl, _, rfl⟩, fun _ _ h => h, hUp, fun _ h => h.elim, fun _ h => h.elim, by omega, by omega, g1⟩ ?_
  rintro m env H3 ⟨i, os, ds, last, vo, F, G, hi, rfl, e1, e5, e6, e7, e8, ht, hds, hnd, hlen, h20, hso, hFG, hFn, hGn, hGl, hl0, hl1, g3⟩
  by_cases hlt : i < rows.length
  · obtain ⟨n, _, hr1, _, hr2⟩ := (hrow rows[i] (List.getElem_mem hlt)).invi
    rw [hr2.inv0] at hr1
    rcases hs with ⟨hnil, _⟩ | ⟨id, o, cap, cs, rfl, _, hs⟩
    · subst hnil; simp at hlt
    have hs3 := hs.keep g3 fun h => h
    have hc := hs3.cell (i := i) (j := 0) (r := [.i .i64 n]) (by rw [List.getElem?_eq_getElem hlt, hr1]) (by omega)
    simp at hc
    simp -dsimp [e1, e5, e6, e7, e8, hlt, hs3.get, hc]
    refine (f10 (n := n) (m := 20) (by omega) (by omega)).next ?_
    rintro _ rfl
    obtain ⟨u, hu⟩ : ∃ u : Nat, n % 20 = u := ⟨(n % 20).toNat, by have := Int.emod_nonneg n (show (20 : Int) ≠ 0 by omega); omega⟩
    have hu20 := Int.emod_lt_of_pos n (show (0 : Int) < 20 by omega)
    have hwu : IntKind.u32.wrap (u : Int) = u := wrap_u32 (by omega) (by omega)
    rw [hu] at hu20 ⊢
    simp -dsimp [e1, e5, e6, e7, e8, hwu]
    refine (f13 (lT u) ht (by omega) (by omega)).next ?_
    rintro H4 ⟨ht4, k4⟩
    obtain ⟨q1, q2, q3⟩ := put_l (k := k) (v := u) (now := 0) (last := last) hds hnd (by omega) hlen
    obtain ⟨l2, hl2⟩ : ∃ l2, l2 = ((foundD ds (lT u)).elim (last + 1) fun _ => last) := ⟨_, rfl⟩
    rw [← hl2] at ht4
    have hl2' : 0 ≤ l2 ∧ l2 ≤ last + 1 := by rw [hl2]; cases foundD ds (lT u) <;> simp <;> omega
    have hso4 := hso.keep k4 fun j h h' => hFG j h' h
    have n3 := g3.next
    have n4 := k4.next
    obtain ⟨eo, ao, co, hvo⟩ := hso4.len
    rw [List.length_map] at hvo
    simp -dsimp [e7, hvo]
    refine awp_round (fun m env H5 => ∃ (j : Nat) (vm : V), j ≤ os.length ∧ m = os.length - j ∧ env.get 1 = some (.sl 1 (some (id, o)) rows.length cap) ∧ env.get 5 = some (.i .i64 k) ∧ env.get 6 = some (.p (some (tb, 0))) ∧ env.get 8 = some (.i .i64 i) ∧ env.get 9 = some (.i .i64 u) ∧
      env.get 10 = some vm ∧ env.get 48 = some vo ∧ env.get 49 = some (.i .i64 os.length) ∧ env.get 50 = some (.i .i64 j) ∧ SlV H5 .rw 1 vm (((os.take j).filter fun x => decide (x ≠ u)).map nRow) (Up NoId H4 H5) ∧ Grows H4 H5) os.length
      ⟨0, _, by omega, by omega, by simp [e1], by simp [e5], by simp [e6], by simp [e8], by simp, by simp; rfl, by simp [hvo], by simp, by simp, .inl ⟨by simp, _, rfl⟩, Keeps.refl⟩ ?_
    clear e1 e5 e6 e7 e8
    rintro m env H5 ⟨j, vm, hj, rfl, e1, e5, e6, e8, e9, e10, e48, e49, e50, hsm, g5⟩
    have hwj : IntKind.i64.wrap ((j : Int) + 1) = (j : Int) + 1 := wrap_i64 (by omega) (by omega)
    have hk10 : k ≤ 10 := by omega
    by_cases hjl : j < os.length
    · have hso5 := hso4.keep g5 fun _ _ h => h
      rcases hso5 with ⟨hnil, _⟩ | ⟨ido, oo, capo, cso, hvo', hGo, hso5⟩
      · simp only [List.map_eq_nil_iff] at hnil; subst hnil; simp at hjl
      rw [List.length_map] at hvo'
      have hco := hso5.cell (i := j) (j := 0) (r := nRow os[j]) (by rw [List.getElem?_map, List.getElem?_eq_getElem hjl]; rfl) (by omega)
      simp [nRow] at hco
      have htk : (os.take (j + 1)).filter (fun x => decide (x ≠ u)) = (os.take j).filter (fun x => decide (x ≠ u)) ++ (if os[j] ≠ u then [os[j]] else []) := by
        rw [List.take_add_one, List.getElem?_eq_getElem hjl, List.filter_append]
        by_cases e : os[j] = u <;> simp [e]
      by_cases hne : os[j] = u
      · have hne' : ((os[j] : Nat) : Int) = (u : Int) := by omega
        simp -dsimp [e9, e10, e48, e49, e50, hvo', hso5.get, hco, hjl, hne', hwj]
        refine hold_mk ⟨os.length - (j + 1), by omega, j + 1, vm, by omega, rfl, by simp [e1], by simp [e5], by simp [e6], by simp [e8], by simp [e9], by simp [e10], by simp [e48], by simp [e49], by simp, ?_, g5⟩
        rw [htk, if_neg (by simpa using hne), List.append_nil]; exact hsm
      · have hne' : ¬ ((os[j] : Nat) : Int) = (u : Int) := by omega
        simp -dsimp [e9, e10, e48, e49, e50, hvo', hso5.get, hco, hjl, hne', hne, hwj]
        have hkb : Grows H5 (H5.alloc (.cells .rw [.i .i64 (os[j] : Nat)])) := Keeps.alloc' Keeps.refl
        have hlf := List.length_filter_le (fun x => decide (x ≠ u)) (os.take j)
        rw [List.length_take] at hlf
        refine (app_row (F := Up NoId H4 H5) (hsm.keep hkb fun _ _ h => h) (r := nRow os[j]) (by simp [nRow]) (by simp [nRow]) (by rw [List.length_map]; omega) (by rw [List.length_map]; omega)).mono ?_
        rintro v6 H6 ⟨hs6, k6⟩
        have n5 := g5.next
        have n6 := k6.next
        simp at n6
        have g6 : Grows H4 H6 := (g5.trans hkb).then k6 fun j hj h => by rcases h with h | h <;> omega
        simp -dsimp [e10, e48, e49, e50, hwj]
        refine hold_mk ⟨os.length - (j + 1), by omega, j + 1, v6, by omega, rfl, by simp [e1], by simp [e5], by simp [e6], by simp [e8], by simp [e9], by simp, by simp [e48], by simp [e49], by simp, ?_, g6⟩
        rw [htk, if_pos hne, List.map_append]
        refine hs6.mono fun a ha => ?_
        rcases ha with (h | h) | h
        · exact h.elim
        · exact .inr ⟨h.1, by omega⟩
        · simp at h; exact .inr ⟨by omega, h.2⟩
    · rw [List.take_of_length_le (by omega)] at hsm
      simp -dsimp [e9, e10, e48, e49, e50, hjl]
      obtain ⟨fo, hfo⟩ : ∃ fo, fo = os.filter fun x => decide (x ≠ u) := ⟨_, rfl⟩
      rw [← hfo] at hsm
      have hlf : fo.length ≤ os.length := by rw [hfo]; exact List.length_filter_le _ _
      have hkb : Grows H5 (H5.alloc (.cells .rw [.i .i64 u])) := Keeps.alloc' Keeps.refl
      refine (app_row (F := Up NoId H4 H5) (hsm.keep hkb fun _ _ h => h) (r := nRow u) (by simp [nRow]) (by simp [nRow]) (by rw [List.length_map]; omega) (by rw [List.length_map]; omega)).mono ?_
      rintro v6 H6 ⟨hs6, k6⟩
      have n5 := g5.next
      have n6 := k6.next
      simp at n6
      have g6 : Grows H4 H6 := (g5.trans hkb).then k6 fun j hj h => by rcases h with h | h <;> omega
      have hs7 : SlV H6 .rw 1 v6 ((fo ++ [u]).map nRow) (Up NoId H4 H6) := by
        rw [List.map_append]
        refine hs6.mono fun a ha => ?_
        rcases ha with (h | h) | h
        · exact h.elim
        · exact .inr ⟨h.1, by omega⟩
        · simp at h; exact .inr ⟨by omega, h.2⟩
      obtain ⟨e7', a7, c7, rfl⟩ := hs7.len
      obtain ⟨d, hd⟩ : ∃ d, d = (fo ++ [u]).length - k := ⟨_, rfl⟩
      have hord : ordD os k u = (fo ++ [u]).drop d := by unfold ordD; rw [← hfo, ← hd]
      rw [hord] at q1 q2 q3
      obtain ⟨id7, o7, rfl, rfl, hl7, hc7, hs8⟩ := SlV.dropV hs7 (by simp) (d := d) (by rw [List.length_map]; omega)
      rw [List.length_map] at hl7 hc7 hs8
      have hlf1 : (fo ++ [u]).length = fo.length + 1 := by simp
      have hwd : IntKind.i64.wrap ((fo.length : Int) + 1 - k) = (fo.length : Int) + 1 - k := wrap_i64 (by omega) (by omega)
      have hmx : (if 0 < (fo.length : Int) + 1 - k then (fo.length : Int) + 1 - k else 0) = (d : Int) := by split <;> omega
      have hmx' : (if (fo.length : Int) + 1 - k < 0 then 0 else (fo.length : Int) + 1 - k) = (d : Int) := by split <;> omega
      have hd1 : (d : Int) ≤ (fo.length : Int) + 1 := by omega
      have hd2 : fo.length + 1 ≤ c7 := by omega
      have ht6 := ht4.grow g6
      simp -dsimp [e5, e6, hwd, hmx, hmx', hd1, hd2]
      refine (f14 ht6).some ?_
      rintro va H7 ⟨hsa, g7⟩
      have hpl : (putD ds k 0 last (lT u)).length = (fo ++ [u]).length - d := by
        have := congrArg List.length q1
        simpa using this
      obtain ⟨ea, aa, ca, hva⟩ := hsa.len
      rw [List.length_map, hpl, hlf1] at hva
      have hs9 := hs8.keep g7 fun _ _ h => h
      have hlq : ((fo ++ [u]).drop d).length = fo.length + 1 - d := by rw [List.length_drop, hlf1]
      simp -dsimp [e5, hva]
      refine awp_round (fun m env H8 => ∃ (j : Nat), j ≤ fo.length + 1 - d ∧ m = fo.length + 1 - d - j ∧ env.get 1 = some (.sl 1 (some (id, o)) rows.length cap) ∧ env.get 5 = some (.i .i64 k) ∧ env.get 6 = some (.p (some (tb, 0))) ∧ env.get 8 = some (.i .i64 i) ∧
        env.get 7 = some (.sl 1 (some (id7, o7 + d * 1)) (fo.length + 1 - d) (c7 - d)) ∧ env.get 13 = some va ∧ env.get 14 = some (.i .i64 j) ∧ H8 = H7) (fo.length + 1 - d)
        ⟨0, by omega, by omega, by simp [e1], by simp [e5], by simp [e6], by simp [e8], by simp, by simp [hva], by simp, rfl⟩ ?_
      clear e1 e5 e6 e8 e9 e10 e48 e49 e50
      rintro m env _ ⟨j2, hj2, rfl, e1, e5, e6, e8, e7, e13, e14, rfl⟩
      have hwj2 : IntKind.i64.wrap ((j2 : Int) + 1) = (j2 : Int) + 1 := wrap_i64 (by omega) (by omega)
      have hwi : IntKind.i64.wrap ((i : Int) + 1) = (i : Int) + 1 := wrap_i64 (by omega) (by omega)
      by_cases hj3 : j2 < fo.length + 1 - d
      · rcases hsa with ⟨hnil, _⟩ | ⟨ida, oa, capa, csa, hva', _, hsa⟩
        · simp only [List.map_eq_nil_iff] at hnil; rw [hnil] at hpl; simp at hpl; omega
        rcases hs9 with ⟨hnil, _⟩ | ⟨idb, ob, capb, csb, hvb', _, hsb⟩
        · have := congrArg List.length hnil; rw [List.length_drop, List.length_map, hlf1] at this; simp at this; omega
        simp only [V.sl.injEq, Option.some.injEq, Prod.mk.injEq] at hvb'
        obtain ⟨_, ⟨hid, hob⟩, hnb, hcb⟩ := hvb'
        subst hid
        subst hob
        obtain ⟨w, hw⟩ : ∃ w, ((fo ++ [u]).drop d)[j2]? = some w := ⟨_, List.getElem?_eq_getElem (by omega)⟩
        have hw20 : w < 20 := by
          have := List.mem_of_getElem? hw
          have := List.mem_of_mem_drop this
          rcases List.mem_append.1 this with h | h
          · rw [hfo] at h; exact h20 w (List.mem_filter.1 h).1
          · simp only [List.mem_singleton] at h; omega
        have hda : ((putD ds k 0 last (lT u)).map tRow)[j2]? = some (lT w).c := by
          have : ((putD ds k 0 last (lT u)).map (·.t))[j2]? = some (lT w) := by rw [q1, List.getElem?_map, hw]; rfl
          rw [List.getElem?_map] at this ⊢
          cases hg : (putD ds k 0 last (lT u))[j2]? with
          | none => rw [hg] at this; cases this
          | some y =>
            rw [hg] at this
            simp only [Option.map_some, Option.some.injEq] at this
            simp only [Option.map_some, tRow, this]
        have ca := hsa.cell (i := j2) (j := 1) hda (by omega)
        have cb := hsb.cell (i := j2) (j := 0) (r := nRow w) (by rw [← List.map_drop, List.getElem?_map, hw]; rfl) (by omega)
        simp [lT, nRow] at ca cb
        have hww : IntKind.u32.wrap (w : Int) = w := wrap_u32 (by omega) (by omega)
        rw [hva'] at hva
        simp only [V.sl.injEq] at hva
        have hpl3 : ((putD ds k 0 last (lT u)).map tRow).length = fo.length + 1 - d := by rw [List.length_map, hpl, hlf1]
        simp -dsimp [e13, e14, e7, hva', hpl3, hj3, hsa.get, hsb.get, ca, cb, hww, hwj2]
        exact hold_mk ⟨fo.length + 1 - d - (j2 + 1), by omega, j2 + 1, by omega, rfl, by simp [e1], by simp [e5], by simp [e6], by simp [e8], by simp [e7], by simp [e13, hva'], by simp, rfl⟩
      · simp -dsimp [e13, e14, e7, hva, hj3, e8, hwi]
        have n7 := g7.next
        refine hold_mk ⟨rows.length - (i + 1), by omega, i + 1, (fo ++ [u]).drop d, putD ds k 0 last (lT u), l2, .sl 1 (some (id7, o7 + d * 1)) (fo.length + 1 - d) (c7 - d), Up F H3 H4, Up NoId H4 H6, by omega, rfl, by simp [e1], by simp [e5], by simp [e6], by simp [e7], by simp, ht6.grow g7, q1, q2, q3, ?_, ?_, ?_, ?_, ?_, ?_, hl2'.1, by omega, ?_⟩
        · intro x hx
          have := List.mem_of_mem_drop hx
          rcases List.mem_append.1 this with h | h
          · rw [hfo] at h; exact h20 x (List.mem_filter.1 h).1
          · simp only [List.mem_singleton] at h; omega
        · rw [List.map_drop, ← hlf1]; exact hs9
        · rintro a (h | h) (h' | h')
          · exact h'
          · have := ht.own a h; omega
          · exact h'
          · omega
        · rintro a (h | h)
          · exact hFn a h
          · omega
        · rintro a (h | h)
          · exact h.elim
          · omega
        · rintro a (h | h)
          · exact h.elim
          · omega
        · exact ((g3.then k4 fun a ha h => by have := hFn a h; omega).trans g6).trans g7
  · simp -dsimp [e1, e5, e6, e7, e8, hlt, hv]
    refine f12.mono ?_
    intro e' H' h
    rw [h]
    simp -dsimp
    exact fin_mk rfl
end Go.Proofs.Ytmdmabedfleacaa
