/- A part of the proof: contracts of functions, over the abstract machine. -/
import Derived.Test.YtceamnigcimldaaGreatDoorZr8
set_option linter.unusedVariables false
set_option linter.unusedSimpArgs false
set_option linter.all false
/- Rules copied. -/
namespace Go.Proofs.YtceamnigcimldaaGreatDoor
open Ram Go Go.Proofs.Ports

variable {W0 : World} {H : AH}

theorem IsR.mono {md : Md} {F F' : Nat → Prop} {row : List V} {r : Rl} {v1 v2 v3 v4 v5 : V} (h : IsR H md F row r v1 v2 v3 v4 v5) (hf : ∀ j, F j → F' j) : IsR H md F' row r v1 v2 v3 v4 v5 :=
  ⟨h.row, h.s1.mono hf, h.s2.mono hf, h.s3.mono hf, h.s4.mono hf, h.s5.mono hf, h.l1, h.l2, h.l3, h.l4, h.l5⟩

set_option maxRecDepth 4000 in
set_option maxHeartbeats 2000000 in
/-- rampartlaw00.CopyRules. -/
theorem f18 {md mr : Md} {F G : Nat → Prop} {v : V} {rows : List (List V)} {rl : List Rl} (hs : SlV H mr 15 v rows G) (hr : RowsR H md F rows rl) (hl : rl.length ≤ 50) : ACalls Tryz.prog W0 18 [v] H fun e H' =>
    ∃ v', e = .ret v' ∧ (∃ rows' FM FR, SlV H' .rw 15 v' rows' FM ∧ RowsR H' .rw FR rows' rl) ∧ Grows H H' := by
  obtain ⟨e', a', cap', hv⟩ := hs.len
  have hlen := hr.len
  rw [hlen] at hv
  refine acalls_in k18 (by simp) ?_
  simp -dsimp
  refine awp_round (fun m env K => ∃ (i : Nat) (rows' : List (List V)) (v3 : V) (FM FR : Nat → Prop), i ≤ rl.length ∧ m = rl.length - i ∧ Grows H K ∧ env.get 0 = some v ∧ env.get 3 = some v3 ∧ env.get 4 = some (.i .i64 i) ∧
    SlV K .rw 15 v3 rows' FM ∧ RowsR K .rw FR rows' (rl.take i) ∧ (∀ j, FM j → H.next ≤ j ∧ j < K.next) ∧ (∀ j, FR j → H.next ≤ j ∧ j < K.next) ∧ ∀ j, FM j → ¬ FR j) rl.length
    ⟨0, [], .sl 0 none 0 0, NoId, NoId, by omega, by omega, Keeps.refl, by simp, by simp, by simp, .inl ⟨rfl, _, rfl⟩, ⟨by simp, fun i h => by simp at h⟩, fun _ h => h.elim, fun _ h => h.elim, fun _ h => h.elim⟩ ?_
  rintro m env K ⟨i, rows', v3, FM, FR, hi, rfl, hgr, e0, e3, e4, hm, hrr, hFM, hFR, hdis⟩
  have nK := hgr.next
  by_cases hlt : i < rl.length
  · have hlr : i < rows.length := by omega
    have hwi := wrap_succ (i := i) (by omega)
    obtain ⟨id, o, cap, cs, hvv, hF, sa, _⟩ := rows_row (hs.keep hgr fun _ _ h => h) hlr
    rw [hlen] at hvv
    have hrow := sa.row (List.getElem?_eq_getElem hlr)
    obtain ⟨u1, u2, u3, u4, u5, hI⟩ := hr.at' i hlr hlt
    have hI := hI.keep hgr fun _ _ h => h
    have o1 := slv_one hI.s1
    have o2 := slv_one hI.s2
    have o3 := slv_one hI.s3
    have o4 := slv_one hI.s4
    have o5 := slv_one hI.s5
    rw [hI.row] at hrow
    obtain ⟨r, hrd⟩ : ∃ r, r = rl[i] := ⟨_, rfl⟩
    have htk := take_snoc hlt
    rw [← hrd] at hrow hI htk
    rw [hvv] at e0
    obtain ⟨B, hB⟩ : ∃ B, B = K.next := ⟨_, rfl⟩
    obtain ⟨K1, hK1⟩ : ∃ K1, K1 = K.alloc (.cells .rw [.i .i64 r.act, .i .i64 r.proto, .b r.fn, u1, .b r.fpn, u2, .b r.tn, u3, .b r.tpn, u4, .b r.both, .i .i64 r.flow, u5, .i .i64 r.sid, .i .i64 r.rev]) := ⟨_, rfl⟩
    have g1 : Grows K K1 := by rw [hK1]; exact Keeps.alloc' Keeps.refl
    have n1 : K1.next = B + 1 := by rw [hK1, hB]; simp
    have b1 : K1.get B = some (.cells .rw [.i .i64 r.act, .i .i64 r.proto, .b r.fn, u1, .b r.fpn, u2, .b r.tn, u3, .b r.tpn, u4, .b r.both, .i .i64 r.flow, u5, .i .i64 r.sid, .i .i64 r.rev]) := by rw [hK1, hB]; simp
    simp -dsimp [e0, e3, e4, hlt, hrow, splice, o1, o2, o3, o4, o5]
    rw [← hK1, ← hB]
    refine (app_nil (newCells_of (hI.s1.keep g1 fun _ _ h => h)) (fun r hr => by obtain ⟨x, _, rfl⟩ := List.mem_map.1 hr; rfl) (by have := hI.l1; simp; omega) (by have := hI.l1; simp; omega)).mono ?_
    rintro w1 K2 ⟨t1, g2, _⟩
    have b2 := Grows.at g2 (by omega) b1
    simp -dsimp [b2]
    refine (app_nil (newCells_of (hI.s3.keep (g1.trans g2) fun _ _ h => h)) (fun r hr => by obtain ⟨x, _, rfl⟩ := List.mem_map.1 hr; rfl) (by have := hI.l3; simp; omega) (by have := hI.l3; simp; omega)).mono ?_
    rintro w3 K3 ⟨t3, g3, _⟩
    have b3 := Grows.at g3 (by have := g2.next; omega) b2
    have p1 := slv_one t1
    have p3 := slv_one t3
    have hc1 : w1.cells = [w1] := by obtain ⟨x, y, z, h⟩ := t1.len; rw [h]; rfl
    have hc3 : w3.cells = [w3] := by obtain ⟨x, y, z, h⟩ := t3.len; rw [h]; rfl
    simp -dsimp [b3, splice, p1, p3, hc1, hc3]
    have m2 := g2.next
    have m3 := g3.next
    obtain ⟨K4, hK4⟩ : ∃ K4, K4 = K3.set B (.cells .rw [.i .i64 r.act, .i .i64 r.proto, .b r.fn, w1, .b r.fpn, u2, .b r.tn, w3, .b r.tpn, u4, .b r.both, .i .i64 r.flow, u5, .i .i64 r.sid, .i .i64 r.rev]) := ⟨_, rfl⟩
    rw [← hK4]
    have b4 : K4.get B = some (.cells .rw [.i .i64 r.act, .i .i64 r.proto, .b r.fn, w1, .b r.fpn, u2, .b r.tn, w3, .b r.tpn, u4, .b r.both, .i .i64 r.flow, u5, .i .i64 r.sid, .i .i64 r.rev]) := by rw [hK4, AH.get_set, if_pos rfl]
    have n4 : K4.next = K3.next := by rw [hK4]; simp
    have kB : Keeps (fun j => j = B) K3 K4 := by rw [hK4]; exact Keeps.set fun _ => rfl
    have gK4 : Grows K K4 := by rw [hK4]; exact Keeps.set_new ((g1.trans g2).trans g3) (by omega)
    have t1 := (t1.keep g3 fun _ _ h => h).keep kB fun j hj e => by
      rcases hj with h | h
      · exact h.elim
      · omega
    have t3 := t3.keep kB fun j hj e => by
      rcases hj with h | h
      · exact h.elim
      · omega
    refine (app_nil (newCells_of (hI.s2.keep gK4 fun _ _ h => h)) (fun r hr => by obtain ⟨x, _, rfl⟩ := List.mem_map.1 hr; rfl) (by have := hI.l2; simp; omega) (by have := hI.l2; simp; omega)).mono ?_
    rintro w2 K5 ⟨t2, g5, _⟩
    have m5 := g5.next
    have b5 := Grows.at g5 (by omega) b4
    simp -dsimp [b5]
    refine (app_nil (newCells_of (hI.s4.keep (gK4.trans g5) fun _ _ h => h)) (fun r hr => by obtain ⟨x, _, rfl⟩ := List.mem_map.1 hr; rfl) (by have := hI.l4; simp; omega) (by have := hI.l4; simp; omega)).mono ?_
    rintro w4 K6 ⟨t4, g6, _⟩
    have m6 := g6.next
    have b6 := Grows.at g6 (by omega) b5
    have p2 := slv_one t2
    have p4 := slv_one t4
    have hc2 : w2.cells = [w2] := by obtain ⟨x, y, z, h⟩ := t2.len; rw [h]; rfl
    have hc4 : w4.cells = [w4] := by obtain ⟨x, y, z, h⟩ := t4.len; rw [h]; rfl
    simp -dsimp [b6, splice, p2, p4, hc2, hc4]
    obtain ⟨K7, hK7⟩ : ∃ K7, K7 = K6.set B (.cells .rw [.i .i64 r.act, .i .i64 r.proto, .b r.fn, w1, .b r.fpn, w2, .b r.tn, w3, .b r.tpn, w4, .b r.both, .i .i64 r.flow, u5, .i .i64 r.sid, .i .i64 r.rev]) := ⟨_, rfl⟩
    rw [← hK7]
    have b7 : K7.get B = some (.cells .rw [.i .i64 r.act, .i .i64 r.proto, .b r.fn, w1, .b r.fpn, w2, .b r.tn, w3, .b r.tpn, w4, .b r.both, .i .i64 r.flow, u5, .i .i64 r.sid, .i .i64 r.rev]) := by rw [hK7, AH.get_set, if_pos rfl]
    have n7 : K7.next = K6.next := by rw [hK7]; simp
    have kB7 : Keeps (fun j => j = B) K6 K7 := by rw [hK7]; exact Keeps.set fun _ => rfl
    have gK7 : Grows K K7 := by rw [hK7]; exact Keeps.set_new ((gK4.trans g5).trans g6) (by omega)
    have up : ∀ {a b : AH} (j : Nat), B < a.next → Up NoId a b j → B < j ∧ j < b.next := fun j ha hj => by
      rcases hj with h | h
      · exact h.elim
      · exact ⟨by omega, h.2⟩
    have t1 := ((t1.keep g5 fun _ _ h => h).keep g6 fun _ _ h => h).keep kB7 fun j hj e => by have := up j (by omega) hj; omega
    have t3 := ((t3.keep g5 fun _ _ h => h).keep g6 fun _ _ h => h).keep kB7 fun j hj e => by have := up j (by omega) hj; omega
    have t2 := (t2.keep g6 fun _ _ h => h).keep kB7 fun j hj e => by have := up j (by omega) hj; omega
    have t4 := t4.keep kB7 fun j hj e => by have := up j (by omega) hj; omega
    refine (app_nil (newCells_of (hI.s5.keep gK7 fun _ _ h => h)) (fun r hr => by obtain ⟨x, _, rfl⟩ := List.mem_map.1 hr; rfl) (by have := hI.l5; simp; omega) (by have := hI.l5; simp; omega)).mono ?_
    rintro w5 K8 ⟨t5, g8, _⟩
    have m8 := g8.next
    have b8 := Grows.at g8 (by omega) b7
    have p5 := slv_one t5
    have hc5 : w5.cells = [w5] := by obtain ⟨x, y, z, h⟩ := t5.len; rw [h]; rfl
    simp -dsimp [b8, splice, p5, hc5]
    obtain ⟨K9, hK9⟩ : ∃ K9, K9 = K8.set B (.cells .rw [.i .i64 r.act, .i .i64 r.proto, .b r.fn, w1, .b r.fpn, w2, .b r.tn, w3, .b r.tpn, w4, .b r.both, .i .i64 r.flow, w5, .i .i64 r.sid, .i .i64 r.rev]) := ⟨_, rfl⟩
    rw [← hK9]
    have b9 : K9.get B = some (.cells .rw [.i .i64 r.act, .i .i64 r.proto, .b r.fn, w1, .b r.fpn, w2, .b r.tn, w3, .b r.tpn, w4, .b r.both, .i .i64 r.flow, w5, .i .i64 r.sid, .i .i64 r.rev]) := by rw [hK9, AH.get_set, if_pos rfl]
    have n9 : K9.next = K8.next := by rw [hK9]; simp
    have kB9 : Keeps (fun j => j = B) K8 K9 := by rw [hK9]; exact Keeps.set fun _ => rfl
    have gK9 : Grows K K9 := by rw [hK9]; exact Keeps.set_new (gK7.trans g8) (by omega)
    obtain ⟨rowF, hrowF⟩ : ∃ x : List V, x = [.i .i64 r.act, .i .i64 r.proto, .b r.fn, w1, .b r.fpn, w2, .b r.tn, w3, .b r.tpn, w4, .b r.both, .i .i64 r.flow, w5, .i .i64 r.sid, .i .i64 r.rev] := ⟨_, rfl⟩
    have hF15 : rowF.length = 15 := by rw [hrowF]; rfl
    rw [← hrowF] at b9
    have t1 := (t1.keep g8 fun _ _ h => h).keep kB9 fun j hj e => by have := up j (by omega) hj; omega
    have t3 := (t3.keep g8 fun _ _ h => h).keep kB9 fun j hj e => by have := up j (by omega) hj; omega
    have t2 := (t2.keep g8 fun _ _ h => h).keep kB9 fun j hj e => by have := up j (by omega) hj; omega
    have t4 := (t4.keep g8 fun _ _ h => h).keep kB9 fun j hj e => by have := up j (by omega) hj; omega
    have t5 := t5.keep kB9 fun j hj e => by have := up j (by omega) hj; omega
    simp -dsimp [e3, b9, ldCells_of b9, hF15, hrowF, p1, p2, p3, p4, p5]
    rw [← hrowF]
    have g10 : Grows K9 (K9.alloc (.cells .rw rowF)) := Keeps.alloc' Keeps.refl
    have hy : newCells (K9.alloc (.cells .rw rowF)) 15 (.sl 15 (some (K9.next, 0)) 1 1) = some (1, rowF) := by
      have : ldCells (K9.alloc (.cells .rw rowF)) K9.next 0 15 = some rowF := ldCells_all (md := .rw) (by simp) hF15
      simp [this]
    have hl9 : rows'.length = i := by have := hrr.len; rw [List.length_take] at this; omega
    refine (app_row ((hm.keep gK9 fun _ _ h => h).keep g10 fun _ _ h => h) (r := rowF) (bytes := 200) hy hF15 (by omega) (by omega)).mono ?_
    rintro v9 K11 ⟨t9, k11⟩
    have m11 := k11.next
    simp at m11
    have kx : ∀ {e : Nat} {w : V} {rws : List (List V)} {a b : AH}, SlV K9 .rw e w rws (Up NoId a b) → B < a.next → b.next ≤ K8.next → SlV K11 .rw e w rws (fun j => FR j ∨ (B < j ∧ j < K9.next)) := fun {e w rws a b} h ha hb =>
      (((h.keep g10 fun _ _ h => h).keep k11 fun j hj h => by
        have := up j ha hj
        have := hFM j h
        omega).mono fun j hj => by have := up j ha hj; exact .inr ⟨this.1, by omega⟩)
    have r1 := kx t1 (by omega) (by omega)
    have r2 := kx t2 (by omega) (by omega)
    have r3 := kx t3 (by omega) (by omega)
    have r4 := kx t4 (by omega) (by omega)
    have r5 := kx t5 (by omega) (by omega)
    have gKA : Grows K (K9.alloc (.cells .rw rowF)) := gK9.trans g10
    have hgr11 : Grows H K11 := (hgr.trans gKA).then k11 fun j hj h => by have := hFM j h; omega
    have hold : RowsR K11 .rw FR rows' (rl.take i) := (hrr.keep gKA fun _ _ h => h).keep k11 fun j hj h => hdis j h hj
    have hrows : RowsR K11 .rw (fun j => FR j ∨ (B < j ∧ j < K9.next)) (rows' ++ [rowF]) (rl.take (i + 1)) := by
      refine ⟨by rw [List.length_append, hl9, List.length_take]; simp; omega, fun k h1 h2 => ?_⟩
      by_cases hk : k < i
      · obtain ⟨x1, x2, x3, x4, x5, hx⟩ := hold.at' k (by omega) (by rw [List.length_take]; omega)
        have e1 : (rows' ++ [rowF])[k] = rows'[k]'(by omega) := List.getElem_append_left (by omega)
        have e2 : (rl.take (i + 1))[k] = (rl.take i)[k]'(by rw [List.length_take]; omega) := by rw [List.getElem_take, List.getElem_take]
        rw [e1, e2]
        exact ⟨x1, x2, x3, x4, x5, hx.mono fun j h => .inl h⟩
      · have hki : k = i := by rw [List.length_take] at h2; omega
        subst hki
        have e1 : (rows' ++ [rowF])[k] = rowF := by rw [List.getElem_append_right (by omega)]; simp [hl9]
        have e2 : (rl.take (k + 1))[k] = r := by rw [List.getElem_take, ← hrd]
        rw [e1, e2]
        exact ⟨w1, w2, w3, w4, w5, hrowF, r1, r2, r3, r4, r5, hI.l1, hI.l2, hI.l3, hI.l4, hI.l5⟩
    simp -dsimp [e0, e4, hwi]
    exact hold_mk ⟨rl.length - (i + 1), by omega, i + 1, rows' ++ [rowF], v9, _, _, by omega, rfl, hgr11, by simp [e0, hvv], by simp, by simp, t9, hrows, fun j hj => by
      rcases hj with h | h
      · have := hFM j h; omega
      · simp at h; omega, fun j hj => by
      rcases hj with h | h
      · have := hFR j h; omega
      · omega, fun j hj h => by
      rcases hj with h1 | h1
      · rcases h with h2 | h2
        · exact hdis j h1 h2
        · have := hFM j h1; omega
      · simp at h1
        rcases h with h2 | h2
        · have := hFR j h2; omega
        · omega⟩
  · have : i = rl.length := by omega
    subst this
    rw [List.take_length] at hrr
    rw [hv] at e0
    simp -dsimp [e0, e3, e4]
    exact fin_mk ⟨_, rfl, ⟨_, _, _, hm, hrr⟩, hgr⟩
end Go.Proofs.YtceamnigcimldaaGreatDoor
