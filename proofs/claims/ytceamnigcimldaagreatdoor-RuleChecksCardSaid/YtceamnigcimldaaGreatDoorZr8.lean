/- A part of the proof: contracts of functions, over the abstract machine. -/
import Derived.Test.YtceamnigcimldaaGreatDoorZr7
set_option linter.unusedVariables false
set_option linter.unusedSimpArgs false
set_option linter.all false
/- Rules as arguments: few enough. -/
namespace Go.Proofs.YtceamnigcimldaaGreatDoor
open Ram Go Go.Proofs.Ports

variable {W0 : World} {H : AH}

/-- A rule as it lies, however long its lists. -/
structure Is0 (H : AH) (md : Md) (F : Nat → Prop) (row : List V) (r : Rl) (v1 v2 v3 v4 v5 : V) : Prop where
  row : row = [.i .i64 r.act, .i .i64 r.proto, .b r.fn, v1, .b r.fpn, v2, .b r.tn, v3, .b r.tpn, v4, .b r.both, .i .i64 r.flow, v5, .i .i64 r.sid, .i .i64 r.rev]
  s1 : SlV H md 2 v1 (r.fl.map nRow) F
  s2 : SlV H md 2 v2 (r.fpl.map spRow) F
  s3 : SlV H md 2 v3 (r.tl.map nRow) F
  s4 : SlV H md 2 v4 (r.tpl.map spRow) F
  s5 : SlV H md 8 v5 (r.cts.map cRow) F
  l5 : r.cts.length ≤ maxLen
structure Few (r : Rl) : Prop where
  l1 : r.fl.length ≤ 6
  l2 : r.fpl.length ≤ 6
  l3 : r.tl.length ≤ 6
  l4 : r.tpl.length ≤ 6
  l5 : r.cts.length ≤ 6
theorem Is0.few {md : Md} {F : Nat → Prop} {row : List V} {r : Rl} {v1 v2 v3 v4 v5 : V} (h : Is0 H md F row r v1 v2 v3 v4 v5) (f : Few r) : IsR H md F row r v1 v2 v3 v4 v5 :=
  ⟨h.row, h.s1, h.s2, h.s3, h.s4, h.s5, f.l1, f.l2, f.l3, f.l4, f.l5⟩
structure Rows0 (H : AH) (md : Md) (F : Nat → Prop) (rows : List (List V)) (rl : List Rl) : Prop where
  len : rows.length = rl.length
  at' : ∀ i (h : i < rows.length) (h' : i < rl.length), ∃ v1 v2 v3 v4 v5, Is0 H md F rows[i] rl[i] v1 v2 v3 v4 v5
theorem Rows0.few {md : Md} {F : Nat → Prop} {rows : List (List V)} {rl : List Rl} (h : Rows0 H md F rows rl) (f : ∀ r ∈ rl, Few r) : RowsR H md F rows rl :=
  ⟨h.len, fun i h1 h2 => by obtain ⟨v1, v2, v3, v4, v5, hr⟩ := h.at' i h1 h2; exact ⟨v1, v2, v3, v4, v5, hr.few (f _ (List.getElem_mem h2))⟩⟩

set_option maxRecDepth 4000 in
set_option maxHeartbeats 2000000 in
/-- rampartlaw00.FewRules. -/
theorem f13 {md mr : Md} {F G : Nat → Prop} {v : V} {rows : List (List V)} {rl : List Rl} (hs : SlV H mr 15 v rows G) (hr : Rows0 H md F rows rl) : ACalls Tryz.prog W0 13 [v] H fun e H' => (∃ b, e = .ret (.b b) ∧ (b = true → rl.length ≤ 50 ∧ ∀ r ∈ rl, Few r)) ∧ H = H' := by
  obtain ⟨e', a', cap', hv⟩ := hs.len
  have hlen := hr.len
  rw [hlen] at hv
  refine acalls_in k13 (by simp) ?_
  simp -dsimp
  refine awp_round (fun m env H1 => ∃ i : Nat, i ≤ rl.length ∧ i ≤ 50 ∧ m = rl.length - i ∧ H = H1 ∧ env.get 0 = some v ∧ env.get 3 = some (.i .i64 i) ∧ ∀ r ∈ rl.take i, Few r) rl.length
    ⟨0, by omega, by omega, by omega, rfl, by simp, by simp, by simp⟩ ?_
  rintro m env H1 ⟨i, hi, hi50, rfl, rfl, e0, e3, hfew⟩
  have hwi := wrap_succ (i := i) (by omega)
  by_cases hgo : i < rl.length ∧ i < 50
  · obtain ⟨hlt, h50⟩ := hgo
    have h50i : (i : Int) < 50 := by omega
    have hlr : i < rows.length := by omega
    obtain ⟨id, o, cap, cs, hvv, hF, sa, _⟩ := rows_row hs hlr
    rw [hlen] at hvv
    obtain ⟨v1, v2, v3, v4, v5, hI⟩ := hr.at' i hlr hlt
    have hg := sa.get
    have cell : ∀ j, j < 15 → cs[o + i * 15 + j]? = (rows[i])[j]? := fun j hj => sa.cell (j := j) (List.getElem?_eq_getElem hlr) hj
    rw [hI.row] at cell
    have c1 : cs[o + i * 15 + 2 + 1]? = some v1 := cell 3 (by omega)
    have c2 : cs[o + i * 15 + 4 + 1]? = some v2 := cell 5 (by omega)
    have c3 : cs[o + i * 15 + 6 + 1]? = some v3 := cell 7 (by omega)
    have c4 : cs[o + i * 15 + 8 + 1]? = some v4 := cell 9 (by omega)
    have c5 : cs[o + i * 15 + 12]? = some v5 := cell 12 (by omega)
    obtain ⟨x1, y1, z1, hv1⟩ := hI.s1.len
    obtain ⟨x2, y2, z2, hv2⟩ := hI.s2.len
    obtain ⟨x3, y3, z3, hv3⟩ := hI.s3.len
    obtain ⟨x4, y4, z4, hv4⟩ := hI.s4.len
    obtain ⟨x5, y5, z5, hv5⟩ := hI.s5.len
    rw [List.length_map] at hv1 hv2 hv3 hv4 hv5
    have hs5 := hI.s5
    have hl5 := hI.l5
    obtain ⟨r, hrr⟩ : ∃ r, r = rl[i] := ⟨_, rfl⟩
    have htk := take_snoc hlt
    rw [← hrr] at hv1 hv2 hv3 hv4 hv5 htk hs5 hl5
    rw [hvv] at e0
    have c5v := c5
    rw [hv1] at c1
    rw [hv2] at c2
    rw [hv3] at c3
    rw [hv4] at c4
    rw [hv5] at c5
    have hml : maxLen = 9223372036854775807 := rfl
    by_cases d5 : 6 < r.cts.length
    · have d5i : (6 : Int) < r.cts.length := by omega
      simp -dsimp [e0, e3, hlt, h50, h50i, hg, c5, d5, d5i]
      exact fin_mk ⟨⟨false, rfl, fun h => by cases h⟩, rfl⟩
    have d5i : ¬ (6 : Int) < r.cts.length := by omega
    by_cases d1 : 6 < r.fl.length
    · have d1i : (6 : Int) < r.fl.length := by omega
      simp -dsimp [e0, e3, hlt, h50, h50i, hg, c5, d5, d5i, c1, d1, d1i]
      exact fin_mk ⟨⟨false, rfl, fun h => by cases h⟩, rfl⟩
    have d1i : ¬ (6 : Int) < r.fl.length := by omega
    by_cases d3 : 6 < r.tl.length
    · have d3i : (6 : Int) < r.tl.length := by omega
      simp -dsimp [e0, e3, hlt, h50, h50i, hg, c5, d5, d5i, c1, d1, d1i, c3, d3, d3i]
      exact fin_mk ⟨⟨false, rfl, fun h => by cases h⟩, rfl⟩
    have d3i : ¬ (6 : Int) < r.tl.length := by omega
    by_cases d2 : 6 < r.fpl.length
    · have d2i : (6 : Int) < r.fpl.length := by omega
      simp -dsimp [e0, e3, hlt, h50, h50i, hg, c5, d5, d5i, c1, d1, d1i, c3, d3, d3i, c2, d2, d2i]
      exact fin_mk ⟨⟨false, rfl, fun h => by cases h⟩, rfl⟩
    have d2i : ¬ (6 : Int) < r.fpl.length := by omega
    by_cases d4 : 6 < r.tpl.length
    · have d4i : (6 : Int) < r.tpl.length := by omega
      simp -dsimp [e0, e3, hlt, h50, h50i, hg, c5, d5, d5i, c1, d1, d1i, c3, d3, d3i, c2, d2, d2i, c4, d4, d4i]
      exact fin_mk ⟨⟨false, rfl, fun h => by cases h⟩, rfl⟩
    have d4i : ¬ (6 : Int) < r.tpl.length := by omega
    have hnew : ∀ x ∈ rl.take (i + 1), Few x := by
      intro x hx
      rw [htk] at hx
      rcases List.mem_append.1 hx with h | h
      · exact hfew x h
      · rw [List.mem_singleton.1 h]; exact ⟨by omega, by omega, by omega, by omega, by omega⟩
    simp -dsimp [e0, e3, hlt, h50, h50i, hg, c5, d5, d5i, c1, d1, d1i, c3, d3, d3i, c2, d2, d2i, c4, d4, d4i]
    refine awp_round (fun m env H3 => ∃ k : Nat, k ≤ r.cts.length ∧ m = r.cts.length - k ∧ H3 = H ∧ env.get 0 = some v ∧ env.get 3 = some (.i .i64 i) ∧ env.get 4 = some (.i .i64 k)) r.cts.length
      ⟨0, by omega, by omega, rfl, by simp [e0, hvv], by simp [e3], by simp⟩ ?_
    clear e0 e3
    rintro m env _ ⟨k, hk, rfl, rfl, e0, e3, e4⟩
    rw [hvv] at e0
    by_cases hlk : k < r.cts.length
    · have hwk := wrap_succ (i := k) (by omega)
      obtain ⟨ic, oc, cc, cc5, hvc, _, sc, _⟩ := at_row hs5 hlk
      have b0 := sc.cell (j := 0) (row_at hlk) (by omega)
      simp at b0
      have hgc := sc.get
      rw [hvc] at c5v
      by_cases hb : 30 < r.cts[k].b.length
      · have hbi : (30 : Int) < r.cts[k].b.length := by omega
        simp -dsimp [e0, e3, e4, hlt, hg, c5v, hlk, hgc, b0, hb, hbi]
        exact fin_mk ⟨⟨false, rfl, fun h => by cases h⟩, rfl⟩
      · have hbi : ¬ (30 : Int) < r.cts[k].b.length := by omega
        simp -dsimp [e0, e3, e4, hlt, hg, c5v, hlk, hgc, b0, hb, hbi, hwk]
        exact hold_mk ⟨r.cts.length - (k + 1), by omega, k + 1, by omega, rfl, rfl, by simp [e0, hvv], by simp [e3], by simp⟩
    · simp -dsimp [e0, e3, e4, hlt, hg, c5, hlk, hwi]
      exact hold_mk ⟨rl.length - (i + 1), by omega, i + 1, by omega, by omega, rfl, rfl, by simp [e0, hvv], by simp, hnew⟩
  · have hx : ¬ i < rl.length ∨ (i < rl.length ∧ i = 50) := by omega
    rw [hv] at e0
    rcases hx with hx | ⟨hx, rfl⟩
    · have : i = rl.length := by omega
      subst this
      rw [List.take_length] at hfew
      simp -dsimp [e0, e3]
      exact fin_mk ⟨⟨_, rfl, fun _ => ⟨by omega, hfew⟩⟩, rfl⟩
    · have hle : ¬ ((rl.length : Int) ≤ 50) := by omega
      have hxi : (50 : Int) < rl.length := by omega
      simp -dsimp [e0, e3, hx, hxi, hle]
      exact fin_mk ⟨⟨false, rfl, fun h => by cases h⟩, rfl⟩
end Go.Proofs.YtceamnigcimldaaGreatDoor
