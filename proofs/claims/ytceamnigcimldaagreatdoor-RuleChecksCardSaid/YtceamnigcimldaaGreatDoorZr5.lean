/- A part of the proof: contracts of functions, over the abstract machine. -/
import Derived.Test.YtceamnigcimldaaGreatDoorZr4
set_option linter.unusedVariables false
set_option linter.unusedSimpArgs false
set_option linter.all false
/- Rules together. -/
namespace Go.Proofs.YtceamnigcimldaaGreatDoor
open Ram Go Go.Proofs.Ports

variable {W0 : World} {H : AH}

/-- Rules, as they lie. -/
structure RowsR (H : AH) (md : Md) (F : Nat → Prop) (rows : List (List V)) (rl : List Rl) : Prop where
  len : rows.length = rl.length
  at' : ∀ i (h : i < rows.length) (h' : i < rl.length), ∃ v1 v2 v3 v4 v5, IsR H md F rows[i] rl[i] v1 v2 v3 v4 v5
theorem RowsR.keep {md : Md} {F G : Nat → Prop} {rows : List (List V)} {rl : List Rl} {H' : AH} (h : RowsR H md F rows rl) (k : Keeps G H H') (hf : ∀ i, F i → ¬ G i) : RowsR H' md F rows rl :=
  ⟨h.len, fun i h1 h2 => by obtain ⟨v1, v2, v3, v4, v5, hr⟩ := h.at' i h1 h2; exact ⟨v1, v2, v3, v4, v5, hr.keep k hf⟩⟩
theorem rows_row {md : Md} {v : V} {rows : List (List V)} {F : Nat → Prop} (hs : SlV H md 15 v rows F) {i : Nat} (hi : i < rows.length) : ∃ id o cap cs, v = .sl 15 (some (id, o)) rows.length cap ∧ F id ∧ SlAt H md 15 id o cap rows cs ∧ id < H.next := by
  have h : SlV H md 15 v (rows.map id) F := by simpa using hs
  have := at_row (r := id) h hi
  simpa using this

def entB (z : Int) : V × V := (.i .i64 z, .b true)
theorem find_b (k : Int) : ∀ zs : List Int, findV (.one .i) (.i .i64 k) (zs.map entB) = some (if k ∈ zs then some (zs.idxOf k, .b true) else none)
  | [] => rfl
  | z :: zs => by
    have ih := find_b k zs
    show findV (.one .i) (.i .i64 k) ((.i .i64 z, .b true) :: zs.map entB) = _
    unfold findV
    rw [same_int, ih]
    by_cases h : k = z
    · subst h
      simp
    · have h2 : (k == z) = false := by simp [h]
      have hz : (z == k) = false := by simp; omega
      rw [h2]
      by_cases hm : k ∈ zs
      · simp [hm, h, List.idxOf_cons, hz]
      · simp [hm, h]
def sids (rl : List Rl) (i : Nat) : List Int := (rl.take i).map Rl.sid
theorem sids_succ {rl : List Rl} {i : Nat} (h : i < rl.length) : sids rl (i + 1) = sids rl i ++ [rl[i].sid] := by unfold sids; rw [take_snoc h, List.map_append]; rfl
theorem sids_all (rl : List Rl) : sids rl rl.length = rl.map Rl.sid := by unfold sids; rw [List.take_length]
theorem sids_dup {rl : List Rl} {i : Nat} (h : i < rl.length) (hm : rl[i].sid ∈ sids rl i) : ¬ (rl.map Rl.sid).Nodup := by
  intro hn
  have e : rl.map Rl.sid = sids rl (i + 1) ++ (rl.drop (i + 1)).map Rl.sid := by unfold sids; rw [← List.map_append, List.take_append_drop]
  rw [e, sids_succ h] at hn
  have := (List.nodup_append.1 hn).1
  have := (List.nodup_append.1 this).2.2 _ hm rl[i].sid (by simp)
  exact this rfl

set_option maxRecDepth 4000 in
set_option maxHeartbeats 1000000 in
/-- rule.twice. -/
theorem f51 {md mr : Md} {F G : Nat → Prop} {v : V} {rows : List (List V)} {rl : List Rl} (hs : SlV H mr 15 v rows G) (hr : RowsR H md F rows rl) (hl : rl.length ≤ 1000) : ACalls Tryz.prog W0 51 [v] H fun e H' => (∃ t : Int, e = .ret (.i .i64 t) ∧ ((0 ≤ t) = ¬ (rl.map Rl.sid).Nodup)) ∧ Grows H H' := by
  obtain ⟨e', a', cap', hv⟩ := hs.len
  have hlen := hr.len
  rw [hlen] at hv
  refine acalls_in k51 (by simp) ?_
  simp -dsimp [hv]
  refine awp_round (fun m env H1 => ∃ i : Nat, i ≤ rl.length ∧ m = rl.length - i ∧ Grows H H1 ∧ H.next < H1.next ∧ env.get 3 = some (.m (some H.next)) ∧ env.get 7 = some v ∧ env.get 8 = some (.i .i64 rl.length) ∧ env.get 9 = some (.i .i64 i) ∧
    H1.get H.next = some (.map ((sids rl i).map entB)) ∧ (sids rl i).Nodup) rl.length
    ⟨0, by omega, by omega, Keeps.alloc' Keeps.refl, by simp, by simp, by simp [hv], by simp, by simp, by simp [sids], by simp [sids]⟩ ?_
  rintro m env H1 ⟨i, hi, rfl, hgr, nm, e3, e7, e8, e9, gm, hnd⟩
  by_cases hlt : i < rl.length
  · have hlr : i < rows.length := by omega
    obtain ⟨id, o, cap, cs, hvv, hF, sa, _⟩ := rows_row (hs.keep hgr fun _ _ h => h) hlr
    rw [hlen] at hvv
    have hrow := sa.row (List.getElem?_eq_getElem hlr)
    obtain ⟨v1, v2, v3, v4, v5, hI⟩ := hr.at' i hlr hlt
    have o1 := slv_one hI.s1
    have o2 := slv_one hI.s2
    have o3 := slv_one hI.s3
    have o4 := slv_one hI.s4
    have o5 := slv_one hI.s5
    rw [hI.row] at hrow
    have hwi := wrap_succ (i := i) (by omega)
    have hsu := sids_succ hlt
    have hdup := sids_dup hlt
    obtain ⟨r, hrr⟩ : ∃ r, r = rl[i] := ⟨_, rfl⟩
    rw [← hrr] at hrow hsu hdup
    have hf := find_b r.sid (sids rl i)
    rw [hvv] at e7
    have ne : ¬ H.next = H1.next := by omega
    by_cases hm : r.sid ∈ sids rl i
    · rw [if_pos hm] at hf
      have hz : ((0 : Int) ≤ i) = ¬ (rl.map Rl.sid).Nodup := by rw [eq_iff_iff]; exact ⟨fun _ => hdup hm, fun _ => by omega⟩
      simp -dsimp [e3, e7, e8, e9, hlt, hrow, splice, o1, o2, o3, o4, o5, gm, keyOk, hf, ne]
      exact fin_mk ⟨⟨_, rfl, hz⟩, (Keeps.alloc' hgr)⟩
    · rw [if_neg hm] at hf
      simp -dsimp [e3, e7, e8, e9, hlt, hrow, splice, o1, o2, o3, o4, o5, gm, keyOk, hf, ne, hwi]
      exact hold_mk ⟨rl.length - (i + 1), by omega, i + 1, by omega, rfl, Keeps.set_new (Keeps.alloc' hgr) (by omega), by simp; omega, by simp [e3], by simp [e7, hvv], by simp [e8], by simp, by rw [hsu]; simp [entB], by
        rw [hsu, List.nodup_append]
        exact ⟨hnd, by simp, by intro a ha b hb; simp at hb; subst hb; exact fun e => hm (e ▸ ha)⟩⟩
  · have : i = rl.length := by omega
    subst this
    rw [sids_all] at hnd
    simp -dsimp [e3, e7, e8, e9]
    exact fin_mk ⟨⟨-1, rfl, by rw [eq_iff_iff]; exact ⟨fun h => absurd h (by omega), fun h => absurd hnd h⟩⟩, hgr⟩
end Go.Proofs.YtceamnigcimldaaGreatDoor
