/- A part of the proof: contracts of functions, over the abstract machine. -/
import Derived.Test.YtmdmabedfleacaaBk10
set_option linter.unusedVariables false
set_option linter.unusedSimpArgs false
set_option linter.all false
namespace Go.Proofs.Ytmdmabedfleacaa
open Ram Go

variable {W0 : World} {H : AH}

/-- rampartref22.Blocks. -/
theorem f22 (t : Int) : ACalls Try.prog W0 22 [.i .i64 t] H fun e H' => ∃ w, e = .ret (.p (some (w, 0))) ∧ RRep H' w (mostOf t) 0 [] (Up NoId H H') ∧ Grows H H' ∧ H.next ≤ w := by
  refine acalls_by k22 (by simp) ?_
  have hm : (if 100000 < (if t < 1 then 1 else t) then 100000 else (if t < 1 then 1 else t)) = mostOf t := by
    unfold mostOf; split <;> split <;> split <;> omega
  have hm' : (if (if 1 < t then t else 1) < 100000 then (if 1 < t then t else 1) else 100000) = mostOf t := by
    unfold mostOf; split <;> split <;> split <;> omega
  simp -dsimp [hm, hm']
  refine ⟨⟨.sl 0 none 0 0, .inr ⟨Nat.le_refl _, by simp⟩, ?_, by simp, .inl ⟨rfl, _, rfl⟩⟩, Keeps.alloc' Keeps.refl⟩
  rintro i (h | h)
  · exact h.elim
  · exact h.2

/-- B.Has. -/
theorem f23 (t : Tup) {w : Nat} {ticks now : Int} {l : List Blk} {F : Nat → Prop} (hw : RRep H w ticks now l F) (hl : l.length < 1000) : ACalls Try.prog W0 23 [.p (some (w, 0)), .agg t.c] H fun e H' =>
    e = .ret (.b (l.any fun x => same t x.t)) ∧ Grows H H' := by
  refine acalls_by k23 (by simp) ?_
  simp -dsimp
  refine (f54 t (hw.grow (Keeps.alloc' Keeps.refl)) hl).next ?_
  rintro H1 g1
  cases hf : l.findIdx? (fun x => same t x.t) with
  | some i =>
    have : l.any (fun x => same t x.t) = true := by
      rw [List.findIdx?_eq_some_iff_getElem] at hf
      obtain ⟨hi, hp, _⟩ := hf
      rw [List.any_eq_true]; exact ⟨_, List.getElem_mem hi, hp⟩
    rw [this]
    simp -dsimp
    exact Keeps.trans (Keeps.alloc' Keeps.refl) g1
  | none =>
    have : l.any (fun x => same t x.t) = false := by
      rw [List.findIdx?_eq_none_iff] at hf
      rw [List.any_eq_false]; intro x hx; simp [hf x hx]
    rw [this]
    simp -dsimp
    exact Keeps.trans (Keeps.alloc' Keeps.refl) g1

/-- B.All. -/
theorem f28 {w : Nat} {ticks now : Int} {l : List Blk} {F : Nat → Prop} (hw : RRep H w ticks now l F) (hl : l.length < 1000) : ACalls Try.prog W0 28 [.p (some (w, 0))] H fun e H' =>
    ∃ v, e = .ret v ∧ SlV H' .rw 5 v (l.map tupRow) (Up NoId H H') ∧ Grows H H' := by
  obtain ⟨v, Fw, hF, gw, hs⟩ := hw
  refine acalls_by k28 (by simp) ?_
  obtain ⟨e', a', cap', hv⟩ := hs.len
  rw [List.length_map] at hv
  simp -dsimp
  refine awp_round (fun m env H1 => ∃ i : Nat, i ≤ l.length ∧ m = l.length - i ∧ Grows H H1 ∧ env.get 0 = some (.p (some (w, 0))) ∧ env.get 4 = some (.i .i64 i) ∧
    ∃ v3, env.get 3 = some v3 ∧ SlV H1 .rw 5 v3 ((l.map tupRow).take i) (Up NoId H H1)) l.length ⟨0, by simp, by simp, Keeps.refl, by simp, by simp, _, by simp; rfl, .inl ⟨by simp, _, rfl⟩⟩ ?_
  rintro m env H1 ⟨i, hi, rfl, hgr, e0, e4, v3, e3, hs3⟩
  have gw1 := Grows.at hgr (hF _ Fw) gw
  by_cases hlt : i < l.length
  · rcases hs with ⟨hnil, _⟩ | ⟨id, o, cap, cs, rfl, hF', hs⟩
    · simp only [List.map_eq_nil_iff] at hnil; subst hnil; simp at hlt
    have hr : l[i]? = some l[i] := List.getElem?_eq_getElem hlt
    have hs1 := hs.keep hgr fun h => h
    have hrow := hs1.row_part (i := i) (r := zrow l[i]) (by simp [hr]) (off := 0) (n := 5) (by omega)
    simp [zrow] at hrow
    have hwi : IntKind.i64.wrap ((i : Int) + 1) = (i : Int) + 1 := wrap_i64 (by omega) (by omega)
    simp -dsimp [e0, e3, e4, gw1, hlt, hrow]
    have hk1 : Grows H1 (H1.alloc (.cells .rw l[i].t.c)) := Keeps.alloc' Keeps.refl
    refine (app_row (F := Up NoId H H1) (hs3.keep hk1 fun _ _ h => h) (r := l[i].t.c) (by simp) (by simp) (by simp <;> omega) (by simp <;> omega)).mono ?_
    rintro v4 H3 ⟨hs4, hk4⟩
    have hn := hgr.next
    have hn4 := hk4.next
    simp at hn4
    have hgr3 : Grows H H3 := (Keeps.trans hgr hk1).then hk4 fun j hj h => by rcases h with h | h <;> omega
    simp -dsimp [e0, e4, hwi]
    refine hold_mk ⟨l.length - (i + 1), by omega, i + 1, by omega, rfl, hgr3, by simp [e0], by simp, v4, by simp, ?_⟩
    have : (l.map tupRow).take i ++ [l[i].t.c] = (l.map tupRow).take (i + 1) := by
      rw [List.take_add_one, List.getElem?_map, hr]; rfl
    rw [this] at hs4
    refine hs4.mono fun j hj => ?_
    rcases hj with (h | h) | h
    · exact h.elim
    · exact .inr ⟨h.1, by omega⟩
    · simp at h; exact .inr ⟨by omega, h.2⟩
  · simp -dsimp [e0, e3, e4, gw1, hv, hlt]
    rw [List.take_of_length_le (by simp <;> omega)] at hs3
    exact ⟨hs3, hgr⟩

/-- rampartref21.SameAll: of equal lists. -/
theorem f27 {l : List Blk} {va vb : V} {F G : Nat → Prop} (ha : SlV H .rw 5 va (l.map tupRow) F) (hb : SlV H .rw 5 vb (l.map tupRow) G) (hl : l.length < 1000) : ACalls Try.prog W0 27 [va, vb] H fun e H' => e = .ret (.b true) ∧ Grows H H' := by
  refine acalls_by k27 (by simp) ?_
  obtain ⟨ea, aa, capa, hva⟩ := ha.len
  obtain ⟨eb, ab, capb, hvb⟩ := hb.len
  rw [List.length_map] at hva hvb
  simp -dsimp [hva, hvb]
  refine awp_round (fun m env H1 => ∃ i : Nat, i ≤ l.length ∧ m = l.length - i ∧ Grows H H1 ∧ env.get 0 = some va ∧ env.get 1 = some vb ∧ env.get 5 = some (.i .i64 i)) l.length
    ⟨0, by simp, by simp, Keeps.refl, by simp [hva], by simp [hvb], by simp⟩ ?_
  rintro m env H1 ⟨i, hi, rfl, hgr, e0, e1, e5⟩
  by_cases hlt : i < l.length
  · rcases ha with ⟨hnil, _⟩ | ⟨ida, oa, capa, csa, rfl, hFa, ha⟩
    · simp only [List.map_eq_nil_iff] at hnil; subst hnil; simp at hlt
    rcases hb with ⟨hnil, _⟩ | ⟨idb, ob, capb, csb, rfl, hFb, hb⟩
    · simp only [List.map_eq_nil_iff] at hnil; subst hnil; simp at hlt
    have hr : l[i]? = some l[i] := List.getElem?_eq_getElem hlt
    have ra := (ha.keep hgr fun h => h).row (i := i) (r := l[i].t.c) (by rw [List.getElem?_map, hr]; rfl)
    have rb := (hb.keep hgr fun h => h).row (i := i) (r := l[i].t.c) (by rw [List.getElem?_map, hr]; rfl)
    have hwi : IntKind.i64.wrap ((i : Int) + 1) = (i : Int) + 1 := wrap_i64 (by omega) (by omega)
    simp -dsimp [e0, e1, e5, hlt, ra, rb]
    refine (f56 l[i].t l[i].t).next ?_
    rintro H2 g2
    simp -dsimp [e5, hwi]
    exact hold_mk ⟨l.length - (i + 1), by omega, i + 1, by omega, rfl, hgr.trans g2, by simp [e0], by simp [e1], by simp⟩
  · simp -dsimp [e0, e1, e5, hva, hvb, hlt]
    exact hgr
end Go.Proofs.Ytmdmabedfleacaa
