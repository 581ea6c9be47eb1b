/- A part of the proof: contracts of functions, over the abstract machine. -/
import Derived.Test.YtmdmabedfleacaaDoorCi8
import Derived.Test.YtmdmabedfleacaaDoorEv1
set_option linter.unusedVariables false
set_option linter.unusedSimpArgs false
set_option linter.all false
namespace Go.Proofs.YtmdmabedfleacaaDoor
open Ram Go

variable {W0 : World} {H : AH}

theorem at_row {H : AH} {md : Md} {es : Nat} {v : V} {α : Type} {l : List α} {r : α → List V} {F : Nat → Prop} (hs : SlV H md es v (l.map r) F) {i : Nat} (hi : i < l.length) : ∃ id o cap cs, v = .sl es (some (id, o)) l.length cap ∧ F id ∧ SlAt H md es id o cap (l.map r) cs ∧ id < H.next := by
  rcases hs with ⟨hnil, _⟩ | ⟨id, o, cap, cs, hvv, hF, hs⟩
  · simp only [List.map_eq_nil_iff] at hnil; subst hnil; simp at hi
  · rw [List.length_map] at hvv
    exact ⟨id, o, cap, cs, hvv, hF, hs, hs.lt⟩

theorem Grows.rw {H H' : AH} (h : Grows H H') : ∀ i, i < H.next → H'.get i = H.get i := fun i hi => h.get i hi id

/-- rampartref09.Same. -/
theorem f24 {na nb : Bool} {va vb : V} {la lb : List Net} {ma mb : Md} {Fa Fb : Nat → Prop} (ha : SlV H ma 2 va (la.map nRow) Fa) (hb : SlV H mb 2 vb (lb.map nRow) Fb) (hla : la.length < 4611686018427387904) :
    ACalls Tryd.prog W0 24 [.agg [.b na, va], .agg [.b nb, vb]] H fun e H' => e = .ret (.b (decide (na = nb ∧ la = lb))) ∧ Grows H H' := by
  obtain ⟨ea, aa, ca, hva⟩ := ha.len
  obtain ⟨eb, ab, cb, hvb⟩ := hb.len
  rw [List.length_map] at hva hvb
  have h1 : V.one va = true := by rw [hva]; rfl
  have h2 : V.one vb = true := by rw [hvb]; rfl
  refine acalls_in k24 (by simp) ?_
  have hk0 : ∀ X Y, Grows H ((H.alloc X).alloc Y) := fun _ _ => Keeps.alloc' (Keeps.alloc' Keeps.refl)
  by_cases hn : na = nb
  · subst hn
    by_cases hl : la.length = lb.length
    · have hl' : (la.length : Int) = lb.length := by omega
      simp -dsimp [h1, h2, hva, hvb, hl, splice]
      rw [← hl]
      refine awp_round (fun m env H1 => ∃ i : Nat, i ≤ la.length ∧ m = la.length - i ∧ Grows ((H.alloc (.cells .rw [.b na, va])).alloc (.cells .rw [.b na, vb])) H1 ∧ env.get 2 = some (.p (some (H.next, 0))) ∧ env.get 3 = some (.p (some (H.next + 1, 0))) ∧ env.get 5 = some (.i .i64 i) ∧ la.take i = lb.take i) la.length
        ⟨0, by omega, by omega, by rw [hva, hvb, hl]; exact Keeps.refl, by simp, by simp, by simp, by simp⟩ ?_
      rintro m env H1 ⟨i, hi, rfl, hgr, e2, e3, e5, htk⟩
      have gx := Grows.at hgr (i := H.next) (o := .cells .rw [.b na, va]) (by simp <;> omega) (by simp)
      have gy := Grows.at hgr (i := H.next + 1) (o := .cells .rw [.b na, vb]) (by simp <;> omega) (by simp)
      by_cases hlt : i < la.length
      · have hlt2 : i < lb.length := by omega
        obtain ⟨ida, oa, cpa, csa, va', hFa, sa, ia⟩ := at_row ha hlt
        obtain ⟨idb, ob, cpb, csb, vb', hFb, sb, ib⟩ := at_row hb hlt2
        have sa1 := sa.keep ((hk0 _ _).trans hgr) fun h => h
        have sb1 := sb.keep ((hk0 _ _).trans hgr) fun h => h
        have ra : (la.map nRow)[i]? = some (nRow la[i]) := by rw [List.getElem?_map, List.getElem?_eq_getElem hlt]; rfl
        have rb : (lb.map nRow)[i]? = some (nRow lb[i]) := by rw [List.getElem?_map, List.getElem?_eq_getElem hlt2]; rfl
        have a0 := sa1.cell (j := 0) ra (by omega)
        have a1 := sa1.cell (j := 1) ra (by omega)
        have b0 := sb1.cell (j := 0) rb (by omega)
        have b1 := sb1.cell (j := 1) rb (by omega)
        simp at a0 a1 b0 b1
        have hwi := wrap_succ (i := i) (by omega)
        have hlti : (i : Int) < la.length := by omega
        have hlti2 : (i : Int) < lb.length := by omega
        rw [va'] at gx; rw [vb'] at gy
        have step : la[i] = lb[i] → la.take (i + 1) = lb.take (i + 1) := fun h => by
          rw [List.take_add_one, List.take_add_one, htk, List.getElem?_eq_getElem hlt, List.getElem?_eq_getElem hlt2, h]
        have bad : la[i] ≠ lb[i] → decide (na = na ∧ la = lb) = false := fun h => by
          rw [decide_eq_false_iff_not]
          rintro ⟨_, rfl⟩
          exact h rfl
        by_cases c0 : la[i].addr = lb[i].addr
        · by_cases c1 : la[i].bits = lb[i].bits
          · have e0 : la[i] = lb[i] := by cases hx : la[i]; cases hy : lb[i]; rw [hx, hy] at c0 c1; simp at c0 c1; rw [c0, c1]
            simp -dsimp [e2, e3, e5, gx, gy, hlti, hlti2, hlt, hlt2, sa1.get, sb1.get, a0, a1, b0, b1, c0, c1, hwi]
            exact hold_mk ⟨la.length - (i + 1), by omega, i + 1, by omega, rfl, hgr, by simp [e2], by simp [e3], by simp, step e0⟩
          · simp -dsimp [e2, e3, e5, gx, gy, hlti, hlti2, hlt, hlt2, sa1.get, sb1.get, a0, a1, b0, b1, c0, c1]
            exact fin_mk ⟨by rw [bad fun h => c1 (by rw [h])], (hk0 _ _).trans hgr⟩
        · simp -dsimp [e2, e3, e5, gx, gy, hlti, hlti2, hlt, hlt2, sa1.get, sb1.get, a0, a1, b0, b1, c0]
          exact fin_mk ⟨by rw [bad fun h => c0 (by rw [h])], (hk0 _ _).trans hgr⟩
      · have : i = la.length := by omega
        subst this
        have hlti : ¬ (la.length : Int) < la.length := by omega
        rw [List.take_length, hl, List.take_length] at htk
        rw [hva] at gx
        simp -dsimp [e2, e3, e5, gx, gy]
        exact fin_mk ⟨by simp [htk], (hk0 _ _).trans hgr⟩
    · have hl' : ¬ (la.length : Int) = lb.length := by omega
      simp -dsimp [h1, h2, hva, hvb, hl, hl', splice]
      exact fin_mk ⟨by rw [decide_eq_false]; rintro ⟨_, rfl⟩; exact hl rfl, hk0 _ _⟩
  · have : (na == nb) = false := by cases na <;> cases nb <;> simp_all
    simp -dsimp [h1, h2, hva, hvb, hn, this, splice]
    exact fin_mk ⟨by rw [decide_eq_false]; rintro ⟨h, _⟩; exact hn h, hk0 _ _⟩
end Go.Proofs.YtmdmabedfleacaaDoor
