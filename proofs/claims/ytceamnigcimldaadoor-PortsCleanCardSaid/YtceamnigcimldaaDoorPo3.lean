/- A part of the proof: contracts of functions, over the abstract machine. -/
import Derived.Test.YtceamnigcimldaaDoorPo2
set_option linter.unusedVariables false
set_option linter.unusedSimpArgs false
set_option linter.all false
/- Ports: numbers' digits; sets of ports read. -/
namespace Go.Proofs.YtceamnigcimldaaDoor
open Ram Go Go.Proofs.Ports

variable {W0 : World} {H : AH}

@[simp] def spRow (s : Sp) : List V := [.i .i64 s.f, .i .i64 s.t]
/-- rampartref09.Dec. -/
theorem f31 : ∀ (n : Nat) {H : AH}, n < 9223372036854775808 → ACalls Tryd.prog W0 31 [.i .i64 n] H fun e H' => e = .ret (.s (Lib.decDigits n)) ∧ H = H'
  | n, H, hn => by
    refine acalls_in k31 (by simp) ?_
    by_cases h : n < 10
    · have hi : (n : Int) < 10 := by omega
      have hw : IntKind.i64.wrap ((n : Int) + 1) = (n : Int) + 1 := wrap_i64 (by omega) (by omega)
      have h2 : (0 : Int) ≤ (n : Int) + 1 ∧ (n : Int) + 1 ≤ 10 := by omega
      have h3 : n ≤ n + 1 := by omega
      have h4 : (n : Int) ≤ (n : Int) + 1 := by omega
      have hd : n + 1 - n = 1 := by omega
      have hdig := digit_at ⟨n, h⟩
      simp only at hdig
      simp -dsimp [hi, hw, h2, h3, h4, hd]
      rw [dec_small h, ← hdig]
      exact fin_mk ⟨rfl, rfl⟩
    · have hi : ¬ (n : Int) < 10 := by omega
      have ht : (n : Int).tmod 10 = ((n % 10 : Nat) : Int) := by rw [Int.tmod_eq_emod_of_nonneg (by omega)]; omega
      obtain ⟨q, hq'⟩ : ∃ q, q = n / 10 := ⟨_, rfl⟩
      have hq : IntKind.i64.wrap ((n : Int) / 10) = (q : Int) := by
        have : (n : Int) / 10 = (q : Int) := by omega
        rw [this]; exact wrap_i64 (by omega) (by omega)
      have hm : n % 10 < 10 := Nat.mod_lt _ (by omega)
      obtain ⟨m, hm'⟩ : ∃ m, m = n % 10 := ⟨_, rfl⟩
      rw [← hm'] at ht hm
      have hw : IntKind.i64.wrap ((m : Int) + 1) = (m : Int) + 1 := wrap_i64 (by omega) (by omega)
      have h2 : (0 : Int) ≤ (m : Int) + 1 ∧ (m : Int) + 1 ≤ 10 := by omega
      have h3 : m ≤ m + 1 := by omega
      have h4 : (m : Int) ≤ (m : Int) + 1 := by omega
      have hd : m + 1 - m = 1 := by omega
      have hdig := digit_at ⟨m, hm⟩
      simp only at hdig
      simp -dsimp [hi, ht, hq, hw, h2, h3, h4, hd, hdig]
      refine (f31 q (by omega)).next ?_
      rintro _ rfl
      have hlen : (Lib.decDigits q).length ≤ 19 := by
        have := dec_len' 19 q (by omega)
        omega
      simp -dsimp
      rw [add_s (by simp; omega)]
      simp -dsimp
      rw [dec_big h, ← hm', ← hq']
      exact fin_mk ⟨rfl, rfl⟩
termination_by n => n
decreasing_by omega

/-- rampartlaw00.Place. -/
theorem f19 {n m : Int} (hm : 0 < m) (hm' : m ≤ 4611686018427387904) : ACalls Tryd.prog W0 19 [.i .i64 n, .i .i64 m] H fun e H' => e = .ret (.i .i64 (n % m)) ∧ H = H' := by
  refine acalls_by k19 (by simp) ?_
  have h0 : ¬ m = 0 := by omega
  have hlt := Int.tmod_lt_of_pos n hm
  by_cases h1 : n.tmod m < 0
  · have : n % m = n.tmod m + m := by
      rw [Int.tmod_eq_emod] at h1 ⊢
      split at h1
      · have := Int.emod_nonneg n h0; omega
      · next h => rw [if_neg h]; omega
    simp -dsimp [h0, h1]
    have hb := Int.emod_nonneg n h0
    have hb' := Int.emod_lt_of_pos n hm
    rw [wrap_i64 (by omega) (by omega), this]
  · have : n % m = n.tmod m := by
      rw [Int.tmod_eq_emod] at h1 ⊢
      split
      · omega
      · next h => rw [if_neg h] at h1; have := Int.emod_lt_of_pos n hm; omega
    simp -dsimp [h0, h1, this]

/-- rampartlaw00.Digits. -/
theorem f20 {n : Nat} (h : n < 9223372036854775808) : ACalls Tryd.prog W0 20 [.i .i64 n] H fun e H' => e = .ret (.s (Lib.decDigits n)) ∧ H = H' := by
  refine acalls_in k20 (by simp) ?_
  simp -dsimp
  refine (f31 n h).next ?_
  rintro _ rfl
  simp -dsimp
  exact fin_mk ⟨rfl, rfl⟩

/-- rampartref09.Same. -/
theorem f11 {na nb : Bool} {va vb : V} {la lb : List Sp} {ma mb : Md} {Fa Fb : Nat → Prop} (ha : SlV H ma 2 va (la.map spRow) Fa) (hb : SlV H mb 2 vb (lb.map spRow) Fb) (hla : la.length < 4611686018427387904) :
    ACalls Tryd.prog W0 11 [.agg [.b na, va], .agg [.b nb, vb]] H fun e H' => e = .ret (.b (decide (na = nb ∧ la = lb))) ∧ Grows H H' := by
  obtain ⟨ea, aa, ca, hva⟩ := ha.len
  obtain ⟨eb, ab, cb, hvb⟩ := hb.len
  rw [List.length_map] at hva hvb
  have h1 : V.one va = true := by rw [hva]; rfl
  have h2 : V.one vb = true := by rw [hvb]; rfl
  refine acalls_in k11 (by simp) ?_
  have hk0 : ∀ X Y, Grows H ((H.alloc X).alloc Y) := fun _ _ => Keeps.alloc' (Keeps.alloc' Keeps.refl)
  by_cases hn : na = nb
  · subst hn
    by_cases hl : la.length = lb.length
    · have hl' : (la.length : Int) = lb.length := by omega
      simp -dsimp [h1, h2, hva, hvb, hl, splice]
      rw [← hl]
      refine awp_round (fun m env H1 => ∃ i : Nat, i ≤ la.length ∧ m = la.length - i ∧ Grows ((H.alloc (.cells .rw [.b na, va])).alloc (.cells .rw [.b na, vb])) H1 ∧ env.get 2 = some (.p (some (H.next, 0))) ∧ env.get 3 = some (.p (some (H.next + 1, 0))) ∧ env.get 5 = some (.i .i64 i) ∧ la.take i = lb.take i) la.length
        ⟨0, by omega, by omega, by rw [hva, hvb, hl]; exact Keeps.refl, by simp, by simp, by simp, by simp⟩ ?_
      rintro m env H1 ⟨i, hi, rfl, hgr, e2, e3, e5, htk⟩
      have gx := Grows.at hgr (i := H.next) (o := .cells .rw [.b na, va]) (by simp <;> omega) (by simp)
      have gy := Grows.at hgr (i := H.next + 1) (o := .cells .rw [.b na, vb]) (by simp <;> omega) (by simp)
      by_cases hlt : i < la.length
      · have hlt2 : i < lb.length := by omega
        obtain ⟨ida, oa, cpa, csa, va', hFa, sa, ia⟩ := at_row ha hlt
        obtain ⟨idb, ob, cpb, csb, vb', hFb, sb, ib⟩ := at_row hb hlt2
        have sa1 := sa.keep ((hk0 _ _).trans hgr) fun h => h
        have sb1 := sb.keep ((hk0 _ _).trans hgr) fun h => h
        have ra : (la.map spRow)[i]? = some (spRow la[i]) := by rw [List.getElem?_map, List.getElem?_eq_getElem hlt]; rfl
        have rb : (lb.map spRow)[i]? = some (spRow lb[i]) := by rw [List.getElem?_map, List.getElem?_eq_getElem hlt2]; rfl
        have a0 := sa1.cell (j := 0) ra (by omega)
        have a1 := sa1.cell (j := 1) ra (by omega)
        have b0 := sb1.cell (j := 0) rb (by omega)
        have b1 := sb1.cell (j := 1) rb (by omega)
        simp at a0 a1 b0 b1
        have hwi := wrap_succ (i := i) (by omega)
        have hlti : (i : Int) < la.length := by omega
        have hlti2 : (i : Int) < lb.length := by omega
        rw [va'] at gx; rw [vb'] at gy
        have step : la[i] = lb[i] → la.take (i + 1) = lb.take (i + 1) := fun h => by
          rw [List.take_add_one, List.take_add_one, htk, List.getElem?_eq_getElem hlt, List.getElem?_eq_getElem hlt2, h]
        have bad : la[i] ≠ lb[i] → decide (na = na ∧ la = lb) = false := fun h => by
          rw [decide_eq_false_iff_not]
          rintro ⟨_, rfl⟩
          exact h rfl
        by_cases c0 : la[i].f = lb[i].f
        · by_cases c1 : la[i].t = lb[i].t
          · have e0 : la[i] = lb[i] := by cases hx : la[i]; cases hy : lb[i]; rw [hx, hy] at c0 c1; simp at c0 c1; rw [c0, c1]
            simp -dsimp [e2, e3, e5, gx, gy, hlti, hlti2, hlt, hlt2, sa1.get, sb1.get, a0, a1, b0, b1, c0, c1, hwi]
            exact hold_mk ⟨la.length - (i + 1), by omega, i + 1, by omega, rfl, hgr, by simp [e2], by simp [e3], by simp, step e0⟩
          · simp -dsimp [e2, e3, e5, gx, gy, hlti, hlti2, hlt, hlt2, sa1.get, sb1.get, a0, a1, b0, b1, c0, c1]
            exact fin_mk ⟨by rw [bad fun h => c1 (by rw [h])], (hk0 _ _).trans hgr⟩
        · simp -dsimp [e2, e3, e5, gx, gy, hlti, hlti2, hlt, hlt2, sa1.get, sb1.get, a0, a1, b0, b1, c0]
          exact fin_mk ⟨by rw [bad fun h => c0 (by rw [h])], (hk0 _ _).trans hgr⟩
      · have : i = la.length := by omega
        subst this
        have hlti : ¬ (la.length : Int) < la.length := by omega
        rw [List.take_length, hl, List.take_length] at htk
        rw [hva] at gx
        simp -dsimp [e2, e3, e5, gx, gy]
        exact fin_mk ⟨by simp [htk], (hk0 _ _).trans hgr⟩
    · have hl' : ¬ (la.length : Int) = lb.length := by omega
      simp -dsimp [h1, h2, hva, hvb, hl, hl', splice]
      exact fin_mk ⟨by rw [decide_eq_false]; rintro ⟨_, rfl⟩; exact hl rfl, hk0 _ _⟩
  · have : (na == nb) = false := by cases na <;> cases nb <;> simp_all
    simp -dsimp [h1, h2, hva, hvb, hn, this, splice]
    exact fin_mk ⟨by rw [decide_eq_false]; rintro ⟨h, _⟩; exact hn h, hk0 _ _⟩

/-- rampartlaw09.copy1. -/
theorem f13 {not : Bool} {v : V} {l : List Sp} {md : Md} {F : Nat → Prop} (hs : SlV H md 2 v (l.map spRow) F) (hl : l.length < 1000) : ACalls Tryd.prog W0 13 [.agg [.b not, v]] H fun e H' =>
    ∃ v', e = .ret (.agg [.b not, v']) ∧ SlV H' .rw 2 v' (l.map spRow) (Up NoId H H') ∧ Grows H H' := by
  obtain ⟨e', a', cap', hv⟩ := hs.len
  rw [List.length_map] at hv
  have hone : V.one v = true := by rw [hv]; rfl
  refine acalls_in k13 (by simp) ?_
  obtain ⟨H1, hH1⟩ : ∃ H1, H1 = (H.alloc (.cells .rw [.b not, v])).alloc (.cells .rw [.b false, .sl 0 none 0 0]) := ⟨_, rfl⟩
  have g1 : Grows H H1 := by rw [hH1]; exact Keeps.alloc' (Keeps.alloc' Keeps.refl)
  have n1 : H1.next = H.next + 2 := by rw [hH1]; simp
  have gx : H1.get H.next = some (.cells .rw [.b not, v]) := by rw [hH1]; simp
  have gr : H1.get (H.next + 1) = some (.cells .rw [.b false, .sl 0 none 0 0]) := by rw [hH1]; simp
  simp -dsimp [hone]
  rw [← hH1]
  have hs1 := hs.keep g1 fun _ _ h => h
  refine (app_nil (newCells_of hs1) (fun r hr => by obtain ⟨x, _, rfl⟩ := List.mem_map.1 hr; rfl) (by simp; omega) (by simp; omega)).mono ?_
  rintro v2 H2 ⟨hs2, h2, hful⟩
  have n2 := h2.next
  have gx2 := Grows.at h2 (by omega) gx
  have gr2 := Grows.at h2 (by omega) gr
  obtain ⟨e9, a9, c9, hv9⟩ := hs2.len
  obtain ⟨n9, hn9⟩ : ∃ n, n = (l.map spRow).length := ⟨_, rfl⟩
  rw [← hn9] at hv9
  subst hv9
  simp -dsimp [gx2, gr2, splice]
  refine fin_mk ⟨_, rfl, ?_, Keeps.set_new (g1.trans h2) (by omega)⟩
  have := hs2.keep (G := fun j => j = H.next + 1) (H' := H2.set (H.next + 1) (.cells .rw [.b not, .sl e9 a9 n9 c9])) (Keeps.set fun _ => rfl) fun j hj e => by
    rcases hj with h | h
    · exact h.elim
    · omega
  exact this.mono fun j hj => by
    rcases hj with h | h
    · exact h.elim
    · exact .inr ⟨by omega, by simp; omega⟩

end Go.Proofs.YtceamnigcimldaaDoor
