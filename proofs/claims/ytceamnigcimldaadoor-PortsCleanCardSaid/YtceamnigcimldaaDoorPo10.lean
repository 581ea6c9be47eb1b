/- A part of the proof: contracts of functions, over the abstract machine. -/
import Derived.Test.YtceamnigcimldaaDoorPo9
set_option linter.unusedVariables false
set_option linter.unusedSimpArgs false
set_option linter.all false
/- Ports: the other text of a set. -/
namespace Go.Proofs.YtceamnigcimldaaDoor
open Ram Go Go.Proofs.Ports

variable {W0 : World} {H : AH}

set_option maxRecDepth 4000 in
/-- rampartref10.Text. -/
theorem f18 {not : Bool} {v : V} {l : List Sp} {md : Md} {F : Nat → Prop} (hs : SlV H md 2 v (l.map spRow) F) (hl : l.length < 4611686018427387904) : ACalls Tryd.prog W0 18 [.agg [.b not, v]] H fun e H' => e = .ret (.s (textP not l)) ∧ Grows H H' := by
  obtain ⟨e', a', cap', hv⟩ := hs.len
  rw [List.length_map] at hv
  have hone : V.one v = true := by rw [hv]; rfl
  obtain ⟨hcok, hcl⟩ := clean_ok l
  refine acalls_in k18 (by simp) ?_
  have hk0 : Grows H (H.alloc (.cells .rw [.b not, v])) := Keeps.alloc' Keeps.refl
  simp -dsimp [hone]
  refine (f14 (hs.keep hk0 fun _ _ h => h) hl).some ?_
  rintro vc H2 ⟨hsc, h2⟩
  have n2 := h2.next
  simp at n2
  have gx := Grows.at h2 (i := H.next) (o := .cells .rw [.b not, v]) (by simp <;> omega) (by simp)
  obtain ⟨ec, ac, cc, hvc⟩ := hsc.len
  obtain ⟨nb, hnb⟩ : ∃ b, b = (okP l && not) := ⟨_, rfl⟩
  have hft : ∀ j, Up NoId (H.alloc (.cells .rw [.b not, v])) H2 j → j ≠ H.next := by
    rintro j (h | h)
    · exact h.elim
    · simp at h; omega
  obtain ⟨cl, hcle⟩ : ∃ c, c = cleanP l := ⟨_, rfl⟩
  unfold textP
  rw [← hcle] at hsc hvc hcl hcok ⊢
  rw [← hnb]
  rw [List.length_map] at hvc
  have honec : V.one vc = true := by rw [hvc]; rfl
  simp -dsimp [gx, splice, honec]
  obtain ⟨H3, hH3⟩ : ∃ H3, H3 = H2.set H.next (.cells .rw [.b nb, vc]) := ⟨_, rfl⟩
  rw [← hH3]
  have gs3 : H3.get H.next = some (.cells .rw [.b nb, vc]) := by rw [hH3, AH.get_set, if_pos rfl]
  have g3 : Grows H H3 := by rw [hH3]; exact Keeps.set_new (hk0.trans h2) (by omega)
  have n3 : H3.next = H2.next := by rw [hH3]; simp
  have hs3 := hsc.keep (G := fun j => j = H.next) (H' := H3) (by rw [hH3]; exact Keeps.set fun _ => rfl) fun j hj e => hft j hj e
  rw [hvc] at gs3
  have hpe : ∀ i, ∀ x ∈ (cl.map spT).take i, x.length ≤ 50 := fun i x hx => by
    obtain ⟨n, hn', rfl⟩ := List.mem_map.1 (List.mem_of_mem_take hx)
    exact spT_len (hcok n hn')
  have hjl : ∀ i, (Lib.join ((cl.map spT).take i) [44]).length ≤ 765 := fun i => by
    refine Nat.le_trans (join_len _ 44 50 (hpe i)) ?_
    have : ((cl.map spT).take i).length ≤ 15 := by simp; omega
    have := Nat.mul_le_mul_right 51 this; omega
  refine awp_round (fun m env H1 => ∃ i : Nat, i ≤ cl.length ∧ m = cl.length - i ∧ Grows H3 H1 ∧ env.get 1 = some (.p (some (H.next, 0))) ∧ env.get 4 = some (.i .i64 i) ∧ env.get 3 = some (.s (Lib.join ((cl.map spT).take i) [44]))) cl.length
    ⟨0, by omega, by omega, Keeps.refl, by simp, by simp, by simp [Lib.join, List.intercalate]⟩ ?_
  rintro m env H1 ⟨i, hi, rfl, hgr, e1, e4, e3⟩
  have gs1 := Grows.at hgr (by omega) gs3
  by_cases hlt : i < cl.length
  · obtain ⟨id, o, cap, cs, hvv, hF, sa, _⟩ := at_row (hs3.keep hgr fun _ _ h => h) hlt
    have a0 := sa.cell (j := 0) (row_at hlt) (by omega)
    have a1 := sa.cell (j := 1) (row_at hlt) (by omega)
    simp at a0 a1
    rw [hvc] at hvv
    rw [hvv] at gs1
    have hwi := wrap_succ (i := i) (by omega)
    have hoi := hcok _ (List.getElem_mem hlt)
    have htk : (cl.map spT).take (i + 1) = (cl.map spT).take i ++ [spT cl[i]] := by
      rw [List.take_add_one, List.getElem?_map, List.getElem?_eq_getElem hlt]; rfl
    have hjs := join_snoc ((cl.map spT).take i) (spT cl[i]) [44]
    rw [← htk] at hjs
    have hj1 := hjl i
    obtain ⟨t, ht⟩ : ∃ t, t = Lib.join ((cl.map spT).take i) [44] := ⟨_, rfl⟩
    rw [← ht] at e3 hjs hj1
    obtain ⟨s, hsi⟩ : ∃ s, s = cl[i] := ⟨_, rfl⟩
    rw [← hsi] at a0 a1 hoi hjs
    obtain ⟨b1, b2, b3⟩ := hoi
    obtain ⟨k, hk⟩ := Int.eq_ofNat_of_zero_le b1
    obtain ⟨q, hq⟩ := Int.eq_ofNat_of_zero_le (show 0 ≤ s.t by omega)
    have hlk := decDigits_le (n := k) (by omega)
    have hlq := decDigits_le (n := q) (by omega)
    have hnt : spT s = Lib.decDigits k ++ (if q = k then [] else 45 :: Lib.decDigits q) := by
      unfold spT
      rw [hk, hq, itoa_pos (by omega), itoa_pos (by omega), Int.toNat_natCast, Int.toNat_natCast]
      by_cases e : q = k
      · rw [if_pos (by omega), if_pos e]
      · rw [if_neg (by omega), if_neg e]
    rw [hk] at a0 b2
    rw [hq] at a1 b2 b3
    have hgt : (k < q) = ¬ (q = k) := by rw [eq_iff_iff]; omega
    -- what has been written, with or without the comma ahead
    obtain ⟨t', ht'⟩ : ∃ t', t' = if i = 0 then ([] : List UInt8) else t ++ [44] := ⟨_, rfl⟩
    have hj2 : t'.length ≤ 766 := by rw [ht']; split <;> simp <;> omega
    have hjn : Lib.join ((cl.map spT).take (i + 1)) [44] = t' ++ spT s := by
      rw [hjs, ht']
      by_cases hi0 : i = 0
      · rw [if_pos hi0, if_pos (by rw [hi0]; rfl)]; rfl
      · rw [if_neg hi0, if_neg]
        intro h
        have := congrArg List.length h
        rw [List.length_take, List.length_map, List.length_nil] at this
        omega
    have rest : ∀ (env' : Env), True := fun _ => trivial
    by_cases hi0 : i = 0
    · rw [if_pos hi0] at ht'
      subst ht'
      have ht0 : t = [] := by rw [ht, hi0]; simp [Lib.join, List.intercalate]
      subst ht0
      have hig : ¬ 0 < i := by omega
      simp -dsimp [e1, e4, e3, gs1, hlt, hig, sa.get, a0, a1]
      refine (f31 k (by omega)).next ?_
      rintro _ rfl
      simp -dsimp [e1, e4, e3, gs1]
      rw [add_s (by simp; omega)]
      by_cases e : q = k
      · rw [if_pos e] at hnt
        have hnk : ¬ k < q := by omega
        simp -dsimp [e1, e4, e3, gs1, hlt, sa.get, a0, a1, hnk, hwi]
        exact hold_mk ⟨cl.length - (i + 1), by omega, i + 1, by omega, rfl, hgr, by simp [e1], by simp, by rw [hjn, hnt]; simp⟩
      · rw [if_neg e] at hnt
        have hnk : k < q := by omega
        simp -dsimp [e1, e4, e3, gs1, hlt, sa.get, a0, a1, hnk, hwi]
        rw [add_s (by simp; omega)]
        simp -dsimp [e1, e4, e3, gs1, hlt, sa.get, a0, a1]
        refine (f31 q (by omega)).next ?_
        rintro _ rfl
        simp -dsimp [e1, e4, e3, gs1]
        rw [add_s (by simp; omega)]
        simp -dsimp [e1, e4, e3, gs1, hwi]
        exact hold_mk ⟨cl.length - (i + 1), by omega, i + 1, by omega, rfl, hgr, by simp [e1], by simp, by rw [hjn, hnt]; simp⟩
    · rw [if_neg hi0] at ht'
      have hig : 0 < i := by omega
      simp -dsimp [e1, e4, e3, gs1, hlt, hig, sa.get, a0, a1]
      rw [add_s (by simp; omega), ← ht']
      simp -dsimp [e1, e4, e3, gs1, hlt, hig, sa.get, a0, a1]
      refine (f31 k (by omega)).next ?_
      rintro _ rfl
      simp -dsimp [e1, e4, e3, gs1]
      rw [add_s (by omega)]
      by_cases e : q = k
      · rw [if_pos e] at hnt
        have hnk : ¬ k < q := by omega
        simp -dsimp [e1, e4, e3, gs1, hlt, sa.get, a0, a1, hnk, hwi]
        exact hold_mk ⟨cl.length - (i + 1), by omega, i + 1, by omega, rfl, hgr, by simp [e1], by simp, by rw [hjn, hnt]; simp⟩
      · rw [if_neg e] at hnt
        have hnk : k < q := by omega
        simp -dsimp [e1, e4, e3, gs1, hlt, sa.get, a0, a1, hnk, hwi]
        rw [add_s (by simp; omega)]
        simp -dsimp [e1, e4, e3, gs1, hlt, sa.get, a0, a1]
        refine (f31 q (by omega)).next ?_
        rintro _ rfl
        simp -dsimp [e1, e4, e3, gs1]
        rw [add_s (by simp; omega)]
        simp -dsimp [e1, e4, e3, gs1, hwi]
        exact hold_mk ⟨cl.length - (i + 1), by omega, i + 1, by omega, rfl, hgr, by simp [e1], by simp, by rw [hjn, hnt]; simp⟩
  · have : i = cl.length := by omega
    subst this
    have hj1 := hjl cl.length
    rw [List.take_of_length_le (by simp)] at e3 hj1
    have hc0 : ((cl.length : Int) = 0) = (cl.length = 0) := by rw [eq_iff_iff]; omega
    have hc1 : ((cl.length : Int) = 1) = (cl.length = 1) := by rw [eq_iff_iff]; omega
    obtain ⟨t, ht⟩ : ∃ t, t = Lib.join (cl.map spT) [44] := ⟨_, rfl⟩
    rw [← ht] at e3 hj1
    by_cases z0 : cl.length = 0
    · have : cl = [] := List.eq_nil_of_length_eq_zero z0
      subst this
      cases nb
      · simp -dsimp [e1, e4, e3, gs1]
        exact fin_mk ⟨by simp [bodyT, preT, anyT], g3.trans hgr⟩
      · simp -dsimp [e1, e4, e3, gs1]
        rw [add_s (by simp)]
        simp -dsimp
        exact fin_mk ⟨by simp [bodyT, preT, anyT], g3.trans hgr⟩
    · by_cases z1 : cl.length = 1
      · obtain ⟨x, rfl⟩ := List.length_eq_one_iff.1 z1
        have htx : t = spT x := by rw [ht]; simp [Lib.join, List.intercalate]
        cases nb
        · simp -dsimp [e1, e4, e3, gs1]
          exact fin_mk ⟨by simp [bodyT, preT, htx], g3.trans hgr⟩
        · simp -dsimp [e1, e4, e3, gs1]
          rw [add_s (by simp; omega)]
          simp -dsimp
          exact fin_mk ⟨by simp [bodyT, preT, htx], g3.trans hgr⟩
      · have hb : bodyT (cl.map spT) = 91 :: (t ++ [93]) := by
          match cl, z0, z1, ht with
          | x :: y :: r, _, _, ht => rw [ht]; rfl
          | [x], _, z1, _ => exact (z1 rfl).elim
          | [], z0, _, _ => exact (z0 rfl).elim
        cases nb
        · simp -dsimp [e1, e4, e3, gs1, hc0, hc1, z0, z1]
          rw [add_s (by simp; omega)]
          simp -dsimp [e1, e4, e3, gs1, hc0, hc1, z0, z1]
          rw [add_s (by simp; omega)]
          simp -dsimp [e1, e4, e3, gs1, hc0, hc1, z0, z1]
          exact fin_mk ⟨by simp [hb, preT], g3.trans hgr⟩
        · simp -dsimp [e1, e4, e3, gs1, hc0, hc1, z0, z1]
          rw [add_s (by simp; omega)]
          simp -dsimp [e1, e4, e3, gs1, hc0, hc1, z0, z1]
          rw [add_s (by simp; omega)]
          simp -dsimp [e1, e4, e3, gs1, hc0, hc1, z0, z1]
          rw [add_s (by simp; omega)]
          simp -dsimp
          exact fin_mk ⟨by simp [hb, preT], g3.trans hgr⟩
end Go.Proofs.YtceamnigcimldaaDoor
