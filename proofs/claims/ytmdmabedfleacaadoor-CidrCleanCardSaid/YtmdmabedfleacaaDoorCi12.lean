/- A part of the proof: contracts of functions, over the abstract machine. -/
import Derived.Test.YtmdmabedfleacaaDoorCi11
set_option linter.unusedVariables false
set_option linter.unusedSimpArgs false
set_option linter.all false
namespace Go.Proofs.YtmdmabedfleacaaDoor
open Ram Go

variable {W0 : World} {H : AH}

theorem join_snoc : ∀ (ps : List (List UInt8)) (p : List UInt8) (s : List UInt8), Lib.join (ps ++ [p]) s = if ps = [] then p else Lib.join ps s ++ s ++ p
  | [], p, s => by simp [Lib.join, List.intercalate]
  | [a], p, s => by simp [Lib.join, List.intercalate, List.intersperse]
  | a :: b :: r, p, s => by
    have ih := join_snoc (b :: r) p s
    simp only [if_neg (List.cons_ne_nil _ _)] at ih ⊢
    have e1 : ∀ (x y : List UInt8) (r : List (List UInt8)), Lib.join (x :: y :: r) s = x ++ s ++ Lib.join (y :: r) s := by
      intro x y r; simp [Lib.join, List.intercalate, List.intersperse]
    rw [List.cons_append, List.cons_append, e1, e1]
    rw [List.cons_append] at ih
    rw [ih]
    simp

set_option maxRecDepth 4000 in
/-- rampartref09.Text. -/
theorem f31 {not : Bool} {v : V} {l : List Net} {md : Md} {F : Nat → Prop} (hs : SlV H md 2 v (l.map nRow) F) (hl : l.length < 4611686018427387904) (hn : ∀ n ∈ l, n.ok) : ACalls Tryd.prog W0 31 [.agg [.b not, v]] H fun e H' => e = .ret (.s (setT not l)) ∧ Grows H H' := by
  obtain ⟨e', a', cap', hv⟩ := hs.len
  rw [List.length_map] at hv
  have hone : V.one v = true := by rw [hv]; rfl
  have hcl := clean_len l
  have hcok := clean_ok hn
  refine acalls_in k31 (by simp) ?_
  have hk0 : Grows H (H.alloc (.cells .rw [.b not, v])) := Keeps.alloc' Keeps.refl
  simp -dsimp [hone]
  refine (f27 (hs.keep hk0 fun _ _ h => h) hl hn).some ?_
  rintro vc H2 ⟨hsc, h2⟩
  have n2 := h2.next
  simp at n2
  have gx := Grows.at h2 (i := H.next) (o := .cells .rw [.b not, v]) (by simp <;> omega) (by simp)
  obtain ⟨ec, ac, cc, hvc⟩ := hsc.len
  obtain ⟨nb, hnb⟩ : ∃ b, b = (okSet l && not) := ⟨_, rfl⟩
  have hft : ∀ j, Up NoId (H.alloc (.cells .rw [.b not, v])) H2 j → j ≠ H.next := by
    rintro j (h | h)
    · exact h.elim
    · simp at h; omega
  obtain ⟨cl, hcle⟩ : ∃ c, c = cleanL l := ⟨_, rfl⟩
  unfold setT
  rw [← hcle] at hsc hvc hcl hcok ⊢
  rw [← hnb]
  rw [List.length_map] at hvc
  have honec : V.one vc = true := by rw [hvc]; rfl
  simp -dsimp [gx, splice, honec]
  obtain ⟨H3, hH3⟩ : ∃ H3, H3 = H2.set H.next (.cells .rw [.b nb, vc]) := ⟨_, rfl⟩
  rw [← hH3]
  have gs3 : H3.get H.next = some (.cells .rw [.b nb, vc]) := by rw [hH3, AH.get_set, if_pos rfl]
  have g3 : Grows H H3 := by rw [hH3]; exact Keeps.set_new (hk0.trans h2) (by omega)
  have n3 : H3.next = H2.next := by rw [hH3]; simp
  have hs3 := hsc.keep (G := fun j => j = H.next) (H' := H3) (by rw [hH3]; exact Keeps.set fun _ => rfl) fun j hj e => hft j hj e
  rw [hvc] at gs3
  refine awp_round (fun m env H1 => ∃ i : Nat, i ≤ cl.length ∧ m = cl.length - i ∧ Grows H3 H1 ∧ env.get 1 = some (.p (some (H.next, 0))) ∧ env.get 4 = some (.i .i64 i) ∧ env.get 3 = some (.s (Lib.join ((cl.map netT).take i) [44]))) cl.length
    ⟨0, by omega, by omega, Keeps.refl, by simp, by simp, by simp [Lib.join, List.intercalate]⟩ ?_
  rintro m env H1 ⟨i, hi, rfl, hgr, e1, e4, e3⟩
  have gs1 := Grows.at hgr (by omega) gs3
  by_cases hlt : i < cl.length
  · obtain ⟨id, o, cap, cs, hvv, hF, sa, ia⟩ := at_row hs3 hlt
    have hs1 := sa.keep hgr fun h => h
    have hri : (cl.map nRow)[i]? = some (nRow cl[i]) := by rw [List.getElem?_map, List.getElem?_eq_getElem hlt]; rfl
    have a0 := hs1.cell (j := 0) hri (by omega)
    have a1 := hs1.cell (j := 1) hri (by omega)
    simp at a0 a1
    rw [hvc] at hvv
    rw [hvv] at gs1
    have hwi := wrap_succ (i := i) (by omega)
    obtain ⟨ni, b0, b1⟩ := hcok _ (List.getElem_mem hlt)
    obtain ⟨k, hk⟩ := Int.eq_ofNat_of_zero_le b0
    have hld := dotted_len (a := cl[i].addr)
    have hlk : (Lib.decDigits k).length ≤ 21 := by
      have := Lib.itoa_length_le cl[i].bits ni.b0 ni.b1
      rw [hk, itoa_pos (by omega), Int.toNat_natCast] at this
      exact this
    have htk : (cl.map netT).take (i + 1) = (cl.map netT).take i ++ [netT cl[i]] := by
      rw [List.take_add_one, List.getElem?_map, List.getElem?_eq_getElem hlt]; rfl
    have hjs := join_snoc ((cl.map netT).take i) (netT cl[i]) [44]
    rw [← htk] at hjs
    have hjl : (Lib.join ((cl.map netT).take i) [44]).length ≤ 164 := by
      refine Nat.le_trans (join_len _ 44 40 fun x hx => ?_) ?_
      · obtain ⟨n, hn', rfl⟩ := List.mem_map.1 (List.mem_of_mem_take hx)
        exact netT_len (hcok n hn').1
      · have : ((cl.map netT).take i).length ≤ 4 := by simp; omega
        have := Nat.mul_le_mul_right 41 this; omega
    obtain ⟨t, ht⟩ : ∃ t, t = Lib.join ((cl.map netT).take i) [44] := ⟨_, rfl⟩
    rw [← ht] at e3 hjs hjl
    have hnt : netT cl[i] = dotted cl[i].addr ++ 47 :: Lib.decDigits k := by unfold netT; rw [hk, itoa_pos (by omega), Int.toNat_natCast]
    rw [hk] at a1
    have fin : ∀ (t' : List UInt8) (env' : Env) (H4 : AH), t'.length ≤ 200 → t' ++ netT cl[i] = Lib.join ((cl.map netT).take (i + 1)) [44] → True := fun _ _ _ _ _ => trivial
    by_cases hi0 : i = 0
    · have htn : (cl.map netT).take i = [] := by rw [hi0]; rfl
      rw [htn] at hjs ht
      have ht0 : t = [] := by rw [ht]; simp [Lib.join, List.intercalate]
      simp only [if_true] at hjs
      subst ht0
      have hiz : (i : Int) = 0 := by omega
      have hig : ¬ 0 < i := by omega
      simp -dsimp [e1, e4, e3, gs1, hlt, hig, hs1.get, a0, a1]
      refine (f33 ni.a0 ni.a1).next ?_
      rintro _ rfl
      simp -dsimp [e1, e4, e3, gs1, hlt, hs1.get, a0, a1]
      rw [add_s (by simp; omega)]
      simp -dsimp [e1, e4, e3, gs1, hlt, hs1.get, a0, a1]
      rw [add_s (by simp; omega)]
      simp -dsimp [e1, e4, e3, gs1, hlt, hs1.get, a0, a1]
      refine (f44 k (by omega)).next ?_
      rintro _ rfl
      simp -dsimp [e1, e4, e3]
      rw [add_s (by simp; omega)]
      simp -dsimp [e1, e4, e3, hwi]
      exact hold_mk ⟨cl.length - (i + 1), by omega, i + 1, by omega, rfl, hgr, by simp [e1], by simp, by simp [hjs, hnt]⟩
    · have htn : (cl.map netT).take i ≠ [] := by
        intro h
        have := congrArg List.length h
        rw [List.length_take, List.length_map, List.length_nil] at this
        omega
      rw [if_neg htn] at hjs
      have hig : 0 < i := by omega
      simp -dsimp [e1, e4, e3, gs1, hlt, hig, hs1.get, a0, a1]
      rw [add_s (by simp; omega)]
      simp -dsimp [e1, e4, e3, gs1, hlt, hs1.get, a0, a1]
      refine (f33 ni.a0 ni.a1).next ?_
      rintro _ rfl
      simp -dsimp [e1, e4, e3, gs1, hlt, hs1.get, a0, a1]
      rw [add_s (by simp; omega)]
      simp -dsimp [e1, e4, e3, gs1, hlt, hs1.get, a0, a1]
      rw [add_s (by simp; omega)]
      simp -dsimp [e1, e4, e3, gs1, hlt, hs1.get, a0, a1]
      refine (f44 k (by omega)).next ?_
      rintro _ rfl
      simp -dsimp [e1, e4, e3]
      rw [add_s (by simp; omega)]
      simp -dsimp [e1, e4, e3, hwi]
      exact hold_mk ⟨cl.length - (i + 1), by omega, i + 1, by omega, rfl, hgr, by simp [e1], by simp, by simp [hjs, hnt]⟩
  · have : i = cl.length := by omega
    subst this
    rw [List.take_of_length_le (by simp)] at e3
    have hc0 : ((cl.length : Int) = 0) = (cl.length = 0) := by rw [eq_iff_iff]; omega
    have hc1 : ((cl.length : Int) = 1) = (cl.length = 1) := by rw [eq_iff_iff]; omega
    have hjl : (Lib.join (cl.map netT) [44]).length ≤ 164 := by
      refine Nat.le_trans (join_len _ 44 40 fun x hx => ?_) ?_
      · obtain ⟨n, hn', rfl⟩ := List.mem_map.1 hx
        exact netT_len (hcok n hn').1
      · have : (cl.map netT).length ≤ 4 := by simp; omega
        have := Nat.mul_le_mul_right 41 this; omega
    obtain ⟨t, ht⟩ : ∃ t, t = Lib.join (cl.map netT) [44] := ⟨_, rfl⟩
    rw [← ht] at e3 hjl
    by_cases z0 : cl.length = 0
    · have : cl = [] := List.eq_nil_of_length_eq_zero z0
      subst this
      cases nb
      · simp -dsimp [e1, e4, e3, gs1]
        exact fin_mk ⟨by simp [bodyT, preT, anyT], g3.trans hgr⟩
      · simp -dsimp [e1, e4, e3, gs1]
        rw [add_s (by simp)]
        simp -dsimp
        exact fin_mk ⟨by simp [bodyT, preT, anyT], g3.trans hgr⟩
    · by_cases z1 : cl.length = 1
      · obtain ⟨x, rfl⟩ := List.length_eq_one_iff.1 z1
        have htx : t = netT x := by rw [ht]; simp [Lib.join, List.intercalate]
        cases nb
        · simp -dsimp [e1, e4, e3, gs1]
          exact fin_mk ⟨by simp [bodyT, preT, htx], g3.trans hgr⟩
        · simp -dsimp [e1, e4, e3, gs1]
          rw [add_s (by simp; omega)]
          simp -dsimp
          exact fin_mk ⟨by simp [bodyT, preT, htx], g3.trans hgr⟩
      · have hb : bodyT (cl.map netT) = 91 :: (t ++ [93]) := by
          match cl, z0, z1, ht with
          | x :: y :: r, _, _, ht => rw [ht]; rfl
          | [x], _, z1, _ => exact (z1 rfl).elim
          | [], z0, _, _ => exact (z0 rfl).elim
        cases nb
        · simp -dsimp [e1, e4, e3, gs1, hc0, hc1, z0, z1]
          rw [add_s (by simp; omega)]
          simp -dsimp [e1, e4, e3, gs1, hc0, hc1, z0, z1]
          rw [add_s (by simp; omega)]
          simp -dsimp [e1, e4, e3, gs1, hc0, hc1, z0, z1]
          exact fin_mk ⟨by simp [hb, preT], g3.trans hgr⟩
        · simp -dsimp [e1, e4, e3, gs1, hc0, hc1, z0, z1]
          rw [add_s (by simp; omega)]
          simp -dsimp [e1, e4, e3, gs1, hc0, hc1, z0, z1]
          rw [add_s (by simp; omega)]
          simp -dsimp [e1, e4, e3, gs1, hc0, hc1, z0, z1]
          rw [add_s (by simp; omega)]
          simp -dsimp
          exact fin_mk ⟨by simp [hb, preT], g3.trans hgr⟩
end Go.Proofs.YtmdmabedfleacaaDoor
