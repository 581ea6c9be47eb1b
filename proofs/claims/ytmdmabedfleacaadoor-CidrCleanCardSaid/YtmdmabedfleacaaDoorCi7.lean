/- A part of the proof: contracts of functions, over the abstract machine. -/
import Derived.Test.YtmdmabedfleacaaDoorCi6
set_option linter.unusedVariables false
set_option linter.unusedSimpArgs false
set_option linter.all false
namespace Go.Proofs.YtmdmabedfleacaaDoor
open Ram Go

variable {W0 : World} {H : AH}

def netT (n : Net) : List UInt8 := dotted n.addr ++ 47 :: Lib.itoa n.bits
def anyT : List UInt8 := [97, 110, 121]
def bodyT : List (List UInt8) → List UInt8
  | [] => anyT
  | [p] => p
  | p :: q :: r => 91 :: (Lib.join (p :: q :: r) [44] ++ [93])
def preT (b : Bool) : List UInt8 := if b then [33] else []
/-- A set's text. -/
def setT (not : Bool) (l : List Net) : List UInt8 := preT (okSet l && not) ++ bodyT ((cleanL l).map netT)

theorem cut1_ok {n : Net} (h : n.ok) (b0 : 0 ≤ n.bits) (b1 : n.bits ≤ 32) : (cut1 n).ok ∧ 0 ≤ (cut1 n).bits ∧ (cut1 n).bits ≤ 32 := by
  obtain ⟨k, hk⟩ := Int.eq_ofNat_of_zero_le b0
  have hp : 0 < (2 : Int) ^ (32 - k) := Int.pow_pos (by omega)
  have e : (cut1 n).addr = n.addr / 2 ^ (32 - k) * 2 ^ (32 - k) := by unfold cut1 top; rw [hk]; rfl
  have h1 : 0 ≤ n.addr / 2 ^ (32 - k) := Int.ediv_nonneg h.a0 (by omega)
  have h2 : n.addr / 2 ^ (32 - k) * 2 ^ (32 - k) ≤ n.addr := Int.ediv_mul_le _ (by omega)
  have h3 : 0 ≤ n.addr / 2 ^ (32 - k) * 2 ^ (32 - k) := Int.mul_nonneg h1 (by omega)
  have := h.a1
  exact ⟨⟨by omega, by omega, h.b0, h.b1⟩, b0, b1⟩
theorem clean_ok {l : List Net} (hn : ∀ n ∈ l, n.ok) : ∀ n ∈ cleanL l, n.ok ∧ 0 ≤ n.bits ∧ n.bits ≤ 32 := by
  intro n hm
  unfold cleanL at hm
  cases hok : okSet l
  · rw [hok] at hm; simp at hm
  · rw [hok] at hm
    simp only [if_true, cleanTo, List.mem_map, List.mem_filter] at hm
    obtain ⟨⟨x, i⟩, ⟨hx, _⟩, rfl⟩ := hm
    rw [List.take_length] at hx
    have hxl : x ∈ l := (List.mem_zipIdx' hx).2 ▸ List.getElem_mem _
    obtain ⟨j, hj, rfl⟩ := List.getElem_of_mem hxl
    obtain ⟨b0, b1⟩ := okSet_at hok hj
    exact cut1_ok (hn _ hxl) b0 b1
theorem clean_len (l : List Net) : (cleanL l).length ≤ 4 := by
  unfold cleanL
  cases hok : okSet l
  · simp
  · have := cleanTo_len l l.length
    have := okSet_len hok
    simp; omega
theorem netT_len {n : Net} (h : n.ok) : (netT n).length ≤ 40 := by
  unfold netT
  have := dotted_len (a := n.addr)
  have := Lib.itoa_length_le n.bits h.b0 h.b1
  simp; omega
theorem join_len (ls : List (List UInt8)) (c : UInt8) (m : Nat) (h : ∀ x ∈ ls, x.length ≤ m) : (Lib.join ls [c]).length ≤ ls.length * (m + 1) := by
  cases ls with
  | nil => simp [Lib.join, List.intercalate]
  | cons x r =>
    rw [Lib.join_cons, List.length_append]
    have h1 := h x (by simp)
    have h2 : ∀ (r : List (List UInt8)), (∀ y ∈ r, y.length ≤ m) → (Lib.joinTail [c] r).length ≤ r.length * (m + 1) := by
      intro r
      induction r with
      | nil => intro _; simp [Lib.joinTail]
      | cons y r ih =>
        intro hr
        have := ih fun z hz => hr z (by simp [hz])
        have hy := hr y (by simp)
        unfold Lib.joinTail at this ⊢
        simp only [List.map_cons, List.flatten_cons, List.length_append, List.length_cons, List.length_nil] at this ⊢
        rw [Nat.add_mul]; omega
    have := h2 r fun y hy => h y (by simp [hy])
    simp only [List.length_cons]
    rw [Nat.add_mul]; omega

set_option maxRecDepth 4000 in
/-- cidr.Text. -/
theorem f30 (ht : Tab W0) {not : Bool} {v : V} {l : List Net} {md : Md} {F : Nat → Prop} (hs : SlV H md 2 v (l.map nRow) F) (hl : l.length < 4611686018427387904) (hn : ∀ n ∈ l, n.ok) : ACalls Tryd.prog W0 30 [.agg [.b not, v]] H fun e H' => e = .ret (.s (setT not l)) ∧ Grows H H' := by
  obtain ⟨e', a', cap', hv⟩ := hs.len
  rw [List.length_map] at hv
  have hone : V.one v = true := by rw [hv]; rfl
  have hcl := clean_len l
  have hcok := clean_ok hn
  refine acalls_in k30 (by simp) ?_
  have hk0 : Grows H (H.alloc (.cells .rw [.b not, v])) := Keeps.alloc' Keeps.refl
  rw [awp_assoc, awp_assoc, awp_assoc]
  refine awp_cut (fun env H2 => ∃ (C : Nat) (vc : V) (FC : Nat → Prop), env.get 3 = some (.p (some (C, 0))) ∧ env.get 4 = some (.s (preT (okSet l && not))) ∧ H2.get C = some (.cells .rw [.b (okSet l && not), vc]) ∧ Grows H H2 ∧ C < H2.next ∧ SlV H2 .rw 2 vc ((cleanL l).map nRow) FC ∧ ∀ j, FC j → j < H2.next) ?_ ?_
  · simp -dsimp [hone]
    refine (f25 (hs.keep hk0 fun _ _ h => h) hl hn).some ?_
    rintro vc H2 ⟨hsc, h2⟩
    obtain ⟨e9, a9, c9, hv9⟩ := hsc.len
    obtain ⟨n9, hn9⟩ : ∃ n, n = ((cleanL l).map nRow).length := ⟨_, rfl⟩
    rw [← hn9] at hv9
    subst hv9
    have hkc : ∀ X, Grows H2 (H2.alloc X) := fun _ => Keeps.alloc' Keeps.refl
    cases hb : (okSet l && not)
    · simp -dsimp [splice]
      exact hold_mk ⟨H2.next, _, _, by simp, by simp [preT], by simp, (hk0.trans h2).trans (hkc _), by simp, hsc.keep (hkc _) fun _ _ h => h, fun j hj => by
        rcases hj with h | h
        · exact h.elim
        · simp; omega⟩
    · simp -dsimp [splice]
      exact hold_mk ⟨H2.next, _, _, by simp, by simp [preT], by simp, (hk0.trans h2).trans (hkc _), by simp, hsc.keep (hkc _) fun _ _ h => h, fun j hj => by
        rcases hj with h | h
        · exact h.elim
        · simp; omega⟩
  · rintro env H2 ⟨C, vc, FC, e3, e4, gC, g2, lC, hsc, hFC⟩
    obtain ⟨cl, hcle⟩ : ∃ c, c = cleanL l := ⟨_, rfl⟩
    obtain ⟨pre, hpre⟩ : ∃ p, p = preT (okSet l && not) := ⟨_, rfl⟩
    have hpl : pre.length ≤ 1 := by rw [hpre]; unfold preT; split <;> simp
    unfold setT
    rw [← hcle] at hsc hcl hcok ⊢
    rw [← hpre] at e4 ⊢
    obtain ⟨ec, ac, cc, hvc⟩ := hsc.len
    rw [List.length_map] at hvc
    rw [hvc] at gC
    rw [awp_assoc]
    refine awp_cut (fun env H3 => ∃ (v5 : V) (FG : Nat → Prop), env.get 4 = some (.s pre) ∧ env.get 5 = some v5 ∧ Grows H H3 ∧ SlV H3 .rw 1 v5 ((cl.map netT).map sRow) FG) ?_ ?_
    · simp -dsimp [e3, e4, gC]
      refine awp_round (fun m env H1 => ∃ (i : Nat) (v5 : V) (FG : Nat → Prop), i ≤ cl.length ∧ m = cl.length - i ∧ Grows H2 H1 ∧ env.get 4 = some (.s pre) ∧ env.get 5 = some v5 ∧ env.get 13 = some vc ∧ env.get 14 = some (.i .i64 cl.length) ∧ env.get 15 = some (.i .i64 i) ∧
        SlV H1 .rw 1 v5 (((cl.map netT).take i).map sRow) FG ∧ ∀ j, FG j → H2.next ≤ j ∧ j < H1.next) cl.length
        ⟨0, _, NoId, by omega, by omega, Keeps.refl, by simp [e4], by simp; rfl, by simp [hvc], by simp, by simp, .inl ⟨by simp, _, rfl⟩, fun j h => h.elim⟩ ?_
      clear e3 e4
      rintro m env H1 ⟨i, v5, FG, hi, rfl, hgr, e4, e5, e13, e14, e15, hs5, hFG⟩
      have n1 := hgr.next
      by_cases hlt : i < cl.length
      · rcases hsc with ⟨hnil, _⟩ | ⟨id, o, cap, cs, hvv, hF, hsc⟩
        · simp only [List.map_eq_nil_iff] at hnil; rw [hnil] at hlt; simp at hlt
        rw [List.length_map] at hvv
        have hs1 := hsc.keep hgr fun h => h
        have hrowi := hs1.row (i := i) (r := nRow cl[i]) (by rw [List.getElem?_map, List.getElem?_eq_getElem hlt]; rfl)
        simp only [nRow] at hrowi
        have hwi := wrap_succ (i := i) (by omega)
        obtain ⟨ni, b0, b1⟩ := hcok _ (List.getElem_mem hlt)
        have hld := dotted_len (a := cl[i].addr)
        have hli := Lib.itoa_length_le cl[i].bits ni.b0 ni.b1
        simp -dsimp [e4, e5, e13, e14, e15, hvv, hlt, hrowi]
        have kA : Grows H1 ((H1.alloc (.cells .rw (nRow cl[i]))).bump 12) := (Keeps.alloc' Keeps.refl).trans ⟨by simp, fun j hj _ => by rw [bump_get]⟩
        refine (f32 ht ni.a0 ni.a1).next ?_
        rintro H3 h3
        have g3 : Grows H1 H3 := kA.trans h3
        have n3 := h3.next
        simp at n3
        have gn3 := Grows.at h3 (i := H1.next) (o := .cells .rw (nRow cl[i])) (by simp <;> omega) (by rw [bump_get]; simp)
        simp only [nRow] at gn3
        simp -dsimp [e4, e5, e13, e14, e15, gn3]
        rw [add_s (by simp; omega)]
        simp -dsimp [e4, e5, e13, e14, e15, gn3]
        refine (f35 ht ni.b0 ni.b1).next ?_
        rintro _ rfl
        simp -dsimp [e4, e5, e13, e14, e15, gn3]
        rw [add_s (by simp; omega)]
        simp -dsimp [e4, e5, e13, e14, e15, gn3]
        obtain ⟨H5, hH5⟩ : ∃ H5, H5 = H3.set (H1.next + 1 + 9) (.cells .rw (sRow (netT cl[i]))) := ⟨_, rfl⟩
        have hsh : H3.set (H1.next + 1 + 9) (.cells .rw [.s (dotted cl[i].addr ++ 47 :: Lib.itoa cl[i].bits)]) = H5 := by rw [hH5]; rfl
        rw [hsh]
        have n5 : H5.next = H3.next := by rw [hH5]; simp
        have g15 : Grows H1 H5 := by rw [hH5]; exact Keeps.set_new g3 (by omega)
        have hy : newCells H5 1 (.sl 1 (some (H1.next + 1 + 9, 0)) 1 1) = some (1, sRow (netT cl[i])) := by rw [hH5]; simp [sRow]
        refine (app_row (hs5.keep g15 fun _ _ h => h) (r := sRow (netT cl[i])) hy (by simp [sRow]) (by simp <;> omega) (by simp <;> omega)).mono ?_
        rintro v6 H6 ⟨hs6, k6⟩
        have n6 := k6.next
        have hk6 : Grows H2 H6 := (hgr.trans g15).then k6 fun j hj h => by have := hFG j h; omega
        have hrows : ((cl.map netT).take i).map sRow ++ [sRow (netT cl[i])] = ((cl.map netT).take (i + 1)).map sRow := by
          rw [List.take_add_one, List.getElem?_map, List.getElem?_eq_getElem hlt]; simp
        rw [hrows] at hs6
        simp -dsimp [e4, e5, e13, e14, e15, hwi]
        exact hold_mk ⟨cl.length - (i + 1), by omega, i + 1, v6, _, by omega, rfl, hk6, by simp [e4], by simp, by simp [e13, hvv], by simp [e14], by simp, hs6, fun j hj => by
          rcases hj with h | h
          · have := hFG j h; omega
          · omega⟩
      · have : i = cl.length := by omega
        subst this
        rw [List.take_of_length_le (by simp)] at hs5
        simp -dsimp [e4, e5, e13, e14, e15]
        exact hold_mk ⟨v5, FG, by simp [e4], by simp [e5], g2.trans hgr, hs5⟩
    · rintro env H3 ⟨v5, FG, e4, e5, g3, hs5⟩
      obtain ⟨ps, hps⟩ : ∃ p, p = cl.map netT := ⟨_, rfl⟩
      have hpl4 : ps.length ≤ 4 := by rw [hps, List.length_map]; exact hcl
      have hpe : ∀ x ∈ ps, x.length ≤ 40 := by
        intro x hx
        rw [hps] at hx
        obtain ⟨n, hn', rfl⟩ := List.mem_map.1 hx
        exact netT_len (hcok n hn').1
      rw [← hps] at hs5 ⊢
      obtain ⟨e5', a5, c5, hv5⟩ := hs5.len
      rw [List.length_map] at hv5
      have hc0 : ((ps.length : Int) = 0) = (ps.length = 0) := by rw [eq_iff_iff]; omega
      have hc1 : ((ps.length : Int) = 1) = (ps.length = 1) := by rw [eq_iff_iff]; omega
      match hm : ps, hs5, hv5, hpl4, hpe, hc0, hc1 with
      | [], hs5, hv5, _, _, _, _ =>
        simp -dsimp [e4, e5, hv5]
        rw [add_s (by simp; omega)]
        simp -dsimp
        exact fin_mk ⟨by simp [bodyT, anyT], g3⟩
      | [p], hs5, hv5, _, hpe, _, _ =>
        have hp := hpe p (by simp)
        rcases hs5 with ⟨hnil, _⟩ | ⟨id, o, cap, cs, hvv, hF, hs5⟩
        · simp at hnil
        have hc := hs5.cell (i := 0) (j := 0) (r := sRow p) rfl (by omega)
        simp [sRow] at hc
        simp at hvv
        simp -dsimp [e4, e5, hvv, hs5.get, hc]
        rw [add_s (by omega)]
        simp -dsimp
        exact fin_mk ⟨by simp [bodyT], g3⟩
      | p :: q :: r, hs5, hv5, hpl4, hpe, hc0, hc1 =>
        have hjl := join_len (p :: q :: r) 44 40 hpe
        have hjl2 : (Lib.join (p :: q :: r) [44]).length ≤ 164 := Nat.le_trans hjl (by have := Nat.mul_le_mul_right 41 hpl4; omega)
        have hz0 : ¬ ((p :: q :: r).length = 0) := by simp
        have hz1 : ¬ ((p :: q :: r).length = 1) := by simp
        obtain ⟨pl, hpl'⟩ : ∃ n, n = (p :: q :: r).length := ⟨_, rfl⟩
        rw [← hpl'] at hv5 hc0 hc1 hz0 hz1 hpl4
        simp -dsimp [e4, e5, hv5, hc0, hc1, hz0, hz1]
        rw [← hv5]
        rw [add_s (by simp; omega)]
        simp -dsimp [e5]
        refine (f43 hs5 (by omega) (by omega)).next ?_
        rintro _ rfl
        simp -dsimp
        rw [add_s (by simp; omega)]
        simp -dsimp
        rw [add_s (by simp; omega)]
        simp -dsimp
        exact fin_mk ⟨by simp [bodyT], g3⟩
end Go.Proofs.YtmdmabedfleacaaDoor
