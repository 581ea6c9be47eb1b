/- A part of the proof: contracts of functions, over the abstract machine. -/
import Derived.Test.YtceamnigcimldaaDoorPo8
set_option linter.unusedVariables false
set_option linter.unusedSimpArgs false
set_option linter.all false
/- Ports: a set's text. -/
namespace Go.Proofs.YtceamnigcimldaaDoor
open Ram Go Go.Proofs.Ports

variable {W0 : World} {H : AH}

def spT (s : Sp) : List UInt8 := Lib.itoa s.f ++ (if s.t = s.f then [] else 45 :: Lib.itoa s.t)
def anyT : List UInt8 := [97, 110, 121]
def bodyT : List (List UInt8) → List UInt8
  | [] => anyT
  | [p] => p
  | p :: q :: r => 91 :: (Lib.join (p :: q :: r) [44] ++ [93])
def preT (b : Bool) : List UInt8 := if b then [33] else []
/-- A set's text. -/
def textP (not : Bool) (l : List Sp) : List UInt8 := preT (okP l && not) ++ bodyT ((cleanP l).map spT)

theorem clean_ok (l : List Sp) : (∀ s ∈ cleanP l, okSp s) ∧ (cleanP l).length ≤ 15 := by
  unfold cleanP
  cases hok : okP l
  · simp
  · obtain ⟨h1, h2⟩ := putAll_ok hok
    simp only [if_true]
    split
    · simp
    · exact ⟨h1, h2⟩
theorem spT_len {s : Sp} (h : okSp s) : (spT s).length ≤ 50 := by
  obtain ⟨h1, h2, h3⟩ := h
  have := Lib.itoa_length_le s.f (by omega) (by omega)
  have := Lib.itoa_length_le s.t (by omega) (by omega)
  unfold spT
  split <;> simp <;> omega

/-- A text put behind the others. -/
theorem pushS {H1 H4 : AH} {n4 : Nat} {v5 : V} {ls : List (List UInt8)} {FG : Nat → Prop} {t : List UInt8} {Q : V → AH → Prop} (k : Grows H1 H4) (hn : H4.next = n4) (hs5 : SlV H1 .rw 1 v5 (ls.map sRow) FG) (hlen : ls.length ≤ 1000) (hF : ∀ j, FG j → j < H1.next)
    (hq : ∀ v' H' F', SlV H' .rw 1 v' ((ls ++ [t]).map sRow) F' → (∀ j, F' j → (FG j ∨ H1.next ≤ j) ∧ j < H'.next) → Keeps FG H1 H' → Q v' H') :
    AppP 1 16 v5 (.sl 1 (some (n4, 0)) 1 1) (H4.alloc (.cells .rw [.s t])) Q := by
  subst hn
  have n4 := k.next
  have kA : Grows H1 (H4.alloc (.cells .rw (sRow t))) := Keeps.alloc' k
  have hy : newCells (H4.alloc (.cells .rw (sRow t))) 1 (.sl 1 (some (H4.next, 0)) 1 1) = some (1, sRow t) := by simp [sRow]
  refine (app_row (hs5.keep kA fun _ _ h => h) (r := sRow t) hy (by simp [sRow]) (by rw [List.length_map]; omega) (by rw [List.length_map]; omega)).mono ?_
  rintro v6 H7 ⟨hs7, k7⟩
  have n7 := k7.next
  simp at n7
  have hrows : ls.map sRow ++ [sRow t] = (ls ++ [t]).map sRow := by rw [List.map_append]; rfl
  rw [hrows] at hs7
  refine hq _ _ _ hs7 (fun j hj => ?_) (kA.keeps.trans k7)
  rcases hj with h | h
  · have := hF j h; exact ⟨.inl h, by omega⟩
  · simp at h; exact ⟨.inr (by omega), by omega⟩

set_option maxRecDepth 4000 in
/-- ports.Text. -/
theorem f17 (ht : Tab W0) {not : Bool} {v : V} {l : List Sp} {md : Md} {F : Nat → Prop} (hs : SlV H md 2 v (l.map spRow) F) (hl : l.length < 4611686018427387904) : ACalls Tryd.prog W0 17 [.agg [.b not, v]] H fun e H' => e = .ret (.s (textP not l)) ∧ Grows H H' := by
  obtain ⟨e', a', cap', hv⟩ := hs.len
  rw [List.length_map] at hv
  have hone : V.one v = true := by rw [hv]; rfl
  obtain ⟨hcok, hcl⟩ := clean_ok l
  refine acalls_in k17 (by simp) ?_
  have hk0 : Grows H (H.alloc (.cells .rw [.b not, v])) := Keeps.alloc' Keeps.refl
  rw [awp_assoc, awp_assoc, awp_assoc]
  refine awp_cut (fun env H2 => ∃ (C : Nat) (vc : V) (FC : Nat → Prop), env.get 3 = some (.p (some (C, 0))) ∧ env.get 4 = some (.s (preT (okP l && not))) ∧ H2.get C = some (.cells .rw [.b (okP l && not), vc]) ∧ Grows H H2 ∧ C < H2.next ∧ SlV H2 .rw 2 vc ((cleanP l).map spRow) FC ∧ ∀ j, FC j → j < H2.next) ?_ ?_
  · simp -dsimp [hone]
    refine (f12 (hs.keep hk0 fun _ _ h => h) hl).some ?_
    rintro vc H2 ⟨hsc, h2⟩
    obtain ⟨e9, a9, c9, hv9⟩ := hsc.len
    obtain ⟨n9, hn9⟩ : ∃ n, n = ((cleanP l).map spRow).length := ⟨_, rfl⟩
    rw [← hn9] at hv9
    subst hv9
    have hkc : ∀ X, Grows H2 (H2.alloc X) := fun _ => Keeps.alloc' Keeps.refl
    cases hb : (okP l && not)
    · simp -dsimp [splice]
      exact hold_mk ⟨H2.next, _, _, by simp, by simp [preT], by simp, (hk0.trans h2).trans (hkc _), by simp, hsc.keep (hkc _) fun _ _ h => h, fun j hj => by
        rcases hj with h | h
        · exact h.elim
        · simp; omega⟩
    · simp -dsimp [splice]
      exact hold_mk ⟨H2.next, _, _, by simp, by simp [preT], by simp, (hk0.trans h2).trans (hkc _), by simp, hsc.keep (hkc _) fun _ _ h => h, fun j hj => by
        rcases hj with h | h
        · exact h.elim
        · simp; omega⟩
  · rintro env H2 ⟨C, vc, FC, e3, e4, gC, g2, lC, hsc, hFC⟩
    obtain ⟨cl, hcle⟩ : ∃ c, c = cleanP l := ⟨_, rfl⟩
    obtain ⟨pre, hpre⟩ : ∃ p, p = preT (okP l && not) := ⟨_, rfl⟩
    have hpl : pre.length ≤ 1 := by rw [hpre]; unfold preT; split <;> simp
    unfold textP
    rw [← hcle] at hsc hcl hcok ⊢
    rw [← hpre] at e4 ⊢
    obtain ⟨ec, ac, cc, hvc⟩ := hsc.len
    rw [List.length_map] at hvc
    rw [hvc] at gC
    rw [awp_assoc]
    refine awp_cut (fun env H3 => ∃ (v5 : V) (FG : Nat → Prop), env.get 4 = some (.s pre) ∧ env.get 5 = some v5 ∧ Grows H H3 ∧ SlV H3 .rw 1 v5 ((cl.map spT).map sRow) FG) ?_ ?_
    · simp -dsimp [e3, e4, gC]
      refine awp_round (fun m env H1 => ∃ (i : Nat) (v5 : V) (FG : Nat → Prop), i ≤ cl.length ∧ m = cl.length - i ∧ Grows H2 H1 ∧ env.get 4 = some (.s pre) ∧ env.get 5 = some v5 ∧ env.get 14 = some vc ∧ env.get 15 = some (.i .i64 cl.length) ∧ env.get 16 = some (.i .i64 i) ∧
        SlV H1 .rw 1 v5 (((cl.map spT).take i).map sRow) FG ∧ ∀ j, FG j → H2.next ≤ j ∧ j < H1.next) cl.length
        ⟨0, .sl 0 none 0 0, NoId, by omega, by omega, Keeps.refl, by simp [e4], by simp, by simp [hvc], by simp, by simp, .inl ⟨by simp, _, rfl⟩, fun j h => h.elim⟩ ?_
      clear e3 e4
      rintro m env H1 ⟨i, v5, FG, hi, rfl, hgr, e4, e5, e14, e15, e16, hs5, hFG⟩
      have n1 := hgr.next
      by_cases hlt : i < cl.length
      · obtain ⟨id, o, cap, cs, hvv, hF, sa, _⟩ := at_row (hsc.keep hgr fun _ _ h => h) hlt
        have hrow := sa.row (row_at hlt)
        simp only [spRow] at hrow
        have hwi := wrap_succ (i := i) (by omega)
        have hoi := hcok _ (List.getElem_mem hlt)
        obtain ⟨s, hsi⟩ : ∃ s, s = cl[i] := ⟨_, rfl⟩
        have hrows : ((cl.map spT).take i).map sRow ++ [sRow (spT s)] = ((cl.map spT).take (i + 1)).map sRow := by
          rw [List.take_add_one, List.getElem?_map, List.getElem?_eq_getElem hlt, hsi]; simp
        rw [← hsi] at hrow hoi
        obtain ⟨b1, b2, b3⟩ := hoi
        have hlf := Lib.itoa_length_le s.f (by omega) (by omega)
        have hlt' := Lib.itoa_length_le s.t (by omega) (by omega)
        rw [hvv] at e14
        simp -dsimp [e4, e5, e14, e15, e16, hlt, hrow]
        have kA : Grows H1 (H1.alloc (.cells .rw (spRow s))) := Keeps.alloc' Keeps.refl
        refine (f29 ht (by omega) (by omega)).next ?_
        rintro _ rfl
        simp -dsimp [e4, e5, e14, e15, e16]
        by_cases q : s.t = s.f
        · have hsp : spT s = Lib.itoa s.f := by unfold spT; rw [if_pos q, List.append_nil]
          simp -dsimp [e4, e5, e14, e15, e16, q]
          refine pushS (H1 := H1) (Keeps.alloc' Keeps.refl) (by simp) hs5 (by simp; omega) (fun j hj => (hFG j hj).2) ?_
          rintro v6 H6 FG6 hs6 hF6 k6
          have n6 := k6.next
          rw [← hsp, List.map_append, List.map_singleton, hrows] at hs6
          simp -dsimp [e4, e5, e14, e15, e16, hwi]
          exact hold_mk ⟨cl.length - (i + 1), by omega, i + 1, v6, FG6, by omega, rfl, hgr.then k6 fun j hj h => by have := hFG j h; omega, by simp [e4], by simp, by simp [e14, hvv], by simp [e15], by simp, hs6, fun j hj => by
            obtain ⟨h1, h2⟩ := hF6 j hj
            rcases h1 with h | h
            · have := hFG j h; omega
            · omega⟩
        · have hsp : spT s = Lib.itoa s.f ++ 45 :: Lib.itoa s.t := by unfold spT; rw [if_neg q]
          simp -dsimp [e4, e5, e14, e15, e16, q]
          refine (f29 ht (by omega) (by omega)).next ?_
          rintro _ rfl
          simp -dsimp [e4, e5, e14, e15, e16]
          rw [add_s (by simp; omega)]
          simp -dsimp [e4, e5, e14, e15, e16]
          rw [add_s (by simp; omega)]
          simp -dsimp [e4, e5, e14, e15, e16]
          refine pushS (H1 := H1) (Keeps.alloc' Keeps.refl) (by simp) hs5 (by simp; omega) (fun j hj => (hFG j hj).2) ?_
          rintro v6 H6 FG6 hs6 hF6 k6
          have n6 := k6.next
          rw [← hsp, List.map_append, List.map_singleton, hrows] at hs6
          simp -dsimp [e4, e5, e14, e15, e16, hwi]
          exact hold_mk ⟨cl.length - (i + 1), by omega, i + 1, v6, FG6, by omega, rfl, hgr.then k6 fun j hj h => by have := hFG j h; omega, by simp [e4], by simp, by simp [e14, hvv], by simp [e15], by simp, hs6, fun j hj => by
            obtain ⟨h1, h2⟩ := hF6 j hj
            rcases h1 with h | h
            · have := hFG j h; omega
            · omega⟩
      · have : i = cl.length := by omega
        subst this
        rw [List.take_of_length_le (by simp)] at hs5
        simp -dsimp [e4, e5, e14, e15, e16]
        exact hold_mk ⟨v5, FG, by simp [e4], by simp [e5], g2.trans hgr, hs5⟩
    · rintro env H3 ⟨v5, FG, e4, e5, g3, hs5⟩
      obtain ⟨ps, hps⟩ : ∃ p, p = cl.map spT := ⟨_, rfl⟩
      have hpl4 : ps.length ≤ 15 := by rw [hps, List.length_map]; exact hcl
      have hpe : ∀ x ∈ ps, x.length ≤ 50 := by
        intro x hx
        rw [hps] at hx
        obtain ⟨n, hn', rfl⟩ := List.mem_map.1 hx
        exact spT_len (hcok n hn')
      rw [← hps] at hs5 ⊢
      obtain ⟨e5', a5, c5, hv5⟩ := hs5.len
      rw [List.length_map] at hv5
      have hc0 : ((ps.length : Int) = 0) = (ps.length = 0) := by rw [eq_iff_iff]; omega
      have hc1 : ((ps.length : Int) = 1) = (ps.length = 1) := by rw [eq_iff_iff]; omega
      match hm : ps, hs5, hv5, hpl4, hpe, hc0, hc1 with
      | [], hs5, hv5, _, _, _, _ =>
        simp -dsimp [e4, e5, hv5]
        rw [add_s (by simp; omega)]
        simp -dsimp
        exact fin_mk ⟨by simp [bodyT, anyT], g3⟩
      | [p], hs5, hv5, _, hpe, _, _ =>
        have hp := hpe p (by simp)
        rcases hs5 with ⟨hnil, _⟩ | ⟨id, o, cap, cs, hvv, hF, hs5⟩
        · simp at hnil
        have hc := hs5.cell (i := 0) (j := 0) (r := sRow p) rfl (by omega)
        simp [sRow] at hc
        simp at hvv
        simp -dsimp [e4, e5, hvv, hs5.get, hc]
        rw [add_s (by omega)]
        simp -dsimp
        exact fin_mk ⟨by simp [bodyT], g3⟩
      | p :: q :: r, hs5, hv5, hpl4, hpe, hc0, hc1 =>
        have hjl := join_len (p :: q :: r) 44 50 hpe
        have hjl2 : (Lib.join (p :: q :: r) [44]).length ≤ 765 := Nat.le_trans hjl (by have := Nat.mul_le_mul_right 51 hpl4; omega)
        have hz0 : ¬ ((p :: q :: r).length = 0) := by simp
        have hz1 : ¬ ((p :: q :: r).length = 1) := by simp
        obtain ⟨pl, hpl'⟩ : ∃ n, n = (p :: q :: r).length := ⟨_, rfl⟩
        rw [← hpl'] at hv5 hc0 hc1 hz0 hz1 hpl4
        simp -dsimp [e4, e5, hv5, hc0, hc1, hz0, hz1]
        rw [← hv5]
        rw [add_s (by simp; omega)]
        simp -dsimp [e5]
        refine (f30 hs5 (by omega) (by omega)).next ?_
        rintro _ rfl
        simp -dsimp
        rw [add_s (by simp; omega)]
        simp -dsimp
        rw [add_s (by simp; omega)]
        simp -dsimp
        exact fin_mk ⟨by simp [bodyT], g3⟩
end Go.Proofs.YtceamnigcimldaaDoor
